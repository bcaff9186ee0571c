
/- Words: blocks that lie as they lay; a function that leaves with some marks among its deferred calls. -/
import Derived.Test.YtdodkhhlbjamhaaKeepE
import Derived.Test.YtdodkhhlbjamhaaMem
import Derived.RangeFuncLeaves
import Derived.RangeFuncKeeps
import Derived.RangeFuncWrites
namespace Go.Proofs.Ytdodkhhlbjamhaa
open Go.RowKit
/-- These blocks lie as they lay. -/
def Facts (H : List (Nat × Obj)) (W : World) : Prop := ∀ p ∈ H, W.heap[p.1]? = some p.2
theorem Facts.below {H : List (Nat × Obj)} {A B : World} (h : Facts H A) (hb : Below A.heap.size A B) : Facts H B := fun p hp => (hb.block _ (Array.getElem?_eq_some_iff.1 (h p hp)).1).trans (h p hp)
theorem Facts.lt {H : List (Nat × Obj)} {A : World} (h : Facts H A) : ∀ p ∈ H, p.1 < A.heap.size := fun p hp => (Array.getElem?_eq_some_iff.1 (h p hp)).1
theorem Facts.setCell {H : List (Nat × Obj)} {A : World} {c i : Nat} (h : Facts H A) (hc : ∀ p ∈ H, p.1 ≠ c) (v : Value) : Facts H (A.setCell ⟨c, i, none⟩ v) := fun p hp => (Below.heap_setCell _ _ _ _ (by simpa using hc p hp)).trans (h p hp)
theorem Facts.putObj {H : List (Nat × Obj)} {A : World} {c : Nat} (h : Facts H A) (hc : ∀ p ∈ H, p.1 ≠ c) (o : Obj) : Facts H (A.putObj c o) := fun p hp => (World.putObj_heap_other (fun e => hc p hp e)).trans (h p hp)
theorem Facts.cons {H : List (Nat × Obj)} {A : World} {b : Nat} {o : Obj} (h : Facts H A) (hb : A.heap[b]? = some o) : Facts ((b, o) :: H) A := fun p hp => by
  rcases List.mem_cons.1 hp with rfl | hp
  · exact hb
  · exact h p hp
theorem own_block {β : Type} {B k : Nat} {o : Obj} (hk : k < B) : OwnFrom B (fun (_ : β) W => W.heap[k]? = some o) := by
  rintro _ A A' row h hg hr
  exact (hg.block k (Array.getElem?_eq_some_iff.1 h).1 (fun e => by have := (hr k e.symm).1; omega)).trans h
theorem facts_own {β : Type} (H : List (Nat × Obj)) (B : Nat) (hH : ∀ p ∈ H, p.1 < B) : OwnFrom B (fun (_ : β) W => Facts H W) := by
  rintro b A A' row h hg hr p hp
  exact own_block (β := Unit) (hH p hp) () A A' row (h p hp) hg hr
theorem below_put (s : Nat) (A : World) (D : Nat) (o : Obj) (h : s ≤ D) : Below s A (A.putObj D o) := ⟨rfl, rfl, rfl, by simp, fun k hk => World.putObj_heap_other (by omega)⟩
/-- The marks of some loops. -/
def marks (Ds : List Nat) : List Deferred := Ds.map fun D => { target := .collected D, args := #[] }
def markF (Ds : List Nat) : List (Nat × Obj) := Ds.map fun D => (D, .deferred (some []))
theorem leaves_marks {F : Fence} {n : Nat} {P : Program} {fn : Func} {tmps : Array Value} {R : Ending → World → Prop} : ∀ (Ds : List Nat) (W : World), Ds.Nodup → Facts (markF Ds) W →
    (∀ W', W'.os = W.os → W'.tape = W.tape → W'.output = W.output → W'.heap.size = W.heap.size → (∀ k, k ∉ Ds → W'.heap[k]? = W.heap[k]?) → ∃ v, (results fn tmps).run P W' = .ok v W' ∧ R (.returned v) W') →
    LeavesInM F n P fn tmps R (marks Ds) .returning W
  | [], W, _, _, h => h W rfl rfl rfl rfl fun _ _ => rfl
  | D :: Ds, W, hnd, hf, h => by
    obtain ⟨h1, h2⟩ := List.nodup_cons.1 hnd
    refine ⟨by simp, .inl ⟨_, _, rfl, run_takeDeferred (hf (D, .deferred (some [])) (by simp [markF])), ?_⟩⟩
    refine leaves_marks Ds _ h2 (Facts.putObj (fun p hp => hf p (by simp only [markF, List.map_cons, List.mem_cons]; exact .inr hp)) (fun p hp e => ?_) _) ?_
    · obtain ⟨D', hD', rfl⟩ := List.mem_map.1 hp
      exact h1 (e ▸ hD')
    · intro W' e1 e2 e3 e4 e5
      refine h W' e1 e2 e3 (by rw [e4]; simp) fun k hk => ?_
      rw [e5 k (fun hm => hk (List.mem_cons_of_mem _ hm))]
      exact World.putObj_heap_other (fun e => hk (e ▸ List.mem_cons_self))
/-- All blocks below y stay, but one. -/
structure SameBut (c y : Nat) (A B : World) : Prop where
  os : B.os = A.os
  tape : B.tape = A.tape
  output : B.output = A.output
  size : A.heap.size ≤ B.heap.size
  block : ∀ k, k < y → k ≠ c → B.heap[k]? = A.heap[k]?
theorem SameBut.refl (c y : Nat) (A : World) : SameBut c y A A := ⟨rfl, rfl, rfl, Nat.le_refl _, fun _ _ _ => rfl⟩
theorem SameBut.trans {c y : Nat} {A B C : World} (h : SameBut c y A B) (k : SameBut c y B C) : SameBut c y A C :=
  ⟨k.os.trans h.os, k.tape.trans h.tape, k.output.trans h.output, Nat.le_trans h.size k.size, fun i h1 h2 => (k.block i h1 h2).trans (h.block i h1 h2)⟩
theorem SameBut.ofBelow {c y : Nat} {A B : World} (h : Below y A B) : SameBut c y A B := ⟨h.os, h.tape, h.output, h.size, fun k hk _ => h.block k hk⟩
theorem SameBut.setCell {c y : Nat} {A B : World} (h : SameBut c y A B) (i : Nat) (v : Value) : SameBut c y A (B.setCell ⟨c, i, none⟩ v) :=
  ⟨h.os, h.tape, h.output, by simpa [World.setCell] using h.size, fun k h1 h2 => (Below.heap_setCell _ _ _ _ (by simpa using h2)).trans (h.block k h1 h2)⟩
theorem SameBut.own {β : Type} {c y B : Nat} {w : World} (hw : y ≤ w.heap.size) (hB : y ≤ B) : OwnFrom B (fun (_ : β) W => SameBut c y w W) := by
  rintro _ A A' row h hg hr
  exact ⟨hg.os.trans h.os, hg.tape.trans h.tape, hg.output.trans h.output, Nat.le_trans h.size hg.size, fun k h1 h2 => (hg.block k (by have := h.size; omega) (fun e => by have := (hr k e.symm).1; omega)).trans (h.block k h1 h2)⟩
/-- Some blocks made one behind the other. -/
def allocs (w : World) : List Obj → World
  | [] => w
  | o :: l => allocs (w.alloc o) l
theorem allocs_below : ∀ (l : List Obj) (w : World), Below w.heap.size w (allocs w l)
  | [], w => Below.refl _ _
  | o :: l, w => (below_new w o).trans ((allocs_below l (w.alloc o)).mono (by simp))
theorem allocs_get : ∀ (l : List Obj) (w : World) (i : Nat) (o : Obj), l[i]? = some o → (allocs w l).heap[w.heap.size + i]? = some o
  | [], w, i, o, h => by simp at h
  | o' :: l, w, 0, o, h => by
    simp at h
    subst h
    exact ((allocs_below l (w.alloc o')).block _ (by simp)).trans (heap_alloc_new w o')
  | o' :: l, w, i + 1, o, h => by
    have := allocs_get l (w.alloc o') i o (by simpa using h)
    rw [World.size_alloc] at this
    rw [show w.heap.size + (i + 1) = w.heap.size + 1 + i by omega]
    exact this
end Go.Proofs.Ytdodkhhlbjamhaa
