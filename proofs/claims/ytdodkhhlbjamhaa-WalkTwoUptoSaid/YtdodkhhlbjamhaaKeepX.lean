
/- What a call keeps, told by places and types: every block but some rows. -/
import Derived.Test.YtdodkhhlbjamhaaKeepE
import Derived.Test.YtdodkhhlbjamhaaOver
namespace Go.Proofs.Ytdodkhhlbjamhaa
open Go.RowKit
/-- All that stands stays, but these rows. -/
structure KeepX (Ex : Nat → TypeId → Prop) (A B : World) : Prop where
  os : B.os = A.os
  tape : B.tape = A.tape
  output : B.output = A.output
  size : A.heap.size ≤ B.heap.size
  rest : ∀ k o, A.heap[k]? = some o → (∀ c t fr, o = .cells c t fr → ¬ Ex k t) → B.heap[k]? = some o
theorem KeepX.refl {Ex : Nat → TypeId → Prop} (A : World) : KeepX Ex A A := ⟨rfl, rfl, rfl, Nat.le_refl _, fun _ _ h _ => h⟩
theorem KeepX.trans {Ex : Nat → TypeId → Prop} {A B C : World} (h : KeepX Ex A B) (k : KeepX Ex B C) : KeepX Ex A C :=
  ⟨k.os.trans h.os, k.tape.trans h.tape, k.output.trans h.output, Nat.le_trans h.size k.size, fun i o ho ht => k.rest i o (h.rest i o ho ht) ht⟩
theorem KeepX.monoX {Ex Ex' : Nat → TypeId → Prop} {A B : World} (h : KeepX Ex A B) (hx : ∀ k t, Ex k t → Ex' k t) : KeepX Ex' A B :=
  ⟨h.os, h.tape, h.output, h.size, fun k o ho ht => h.rest k o ho fun c t fr e hh => ht c t fr e (hx k t hh)⟩
theorem KeepX.ofBelow {Ex : Nat → TypeId → Prop} {A B : World} (h : Below A.heap.size A B) : KeepX Ex A B :=
  ⟨h.os, h.tape, h.output, h.size, fun k _ ho _ => (h.block k (Array.getElem?_eq_some_iff.1 ho).1).trans ho⟩
/-- Where the rows are new, nothing is but kept. -/
theorem KeepX.toBelow {Ex : Nat → TypeId → Prop} {A B : World} (h : KeepX Ex A B) (hx : ∀ k t, k < A.heap.size → ¬ Ex k t) : Below A.heap.size A B :=
  ⟨h.os, h.tape, h.output, h.size, fun k hk => by
    cases e : A.heap[k]? with
    | none => rw [Array.getElem?_eq_none_iff] at e; omega
    | some o => exact h.rest k o e fun _ t _ _ => hx k t hk⟩
/-- The rows that are new are let go. -/
theorem KeepX.less {Ex Ex' : Nat → TypeId → Prop} {A B : World} (h : KeepX Ex A B) (hx : ∀ k t, k < A.heap.size → Ex k t → Ex' k t) : KeepX Ex' A B :=
  ⟨h.os, h.tape, h.output, h.size, fun k o ho ht => h.rest k o ho fun c t fr e hh => ht c t fr e (hx k t (Array.getElem?_eq_some_iff.1 ho).1 hh)⟩
theorem KeepX.drew {Ex : Nat → TypeId → Prop} {A B : World} (h : KeepX Ex A B) : KeepX Ex A B.drew := h.trans (KeepX.ofBelow (Below.refl _ B).drew)
theorem KeepX.alloc {Ex : Nat → TypeId → Prop} {A B : World} (h : KeepX Ex A B) (o : Obj) : KeepX Ex A (B.alloc o) :=
  h.trans (KeepX.ofBelow ((Below.refl _ B).alloc (Nat.le_refl _) o))
theorem KeepX.row {Ex : Nat → TypeId → Prop} {A B : World} (h : KeepX Ex A B) {b : Nat} {cs : Array Value} {t : TypeId} {fr : Nat × Nat} (hb : A.heap[b]? = some (.cells cs t fr)) (ht : ¬ Ex b t) : B.heap[b]? = some (.cells cs t fr) :=
  h.rest b _ hb fun c t' fr' e => by cases e; exact ht
/-- A store into a row that is new. -/
theorem KeepX.setNew {Ex : Nat → TypeId → Prop} {A B : World} (h : KeepX Ex A B) {X : Nat} (hX : A.heap.size ≤ X) (i : Nat) (v : Value) : KeepX Ex A (B.setCell ⟨X, i, none⟩ v) :=
  ⟨h.os, h.tape, h.output, by simpa [World.setCell] using h.size, fun k o ho ht => (Below.heap_setCell _ _ _ _ (by
    have := (Array.getElem?_eq_some_iff.1 ho).1
    show k ≠ X
    omega)).trans (h.rest k o ho ht)⟩
/-- A store into such a row. -/
theorem KeepX.setRow {Ex : Nat → TypeId → Prop} {A B : World} (h : KeepX Ex A B) {X : Nat} {cs : Array Value} {t : TypeId} {fr : Nat × Nat} (hX : B.heap[X]? = some (.cells cs t fr)) (ht : Ex X t) (i : Nat) (v : Value) : KeepX Ex A (B.setCell ⟨X, i, none⟩ v) :=
  ⟨h.os, h.tape, h.output, by simpa [World.setCell] using h.size, fun k o ho hn => (Below.heap_setCell _ _ _ _ (by
    show k ≠ X
    rintro rfl
    have h1 := h.rest k o ho hn
    rw [hX] at h1
    cases h1
    exact hn _ _ _ rfl ht)).trans (h.rest k o ho hn)⟩
/-- Worlds that lie behind, all but these rows. -/
def ChE (Ex : Nat → TypeId → Prop) (ws : List World) (w : World) : Prop := ∀ W ∈ ws, KeepX Ex W w
theorem ChE.one {Ex : Nat → TypeId → Prop} (w : World) : ChE Ex [w] w := fun W hW => by
  obtain rfl := List.mem_singleton.1 hW
  exact KeepX.refl _
theorem ChE.push {Ex : Nat → TypeId → Prop} {ws : List World} {w w' : World} (h : ChE Ex ws w) (hb : KeepX Ex w w') : ChE Ex (w' :: ws) w' := fun W hW => by
  rcases List.mem_cons.1 hW with rfl | hW
  · exact KeepX.refl _
  · exact (h W hW).trans hb
theorem ChE.next {Ex : Nat → TypeId → Prop} {ws : List World} {w w' : World} (h : ChE Ex ws w) (hb : KeepX Ex w w') : ChE Ex ws w' := fun W hW => (h W hW).trans hb
theorem ChE.to {Ex : Nat → TypeId → Prop} {ws : List World} {w : World} (h : ChE Ex ws w) (W : World) (hW : W ∈ ws) : KeepX Ex W w := h W hW
section
variable {P : Program} {ops : Array Oper} {Q : Exit → Act → World → Prop} {md : Region.Mode}
theorem wpAnyH_madeX {Ex : Nat → TypeId → Prop} {W w1 : World} {o : Obj} (hS : KeepX Ex W w1) {fuel : Nat} {listed : Array Bool} {a : Act}
    (h : ∀ w2, w2 = w1.alloc o → KeepX Ex W w2 → wpAnyH P md ops Q (fun w' => KeepX Ex W w') fuel listed a w2) : wpAnyH P md ops Q (fun w' => KeepX Ex W w') fuel listed a (w1.alloc o) :=
  h _ rfl (hS.alloc o)
end
end Go.Proofs.Ytdodkhhlbjamhaa
