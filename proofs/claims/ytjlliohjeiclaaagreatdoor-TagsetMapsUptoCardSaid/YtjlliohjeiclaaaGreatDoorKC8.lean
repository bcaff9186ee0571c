/- Words, contracts and walks that the proof stands on (PmJS PmKS Marks RowK TgP RgP TgL TgK TgR). -/
import Derived.Laws.EntriesVeiled
import Derived.Lib.ReplaceLaws
import Derived.RangeFuncKeeps
import Derived.RangeFuncLeaves
import Derived.RangeFuncWrites
import Derived.Scope
import Derived.Shelf.Strings.Prefix
import Derived.Shelf.Strings.Replace
import Derived.Test.YtjlliohjeiclaaaGreatDoorKC1
import Derived.Test.YtjlliohjeiclaaaGreatDoorKC3
import Derived.Test.YtjlliohjeiclaaaGreatDoorKC4
import Derived.Test.YtjlliohjeiclaaaGreatDoorKC7
import Derived.WalkMore
namespace Go.Proofs.YtjlliohjeiclaaaGreatDoor
open Go.RowKit Pm
attribute [local go_sem] Oper.semAt_some
set_option maxRecDepth 100000 in
set_option maxHeartbeats 2000000 in
theorem pm_from_iterS (n : Nat) (key : ByteArray) (t : Tr ByteArray) (kb mb : Nat) (w : World) (S : Nat → Prop) (Ex : TypeId → Prop)
 (hk : Boxed w kb 9 (.string key)) (hm : Boxed w mb 27 (.pointer (pa t))) (ha : AtS w t) (hSk : S kb) (hSt : ∀ b ∈ blocks t, S b) (hSN : ∀ k, S k → k < w.heap.size)
 (h5 : ¬ Ex 195) (h6 : ¬ Ex 165) :
 Iter2 n Tryz.prog 141 #[.pointer (some ⟨kb, 0, none⟩), .pointer (some ⟨mb, 0, none⟩)] encKVS (KeepE (w.heap.size + 2) S Ex)
  (fun pre x _ => pre ++ [x] <+: fromL key t) (fun _ xs W2 W' => xs = fromL key t ∧ W2 = W') (fun pre => pre <+: fromL key t) w := by
 intro ll J Jx W hW hW2 hJo hJxo hY h0
 have hkW : Boxed W kb 9 (.string key) := boxStays hk hW
 have hmW : Boxed W mb 27 (.pointer (pa t)) := boxStays hm hW
 obtain ⟨s, hs⟩ : ∃ s, s = W.heap.size := ⟨_, rfl⟩
 obtain ⟨gv, hgv⟩ : ∃ gv : Value, gv = .func (.func 142) #[] #[.pointer (some ⟨kb, 0, none⟩), .pointer (some ⟨s + 1, 0, none⟩), .pointer (some ⟨s, 0, none⟩)] := ⟨_, rfl⟩
 obtain ⟨Wb, hWb⟩ : ∃ Wb, (W.alloc (.cells #[.func (.yield ll) #[] #[]] 165)).alloc (.cells #[gv] 195) = Wb := ⟨_, rfl⟩
 have g1 : Boxed Wb s 165 (.func (.yield ll) #[] #[]) := by rw [← hWb, hs]; exact (Boxed.new W _ _).alloc _
 have g2 : Boxed Wb (s + 1) 195 gv := by
  have h1 := Boxed.new (W.alloc (.cells #[.func (.yield ll) #[] #[]] 165)) 195 gv
  rw [World.size_alloc, ← hs] at h1
  rw [← hWb]; exact h1
 have hbw : Below W.heap.size W Wb := by rw [← hWb]; exact ((Below.refl _ W).alloc (Nat.le_refl _) _).alloc (by simp) _
 have hsw : w.heap.size + 2 ≤ s := by rw [hs]; exact hW2
 have g3 : Boxed Wb kb 9 (.string key) := boxStays hkW hbw
 have g4 : Boxed Wb mb 27 (.pointer (pa t)) := boxStays hmW hbw
 have g5 : AtS Wb t := (ha.below hW rfl).below hbw rfl
 have hJb : J [] Wb := ownFrom_to hJo h0 hbw
 have GO := Lib.hid (go1_fromS key kb (s + 1) s ll (w.heap.size + 2) S Ex (fromL key t) J Jx _ hJo hSk (by omega) (by omega) h5 h6 (fun pre x W1 hj hx => yieldW (hY pre x W1 hj hx)) t [] Wb hSt
  (fun k hk => Nat.lt_of_lt_of_le (hSN k hk) (Nat.le_trans hW.size hbw.size)) hJb ⟨g3, by rw [← hgv]; exact g2, g1, g5⟩ (by simp))
 have k4 := cell_of_one g4
 rw [hgv] at hWb
 subst hs
 rw [← hWb] at k4
 have HW := Lib.hid hWb
 clear hY hJb g1 g2 g3 g4 g5 hbw h0 hWb hkW hmW hJo hJxo ha hk hm hSN hgv
 refine callsIn_of_wp Tryz.func141 rfl trivial ?_ rfl
 simp only [Tryz.ntmps141, List.size_toArray, List.length_cons, List.length_nil, Nat.reduceAdd, Nat.reduceSub, Array.replicate_succ, Array.replicate_zero, List.push_toArray, List.append_toArray, List.nil_append, List.cons_append]
 gi_wp2
 rw [HW.out]
 refine ⟨trivial, fun hh => (by cases (show false = true from hh)), ?_⟩
 refine (callsIn_wide.2 GO.out).mono ?_
 rintro e W' (⟨rfl, hJ', _⟩ | ⟨rfl, ⟨pre', hp, hJx'⟩, _⟩)
 · gi_wp2
   go_end0
   exact ⟨⟨_, rfl⟩, .inl ⟨fromL key t, _, by simpa using hJ', rfl, rfl⟩⟩
 · gi_wp2
   go_end0
   exact ⟨⟨_, rfl⟩, .inr ⟨pre', hp, hJx'⟩⟩
theorem pm_MFromS (t : Tr ByteArray) (key : ByteArray) (w : World) : Calls Tryz.prog 110 #[.agg #[.pointer (pa t)], .string key] w fun e w' =>
 ∃ kb mb, e = .returned (.func (.func 141) #[] #[.pointer (some ⟨kb, 0, none⟩), .pointer (some ⟨mb, 0, none⟩)]) ∧ w.heap.size ≤ kb ∧ w.heap.size ≤ mb ∧ Boxed w' kb 9 (.string key) ∧ Boxed w' mb 27 (.pointer (pa t)) ∧ Below w.heap.size w w' := by
 go_enter Tryz.func110, Tryz.ntmps110
 go_wp2_with fail
 go_ret
 refine ⟨w.heap.size + 1, w.heap.size, rfl, by omega, Nat.le_refl _, ?_, (Boxed.new w _ _).alloc _, (below_new w _).trans ((below_new _ _).mono (by simp))⟩
 have h1 := Boxed.new (w.alloc (.cells #[.pointer (pa t)] 27)) 9 (.string key)
 rw [World.size_alloc] at h1
 exact h1
theorem pm_MAllS (t : Tr ByteArray) (w : World) : Calls Tryz.prog 104 #[.agg #[.pointer (pa t)]] w fun e w' =>
 ∃ kb mb, e = .returned (.func (.func 141) #[] #[.pointer (some ⟨kb, 0, none⟩), .pointer (some ⟨mb, 0, none⟩)]) ∧ w.heap.size ≤ kb ∧ w.heap.size ≤ mb ∧ Boxed w' kb 9 (.string ⟨#[]⟩) ∧ Boxed w' mb 27 (.pointer (pa t)) ∧ Below w.heap.size w w' := by
 go_enter Tryz.func104, Tryz.ntmps104
 go_wp2_with fail
 refine (pm_MFromS t ⟨#[]⟩ _).mono ?_
 rintro e w' ⟨kb, mb, rfl, h1, h2, h3, h4, hb⟩
 have h1' : w.heap.size ≤ kb := by simp at h1; omega
 have h2' : w.heap.size ≤ mb := by simp at h2; omega
 have H3 := Lib.hid h3
 have H4 := Lib.hid h4
 have HB := Lib.hid ((below_new w (.cells #[.pointer (pa t)] 27)).trans (hb.mono (by simp)))
 clear h1 h2 h3 h4 hb
 go_wp2_with fail
 go_ret
 exact ⟨kb, mb, rfl, h1', h2', H3.out, H4.out, HB.out⟩
end Go.Proofs.YtjlliohjeiclaaaGreatDoor
namespace Go.Proofs.YtjlliohjeiclaaaGreatDoor
open Go.RowKit Pm
attribute [local go_sem] Oper.semAt_some
structure EnvNS (gb yb ll : Nat) (s : Tr ByteArray) (W : World) : Prop where
 g : Boxed W gb 195 (.func (.func 186) #[] #[.pointer (some ⟨gb, 0, none⟩), .pointer (some ⟨yb, 0, none⟩)])
 y : Boxed W yb 195 (.func (.yield ll) #[] #[])
 a : AtS W s
theorem EnvNS.below {gb yb ll : Nat} {s : Tr ByteArray} {W W' : World} (h : EnvNS gb yb ll s W) (hb : Below W.heap.size W W') : EnvNS gb yb ll s W' :=
 ⟨boxStays h.g hb, boxStays h.y hb, h.a.below hb rfl⟩
theorem EnvNS.keep {gb yb ll M : Nat} {S : Nat → Prop} {Ex : TypeId → Prop} {s : Tr ByteArray} {W W' : World} (h : EnvNS gb yb ll s W) (hk : KeepE M S Ex W W')
 (h2 : M ≤ gb) (h3 : M ≤ yb) (h4 : ∀ b ∈ blocks s, S b) (h5 : ¬ Ex 195) : EnvNS gb yb ll s W' :=
 ⟨hk.box h.g h2 h5, hk.box h.y h3 h5, h.a.keep fun b o ho hm => (hk.block b (h4 b hm)).trans ho⟩
end Go.Proofs.YtjlliohjeiclaaaGreatDoor
namespace Go.Proofs.YtjlliohjeiclaaaGreatDoor
open Go.RowKit
def Facts (H : List (Nat × Obj)) (W : World) : Prop := ∀ p ∈ H, W.heap[p.1]? = some p.2
theorem Facts.below {H : List (Nat × Obj)} {A B : World} (h : Facts H A) (hb : Below A.heap.size A B) : Facts H B := fun p hp => (hb.block _ (Array.getElem?_eq_some_iff.1 (h p hp)).1).trans (h p hp)
theorem Facts.lt {H : List (Nat × Obj)} {A : World} (h : Facts H A) : ∀ p ∈ H, p.1 < A.heap.size := fun p hp => (Array.getElem?_eq_some_iff.1 (h p hp)).1
theorem Facts.setCell {H : List (Nat × Obj)} {A : World} {c i : Nat} (h : Facts H A) (hc : ∀ p ∈ H, p.1 ≠ c) (v : Value) : Facts H (A.setCell ⟨c, i, none⟩ v) := fun p hp => (Below.heap_setCell _ _ _ _ (by simpa using hc p hp)).trans (h p hp)
theorem Facts.putObj {H : List (Nat × Obj)} {A : World} {c : Nat} (h : Facts H A) (hc : ∀ p ∈ H, p.1 ≠ c) (o : Obj) : Facts H (A.putObj c o) := fun p hp => (World.putObj_heap_other (fun e => hc p hp e)).trans (h p hp)
theorem Facts.cons {H : List (Nat × Obj)} {A : World} {b : Nat} {o : Obj} (h : Facts H A) (hb : A.heap[b]? = some o) : Facts ((b, o) :: H) A := fun p hp => by
 rcases List.mem_cons.1 hp with rfl | hp
 · exact hb
 · exact h p hp
theorem own_block {β : Type} {B k : Nat} {o : Obj} (hk : k < B) : OwnFrom B (fun (_ : β) W => W.heap[k]? = some o) := by
 rintro _ A A' row h hg hr
 exact (hg.block k (Array.getElem?_eq_some_iff.1 h).1 (fun e => by have := (hr k e.symm).1; omega)).trans h
theorem facts_own {β : Type} (H : List (Nat × Obj)) (B : Nat) (hH : ∀ p ∈ H, p.1 < B) : OwnFrom B (fun (_ : β) W => Facts H W) := by
 rintro b A A' row h hg hr p hp
 exact own_block (β := Unit) (hH p hp) () A A' row (h p hp) hg hr
theorem below_put (s : Nat) (A : World) (D : Nat) (o : Obj) (h : s ≤ D) : Below s A (A.putObj D o) := ⟨rfl, rfl, rfl, by simp, fun k hk => World.putObj_heap_other (by omega)⟩
def marks (Ds : List Nat) : List Deferred := Ds.map fun D => { target := .collected D, args := #[] }
def markF (Ds : List Nat) : List (Nat × Obj) := Ds.map fun D => (D, .deferred (some []))
theorem leaves_marks {F : Fence} {n : Nat} {P : Program} {fn : Func} {tmps : Array Value} {R : Ending → World → Prop} : ∀ (Ds : List Nat) (W : World), Ds.Nodup → Facts (markF Ds) W →
 (∀ W', W'.os = W.os → W'.tape = W.tape → W'.output = W.output → W'.heap.size = W.heap.size → (∀ k, k ∉ Ds → W'.heap[k]? = W.heap[k]?) → ∃ v, (results fn tmps).run P W' = .ok v W' ∧ R (.returned v) W') →
 LeavesInM F n P fn tmps R (marks Ds) .returning W
 | [], W, _, _, h => h W rfl rfl rfl rfl fun _ _ => rfl
 | D :: Ds, W, hnd, hf, h => by
  obtain ⟨h1, h2⟩ := List.nodup_cons.1 hnd
  refine ⟨by simp, .inl ⟨_, _, rfl, run_takeDeferred (hf (D, .deferred (some [])) (by simp [markF])), ?_⟩⟩
  refine leaves_marks Ds _ h2 (Facts.putObj (fun p hp => hf p (by simp only [markF, List.map_cons, List.mem_cons]; exact .inr hp)) (fun p hp e => ?_) _) ?_
  · obtain ⟨D', hD', rfl⟩ := List.mem_map.1 hp
    exact h1 (e ▸ hD')
  · intro W' e1 e2 e3 e4 e5
    refine h W' e1 e2 e3 (by rw [e4]; simp) fun k hk => ?_
    rw [e5 k (fun hm => hk (List.mem_cons_of_mem _ hm))]
    exact World.putObj_heap_other (fun e => hk (e ▸ List.mem_cons_self))
structure SameBut (c y : Nat) (A B : World) : Prop where
 os : B.os = A.os
 tape : B.tape = A.tape
 output : B.output = A.output
 size : A.heap.size ≤ B.heap.size
 block : ∀ k, k < y → k ≠ c → B.heap[k]? = A.heap[k]?
theorem SameBut.refl (c y : Nat) (A : World) : SameBut c y A A := ⟨rfl, rfl, rfl, Nat.le_refl _, fun _ _ _ => rfl⟩
theorem SameBut.trans {c y : Nat} {A B C : World} (h : SameBut c y A B) (k : SameBut c y B C) : SameBut c y A C :=
 ⟨k.os.trans h.os, k.tape.trans h.tape, k.output.trans h.output, Nat.le_trans h.size k.size, fun i h1 h2 => (k.block i h1 h2).trans (h.block i h1 h2)⟩
theorem SameBut.ofBelow {c y : Nat} {A B : World} (h : Below y A B) : SameBut c y A B := ⟨h.os, h.tape, h.output, h.size, fun k hk _ => h.block k hk⟩
theorem SameBut.setCell {c y : Nat} {A B : World} (h : SameBut c y A B) (i : Nat) (v : Value) : SameBut c y A (B.setCell ⟨c, i, none⟩ v) :=
 ⟨h.os, h.tape, h.output, by simpa [World.setCell] using h.size, fun k h1 h2 => (Below.heap_setCell _ _ _ _ (by simpa using h2)).trans (h.block k h1 h2)⟩
theorem SameBut.own {β : Type} {c y B : Nat} {w : World} (hw : y ≤ w.heap.size) (hB : y ≤ B) : OwnFrom B (fun (_ : β) W => SameBut c y w W) := by
 rintro _ A A' row h hg hr
 exact ⟨hg.os.trans h.os, hg.tape.trans h.tape, hg.output.trans h.output, Nat.le_trans h.size hg.size, fun k h1 h2 => (hg.block k (by have := h.size; omega) (fun e => by have := (hr k e.symm).1; omega)).trans (h.block k h1 h2)⟩
def allocs (w : World) : List Obj → World
 | [] => w
 | o :: l => allocs (w.alloc o) l
theorem allocs_below : ∀ (l : List Obj) (w : World), Below w.heap.size w (allocs w l)
 | [], w => Below.refl _ _
 | o :: l, w => (below_new w o).trans ((allocs_below l (w.alloc o)).mono (by simp))
theorem allocs_get : ∀ (l : List Obj) (w : World) (i : Nat) (o : Obj), l[i]? = some o → (allocs w l).heap[w.heap.size + i]? = some o
 | [], w, i, o, h => by simp at h
 | o' :: l, w, 0, o, h => by
  simp at h
  subst h
  exact ((allocs_below l (w.alloc o')).block _ (by simp)).trans (heap_alloc_new w o')
 | o' :: l, w, i + 1, o, h => by
  have := allocs_get l (w.alloc o') i o (by simpa using h)
  rw [World.size_alloc] at this
  rw [show w.heap.size + (i + 1) = w.heap.size + 1 + i by omega]
  exact this
end Go.Proofs.YtjlliohjeiclaaaGreatDoor
namespace Go.Proofs.YtjlliohjeiclaaaGreatDoor
open Go.RowKit St Pm
structure RowKeep (c : Nat) (v : Value) (A B : World) : Prop where
 os : B.os = A.os
 tape : B.tape = A.tape
 output : B.output = A.output
 size : A.heap.size ≤ B.heap.size
 block : ∀ k, k < A.heap.size → k ≠ c → v.ownBlock ≠ some k → B.heap[k]? = A.heap[k]?
theorem RowKeep.below {c z n size base : Nat} {e : TypeId} {v : Value} {xs : List Value} {A B : World} (h : RowKeep c v A B) (hc : z ≤ c) (ho : A.ownsRow base e size v n xs) (hb : z ≤ base) (hz : z ≤ A.heap.size) : Below z A B :=
 ⟨h.os, h.tape, h.output, h.size, fun k hk => h.block k (by omega) (by omega) (fun e => by have := (ho.lt k e).1; omega)⟩
theorem RowKeep.facts {c n size base : Nat} {e : TypeId} {v : Value} {xs : List Value} {A B : World} (h : RowKeep c v A B) {H : List (Nat × Obj)} (hH : Facts H A) (hc : ∀ p ∈ H, p.1 ≠ c) (ho : A.ownsRow base e size v n xs) (hb : ∀ p ∈ H, p.1 < base) : Facts H B :=
 fun p hp => (h.block _ (Facts.lt hH p hp) (hc p hp) (fun e => by have := (ho.lt _ e).1; have := hb p hp; omega)).trans (hH p hp)
theorem RowKeep.keepE {c n size base M : Nat} {e t : TypeId} {v u : Value} {xs : List Value} {A B : World} {S : Nat → Prop} (h : RowKeep c v A B) (ho : A.ownsRow base e size v n xs) (hS : ∀ k, S k → k < base ∧ k ≠ c) (hSN : ∀ k, S k → k < A.heap.size) (hc : c < M) : KeepE M S (fun x => x = e) A B :=
 ⟨h.os, h.tape, h.output, h.size, fun k hk => h.block k (hSN k hk) (hS k hk).2 (fun e' => by have := (ho.lt k e').1; have := (hS k hk).1; omega), fun k o hM hk ht => by
  have hlt := (Array.getElem?_eq_some_iff.1 hk).1
  refine (h.block k hlt (by omega) (fun e' => ?_)).trans hk
  rcases ho.2 with ⟨rfl, _⟩ | ⟨g, cap, cur, rfl, _, hgb, _⟩
  · simp [Value.ownBlock] at e'
  · obtain rfl : g = k := by simpa [Value.ownBlock] using e'
    rw [hgb] at hk
    cases hk
    exact ht _ _ _ rfl rfl⟩
theorem RowKeep.from {c n size base : Nat} {e t : TypeId} {v u : Value} {xs : List Value} {A B : World} (h : RowKeep c v A B) (hc : Boxed A c t u) (ho : A.ownsRow base e size v n xs) (D : Nat) : KeepsFrom D A B :=
 ⟨h.size, fun k o _ hk ho' => (h.block k (Array.getElem?_eq_some_iff.1 hk).1 (fun e' => by rw [e', show A.heap[c]? = _ from hc] at hk; cases hk; cases ho') (fun e' => by
  rcases ho.2 with ⟨rfl, _⟩ | ⟨g, cap, cur, rfl, _, hgb, _⟩
  · simp [Value.ownBlock] at e'
  · obtain rfl : g = k := by simpa [Value.ownBlock] using e'
    rw [hgb] at hk
    cases hk
    cases ho')).trans hk⟩
theorem RowKeep.after {c : Nat} {v : Value} {A0 A B : World} (hb : Below A0.heap.size A0 A) (h : RowKeep c v A B) : RowKeep c v A0 B :=
 ⟨h.os.trans hb.os, h.tape.trans hb.tape, h.output.trans hb.output, Nat.le_trans hb.size h.size, fun k h1 h2 h3 => (h.block k (Nat.lt_of_lt_of_le h1 hb.size) h2 h3).trans (hb.block k h1)⟩
def goodP (p : ByteArray × ByteArray) : Bool := (ofK p.1).isSome && decide (p.2.size ≤ 256)
def decV (p : ByteArray × ByteArray) : Ev := ((ofK p.1).getD ⟨0, 0, ⟨#[]⟩, 0, 0⟩, p.2)
theorem ofK_key {s : Stp} (h : s.ok = true) : ofK (keyB s) = some s.sv := by
 unfold ofK
 have : okKey (keyB s).data.toList = true := okKey_iff.2 ⟨s, h, by simp [keyB]⟩
 rw [if_pos this]
 congr 1
 have h2 : parse (keyB s).data.toList = s := by
  show parse (s.key.toArray.toList) = s
  rw [List.toList_toArray]
  exact parse_key h
 rw [h2]
theorem decV_enc {es : List El} (h : ∀ x ∈ es, okE x = true) : (∀ p ∈ es.map enc, goodP p = true) ∧ (es.map enc).map decV = es.map toV := by
 constructor
 · intro p hp
   obtain ⟨x, hx, rfl⟩ := List.mem_map.1 hp
   obtain ⟨h1, h2⟩ := okE_iff.1 (h x hx)
   unfold goodP enc
   rw [ofK_key h1]
   simpa using h2
 · rw [List.map_map]
   refine List.map_congr_left fun x hx => ?_
   obtain ⟨h1, h2⟩ := okE_iff.1 (h x hx)
   show decV (keyB x.1, x.2) = toV x
   unfold decV toV
   rw [ofK_key h1]
   rfl
end Go.Proofs.YtjlliohjeiclaaaGreatDoor
namespace Go.Proofs.YtjlliohjeiclaaaGreatDoor
open Go.RowKit St Pm
open Go.Op (bytesLess)
def escT : List UInt8 → List UInt8
 | [] => []
 | b :: l => if b = 0 then 0 :: 1 :: escT l else b :: escT l
def frontB (t : ByteArray) : ByteArray := ⟨(escT t.data.toList ++ [0, 0]).toArray⟩
def tagK (e : Ev) : ByteArray := ⟨(escT e.2.data.toList ++ 0 :: 0 :: e.1.st.key).toArray⟩
theorem tag_front (e : Ev) : frontB e.2 ++ keyB e.1.st = tagK e := by
 apply key_ext
 simp [frontB, keyB, tagK]
theorem esc_head (t r : List UInt8) : ∃ c m, escT t ++ 0 :: 0 :: r = c :: m := by cases escT t <;> simp
def decA (acc : List UInt8) : List UInt8 → Option (List UInt8 × List UInt8)
 | [] => none
 | [_] => none
 | a :: b :: l => if a ≠ 0 then decA (acc ++ [a]) (b :: l) else if b = 1 then decA (acc ++ [0]) l else if b = 0 then some (acc, l) else none
termination_by l => l.length
def decR (acc : List UInt8) : List UInt8 → Option (List UInt8 × List UInt8)
 | [] => none
 | [_] => none
 | a :: b :: l => if a = 0 ∧ b = 0 then some (acc, l) else if a = 0 then decR (acc ++ [0]) l else decR (acc ++ [a]) (b :: l)
termination_by l => l.length
theorem decA_esc : ∀ (t r acc : List UInt8), decA acc (escT t ++ 0 :: 0 :: r) = some (acc ++ t, r)
 | [], r, acc => by simp [escT, decA]
 | b :: t, r, acc => by
  have ih := decA_esc t r
  by_cases h : b = 0
  · subst h
    simp only [escT, if_true, List.cons_append]
    rw [decA]
    simp [ih]
  · obtain ⟨c, m, hc⟩ := esc_head t r
    rw [escT, if_neg h, List.cons_append, hc, decA, if_pos h, ← hc, ih]
    simp
theorem decA_inv : ∀ (n : Nat) (l acc t r : List UInt8), l.length ≤ n → decA acc l = some (t, r) → ∃ t', t = acc ++ t' ∧ l = escT t' ++ 0 :: 0 :: r
 | 0, [], acc, t, r, _, h => by rw [decA] at h; cases h
 | 0, _ :: _, _, _, _, hl, _ => by simp at hl
 | n + 1, [], acc, t, r, _, h => by rw [decA] at h; cases h
 | n + 1, [_], acc, t, r, _, h => by rw [decA] at h; cases h
 | n + 1, a :: b :: l, acc, t, r, hl, h => by
  rw [decA] at h
  simp only [List.length_cons] at hl
  by_cases ha : a = 0
  · subst ha
    rw [if_neg (by simp)] at h
    by_cases hb : b = 1
    · subst hb
      rw [if_pos rfl] at h
      obtain ⟨t', rfl, rfl⟩ := decA_inv n l _ t r (by omega) h
      exact ⟨0 :: t', by simp, by simp [escT]⟩
    · rw [if_neg hb] at h
      by_cases hb0 : b = 0
      · subst hb0
        rw [if_pos rfl] at h
        cases h
        exact ⟨[], by simp, by simp [escT]⟩
      · rw [if_neg hb0] at h; cases h
  · rw [if_pos ha] at h
    obtain ⟨t', rfl, h2⟩ := decA_inv n (b :: l) _ t r (by simp; omega) h
    exact ⟨a :: t', by simp, by rw [h2, escT, if_neg ha]; rfl⟩
theorem decR_of : ∀ (n : Nat) (l acc : List UInt8) (q : List UInt8 × List UInt8), l.length ≤ n → decA acc l = some q → decR acc l = some q
 | 0, [], acc, q, _, h => by rw [decA] at h; cases h
 | 0, _ :: _, _, _, hl, _ => by simp at hl
 | n + 1, [], acc, q, _, h => by rw [decA] at h; cases h
 | n + 1, [_], acc, q, _, h => by rw [decA] at h; cases h
 | n + 1, a :: b :: l, acc, q, hl, h => by
  rw [decA] at h
  rw [decR]
  simp only [List.length_cons] at hl
  by_cases ha : a = 0
  · subst ha
    rw [if_neg (by simp)] at h
    by_cases hb : b = 1
    · subst hb
      rw [if_pos rfl] at h
      rw [if_neg (by simp), if_pos rfl]
      exact decR_of n l _ q (by omega) h
    · rw [if_neg hb] at h
      by_cases hb0 : b = 0
      · subst hb0
        rw [if_pos rfl] at h
        rw [if_pos ⟨rfl, rfl⟩]
        exact h
      · rw [if_neg hb0] at h; cases h
  · rw [if_pos ha] at h
    rw [if_neg (fun e => ha e.1), if_neg ha]
    exact decR_of n (b :: l) _ q (by simp; omega) h
theorem ofK_some {k : ByteArray} {s : Sv} (h : ofK k = some s) : s.ok = true ∧ k = keyB s.st := by
 unfold ofK at h
 by_cases hk : okKey k.data.toList = true
 · rw [if_pos hk] at h
   obtain ⟨s', hs, hsk⟩ := okKey_iff.1 hk
   rw [← hsk, parse_key hs] at h
   obtain rfl := Option.some.inj h
   refine ⟨(Stp.ok_sv hs).1, ?_⟩
   rw [(Stp.ok_sv hs).2]
   apply key_ext
   simp [keyB, hsk]
 · rw [if_neg hk] at h; cases h
theorem ofK_ok {s : Sv} (h : s.ok = true) : ofK (keyB s.st) = some s := by
 rw [ofK_key (Sv.ok_st h).1, (Sv.ok_st h).2]
def ofT (k : ByteArray) : Option Ev := match decA [] k.data.toList with
 | none => none
 | some (t, r) => match ofK ⟨r.toArray⟩ with
  | none => none
  | some s => if t.length ≤ 256 then some (s, ⟨t.toArray⟩) else none
def ofR (k : ByteArray) : Option Ev := match decR [] k.data.toList with
 | none => none
 | some (t, r) => match ofK ⟨r.toArray⟩ with
  | none => none
  | some s => if t.length ≤ 256 ∧ tagK (s, ⟨t.toArray⟩) = k then some (s, ⟨t.toArray⟩) else none
theorem ofT_tag {e : Ev} (h : okV e = true) : ofT (tagK e) = some e := by
 obtain ⟨h1, h2⟩ := okV_iff.1 h
 unfold ofT tagK
 simp only [List.toList_toArray]
 rw [decA_esc]
 have h3 : ofK ⟨e.1.st.key.toArray⟩ = some e.1 := ofK_ok h1
 simp only [List.nil_append, h3]
 rw [if_pos (by rw [dlen]; exact h2)]
theorem ofT_some {k : ByteArray} {e : Ev} (h : ofT k = some e) : okV e = true ∧ k = tagK e := by
 unfold ofT at h
 cases hd : decA [] k.data.toList with
 | none => rw [hd] at h; cases h
 | some q =>
  obtain ⟨t, r⟩ := q
  rw [hd] at h
  simp only at h
  cases ho : ofK ⟨r.toArray⟩ with
  | none => rw [ho] at h; cases h
  | some s =>
   rw [ho] at h
   simp only at h
   by_cases hl : t.length ≤ 256
   · rw [if_pos hl] at h
     obtain rfl := Option.some.inj h
     obtain ⟨t', e1, e2⟩ := decA_inv _ _ _ _ _ (Nat.le_refl _) hd
     obtain ⟨h1, h2⟩ := ofK_some ho
     rw [List.nil_append] at e1
     subst e1
     refine ⟨okV_iff.2 ⟨h1, by simpa [ByteArray.size] using hl⟩, key_ext ?_⟩
     rw [e2]
     have h3 : r = s.st.key := by have := congrArg (fun x : ByteArray => x.data.toList) h2; simpa [keyB] using this
     simp [tagK, h3]
   · rw [if_neg hl] at h; cases h
theorem ofR_eq (k : ByteArray) : ofR k = ofT k := by
 cases h : ofT k with
 | some e =>
  obtain ⟨h1, h2⟩ := ofT_some h
  obtain ⟨h3, h4⟩ := okV_iff.1 h1
  subst h2
  have hd : decR [] (tagK e).data.toList = some (e.2.data.toList, e.1.st.key) := decR_of _ _ _ _ (Nat.le_refl _) (by unfold tagK; simp only [List.toList_toArray]; rw [decA_esc]; rfl)
  unfold ofR
  rw [hd]
  have h5 : ofK ⟨e.1.st.key.toArray⟩ = some e.1 := ofK_ok h3
  simp only [h5]
  rw [if_pos ⟨by rw [dlen]; exact h4, by first | rfl | trivial⟩]
 | none =>
  unfold ofR
  cases hd : decR [] k.data.toList with
  | none => rfl
  | some q =>
   obtain ⟨t, r⟩ := q
   simp only
   cases ho : ofK ⟨r.toArray⟩ with
   | none => rfl
   | some s =>
    simp only
    by_cases hc : t.length ≤ 256 ∧ tagK (s, ⟨t.toArray⟩) = k
    · have h6 := ofT_tag (e := (s, ⟨t.toArray⟩)) (okV_iff.2 ⟨(ofK_some ho).1, by simpa [ByteArray.size] using hc.1⟩)
      rw [hc.2, h] at h6
      cases h6
    · rw [if_neg hc]
theorem bl_nil (l : List UInt8) : bytesLess l [] = false := by cases l <;> rfl
theorem u0_le (c : UInt8) : ¬ c < 0 := fun h => by rw [UInt8.lt_iff_toNat_lt] at h; simp at h
theorem u0_lt {c : UInt8} (h : c ≠ 0) : (0 : UInt8) < c := by
 rw [UInt8.lt_iff_toNat_lt]
 have : c.toNat ≠ 0 := fun e => h (by rw [← UInt8.toNat_inj]; exact e)
 simp; omega
theorem bl_esc : ∀ (x y a b : List UInt8), bytesLess (escT x ++ 0 :: 0 :: a) (escT y ++ 0 :: 0 :: b) = (bytesLess x y || (x == y && bytesLess a b))
 | [], [], a, b => by simp [escT, bytesLess]
 | [], d :: y, a, b => by
  by_cases h : d = 0
  · subst h; simp [escT, bytesLess]
  · have := u0_lt h
    simp [escT, h, bytesLess, this]
 | c :: x, [], a, b => by
  by_cases h : c = 0
  · subst h; simp [escT, bytesLess]
  · have h2 := u0_le c
    simp [escT, h, bytesLess, h2]
 | c :: x, d :: y, a, b => by
  have ih := bl_esc x y a b
  by_cases hc : c = 0
  · subst hc
    by_cases hd : d = 0
    · subst hd
      simp [escT, bytesLess, ih]
    · have := u0_lt hd
      simp [escT, hd, bytesLess, this]
  · by_cases hd : d = 0
    · subst hd
      have h2 := u0_le c
      have h3 : (c == 0) = false := by simpa using hc
      simp [escT, hc, bytesLess, h2, h3]
    · simp only [escT, if_neg hc, if_neg hd, List.cons_append, bytesLess, ih]
      by_cases e : c = d
      · subst e; simp
      · have : (c == d) = false := by simpa using e
        simp [this, e]
theorem tag_lt {a b : Ev} (ha : a.1.ok = true) (hb : b.1.ok = true) : klt (tagK a) (tagK b) = (klt a.2 b.2 || (decide (a.2 = b.2) && a.1.st.lt b.1.st)) := by
 unfold klt
 rw [← key_lt (Sv.ok_st ha).1 (Sv.ok_st hb).1, ByteArray.toList_eq, ByteArray.toList_eq, ByteArray.toList_eq, ByteArray.toList_eq]
 unfold tagK
 simp only [List.toList_toArray]
 rw [bl_esc]
 congr 2
 rw [Bool.eq_iff_iff]
 simp only [beq_iff_eq, decide_eq_true_eq]
 exact ⟨fun h => key_ext h, fun h => by rw [h]⟩
theorem tag_inj {a b : Ev} (ha : okV a = true) (hb : okV b = true) (h : tagK a = tagK b) : a = b := by
 have h1 := ofT_tag ha
 rw [h, ofT_tag hb] at h1
 exact (Option.some.inj h1).symm
theorem front_pre (t : ByteArray) (e : Ev) : (escT t.data.toList ++ [0, 0]).isPrefixOf (tagK e).data.toList = decide (e.2 = t) := by
 rw [Bool.eq_iff_iff, decide_eq_true_eq, List.isPrefixOf_iff_prefix]
 constructor
 · rintro ⟨r, hr⟩
   have h1 : decA [] (tagK e).data.toList = some (t.data.toList, r) := by
    rw [← hr, List.append_assoc]
    show decA [] (escT t.data.toList ++ 0 :: 0 :: r) = _
    rw [decA_esc]; rfl
   have h2 : decA [] (tagK e).data.toList = some (e.2.data.toList, e.1.st.key) := by
    unfold tagK
    simp only [List.toList_toArray]
    rw [decA_esc]; rfl
   rw [h2] at h1
   simp only [Option.some.injEq, Prod.mk.injEq] at h1
   exact key_ext h1.1
 · rintro rfl
   exact ⟨e.1.st.key, by simp [tagK]⟩
theorem esc_append : ∀ (x y : List UInt8), escT (x ++ y) = escT x ++ escT y
 | [], y => rfl
 | c :: x, y => by
  have ih := esc_append x y
  by_cases h : c = 0
  · simp [escT, h, ih]
  · simp [escT, h, ih]
theorem esc_len : ∀ (l : List UInt8), (escT l).length ≤ 2 * l.length
 | [] => by simp [escT]
 | c :: l => by
  have ih := esc_len l
  by_cases h : c = 0
  · simp [escT, h]; omega
  · simp [escT, h]; omega
theorem index_zero (l : List UInt8) : Lib.index (0 :: l) [0] = 0 := by simp [Lib.index]
theorem index_skip {b : UInt8} (h : b ≠ 0) (l : List UInt8) : Lib.index (b :: l) [0] = if Lib.index l [0] == -1 then -1 else Lib.index l [0] + 1 := by
 have h1 : [(0 : UInt8)].isPrefixOf (b :: l) = false := by
  have : ((0 : UInt8) == b) = false := by simpa using fun e => h e.symm
  simp only [List.isPrefixOf, this, Bool.false_and]
 rw [Lib.index, h1]
 rfl
theorem repl_skip {b : UInt8} (h : b ≠ 0) : ∀ (k : Nat) (l : List UInt8), Lib.replaceK [0] [0, 1] k (b :: l) = b :: Lib.replaceK [0] [0, 1] k l
 | 0, l => rfl
 | k + 1, l => by
  have h1 := Lib.index_ge l [0]
  rw [Lib.replaceK, Lib.replaceK, index_skip h]
  by_cases h2 : Lib.index l [0] = -1
  · rw [h2]; rfl
  · have h3 : (Lib.index l [0] == -1) = false := by simpa using h2
    have h4 : (Lib.index l [0] + 1 == -1) = false := by
     have : ¬ Lib.index l [0] + 1 = -1 := by omega
     simpa using this
    rw [h3]
    simp only [Bool.false_eq_true, if_false]
    rw [h4]
    simp only [Bool.false_eq_true, if_false]
    obtain ⟨i, hi⟩ : ∃ i : Nat, Lib.index l [0] = i := ⟨(Lib.index l [0]).toNat, by omega⟩
    rw [hi]
    have e1 : ((i : Int) + 1).toNat = i + 1 := by omega
    have e2 : ((i : Int)).toNat = i := by omega
    rw [e1, e2]
    have e3 : i + 1 + [(0 : UInt8)].length = (i + [(0 : UInt8)].length) + 1 := by omega
    rw [e3, List.drop_succ_cons, List.take_succ_cons]
    rfl
theorem repl_esc : ∀ l : List UInt8, Lib.replaceK [0] [0, 1] (l.count 0) l = escT l
 | [] => rfl
 | b :: l => by
  have ih := repl_esc l
  by_cases h : b = 0
  · subst h
    rw [List.count_cons_self, Lib.replaceK, index_zero, if_neg (by decide)]
    show [] ++ [0, 1] ++ Lib.replaceK [0] [0, 1] (l.count 0) l = _
    rw [ih]
    simp [escT]
  · rw [List.count_cons_of_ne (fun e => h e), repl_skip h, ih, escT, if_neg h]
theorem repl_all (l : List UInt8) : Lib.replaceAll l [0] [0, 1] = escT l := by
 unfold Lib.replaceAll Lib.replace
 rw [if_neg (by decide)]
 unfold Lib.replaceNum
 rw [if_pos (.inl (by omega)), Lib.count_one, repl_esc]
end Go.Proofs.YtjlliohjeiclaaaGreatDoor
namespace Go.Proofs.YtjlliohjeiclaaaGreatDoor
open Go.RowKit St Pm
def encV (e : Ev) : ByteArray × ByteArray := (keyB e.1.st, e.2)
theorem enc_toE {x : Ev} : enc (toE x) = encV x := rfl
structure Reg (l : List Ev) (t : Tr ByteArray) : Prop where
 bal : Bal t
 it : items t = l.map encV
 ok : ∀ x ∈ l, okV x = true
 srt : Srt (items t)
theorem Reg.len {l : List Ev} {t : Tr ByteArray} (h : Reg l t) : sz t = l.length := by rw [← sz_items, h.it, List.length_map]
theorem good_enc {x : Ev} (h : okV x = true) : goodP (encV x) = true ∧ decV (encV x) = x := by
 obtain ⟨h1, h2⟩ := okV_toE h
 have h3 := decV_enc (es := [toE x]) (fun y hy => by rw [List.mem_singleton.1 hy]; exact h1)
 refine ⟨h3.1 _ (by rw [List.map_cons, List.map_nil, enc_toE]; exact List.mem_cons_self), ?_⟩
 have h4 := h3.2
 simp only [List.map_cons, List.map_nil, enc_toE, h2, List.cons.injEq, and_true] at h4
 exact h4
theorem Reg.good {l : List Ev} {t : Tr ByteArray} (h : Reg l t) : (items t).all goodP = true := by
 rw [h.it, List.all_eq_true]
 intro p hp
 obtain ⟨x, hx, rfl⟩ := List.mem_map.1 hp
 exact (good_enc (h.ok x hx)).1
theorem Reg.dec {l : List Ev} {t : Tr ByteArray} (h : Reg l t) : (items t).map decV = l := by
 rw [h.it, List.map_map]
 conv => rhs; rw [← List.map_id l]
 exact List.map_congr_left fun x hx => (good_enc (h.ok x hx)).2
theorem ok_lab {s : Sv} (h : s.ok = true) : s.l.size ≤ 12 := by
 have h5 := (Sv.ok_iff.1 h).2.2.2.2.1
 unfold okLabel at h5
 simp only [Bool.and_eq_true, decide_eq_true_eq] at h5
 have := h5.2
 simpa using this
theorem key_size {s : Sv} (h : s.ok = true) : (keyB s.st).size ≤ 31 := by
 have h1 := key_length s.st
 have h2 : (keyB s.st).size = s.st.key.length := by unfold keyB; simp [ByteArray.size]
 have h3 := ok_lab h
 have h4 : s.st.label.length = s.l.size := by unfold Sv.st; simp
 omega
end Go.Proofs.YtjlliohjeiclaaaGreatDoor
namespace Go.Proofs.YtjlliohjeiclaaaGreatDoor
open Go.RowKit Go.Shelf Go.Proofs St Pm
def lay155_ren : Go.Shelf.Ren := ⟨fun | 138 => 198 | 143 => 200 | 154 => 176 | 155 => 133 | 165 => 199 | 166 => 201 | 169 => 203 | 195 => 213 | 197 => 202 | 217 => 222 | 218 => 214 | 219 => 217 | 224 => 224 | 225 => 223 | 240 => 215 | 241 => 216 | 260 => 218 | 266 => 227 | 267 => 225 | 276 => 220 | 277 => 221 | 314 => 228 | n => n, fun | 0 => 0 | 3 => 3 | 4 => 4 | 5 => 5 | 9 => 9 | 20 => 20 | 21 => 21 | 37 => 113 | 46 => 186 | 51 => 222 | 70 => 252 | 72 => 254 | 75 => 257 | 76 => 258 | 105 => 260 | 119 => 240 | 127 => 272 | 138 => 242 | 139 => 243 | 146 => 277 | 164 => 273 | 80 => 112 | n => n, fun | 1 => 2 | 3 => 0 | 4 => 1 | n => n⟩
theorem lay155 : Go.Proofs.Lays.n155 Tryz.prog lay155_ren := {
 mixed := by kernel_rfl
 f138 := Tryz.func198.trans (congrArg some (by kernel_rfl))
 f143 := Tryz.func200.trans (congrArg some (by kernel_rfl))
 f154 := Tryz.func176.trans (congrArg some (by kernel_rfl))
 f155 := Tryz.func133.trans (congrArg some (by kernel_rfl))
 f165 := Tryz.func199.trans (congrArg some (by kernel_rfl))
 f166 := Tryz.func201.trans (congrArg some (by kernel_rfl))
 f169 := Tryz.func203.trans (congrArg some (by kernel_rfl))
 f195 := Tryz.func213.trans (congrArg some (by kernel_rfl))
 f197 := Tryz.func202.trans (congrArg some (by kernel_rfl))
 f217 := Tryz.func222.trans (congrArg some (by kernel_rfl))
 f218 := Tryz.func214.trans (congrArg some (by kernel_rfl))
 f219 := Tryz.func217.trans (congrArg some (by kernel_rfl))
 f224 := Tryz.func224.trans (congrArg some (by kernel_rfl))
 f225 := Tryz.func223.trans (congrArg some (by kernel_rfl))
 f240 := Tryz.func215.trans (congrArg some (by kernel_rfl))
 f241 := Tryz.func216.trans (congrArg some (by kernel_rfl))
 f260 := Tryz.func218.trans (congrArg some (by kernel_rfl))
 f266 := Tryz.func227.trans (congrArg some (by kernel_rfl))
 f267 := Tryz.func225.trans (congrArg some (by kernel_rfl))
 f276 := Tryz.func220.trans (congrArg some (by kernel_rfl))
 f277 := Tryz.func221.trans (congrArg some (by kernel_rfl))
 f314 := Tryz.func228.trans (congrArg some (by kernel_rfl))
 t0 := Tryz.underlying0
 a0 := Tryz.isAgg0
 z0 := Tryz.sizeOf0
 v0 := Tryz.zeroValue0
 t3 := Tryz.underlying3
 a3 := Tryz.isAgg3
 z3 := Tryz.sizeOf3
 v3 := Tryz.zeroValue3
 t4 := Tryz.underlying4
 a4 := Tryz.isAgg4
 z4 := Tryz.sizeOf4
 v4 := Tryz.zeroValue4
 t5 := Tryz.underlying5
 a5 := Tryz.isAgg5
 z5 := Tryz.sizeOf5
 v5 := Tryz.zeroValue5
 t9 := Tryz.underlying9
 a9 := Tryz.isAgg9
 z9 := Tryz.sizeOf9
 v9 := Tryz.zeroValue9
 t20 := Tryz.underlying20
 a20 := Tryz.isAgg20
 z20 := Tryz.sizeOf20
 v20 := Tryz.zeroValue20
 t21 := Tryz.underlying21
 a21 := Tryz.isAgg21
 z21 := Tryz.sizeOf21
 v21 := Tryz.zeroValue21
 t37 := Tryz.underlying113
 a37 := Tryz.isAgg113
 z37 := Tryz.sizeOf113
 v37 := Tryz.zeroValue113
 t46 := Tryz.underlying186
 a46 := Tryz.isAgg186
 z46 := Tryz.sizeOf186
 v46 := Tryz.zeroValue186
 t51 := Tryz.underlying222
 a51 := Tryz.isAgg222
 z51 := Tryz.sizeOf222
 v51 := Tryz.zeroValue222
 t70 := Tryz.underlying252
 a70 := Tryz.isAgg252
 z70 := Tryz.sizeOf252
 v70 := Tryz.zeroValue252
 t72 := Tryz.underlying254
 a72 := Tryz.isAgg254
 z72 := Tryz.sizeOf254
 v72 := Tryz.zeroValue254
 t75 := Tryz.underlying257
 a75 := Tryz.isAgg257
 z75 := Tryz.sizeOf257
 v75 := Tryz.zeroValue257
 t76 := Tryz.underlying258
 a76 := Tryz.isAgg258
 z76 := Tryz.sizeOf258
 v76 := Tryz.zeroValue258
 t105 := Tryz.underlying260
 a105 := Tryz.isAgg260
 z105 := Tryz.sizeOf260
 v105 := Tryz.zeroValue260
 t119 := Tryz.underlying240
 a119 := Tryz.isAgg240
 z119 := Tryz.sizeOf240
 t127 := Tryz.underlying272
 a127 := Tryz.isAgg272
 z127 := Tryz.sizeOf272
 v127 := Tryz.zeroValue272
 t138 := Tryz.underlying242
 a138 := Tryz.isAgg242
 z138 := Tryz.sizeOf242
 v138 := Tryz.zeroValue242
 t139 := Tryz.underlying243
 a139 := Tryz.isAgg243
 z139 := Tryz.sizeOf243
 v139 := Tryz.zeroValue243
 t146 := Tryz.underlying277
 a146 := Tryz.isAgg277
 z146 := Tryz.sizeOf277
 v146 := Tryz.zeroValue277
 t164 := Tryz.underlying273
 a164 := Tryz.isAgg273
 z164 := Tryz.sizeOf273
 v164 := Tryz.zeroValue273
 g1 := by kernel_rfl
 g3 := by kernel_rfl
 g4 := by kernel_rfl
}
def lay99_ren : Go.Shelf.Ren := ⟨fun | 99 => 111 | 206 => 143 | n => n, fun | 3 => 3 | 4 => 4 | 9 => 9 | n => n, fun n => n⟩
theorem lay99 : Go.Proofs.Lays.n99 Tryz.prog lay99_ren := {
 mixed := by kernel_rfl
 f99 := Tryz.func111.trans (congrArg some (by kernel_rfl))
 f206 := Tryz.func143.trans (congrArg some (by kernel_rfl))
 t3 := Tryz.underlying3
 a3 := Tryz.isAgg3
 z3 := Tryz.sizeOf3
 v3 := Tryz.zeroValue3
 t4 := Tryz.underlying4
 a4 := Tryz.isAgg4
 z4 := Tryz.sizeOf4
 v4 := Tryz.zeroValue4
 t9 := Tryz.underlying9
 a9 := Tryz.isAgg9
 z9 := Tryz.sizeOf9
 v9 := Tryz.zeroValue9
}
theorem ext155 : Builder.Extra Tryz.prog lay155_ren := {
 sizeBuilder := by kernel_rfl
 liesBuilder := by kernel_rfl
 t5 := Tryz.underlying5
 a5 := Tryz.isAgg5
 z5 := Tryz.sizeOf5
 v5 := Tryz.zeroValue5
 infoByte := by kernel_rfl
 cellsByte := by kernel_rfl
 sizeByte := by kernel_rfl
 neB5 := by decide }
theorem ts_HasPrefix (s p : ByteArray) (w : World) :
 Calls Tryz.prog 111 #[.string s, .string p] w fun e w' => e = .returned (.bool (Lib.hasPrefix s.data.toList p.data.toList)) ∧ w' = w :=
 Any.strings_HasPrefix lay99 s p w
theorem ts_Replace (s : ByteArray) (w : World) (hs : s.size ≤ 4294967280) (hG : Glob w) :
 Calls Tryz.prog 133 #[.string s, .string ⟨#[0]⟩, .string ⟨#[0, 1]⟩] w fun e w' => e = .returned (.string ⟨(escT s.data.toList).toArray⟩) ∧ Below w.heap.size w w' := by
 obtain ⟨m, hm⟩ := hG.2
 have h := Any.strings_ReplaceAll lay155 ext155 s ⟨#[0]⟩ ⟨#[0, 1]⟩ m w (by omega) hm (by decide) (by
  have h1 := Lib.countB_le ⟨#[0]⟩ (by decide) s.size s (Nat.le_refl _)
  have h2 : (⟨#[0, 1]⟩ : ByteArray).size = 2 := rfl
  rw [h2]
  omega)
 refine h.mono ?_
 rintro e w' ⟨rfl, hb⟩
 refine ⟨?_, hb⟩
 show Ending.returned (.string ⟨(Lib.replaceAll s.data.toList [0] [0, 1]).toArray⟩) = _
 rw [repl_all]
theorem ts_fits (s : ByteArray) (w : World) : Calls Tryz.prog 64 #[.string s] w fun e w' => e = .returned (.bool (decide (s.size ≤ 256))) ∧ w = w' := by
 go_enter Tryz.func64, Tryz.ntmps64
 go_wp2
 go_ret
 exact ⟨congrArg (fun b => Ending.returned (.bool b)) (by simp; omega), rfl⟩
theorem ts_front (s : ByteArray) (w : World) (hs : s.size ≤ 4294967280) (hG : Glob w) :
 Calls Tryz.prog 95 #[.string s] w fun e w' => e = .returned (.string (frontB s)) ∧ Below w.heap.size w w' := by
 have C := Lib.hid (ts_Replace s w hs hG)
 have hsz : (escT s.data.toList).length ≤ 8589934560 := by
  have h1 := esc_len s.data.toList
  have h2 := dlen s
  omega
 have hfit : ¬ 9223372036854775807 < (⟨(escT s.data.toList).toArray⟩ : ByteArray).size + 2 := by simp [ByteArray.size]; omega
 have hF : Hid ((⟨(escT s.data.toList).toArray⟩ : ByteArray) ++ ⟨#[0, 0]⟩ = frontB s) := Lib.hid (key_ext (by simp [frontB]))
 generalize (⟨(escT s.data.toList).toArray⟩ : ByteArray) = f at *
 clear hs hG hsz
 go_enter Tryz.func95, Tryz.ntmps95
 go_wp2_with fail
 refine C.out.mono ?_
 rintro e w2 ⟨rfl, hb⟩
 go_wp2_with fail
 go_ret
 exact ⟨by rw [← hF.out]; rfl, hb⟩
set_option maxRecDepth 100000 in
set_option maxHeartbeats 2000000 in
theorem ts_Key (x : ByteArray) (s : Sv) (w : World) (hl : s.l.size ≤ 9223372036854775807) (hG : Glob w) :
 Calls Tryz.prog 47 #[.string x, .agg #[.int .i64 s.g, .int .i64 s.r, .string s.l, .int .i64 s.n, .int .i64 s.i]] w fun e w' =>
  e = .returned (if okV (s, x) = true then .tuple #[.string (tagK (s, x)), .int .i64 0] else .tuple #[.string ⟨#[]⟩, .int .i64 2]) ∧ Below w.heap.size w w' := by
 obtain ⟨ok, hok⟩ : ∃ b, s.ok = b := ⟨_, rfl⟩
 obtain ⟨ft, hft⟩ : ∃ b, decide (x.size ≤ 256) = b := ⟨_, rfl⟩
 have hOK : okV (s, x) = (ok && ft) := by rw [← hok, ← hft]; rfl
 have HT : Hid (frontB x ++ keyB s.st = tagK (s, x)) := Lib.hid (tag_front (s, x))
 have b1 := below_new w (.cells #[.int .i64 s.g, .int .i64 s.r, .string s.l, .int .i64 s.n, .int .i64 s.i] 43)
 have G1 := Lib.hid (hG.below b1)
 have C := Lib.hid (stp_Key s (w.alloc (.cells #[.int .i64 s.g, .int .i64 s.r, .string s.l, .int .i64 s.n, .int .i64 s.i] 43)) hl)
 have FT := Lib.hid (fun w' => ts_fits x w')
 have FR := Lib.hid (fun w' (h : ft = true) (hG : Glob w') => ts_front x w' (by have h2 := hft.trans h; simp at h2; omega) hG)
 have hsz : ok = true → ft = true → ¬ 9223372036854775807 < (frontB x).size + (keyB s.st).size := by
  intro h1 h2
  have h3 := key_size (hok.trans h1)
  have h4 : (frontB x).size = (escT x.data.toList).length + 2 := by simp [frontB, ByteArray.size]
  have h5 := esc_len x.data.toList
  have h6 := dlen x
  have h7 := hft.trans h2
  simp at h7
  omega
 have HSZ := Lib.hid hsz
 rw [hOK]
 rw [hok] at C
 rw [hft] at FT
 have B1 := Lib.hid b1
 clear b1 hG hok hft hOK hsz
 go_enter Tryz.func47, Tryz.ntmps47
 go_wp2_with fail
 refine C.out.mono ?_
 rintro e w2 ⟨rfl, hb⟩
 have B2 := Lib.hid (B1.out.trans (hb.mono B1.out.size))
 have G2 := Lib.hid (G1.out.below hb)
 clear hb
 cases ok with
 | false =>
  simp only [Bool.false_and, Bool.false_eq_true, if_false]
  go_wp2_with fail
  go_ret2
  exact ⟨rfl, B2.out⟩
 | true =>
  simp only [Bool.true_and, if_true]
  go_wp2_with fail
  refine (FT.out _).mono ?_
  rintro e _ ⟨rfl, rfl⟩
  cases ft with
  | false =>
   simp only [Bool.false_eq_true, if_false]
   go_wp2_with fail
   go_ret2
   exact ⟨rfl, B2.out⟩
  | true =>
   have hz := HSZ.out (by simp) (by simp)
   generalize frontB x = fr at *
   generalize keyB s.st = kb at *
   simp only [if_true]
   go_wp2_with fail
   refine (FR.out _ (by simp) G2.out).mono ?_
   rintro e w3 ⟨rfl, hb⟩
   go_wp2_with fail
   go_ret2
   exact ⟨by rw [← HT.out]; rfl, B2.out.trans (hb.mono B2.out.size)⟩
end Go.Proofs.YtjlliohjeiclaaaGreatDoor
namespace Go.Proofs.YtjlliohjeiclaaaGreatDoor
open Go.RowKit St Pm
def elO : Option Ev → Value
 | none => .tuple #[.agg #[.int .i64 0, .int .i64 0, .string ⟨#[]⟩, .int .i64 0, .int .i64 0, .string ⟨#[]⟩], .bool false]
 | some e => .tuple #[.agg #[.int .i64 e.1.g, .int .i64 e.1.r, .string e.1.l, .int .i64 e.1.n, .int .i64 e.1.i, .string e.2], .bool true]
theorem el_one6 (g r n i : Int) (l x : ByteArray) : (#[.int .i64 g, .int .i64 r, .string l, .int .i64 n, .int .i64 i, .string x] : Array Value).all (·.oneCell') = true := by simp [Value.oneCell']
theorem drop_two {L : List UInt8} {i : Nat} (h : i + 1 < L.length) : L.drop i = L.getD i 0 :: L.getD (i + 1) 0 :: L.drop (i + 2) ∧ L.drop (i + 1) = L.getD (i + 1) 0 :: L.drop (i + 2) := by
 have h1 : L.drop (i + 1) = L.getD (i + 1) 0 :: L.drop (i + 2) := by
  rw [List.drop_eq_getElem_cons h, List.getD_eq_getElem?_getD, List.getElem?_eq_getElem h]; rfl
 refine ⟨?_, h1⟩
 rw [List.drop_eq_getElem_cons (by omega), h1, List.getD_eq_getElem?_getD, List.getD_eq_getElem?_getD, List.getElem?_eq_getElem (by omega : i < L.length)]; rfl
theorem u8_zero {c : UInt8} (h : (c.toNat : Int) = 0) : c = 0 := UInt8.toNat_inj.1 (show c.toNat = 0 by omega)
theorem u8_one {c : UInt8} (h : (c.toNat : Int) = 1) : c = 1 := UInt8.toNat_inj.1 (show c.toNat = 1 by omega)
theorem decA_few {acc L : List UInt8} (h : L.length ≤ 1) : decA acc L = none := by
 match L, h with
 | [], _ => rw [decA]
 | [_], _ => rw [decA]
set_option maxRecDepth 100000 in
set_option maxHeartbeats 4000000 in
theorem ts_OfKey (k : ByteArray) (w : World) (hs : k.size ≤ 70368744177663) : Calls Tryz.prog 69 #[.string k] w fun e w' => e = .returned (elO (ofT k)) ∧ Below w.heap.size w w' := by
 have BT := Lib.hid u8T
 have E0 : Hid (decA [] k.data.toList = none → elO (ofT k) = .tuple #[.agg #[.int .i64 0, .int .i64 0, .string ⟨#[]⟩, .int .i64 0, .int .i64 0, .string ⟨#[]⟩], .bool false]) := Lib.hid (fun h => by unfold ofT; rw [h]; rfl)
 have E1 : Hid (∀ t r, decA [] k.data.toList = some (t, r) → ofK ⟨r.toArray⟩ = none → elO (ofT k) = .tuple #[.agg #[.int .i64 0, .int .i64 0, .string ⟨#[]⟩, .int .i64 0, .int .i64 0, .string ⟨#[]⟩], .bool false]) := Lib.hid (fun t r h h2 => by unfold ofT; rw [h]; simp only [h2]; rfl)
 have E2 : Hid (∀ t r s, decA [] k.data.toList = some (t, r) → ofK ⟨r.toArray⟩ = some s → ¬ t.length ≤ 256 → elO (ofT k) = .tuple #[.agg #[.int .i64 0, .int .i64 0, .string ⟨#[]⟩, .int .i64 0, .int .i64 0, .string ⟨#[]⟩], .bool false]) := Lib.hid (fun t r s h h2 h3 => by unfold ofT; rw [h]; simp only [h2]; rw [if_neg h3]; rfl)
 have E3 : Hid (∀ t r s, decA [] k.data.toList = some (t, r) → ofK ⟨r.toArray⟩ = some s → t.length ≤ 256 → elO (ofT k) = .tuple #[.agg #[.int .i64 s.g, .int .i64 s.r, .string s.l, .int .i64 s.n, .int .i64 s.i, .string ⟨t.toArray⟩], .bool true]) := Lib.hid (fun t r s h h2 h3 => by unfold ofT; rw [h]; simp only [h2]; rw [if_pos h3]; rfl)
 generalize elO (ofT k) = out at *
 have x1 := heap_alloc_new w (.cells #[.int .i64 0, .int .i64 0, .string ⟨#[]⟩, .int .i64 0, .int .i64 0, .string ⟨#[]⟩] 53)
 have b1 := below_new w (.cells #[.int .i64 0, .int .i64 0, .string ⟨#[]⟩, .int .i64 0, .int .i64 0, .string ⟨#[]⟩] 53)
 have hz : (w.alloc (.cells #[.int .i64 0, .int .i64 0, .string ⟨#[]⟩, .int .i64 0, .int .i64 0, .string ⟨#[]⟩] 53)).heap.size = w.heap.size + 1 := by simp
 go_enter Tryz.func69, Tryz.ntmps69
 go_upto_region 1 with (fail)
 generalize w.alloc (.cells #[.int .i64 0, .int .i64 0, .string ⟨#[]⟩, .int .i64 0, .int .i64 0, .string ⟨#[]⟩] 53) = W at *
 obtain ⟨z, hzz⟩ : ∃ z, w.heap.size = z := ⟨_, rfl⟩
 rw [hzz] at x1 b1 hz ⊢
 have X1 := Lib.hid x1
 have B1 := Lib.hid b1
 have HLK := Lib.hid (dlen k)
 clear x1 b1
 go_step3
 go_wp2_with fail
 go_step3
 go_wp2_with fail
 go_loopw [4, 5] (fun tv iv wr => ∃ (i : Nat) (T : List UInt8), iv = .int .i64 (i : Int) ∧ i ≤ k.size ∧ T.length ≤ i ∧ Hid (wr.ownsRow (z + 1) 5 1 tv T.length (bvs T)) ∧ Hid (Below (z + 1) W wr) ∧ Hid (decA T (k.data.toList.drop i) = decA [] k.data.toList)) (fun _ iv _ => k.size - (intOf iv).toNat)
 case atStart => exact ⟨0, [], rfl, Nat.zero_le _, Nat.le_refl _, Lib.hid ⟨rfl, Or.inl ⟨rfl, rfl⟩⟩, Lib.hid (Below.refl _ _), Lib.hid (by rw [List.drop_zero])⟩
 case round =>
  obtain ⟨i, T, rfl, hi, hTi, HO, HB, HD⟩ := hrel
  have hws : z + 1 ≤ wr.heap.size := by have := HB.out.size; omega
  have Y1 : Hid (wr.heap[z]? = some (.cells #[.int .i64 0, .int .i64 0, .string ⟨#[]⟩, .int .i64 0, .int .i64 0, .string ⟨#[]⟩] 53 (0, 0))) := Lib.hid ((HB.out.block z (by omega)).trans X1.out)
  have BW : Hid (Below z w wr) := Lib.hid (B1.out.trans (HB.out.mono (by omega)))
  by_cases hlt : i + 1 < k.size
  · have hlti : (i : Int) + 1 < (k.size : Int) := by omega
    have hLl : i + 1 < k.data.toList.length := by rw [HLK.out]; exact hlt
    obtain ⟨hd1, hd2⟩ := drop_two hLl
    have IX := Lib.hid (fun w' => ix_str (P := Tryz.prog) w' 9 Tryz.underlying9 k i (i : Int) rfl (by omega))
    have IY := Lib.hid (fun w' => ix_str (P := Tryz.prog) w' 9 Tryz.underlying9 k (i + 1) ((i : Int) + 1) (by omega) (by omega))
    obtain ⟨c, hc⟩ : ∃ c, k.data.toList.getD i 0 = c := ⟨_, rfl⟩
    obtain ⟨d, hd⟩ : ∃ d, k.data.toList.getD (i + 1) 0 = d := ⟨_, rfl⟩
    rw [hc, hd] at hd1
    rw [hd] at hd2
    rw [hc] at IX
    rw [hd] at IY
    have HD1 := Lib.hid hd1
    have HD2 := Lib.hid hd2
    clear hd1 hd2 hc hd hLl
    have hwi : IntKind.i64.wrap ((i : Int) + 1) = (i : Int) + 1 := by rw [IntKind.wrap_i64]; omega
    by_cases hc0 : c = 0
    · subst hc0
      rw [show (((0 : UInt8).toNat : Nat) : Int) = 0 from rfl] at IX
      have HDN := HD.out
      rw [HD1.out, decA, if_neg (by simp)] at HDN
      by_cases hd1 : d = 1
      · subst hd1
        rw [show (((1 : UInt8).toNat : Nat) : Int) = 1 from rfl] at IY
        rw [if_pos rfl] at HDN
        have HDM := Lib.hid HDN
        have ix := IX.out wr
        have iy := IY.out wr
        clear HDN
        go_wp2_with (at_builtin; go_must (refine wpList_appb rfl _ _ 113 113 rfl (z + 1) 5 BT.out _ T rfl (HO.out.alloc _) _ [0] rfl (src_one Tryz.underlying113 _ 5 0 _ (by rfl)) (by simp; omega) (by simp; omega) ?_); go_must (intro v6 w6 hown _ hbel _))
        have HO6 := Lib.hid hown
        have HB6 := Lib.hid ((HB.out.alloc (by simpa using hws) _).trans hbel)
        clear hown hbel ix iy
        go_wp2_with fail
        go_roundw
        case rel => exact ⟨i + 2, T ++ [0], by go_num, by omega, by simp; omega, HO6, HB6, HDM⟩
        case measure => simp [intOf]; omega
      · rw [if_neg hd1] at HDN
        have hd1i : ((d.toNat : Int) == 1) = false := by
         exact beq_eq_false_iff_ne.2 fun e => hd1 (u8_one e)
        by_cases hd0 : d = 0
        · subst hd0
          rw [show (((0 : UInt8).toNat : Nat) : Int) = 0 from rfl] at IY
          rw [if_pos rfl] at HDN
          have HDM := Lib.hid HDN.symm
          have SF := Lib.hid (fun w' => sl_from (P := Tryz.prog) w' 9 Tryz.underlying9 k (i + 2) ((i : Int) + 2) (by omega) (by omega))
          have hme : (k.extract (i + 2) k.size) = ⟨(k.data.toList.drop (i + 2)).toArray⟩ := key_ext (by
           have := dlen k
           simp [List.take_of_length_le])
          obtain ⟨m, hm⟩ : ∃ m, k.extract (i + 2) k.size = m := ⟨_, rfl⟩
          have hmz : m.size ≤ 9223372036854775807 := by have := ext_size k (i + 2) k.size; rw [hm] at this; omega
          rw [hm] at SF hme
          have HME := Lib.hid hme
          clear hme hm
          obtain ⟨ta, tc, htv, _⟩ := own_slice HO.out
          subst htv
          have BY := Lib.hid (own_bytes HO.out)
          have HTS : Hid ((⟨T.toArray⟩ : ByteArray).size = T.length) := Lib.hid (by simp [ByteArray.size])
          have hwj : IntKind.i64.wrap ((i : Int) + 2) = (i : Int) + 2 := by rw [IntKind.wrap_i64]; omega
          have ix := IX.out wr
          have iy := IY.out wr
          have sf := SF.out wr
          go_wp2_with fail
          refine (stp_OfKey m wr hmz).mono ?_
          rintro e w2 ⟨rfl, hb⟩
          have HB2 := Lib.hid hb
          have hws2 : z + 1 ≤ w2.heap.size := Nat.le_trans hws hb.size
          clear hb ix iy sf
          cases hok : ofK m with
          | none =>
           have EF := Lib.hid (E1.out _ _ HDM.out (by rw [← HME.out]; exact hok))
           simp only [stO]
           have YF : Hid ((w2.alloc (.cells #[.int .i64 0, .int .i64 0, .string ⟨#[]⟩, .int .i64 0, .int .i64 0] 43)).heap[z]? = some (.cells #[.int .i64 0, .int .i64 0, .string ⟨#[]⟩, .int .i64 0, .int .i64 0, .string ⟨#[]⟩] 53 (0, 0))) := Lib.hid (boxStays (boxStays Y1.out HB2.out) (below_new _ _))
           have BF : Hid (Below z w (w2.alloc (.cells #[.int .i64 0, .int .i64 0, .string ⟨#[]⟩, .int .i64 0, .int .i64 0] 43))) := Lib.hid ((BW.out.trans (HB2.out.mono (by omega))).alloc (by omega) _)
           clear hok
           go_wp2_with (refine wpList_store_row rfl 53 (.tmp 2) (.tmp 63) rfl z #[.int .i64 0, .int .i64 0, .string ⟨#[]⟩, .int .i64 0, .int .i64 0, .string ⟨#[]⟩] rfl rfl 53 _ YF.out (by kernel_rfl) rfl (el_one6 _ _ _ _ _ _) ?_)
           have Y := setRow_heap _ z _ #[.int .i64 0, .int .i64 0, .string ⟨#[]⟩, .int .i64 0, .int .i64 0, .string ⟨#[]⟩] _ _ YF.out
           have q0 := cell_of_row _ _ 0 _ _ _ Y
           have q1 := cell_of_row _ _ 1 _ _ _ Y
           have q2 := cell_of_row _ _ 2 _ _ _ Y
           have q3 := cell_of_row _ _ 3 _ _ _ Y
           have q4 := cell_of_row _ _ 4 _ _ _ Y
           have q5 := cell_of_row _ _ 5 _ _ _ Y
           try rw [Exit.noGoto_ret]
           try show bodyPost _ _ _ _ _ _
           refine bodyPost_ret (v := .tuple #[.agg #[.int .i64 0, .int .i64 0, .string ⟨#[]⟩, .int .i64 0, .int .i64 0, .string ⟨#[]⟩], .bool false]) (by simp [results, Tryz.results69, go_sem, q0, q1, q2, q3, q4, q5]) rfl ?_
           exact ⟨by rw [EF.out], by rw [hzz]; exact below_setRow BF.out (Nat.le_refl _) _⟩
          | some s =>
           have hok2 : ofK ⟨(k.data.toList.drop (i + 2)).toArray⟩ = some s := by rw [← HME.out]; exact hok
           have EE := Lib.hid (E2.out _ _ s HDM.out hok2)
           have EG := Lib.hid (E3.out _ _ s HDM.out hok2)
           simp only [stO, stA]
           have YF : Hid ((w2.alloc (.cells #[.int .i64 s.g, .int .i64 s.r, .string s.l, .int .i64 s.n, .int .i64 s.i] 43)).heap[z]? = some (.cells #[.int .i64 0, .int .i64 0, .string ⟨#[]⟩, .int .i64 0, .int .i64 0, .string ⟨#[]⟩] 53 (0, 0))) := Lib.hid (boxStays (boxStays Y1.out HB2.out) (below_new _ _))
           have BF : Hid (Below z w (w2.alloc (.cells #[.int .i64 s.g, .int .i64 s.r, .string s.l, .int .i64 s.n, .int .i64 s.i] 43))) := Lib.hid ((BW.out.trans (HB2.out.mono (by omega))).alloc (by omega) _)
           have hx3 := heap_alloc_new w2 (.cells #[.int .i64 s.g, .int .i64 s.r, .string s.l, .int .i64 s.n, .int .i64 s.i] 43)
           have hby := (BY.out.below HB2.out rfl).below (below_new w2 (.cells #[.int .i64 s.g, .int .i64 s.r, .string s.l, .int .i64 s.n, .int .i64 s.i] 43)) rfl
           clear hok hok2
           go_upto_region 6 with (fail)
           generalize w2.alloc (.cells #[.int .i64 s.g, .int .i64 s.r, .string s.l, .int .i64 s.n, .int .i64 s.i] 43) = w3 at *
           obtain ⟨y, hy⟩ : ∃ y, w2.heap.size = y := ⟨_, rfl⟩
           rw [hy] at hx3 ⊢
           have hcv : (convert 113 9 (.slice ta T.length tc)).run Tryz.prog w3 = .ok (.string ⟨T.toArray⟩) w3 := conv_bytes (P := Tryz.prog) (l := T) hby 113 5 9 Tryz.underlying113 Tryz.underlying5 Tryz.underlying9 T.length tc rfl
           go_wp2_with fail
           refine (ts_fits _ _).mono ?_
           rintro e _ ⟨rfl, rfl⟩
           by_cases hf : T.length ≤ 256
           · rw [decide_eq_true (by rw [HTS.out]; exact hf)]
             have EF := Lib.hid (EG.out hf)
             have s0 := cell_of_row _ _ 0 _ _ _ hx3
             have s1 := cell_of_row _ _ 1 _ _ _ hx3
             have s2 := cell_of_row _ _ 2 _ _ _ hx3
             have s3 := cell_of_row _ _ 3 _ _ _ hx3
             have s4 := cell_of_row _ _ 4 _ _ _ hx3
             clear hf
             go_wp2_with (refine wpList_store_row rfl 53 (.tmp 2) (.tmp 34) rfl z #[.int .i64 s.g, .int .i64 s.r, .string s.l, .int .i64 s.n, .int .i64 s.i, .string ⟨T.toArray⟩] rfl rfl 53 _ YF.out (by kernel_rfl) rfl (el_one6 _ _ _ _ _ _) ?_)
             have Y := setRow_heap _ z _ #[.int .i64 s.g, .int .i64 s.r, .string s.l, .int .i64 s.n, .int .i64 s.i, .string ⟨T.toArray⟩] _ _ YF.out
             have q0 := cell_of_row _ _ 0 _ _ _ Y
             have q1 := cell_of_row _ _ 1 _ _ _ Y
             have q2 := cell_of_row _ _ 2 _ _ _ Y
             have q3 := cell_of_row _ _ 3 _ _ _ Y
             have q4 := cell_of_row _ _ 4 _ _ _ Y
             have q5 := cell_of_row _ _ 5 _ _ _ Y
             try rw [Exit.noGoto_ret]
             try show bodyPost _ _ _ _ _ _
             refine bodyPost_ret (v := .tuple #[.agg #[.int .i64 s.g, .int .i64 s.r, .string s.l, .int .i64 s.n, .int .i64 s.i, .string ⟨T.toArray⟩], .bool true]) (by simp [results, Tryz.results69, go_sem, q0, q1, q2, q3, q4, q5]) rfl ?_
             exact ⟨by rw [EF.out], by rw [hzz]; exact below_setRow BF.out (Nat.le_refl _) _⟩
           · rw [decide_eq_false (by rw [HTS.out]; exact hf)]
             have EF := Lib.hid (EE.out hf)
             clear hf
             go_wp2_with (refine wpList_store_row rfl 53 (.tmp 2) (.tmp 63) rfl z #[.int .i64 0, .int .i64 0, .string ⟨#[]⟩, .int .i64 0, .int .i64 0, .string ⟨#[]⟩] rfl rfl 53 _ YF.out (by kernel_rfl) rfl (el_one6 _ _ _ _ _ _) ?_)
             have Y := setRow_heap _ z _ #[.int .i64 0, .int .i64 0, .string ⟨#[]⟩, .int .i64 0, .int .i64 0, .string ⟨#[]⟩] _ _ YF.out
             have q0 := cell_of_row _ _ 0 _ _ _ Y
             have q1 := cell_of_row _ _ 1 _ _ _ Y
             have q2 := cell_of_row _ _ 2 _ _ _ Y
             have q3 := cell_of_row _ _ 3 _ _ _ Y
             have q4 := cell_of_row _ _ 4 _ _ _ Y
             have q5 := cell_of_row _ _ 5 _ _ _ Y
             try rw [Exit.noGoto_ret]
             try show bodyPost _ _ _ _ _ _
             refine bodyPost_ret (v := .tuple #[.agg #[.int .i64 0, .int .i64 0, .string ⟨#[]⟩, .int .i64 0, .int .i64 0, .string ⟨#[]⟩], .bool false]) (by simp [results, Tryz.results69, go_sem, q0, q1, q2, q3, q4, q5]) rfl ?_
             exact ⟨by rw [EF.out], by rw [hzz]; exact below_setRow BF.out (Nat.le_refl _) _⟩
        · rw [if_neg hd0] at HDN
          have hgt : (1 : Int) < (d.toNat : Int) := by
           have h1 : ¬ (d.toNat : Int) = 0 := fun e => hd0 (u8_zero e)
           have h2 : ¬ (d.toNat : Int) = 1 := fun e => hd1 (u8_one e)
           omega
          have EF := Lib.hid (E0.out HDN.symm)
          have YF := Y1
          have BF := BW
          generalize (d.toNat : Int) = dn at *
          have ix := IX.out wr
          have iy := IY.out wr
          clear HDN
          go_wp2_with (refine wpList_store_row rfl 53 (.tmp 2) (.tmp 63) rfl z #[.int .i64 0, .int .i64 0, .string ⟨#[]⟩, .int .i64 0, .int .i64 0, .string ⟨#[]⟩] rfl rfl 53 _ YF.out (by kernel_rfl) rfl (el_one6 _ _ _ _ _ _) ?_)
          have Y := setRow_heap _ z _ #[.int .i64 0, .int .i64 0, .string ⟨#[]⟩, .int .i64 0, .int .i64 0, .string ⟨#[]⟩] _ _ YF.out
          have q0 := cell_of_row _ _ 0 _ _ _ Y
          have q1 := cell_of_row _ _ 1 _ _ _ Y
          have q2 := cell_of_row _ _ 2 _ _ _ Y
          have q3 := cell_of_row _ _ 3 _ _ _ Y
          have q4 := cell_of_row _ _ 4 _ _ _ Y
          have q5 := cell_of_row _ _ 5 _ _ _ Y
          try rw [Exit.noGoto_ret]
          try show bodyPost _ _ _ _ _ _
          refine bodyPost_ret (v := .tuple #[.agg #[.int .i64 0, .int .i64 0, .string ⟨#[]⟩, .int .i64 0, .int .i64 0, .string ⟨#[]⟩], .bool false]) (by simp [results, Tryz.results69, go_sem, q0, q1, q2, q3, q4, q5]) rfl ?_
          exact ⟨by rw [EF.out], by rw [hzz]; exact below_setRow BF.out (Nat.le_refl _) _⟩
    · have hci : ((c.toNat : Int) != 0) = true := by
       exact bne_iff_ne.2 fun e => hc0 (u8_zero e)
      have HDN := HD.out
      rw [HD1.out, decA, if_pos hc0, ← HD2.out] at HDN
      have HDM := Lib.hid HDN
      have ix := IX.out wr
      clear HDN
      go_wp2_with (at_builtin; go_must (refine wpList_appb rfl _ _ 113 113 rfl (z + 1) 5 BT.out _ T rfl (HO.out.alloc _) _ [c] rfl (src_one Tryz.underlying113 _ 5 c _ (by rfl)) (by simp; omega) (by simp; omega) ?_); go_must (intro v6 w6 hown _ hbel _))
      have HO6 := Lib.hid hown
      have HB6 := Lib.hid ((HB.out.alloc (by simpa using hws) _).trans hbel)
      clear hown hbel ix
      go_wp2_with fail
      go_roundw
      case rel => exact ⟨i + 1, T ++ [c], by go_num, by omega, by simp; omega, HO6, HB6, HDM⟩
      case measure => simp [intOf]; omega
  · have hlti : ¬ (i : Int) + 1 < (k.size : Int) := by omega
    have HDN := HD.out
    rw [decA_few (by rw [List.length_drop, HLK.out]; omega)] at HDN
    have EF := Lib.hid (E0.out HDN.symm)
    have YF := Y1
    have BF := BW
    clear HDN
    go_wp2_with (refine wpList_store_row rfl 53 (.tmp 2) (.tmp 63) rfl z #[.int .i64 0, .int .i64 0, .string ⟨#[]⟩, .int .i64 0, .int .i64 0, .string ⟨#[]⟩] rfl rfl 53 _ YF.out (by kernel_rfl) rfl (el_one6 _ _ _ _ _ _) ?_)
    have Y := setRow_heap _ z _ #[.int .i64 0, .int .i64 0, .string ⟨#[]⟩, .int .i64 0, .int .i64 0, .string ⟨#[]⟩] _ _ YF.out
    have q0 := cell_of_row _ _ 0 _ _ _ Y
    have q1 := cell_of_row _ _ 1 _ _ _ Y
    have q2 := cell_of_row _ _ 2 _ _ _ Y
    have q3 := cell_of_row _ _ 3 _ _ _ Y
    have q4 := cell_of_row _ _ 4 _ _ _ Y
    have q5 := cell_of_row _ _ 5 _ _ _ Y
    try rw [Exit.noGoto_ret]
    try show bodyPost _ _ _ _ _ _
    refine bodyPost_ret (v := .tuple #[.agg #[.int .i64 0, .int .i64 0, .string ⟨#[]⟩, .int .i64 0, .int .i64 0, .string ⟨#[]⟩], .bool false]) (by simp [results, Tryz.results69, go_sem, q0, q1, q2, q3, q4, q5]) rfl ?_
    exact ⟨by rw [EF.out], by rw [hzz]; exact below_setRow BF.out (Nat.le_refl _) _⟩
end Go.Proofs.YtjlliohjeiclaaaGreatDoor
namespace Go.Proofs.YtjlliohjeiclaaaGreatDoor
open Go.RowKit St Pm
def encT (e : Ev) : ByteArray × ByteArray := (tagK e, e.2)
def goodT (p : ByteArray × ByteArray) : Bool := match ofT p.1 with
 | some e => decide (e.2 = p.2)
 | none => false
def decT (p : ByteArray × ByteArray) : Ev := (ofT p.1).getD (⟨0, 0, ⟨#[]⟩, 0, 0⟩, ⟨#[]⟩)
theorem goodT_none {k v : ByteArray} (h : ofT k = none) : goodT (k, v) = false := by unfold goodT; rw [show (k, v).1 = k from rfl, h]
theorem goodT_some {k v : ByteArray} {e : Ev} (h : ofT k = some e) : goodT (k, v) = decide (e.2 = v) ∧ decT (k, v) = e := by
 unfold goodT decT
 rw [show (k, v).1 = k from rfl, h]
 exact ⟨rfl, rfl⟩
theorem goodT_enc {e : Ev} (h : okV e = true) : goodT (encT e) = true ∧ decT (encT e) = e := by
 have h1 := goodT_some (v := e.2) (ofT_tag h)
 unfold encT
 exact ⟨by rw [h1.1]; simp, h1.2⟩
theorem goodT_iff {p : ByteArray × ByteArray} (h : goodT p = true) : okV (decT p) = true ∧ p = encT (decT p) := by
 obtain ⟨k, v⟩ := p
 cases ho : ofT k with
 | none => rw [goodT_none ho] at h; cases h
 | some e =>
  obtain ⟨h1, h2⟩ := goodT_some (v := v) ho
  obtain ⟨h3, h4⟩ := ofT_some ho
  rw [h1] at h
  rw [h2]
  refine ⟨h3, ?_⟩
  have := of_decide_eq_true h
  unfold encT
  rw [← h4, this]
structure Tag (l : List Ev) (t : Tr ByteArray) : Prop where
 bal : Bal t
 it : items t = l.map encT
 ok : ∀ x ∈ l, okV x = true
 srt : Srt (items t)
theorem Tag.len {l : List Ev} {t : Tr ByteArray} (h : Tag l t) : sz t = l.length := by rw [← sz_items, h.it, List.length_map]
theorem Tag.good {l : List Ev} {t : Tr ByteArray} (h : Tag l t) : (items t).all goodT = true := by
 rw [h.it, List.all_eq_true]
 intro p hp
 obtain ⟨x, hx, rfl⟩ := List.mem_map.1 hp
 exact (goodT_enc (h.ok x hx)).1
theorem Tag.dec {l : List Ev} {t : Tr ByteArray} (h : Tag l t) : (items t).map decT = l := by
 rw [h.it, List.map_map]
 conv => rhs; rw [← List.map_id l]
 exact List.map_congr_left fun x hx => (goodT_enc (h.ok x hx)).2
theorem tag_size {e : Ev} (h : okV e = true) : (tagK e).size ≤ 545 := by
 obtain ⟨h1, h2⟩ := okV_iff.1 h
 have h3 := key_size h1
 have h4 : (keyB e.1.st).size = e.1.st.key.length := by unfold keyB; simp [ByteArray.size]
 have h5 := esc_len e.2.data.toList
 have h6 := dlen e.2
 have h7 : (tagK e).size = (escT e.2.data.toList).length + (2 + e.1.st.key.length) := by unfold tagK; simp [ByteArray.size]; omega
 omega
theorem tag_nil : Tag [] .nil := ⟨trivial, rfl, fun x hx => (by cases hx), List.Pairwise.nil⟩
def ltT (a b : Ev) : Bool := klt a.2 b.2 || (decide (a.2 = b.2) && a.1.st.lt b.1.st)
theorem ltT_key {a b : Ev} (ha : okV a = true) (hb : okV b = true) : klt (tagK a) (tagK b) = ltT a b := tag_lt (okV_iff.1 ha).1 (okV_iff.1 hb).1
def insT (x : Ev) : List Ev → List Ev
 | [] => [x]
 | y :: l => if ltT x y = true then x :: y :: l else if ltT y x = true then y :: insT x l else x :: l
theorem insT_enc {x : Ev} (hx : okV x = true) : ∀ {l : List Ev}, (∀ y ∈ l, okV y = true) → ins (tagK x) x.2 (l.map encT) = (insT x l).map encT
 | [], _ => rfl
 | y :: l, h => by
  have hy := h y List.mem_cons_self
  have ih := insT_enc hx (l := l) fun z hz => h z (List.mem_cons_of_mem _ hz)
  rw [List.map_cons]
  show ins (tagK x) x.2 ((tagK y, y.2) :: l.map encT) = _
  unfold ins insT
  rw [ltT_key hx hy, ltT_key hy hx]
  by_cases h1 : ltT x y = true
  · rw [if_pos h1, if_pos h1]; rfl
  · rw [if_neg h1, if_neg h1]
    by_cases h2 : ltT y x = true
    · rw [if_pos h2, if_pos h2, ih]; rfl
    · rw [if_neg h2, if_neg h2]; rfl
theorem insT_mem {x y : Ev} : ∀ {l : List Ev}, y ∈ insT x l → y = x ∨ y ∈ l
 | [], h => .inl (List.mem_singleton.1 h)
 | z :: l, h => by
  unfold insT at h
  split at h
  · exact List.mem_cons.1 h
  · split at h
    · rcases List.mem_cons.1 h with rfl | h
      · exact .inr List.mem_cons_self
      · exact (insT_mem h).imp_right (List.mem_cons_of_mem _)
    · rcases List.mem_cons.1 h with rfl | h
      · exact .inl rfl
      · exact .inr (List.mem_cons_of_mem _ h)
theorem insT_le (x : Ev) : ∀ l : List Ev, (insT x l).length ≤ l.length + 1
 | [] => by simp [insT]
 | y :: l => by
  have ih := insT_le x l
  unfold insT
  split
  · simp
  · split
    · simp; omega
    · simp
theorem tag_put {l : List Ev} {t t' : Tr ByteArray} {x : Ev} (h : Tag l t) (hx : okV x = true) (hB : Bal t') (hi : items t' = ins (tagK x) x.2 (items t)) : Tag (insT x l) t' :=
 ⟨hB, by rw [hi, h.it, insT_enc hx h.ok], fun y hy => (insT_mem hy).elim (fun e => by rw [e]; exact hx) (h.ok y), by rw [hi]; exact ins_srt h.srt⟩
def setT (L : List Ev) : List Ev := L.foldl (fun l x => insT x l) []
theorem setT_snoc (L : List Ev) (x : Ev) : setT (L ++ [x]) = insT x (setT L) := by unfold setT; rw [List.foldl_append]; rfl
theorem tag_front_lt (a : Ev) (x : ByteArray) : klt (tagK a) (frontB x) = klt a.2 x := by
 unfold klt
 rw [ByteArray.toList_eq, ByteArray.toList_eq, ByteArray.toList_eq, ByteArray.toList_eq]
 have h : (frontB x).data.toList = escT x.data.toList ++ 0 :: 0 :: [] := by simp [frontB]
 rw [h]
 unfold tagK
 simp only [List.toList_toArray]
 rw [bl_esc, bl_nil]
 simp
theorem while_filter {α : Type} (ge pre : α → Bool) : ∀ {l : List α}, (∀ p ∈ l, pre p = true → ge p = true) → l.Pairwise (fun p q => ge p = true → pre q = true → pre p = true) → (l.filter ge).takeWhile pre = l.filter pre
 | [], _, _ => rfl
 | p :: l, h1, h2 => by
  rw [List.pairwise_cons] at h2
  have ih := while_filter ge pre (l := l) (fun q hq => h1 q (List.mem_cons_of_mem _ hq)) h2.2
  cases hg : ge p with
  | true =>
   rw [List.filter_cons_of_pos hg]
   cases hp : pre p with
   | true => rw [List.takeWhile_cons_of_pos hp, ih, List.filter_cons_of_pos hp]
   | false =>
    rw [List.takeWhile_cons_of_neg (by rw [hp]; simp), List.filter_cons_of_neg (by rw [hp]; simp)]
    symm
    rw [List.filter_eq_nil_iff]
    intro q hq hqp
    have := h2.1 q hq hg hqp
    rw [hp] at this; cases this
  | false =>
   have hp : pre p = false := by
    cases hp : pre p with
    | false => rfl
    | true => rw [h1 p List.mem_cons_self hp] at hg; cases hg
   rw [List.filter_cons_of_neg (by rw [hg]; simp), List.filter_cons_of_neg (by rw [hp]; simp), ih]
def preT (x : ByteArray) (p : ByteArray × ByteArray) : Bool := Lib.hasPrefix p.1.data.toList (frontB x).data.toList
def tagsL (x : ByteArray) (t : Tr ByteArray) : List (ByteArray × ByteArray) := (fromL (frontB x) t).takeWhile (preT x)
def ofX (x : ByteArray) (e : Ev) : Bool := decide (e.2 = x)
theorem preT_enc (x : ByteArray) (e : Ev) : preT x (encT e) = ofX x e := by
 unfold preT ofX
 rw [← front_pre x e]
 unfold Lib.hasPrefix
 simp [frontB, encT]
theorem Tag.tags {l : List Ev} {t : Tr ByteArray} (h : Tag l t) (x : ByteArray) : tagsL x t = (l.filter (ofX x)).map encT := by
 unfold tagsL
 rw [fromL_filter _ _ h.srt]
 have hs := h.srt
 rw [h.it] at hs ⊢
 rw [while_filter, List.filter_map]
 · congr 1
   refine List.filter_congr fun e _ => ?_
   exact preT_enc x e
 · intro p hp hq
   obtain ⟨e, he, rfl⟩ := List.mem_map.1 hp
   rw [preT_enc] at hq
   have := of_decide_eq_true hq
   show (!klt (tagK e) (frontB x)) = true
   rw [tag_front_lt, this, klt_irrefl]; rfl
 · rw [List.pairwise_map]
   unfold Srt at hs
   rw [List.pairwise_map] at hs
   refine List.Pairwise.imp_of_mem (fun {a b} ha hb hab hg hq => ?_) hs
   rw [preT_enc] at hq ⊢
   have e1 := of_decide_eq_true hq
   have hg2 : klt a.2 x = false := by
    have : (!klt (tagK a) (frontB x)) = true := hg
    rw [tag_front_lt] at this
    simpa using this
   have h3 : ltT a b = true := by rw [← ltT_key (h.ok a ha) (h.ok b hb)]; exact hab
   unfold ltT at h3
   rw [e1, hg2] at h3
   simp only [Bool.false_or, Bool.and_eq_true] at h3
   exact h3.1
def delL (ks : List (ByteArray × ByteArray)) (l : List (ByteArray × ByteArray)) : List (ByteArray × ByteArray) := ks.foldl (fun m p => del p.1 m) l
theorem delL_filter : ∀ (ks l : List (ByteArray × ByteArray)), delL ks l = l.filter fun p => !(ks.any fun q => decide (q.1 = p.1))
 | [], l => by
  show l = _
  symm
  rw [List.filter_eq_self]
  intro p _; rfl
 | k :: ks, l => by
  have ih := delL_filter ks (del k.1 l)
  show delL ks (del k.1 l) = _
  rw [ih]
  unfold del
  rw [List.filter_filter]
  refine List.filter_congr fun p _ => ?_
  rw [List.any_cons]
  by_cases h : k.1 = p.1
  · simp [h]
  · have h2 : ¬ p.1 = k.1 := fun e => h e.symm
    simp [h, h2]
theorem Tag.del {l : List Ev} {t : Tr ByteArray} (h : Tag l t) (x : ByteArray) : delL (tagsL x t) (items t) = (l.filter fun e => !ofX x e).map encT := by
 rw [h.tags, delL_filter, h.it, List.filter_map]
 congr 1
 refine List.filter_congr fun e he => ?_
 show (!_) = !_
 congr 1
 rw [Bool.eq_iff_iff, List.any_map, List.any_eq_true]
 constructor
 · rintro ⟨y, hy, h1⟩
   obtain ⟨hy1, hy2⟩ := List.mem_filter.1 hy
   have h2 : tagK y = tagK e := of_decide_eq_true h1
   rw [← tag_inj (h.ok y hy1) (h.ok e he) h2]
   exact hy2
 · intro h1
   exact ⟨e, List.mem_filter.2 ⟨he, h1⟩, decide_eq_true rfl⟩
theorem tag_del {l : List Ev} {t t' : Tr ByteArray} {x : ByteArray} (h : Tag l t) (hB : Bal t') (hi : items t' = delL (tagsL x t) (items t)) : Tag (l.filter fun e => !ofX x e) t' := by
 refine ⟨hB, by rw [hi, h.del], fun y hy => h.ok y (List.mem_filter.1 hy).1, ?_⟩
 rw [hi, delL_filter]
 exact h.srt.sublist List.filter_sublist
end Go.Proofs.YtjlliohjeiclaaaGreatDoor
