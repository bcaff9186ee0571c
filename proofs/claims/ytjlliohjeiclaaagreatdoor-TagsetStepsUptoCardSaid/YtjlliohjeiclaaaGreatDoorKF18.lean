/- Words, contracts and walks that the proof stands on (Tail2 TgLs OpenC OpenG OpenT OpenY OpenX). -/
import Derived.Deep.DeepHandedRow
import Derived.Deep.DeepWitnessRowRef
import Derived.Deep.Grids
import Derived.Deep.Slices
import Derived.Lib.LaidIn
import Derived.Lib.LaidU8T
import Derived.OpenShut
import Derived.ProofKit
import Derived.Shelf.Vars
import Derived.SliceStrings
import Derived.Test.YtjlliohjeiclaaaGreatDoorCards
import Derived.Test.YtjlliohjeiclaaaGreatDoorKF1
import Derived.Test.YtjlliohjeiclaaaGreatDoorKF12
import Derived.Test.YtjlliohjeiclaaaGreatDoorKF15
import Derived.Test.YtjlliohjeiclaaaGreatDoorKF17
import Derived.Test.YtjlliohjeiclaaaGreatDoorKF2
import Derived.Test.YtjlliohjeiclaaaGreatDoorKF5
import Derived.Test.YtjlliohjeiclaaaGreatDoorKF6
import Derived.Test.YtjlliohjeiclaaaGreatDoorTie
namespace Go.Proofs.YtjlliohjeiclaaaGreatDoor
open Go.RowKit
section
variable {P : Program} {md : Region.Mode} {ops : Array Oper} {Q : Exit → Act → World → Prop} {S : World → Prop} {T : List Nat}
def Closed (md : Region.Mode) (ops : Array Oper) (listed : Array Bool) : Prop :=
 ∀ j oj, ops[j]? = some oj → listed.getD j false = true → ∀ e ∈ oj.after, Region.binds md e = true → listed.getD e.on false = true
theorem Closed.step {listed : Array Bool} (h : Closed md ops listed) {j : Nat} {oj : Oper} (hoj : ops[j]? = some oj) (hall : ∀ e ∈ oj.after, Region.binds md e = true → listed.getD e.on false = true) : Closed md ops (listed.setIfInBounds j true) := by
 intro k ok hok hk e he hb
 have h0 : listed.getD e.on false = true := by
  by_cases hjk : j = k
  · subst hjk; rw [hoj] at hok; cases hok; exact hall e he hb
  · rw [getD_set_ne false hjk] at hk; exact h k ok hok hk e he hb
 by_cases hje : j = e.on
 · rw [← hje] at h0 ⊢
   rcases Nat.lt_or_ge j listed.size with hlt | hge
   · simp [Array.getD, hlt]
   · simp [Array.getD, Nat.not_lt.2 hge] at h0
 · rw [getD_set_ne false hje]; exact h0
end
end Go.Proofs.YtjlliohjeiclaaaGreatDoor
namespace Go.Proofs.YtjlliohjeiclaaaGreatDoor
open Go.RowKit St Pm
structure StpT where
 k : Int
 x : ByteArray
 s : Sv
def stpTV (t : StpT) : List Value := [.int .i64 t.k, .string t.x, .int .i64 t.s.g, .int .i64 t.s.r, .string t.s.l, .int .i64 t.s.n, .int .i64 t.s.i]
def stpsTV (l : List StpT) : List Value := l.flatMap stpTV
structure StTCell (w : World) (b o : Nat) (t : StpT) : Prop where
 c0 : w.cell? ⟨b, o, none⟩ = some (.int .i64 t.k)
 c1 : w.cell? ⟨b, o + 1, none⟩ = some (.string t.x)
 c2 : w.cell? ⟨b, o + 2, none⟩ = some (.int .i64 t.s.g)
 c3 : w.cell? ⟨b, o + 3, none⟩ = some (.int .i64 t.s.r)
 c4 : w.cell? ⟨b, o + 4, none⟩ = some (.string t.s.l)
 c5 : w.cell? ⟨b, o + 5, none⟩ = some (.int .i64 t.s.n)
 c6 : w.cell? ⟨b, o + 6, none⟩ = some (.int .i64 t.s.i)
theorem stpsTV_get : ∀ (l : List StpT) (k r : Nat) (hk : k < l.length), r < 7 → (stpsTV l)[k * 7 + r]? = (stpTV l[k])[r]?
 | [], _, _, hk, _ => by simp at hk
 | t :: l, 0, r, _, hr => by
  rw [stpsTV, List.flatMap_cons, Nat.zero_mul, Nat.zero_add, List.getElem?_append_left (by simpa [stpTV] using hr)]
  rfl
 | t :: l, k + 1, r, hk, hr => by
  rw [stpsTV, List.flatMap_cons, List.getElem?_append_right (by simp [stpTV]; omega)]
  rw [show (k + 1) * 7 + r - (stpTV t).length = k * 7 + r by simp [stpTV]; omega]
  exact stpsTV_get l k r (by simpa using hk) hr
theorem stpT_get {w : World} {a : Option Addr} {l : List StpT} (h : CellsAt w a (stpsTV l)) (k : Nat) (hk : k < l.length) : ∃ b off, a = some ⟨b, off, none⟩ ∧ StTCell w b (off + k * 7) l[k] := by
 have g : ∀ j v, j < 7 → (stpTV l[k])[j]? = some v → ∃ b off, a = some ⟨b, off, none⟩ ∧ w.cell? ⟨b, off + (k * 7 + j), none⟩ = some v := fun j v hj hv => h.get _ v (by rw [stpsTV_get l k j hk hj, hv])
 obtain ⟨b, off, rfl, q0⟩ := g 0 _ (by omega) rfl
 have g2 : ∀ j v, j < 7 → (stpTV l[k])[j]? = some v → w.cell? ⟨b, off + k * 7 + j, none⟩ = some v := fun j v hj hv => by
  obtain ⟨_, _, e, q⟩ := g j v hj hv
  cases e
  rw [Nat.add_assoc]
  exact q
 exact ⟨b, off, rfl, g2 0 _ (by omega) rfl, g2 1 _ (by omega) rfl, g2 2 _ (by omega) rfl, g2 3 _ (by omega) rfl, g2 4 _ (by omega) rfl, g2 5 _ (by omega) rfl, g2 6 _ (by omega) rfl⟩
theorem stpsT_keepX {z : Nat} {A B : World} {a : Option Addr} {L : List StpT} {p : Option Addr} {T : TypeId} {fr : Nat × Nat} (h : CellsAt A a (stpsTV L)) (hk : KeepX (fun k _ => k = z) A B) (hx : A.heap[z]? = some (.cells #[.pointer p] T fr)) : CellsAt B a (stpsTV L) := by
 cases L with
 | nil => exact CellsAt.nil _ _
 | cons e L =>
  obtain ⟨ba, oa, rfl, ca⟩ := stpT_get h 0 (by simp)
  refine h.keepX hk fun ad had => ?_
  cases had
  show ba ≠ z
  rintro rfl
  have h1 := ca.c0
  rw [cell_of_row _ _ _ _ _ _ hx] at h1
  cases oa with
  | zero => simp at h1
  | succ oa => simp at h1
set_option maxRecDepth 100000 in
set_option maxHeartbeats 16000000 in
theorem law_TSteps (l : List Ev) (ws : List StpT) (a b : Option Addr) (n n2 c c2 : Nat) (w : World) (hl : CellsAt w a (elsV l)) (hn : n = l.length) (hb : n ≤ 9223372036854775807) (hs : ∀ e ∈ l, e.1.l.size ≤ 9223372036854775807)
 (hl2 : CellsAt w b (stpsTV ws)) (hn2 : n2 = ws.length) (hb2 : n2 ≤ 9223372036854775807) (hs2 : ∀ t ∈ ws, t.s.l.size ≤ 9223372036854775807) (hx2 : ∀ t ∈ ws, t.x.size ≤ 4294967280) (hG : Glob w) :
 Calls Tryz.prog 3 #[.slice a n c, .slice b n2 c2] w fun e w' => e = .returned (.bool true) ∧ Below w.heap.size w w' := by
 have HL := Lib.hid hl
 have HN := Lib.hid hn
 have HB := Lib.hid hb
 have HS := Lib.hid hs
 have HL2 := Lib.hid hl2
 have HN2 := Lib.hid hn2
 have HS2 := Lib.hid hs2
 have HX2 := Lib.hid hx2
 have HG := Lib.hid hG
 clear hl hn hs hl2 hn2 hs2 hx2 hG
 have HC : Hid (Chain [w] w) := Lib.hid (Chain.one w)
 go_enter Tryz.func3, Tryz.ntmps3
 by_cases q1 : 120 < n
 ·
  have q1i : (120 : Int) < (n : Int) := by omega
  go_wp2_with fail
  refine (known_11 _ (HG.out.below (HC.out.to w (by simp)))).mono ?_
  rintro e w1 ⟨rfl, hb⟩
  replace HC := Lib.hid (HC.out.push hb)
  clear hb
  go_wp2_with fail
  go_ret
  exact ⟨rfl, (HC.out.to w (by simp))⟩
 have q1i : ¬ (120 : Int) < (n : Int) := by omega
 have hn100 : n ≤ 100000 := by omega
 go_wp2_with fail
 refine (of_tag l _ n c _ (HL.out.below (HC.out.to w (by simp)) rfl) HN.out hn100 HS.out (HG.out.below (HC.out.to w (by simp)))).mono ?_
 rintro e w1 ⟨t0, ce, rfl, ht, hb, hP⟩
 replace HC := Lib.hid (HC.out.push hb)
 clear hb
 have T1 := Lib.hid ht
 clear ht
 go_upto_region 4 with (fail)
 have LW1 : Hid (w.heap.size ≤ w1.heap.size) := Lib.hid (HC.out.to w (by simp)).size
 obtain ⟨z, hz⟩ : ∃ c, w1.heap.size = c := ⟨_, rfl⟩
 try rw [hz]
 obtain ⟨w2, hw2⟩ : ∃ X, allocs w1 [.cells #[.pointer (pa t0)] 27] = X := ⟨_, rfl⟩
 rw [show w1.alloc (.cells #[.pointer (pa t0)] 27) = w2 from hw2]
 have hb : Below w1.heap.size w1 w2 := by rw [← hw2]; exact allocs_below _ _
 have HM : Hid (w2.heap[z]? = some (.cells #[.pointer (pa t0)] 27 (0, 0))) := Lib.hid (by have := allocs_get [.cells #[.pointer (pa t0)] 27] w1 0 _ rfl; rw [hw2, hz] at this; exact this)
 have Sz : Hid (w1.heap.size = z) := Lib.hid hz
 replace HC := Lib.hid (HC.out.push hb)
 clear hb hw2 hz
 have ZM2 : Hid (z < w2.heap.size) := Lib.hid (Array.getElem?_eq_some_iff.1 HM.out).1
 go_wp2_with fail
 refine (ref11_May l _ n c _ (HL.out.below (HC.out.to w (by simp)) rfl) HN.out HB.out HS.out).mono ?_
 rintro e w3 ⟨rfl, hb⟩
 replace HC := Lib.hid (HC.out.push hb)
 clear hb
 cases hm : mayV l
 case false =>
  obtain ⟨rfl, rfl⟩ : ce = 2 ∧ t0 = .nil := by
   rcases hP with ⟨h, _⟩ | ⟨_, h1, h2⟩
   · rw [hm] at h; cases h
   · exact ⟨h1, h2⟩
  clear hP hm
  go_wp2_with fail
  refine (num_11 2 _).mono ?_
  rintro e _ ⟨rfl, rfl⟩
  have kM0 := cell_of_one (boxStays HM.out (HC.out.to w2 (by simp)))
  go_wp2_with fail
  refine (pm_MLenS .nil _ trivial).mono ?_
  rintro e w4 ⟨rfl, hb⟩
  clear kM0
  replace HC := Lib.hid (HC.out.push hb)
  clear hb
  rw [show ((sz (Tr.nil : Tr ByteArray) : Nat) : Int) = 0 from rfl]
  go_wp2_with fail
  refine (known_11 _ (HG.out.below (HC.out.to w (by simp)))).mono ?_
  rintro e w5 ⟨rfl, hb⟩
  replace HC := Lib.hid (HC.out.push hb)
  clear hb
  go_wp2_with fail
  go_ret
  exact ⟨rfl, (HC.out.to w (by simp))⟩
 obtain ⟨rfl, hr⟩ : ce = 0 ∧ Tag (setT l) t0 := by
  rcases hP with ⟨_, h1, h2⟩ | ⟨h, _⟩
  · exact ⟨h1, h2⟩
  · rw [hm] at h; cases h
 have R0 := Lib.hid hr
 have EQ0 : Hid (sortV (setT l) = sortV l) := Lib.hid (tag_setT hm hr)
 have L0 : Hid (n = (setT l).length) := Lib.hid (by rw [← sortV_length (setT l), EQ0.out, sortV_length]; exact HN.out)
 clear hP hm hr
 have M3 := Lib.hid (boxStays HM.out (HC.out.to w2 (by simp)))
 have HL3 := Lib.hid (HL.out.below (HC.out.to w (by simp)) rfl)
 go_upto_region 6 with (fail)
 refine relG_start (slots := [35, 36, 37, 7, 8]) (so := [4]) (by kernel_rfl) (by kernel_rfl) (by rfl) ?_
 refine relG_pure (i := 0) (o := ⟨some 35, _, _, _, _, _⟩) (v := ?v1) [] [5] rfl rfl (by kernel_rfl) (by kernel_rfl) (fun t w1 hB hf hbf => ?y1) ?n1
 case y1 =>
  simp only [BasF] at hbf
  clear hf
  obtain ⟨⟨b5, k5⟩, _⟩ := hbf
  have m0 := cell_of_one (boxStays M3.out hB)
  refine Or.inl ⟨wanted_none rfl, ?_⟩
  rintro _ rfl
  go_simp <;> with_reducible rfl
 refine relG_pure (i := 1) (o := ⟨some 36, _, _, _, _, _⟩) (v := ?v2) [] [0] rfl rfl (by kernel_rfl) (by kernel_rfl) (fun t w1 hB hf hbf => ?y2) ?n2
 case y2 =>
  simp only [BasF] at hbf
  clear hf
  obtain ⟨⟨b0, k0⟩, _⟩ := hbf
  have m0 := cell_of_one (boxStays M3.out hB)
  refine Or.inl ⟨wanted_none rfl, ?_⟩
  rintro _ rfl
  go_simp <;> with_reducible rfl
 refine relG_call (i := 2) (o := ⟨some 37, _, _, _, _, _⟩) ((fun v w' => ∃ a c, v = .slice a n c ∧ CellsAt w' a (elsV (sortV l)) ∧ n ≤ c)) [(1, 36, 0)] [] rfl rfl (by kernel_rfl) (by kernel_rfl) ((fun v w' w'' h hb => by obtain ⟨a, c, e1, e2, e3⟩ := h; exact ⟨a, c, e1, e2.below hb rfl, e3⟩)) ?_ ?_
 · intro t w1 hB hf hbf K hK
   simp only [DepF, List.getD_cons_zero] at hf
   obtain ⟨⟨_, ⟨e36, i36⟩, rfl⟩, _⟩ := hf
   clear hbf
   have m0 := cell_of_one (boxStays M3.out hB)
   refine ⟨wanted_none rfl, ?_⟩
   go_simp
   refine (ref11_Sorted l _ n c w1 (HL3.out.below hB rfl) HN.out (by omega) HS.out).mono ?_
   rintro e w2 ⟨v, rfl, hown, hb⟩
   exact hK.out _ w2 ((by obtain ⟨a, c, rfl, h2, _⟩ := own_slice hown; exact ⟨a, c, rfl, CellsAt.ownN hown, h2⟩)) hb
 refine relG_call (i := 3) (o := ⟨some 7, _, _, _, _, _⟩) ((fun v w' => ∃ b, v = .pointer (some ⟨b, 0, none⟩) ∧ w3.heap.size ≤ b ∧ w'.heap[b]? = some (.cells #[.pointer none] 27 (0, 0)))) [] [] rfl rfl (by kernel_rfl) (by kernel_rfl) ((fun v w' w'' h hb => by obtain ⟨b, e1, e2, e3⟩ := h; exact ⟨b, e1, e2, boxStays e3 hb⟩)) ?_ ?_
 · intro t w1 hB hf hbf K hK
   clear hf
   clear hbf
   have m0 := cell_of_one (boxStays M3.out hB)
   refine ⟨wanted_none rfl, ?_⟩
   go_simp
   exact hK.out _ _ (⟨_, rfl, hB.size, heap_alloc_new _ _⟩) (below_new _ _)
 refine relG_skip 4 rfl (by rfl) ?_ (by kernel_rfl)
 refine relG_call (i := 5) (o := ⟨some 8, _, _, _, _, _⟩) ((fun v w' => ∃ a c, v = .slice a n c ∧ CellsAt w' a (elsV (sortV l)) ∧ n ≤ c)) [(2, 37, 2)] [] rfl rfl (by kernel_rfl) (by kernel_rfl) ((fun v w' w'' h hb => by obtain ⟨a, c, e1, e2, e3⟩ := h; exact ⟨a, c, e1, e2.below hb rfl, e3⟩)) ?_ ?_
 · intro t w1 hB hf hbf K hK
   simp only [DepF, List.getD_cons_zero, List.getD_cons_succ] at hf
   obtain ⟨⟨_, ⟨e37, i37⟩, ⟨aw, cw, rfl, hca, hcap⟩⟩, _⟩ := hf
   clear hbf
   have m0 := cell_of_one (boxStays M3.out hB)
   refine ⟨wanted_none rfl, ?_⟩
   go_simp
   exact hK.out _ _ (⟨_, _, rfl, hca, hcap⟩) (Below.refl _ _)
 refine relG_own 4 7 3 35 0 [(0, 35, 5), (1, 36, 4), (2, 37, 3), (3, 7, 2), (5, 8, 0)] [(0, 35, 5), (1, 36, 4), (2, 37, 3), (3, 7, 2)] (by kernel_rfl) rfl (by kernel_rfl) (by kernel_rfl) (by kernel_rfl) (by kernel_rfl) ?_ (fun f wE hB hf => ?_)
 · intro f w1 hB hf K hK
   simp only [FinF, List.getD_cons_zero, List.getD_cons_succ] at hf
   obtain ⟨⟨_, e35, rfl⟩, ⟨_, e36, rfl⟩, ⟨_, e37, ⟨aw, cw, rfl, hca, hcap⟩⟩, ⟨_, e7, ⟨zF, rfl, hbb, hbr⟩⟩, _⟩ := hf
   have m0 := cell_of_one (boxStays M3.out hB)
   refine sto_own (i := 4) 27 7 35 zF (#[.pointer (pa t0)]) _ _ rfl rfl rfl rfl (by rfl) (by rfl) e7 (by rfl) (by rfl) e35 (hbr) (by kernel_rfl) rfl (mp_oneT _) hK
 simp only [FinF, List.getD_cons_zero, List.getD_cons_succ] at hf
 obtain ⟨⟨_, e35, rfl⟩, ⟨_, e36, rfl⟩, ⟨_, e37, ⟨aw, cw, rfl, hca, hcap⟩⟩, ⟨_, e7, ⟨zF, rfl, hbb, hbr⟩⟩, ⟨_, e8, ⟨aw, cw, rfl, hca, hcap⟩⟩, _⟩ := hf
 simp only [blkOf, Value.cells, regT, List.foldl_cons, List.foldl_nil, List.setIfInBounds_toArray, List.set_cons_zero, List.set_cons_succ, e35, e36, e37, e7, e8]
 clear e35 e36 e37 e7 e8
 rw [setRow_one hbr]
 have hk := KeepX.setRow (Ex := fun k _ => k = zF) (KeepX.refl wE) hbr rfl 0 (.pointer (pa t0))
 have hcW := els_keepX hca hk hbr
 have hF := Boxed.set (t := 27) (.pointer (pa t0)) hbr
 have hb8 := hB.setCell (p := ⟨zF, 0, none⟩) hbb (.pointer (pa t0))
 have QD := Lib.hid hb8
 have CAP := Lib.hid hcap
 have ZF4 : Hid (w2.heap.size ≤ zF) := Lib.hid (Nat.le_trans (HC.out.to w2 (by simp)).size hbb)
 have QW := Lib.hid hcW
 have QF := Lib.hid hF
 clear hcap hb8 hB hbb hbr hca hF hcW hk
 generalize wE.setCell ⟨zF, 0, none⟩ (.pointer (pa t0)) = w4 at *
 have hb := QD.out
 have HF : Hid (w4.heap[zF]? = some (.cells #[.pointer (pa t0)] 27 (0, 0))) := Lib.hid QF.out
 replace HC := Lib.hid (HC.out.push hb)
 clear hb
 go_wp2_with fail
 refine (num_11 0 _).mono ?_
 rintro e _ ⟨rfl, rfl⟩
 have kM0 := cell_of_one (boxStays HM.out (HC.out.to w2 (by simp)))
 go_wp2_with fail
 refine (stands_11 t0 _ n _ _ (T1.out.below (HC.out.to w1 (by simp)) rfl) R0.out (by rw [EQ0.out]; exact QW.out.below (HC.out.to w4 (by simp)) rfl) L0.out (by omega)).mono ?_
 rintro e v8 ⟨rfl, hb⟩
 clear kM0
 replace HC := Lib.hid (HC.out.push hb)
 clear hb
 have M8 := Lib.hid (boxStays HM.out (HC.out.to w2 (by simp)))
 have T8 := Lib.hid (T1.out.below (HC.out.to w1 (by simp)) rfl)
 have F8 := Lib.hid (boxStays HF.out (HC.out.to w4 (by simp)))
 have W8 := Lib.hid (QW.out.below (HC.out.to w4 (by simp)) rfl)
 have A8 := Lib.hid (HL2.out.below (HC.out.to w (by simp)) rfl)
 have B8 := Lib.hid (HC.out.to w (by simp))
 have Z8 : Hid (w.heap.size ≤ z ∧ z < v8.heap.size) := Lib.hid ⟨by rw [← Sz.out]; exact LW1.out, (Array.getElem?_eq_some_iff.1 M8.out).1⟩
 have NE : Hid (zF ≠ z) := Lib.hid (by have := ZF4.out; have := ZM2.out; omega)
 clear HC
 go_wp2_with fail
 go_loopw [9, 10, 11] (fun now i okv wr => ∃ (k nL : Nat) (L : List Ev) (tr : Tr ByteArray) (an : Option Addr) (cn : Nat), k ≤ n2 ∧ k ≤ 60 ∧ i = .int .i64 (k : Int) ∧ now = .slice an nL cn ∧ Hid (nL = L.length) ∧ Hid (nL ≤ 120 + k) ∧ Hid (CellsAt wr an (elsV (sortV L))) ∧ Hid (Tag L tr) ∧ Hid (AtS wr tr) ∧ Hid (wr.heap[z]? = some (.cells #[.pointer (pa tr)] 27 (0, 0))) ∧ Hid (KeepX (fun k _ => k = z) v8 wr)) (fun _ i _ _ => 60 - (intOf i).toNat)
 case atStart => exact ⟨0, n, setT l, t0, aw, cw, Nat.zero_le _, Nat.zero_le _, rfl, rfl, L0, Lib.hid (by omega), Lib.hid (by rw [EQ0.out]; exact W8.out), R0, T8, M8, Lib.hid (KeepX.refl _)⟩
 case round =>
  obtain ⟨k, nL, L, tr, an, cn, hk, hk60, rfl, rfl, HNL, HNB, HCL, HR, HAt, HM, HKX⟩ := hrel
  have HAT8 : Hid (AtS wr t0) := Lib.hid (T8.out.keepZ HKX.out M8.out (by decide))
  have HA8 : Hid (CellsAt wr b (stpsTV ws)) := Lib.hid (stpsT_keepX A8.out HKX.out M8.out)
  have HW8 : Hid (CellsAt wr aw (elsV (sortV l))) := Lib.hid (els_keepX W8.out HKX.out M8.out)
  have HF : Hid (wr.heap[zF]? = some (.cells #[.pointer (pa t0)] 27 (0, 0))) := Lib.hid (HKX.out.row F8.out NE.out)
  have HBW : Hid (∀ W, Below wr.heap.size wr W → Below w.heap.size w W) := Lib.hid (fun W hW => by
   have h1 := HKX.out.toBelowZ (by have := Z8.out.2; omega)
   exact (B8.out.trans (h1.mono Z8.out.1)).trans (hW.mono (Nat.le_trans B8.out.size HKX.out.size)))
  have HGR : Hid (∀ W, Below wr.heap.size wr W → Glob W) := Lib.hid (fun W hW => HG.out.below (HBW.out W hW))
  have HC : Hid (Chain [wr] wr) := Lib.hid (Chain.one wr)
  by_cases h60 : k < 60
  · have h60i : (k : Int) < 60 := by omega
    by_cases hlt : k < n2
    · have hlti : (k : Int) < (n2 : Int) := by omega
      have hk1 : k < ws.length := by have := HN2.out; omega
      obtain ⟨ba, oa, rfl, _⟩ := stpT_get HA8.out k hk1
      have HSX : Hid (ws[k].s.l.size ≤ 9223372036854775807) := Lib.hid (HS2.out _ (List.getElem_mem hk1))
      have HXS : Hid (ws[k].x.size ≤ 4294967280) := Lib.hid (HX2.out _ (List.getElem_mem hk1))
      have HST : Hid (∀ W, CellsAt W (some ⟨ba, oa, none⟩) (stpsTV ws) → StTCell W ba (oa + k * 7) ws[k]) := Lib.hid (fun W h => by
       obtain ⟨_, _, e, q⟩ := stpT_get h k hk1
       cases e
       exact q)
      generalize ws[k] = x at *
      have HNB2 : Hid (nL ≤ 900) := Lib.hid (by have := HNB.out; omega)
      have HXX : Hid (x.x.size ≤ 4294967280) := HXS
      have HDO : Hid (∀ W, Below wr.heap.size wr W → Calls Tryz.prog 15 #[.agg #[.pointer (pa tr)], .slice an nL cn, .agg #[.int .i64 x.k, .string x.x, .int .i64 x.s.g, .int .i64 x.s.r, .string x.s.l, .int .i64 x.s.n, .int .i64 x.s.i]] W fun e w' => ∃ (L' : List Ev) (m : Tr ByteArray) (a' : Option Addr) (n' c' : Nat), n' ≤ nL + 1 ∧ e = .returned (.tuple #[.agg #[.pointer (pa m)], .slice a' n' c', .bool true]) ∧ AtS w' m ∧ Tag L' m ∧ CellsAt w' a' (elsV (sortV L')) ∧ n' = L'.length ∧ Below W.heap.size W w' ∧ ∀ {Ex : Nat → TypeId → Prop}, KeepX Ex W w') := Lib.hid (fun W hW => by
       refine (do_11 tr an nL cn x.k x.x x.s W (HAt.out.below hW rfl) HR.out (HCL.out.below hW rfl) HNL.out (by have := HNB2.out; omega) HSX.out HXX.out (HGR.out W hW)).mono ?_
       rintro e w' ⟨m, L', a', n', c', rfl, h1, h2, h3, h4, h5, h6⟩
       exact ⟨L', m, a', n', c', h5, rfl, h1, h2, h3, h4, h6, KeepX.ofBelow h6⟩)
      go_upto_region 14 with (fail)
      have XZ : Hid (wr.drew.heap[z]? = some (.cells #[.pointer (pa tr)] 27 (0, 0))) := HM
      refine wp_region_noPanic ?_
      refine wp_region_held_drew (S := fun w' => KeepX (fun k _ => k = z) wr w') (by kernel_rfl) (KeepX.refl _).drew (fun hS => ?_)
      refine tk (i := 1) (oi := ⟨some 60, _, _, _, _, _⟩) (v := ?_) rfl (Or.inl ⟨by rfl, ?_⟩) hS ?_
      rotate_left 1
      · intro w' hB; (go_simp <;> with_reducible rfl)
      try simp only [Act.put, zA, zB, zC]
      refine tk (i := 2) (oi := ⟨some 61, _, _, _, _, _⟩) (v := ?_) rfl (Or.inl ⟨by rfl, ?_⟩) hS ?_
      rotate_left 1
      · intro w' hB; (go_simp <;> with_reducible rfl)
      try simp only [Act.put, zA, zB, zC]
      refine tk (i := 3) (oi := ⟨some 62, _, _, _, _, _⟩) (v := ?_) rfl (Or.inl ⟨by rfl, ?_⟩) hS ?_
      rotate_left 1
      · intro w' hB; (go_simp <;> with_reducible rfl)
      try simp only [Act.put, zA, zB, zC]
      refine tk (i := 4) (oi := ⟨some 63, _, _, _, _, _⟩) (v := ?_) rfl (Or.inl ⟨by rfl, ?_⟩) hS ?_
      rotate_left 1
      · intro w' hB; obtain ⟨p0, p1, p2, p3, p4, p5, p6⟩ := HST.out w' (stpsT_keepX HA8.out hB HM.out); have hlti := hlti; (go_simp <;> with_reducible rfl)
      try simp only [Act.put, zA, zB, zC]
      refine tk (i := 5) (oi := ⟨some 64, _, _, _, _, _⟩) (v := ?_) rfl (Or.inl ⟨by rfl, ?_⟩) hS ?_
      rotate_left 1
      · intro w' hB; obtain ⟨p0, p1, p2, p3, p4, p5, p6⟩ := HST.out w' (stpsT_keepX HA8.out hB HM.out); have hlti := hlti; (go_simp <;> with_reducible rfl)
      try simp only [Act.put, zA, zB, zC]
      refine wpAnyH_ready (rs := [0]) (by kernel_rfl) (by simp) (AllReadyH.cons (o := ⟨some 59, _, _, _, _, _⟩) rfl (fun K hK => ?_) AllReadyH.nil)
      have m0 := cell_of_one XZ.out
      go_simp
      refine hK.out _ _ hS (fun _ => ?_)
      clear hK K m0
      try simp only [Act.put, zA, zB, zC]
      refine wpAnyH_ready (rs := [6]) (by kernel_rfl) (by simp) (AllReadyH.cons (o := ⟨some 65, _, _, _, _, _⟩) rfl (fun K hK => ?_) AllReadyH.nil)
      go_simp
      refine (HDO.out _ (Below.refl _ wr).drew).mono ?_
      rintro e r2 ⟨L', m, a', n', c', hLL, rfl, hm, hr, hc, hn', hb', hb⟩
      refine hK.out _ _ (hS.trans (hb)) (fun _ => ?_)
      clear hK K
      replace hS := hS.trans (hb)
      have LL := Lib.hid hLL
      have XT := Lib.hid hm
      have RM := Lib.hid hr
      have XC := Lib.hid hc
      have NN := Lib.hid hn'
      replace XZ := Lib.hid (boxStays XZ.out hb')
      clear hLL hm hr hc hn' hb'
      clear hb
      try simp only [Act.put, zA, zB, zC]
      refine tk (i := 7) (oi := ⟨some 58, _, _, _, _, _⟩) (v := ?_) rfl (Or.inl ⟨by rfl, ?_⟩) hS ?_
      rotate_left 1
      · intro w' hB; (go_simp <;> with_reducible rfl)
      try simp only [Act.put, zA, zB, zC]
      refine tk (i := 8) (oi := ⟨some 66, _, _, _, _, _⟩) (v := ?_) rfl (Or.inl ⟨by rfl, ?_⟩) hS ?_
      rotate_left 1
      · intro w' hB; obtain ⟨p0, p1, p2, p3, p4, p5, p6⟩ := HST.out w' (stpsT_keepX HA8.out hB HM.out); have hlti := hlti; (go_simp <;> with_reducible rfl)
      try simp only [Act.put, zA, zB, zC]
      refine tk (i := 9) (oi := ⟨some 67, _, _, _, _, _⟩) (v := ?_) rfl (Or.inl ⟨by rfl, ?_⟩) hS ?_
      rotate_left 1
      · intro w' hB; obtain ⟨p0, p1, p2, p3, p4, p5, p6⟩ := HST.out w' (stpsT_keepX HA8.out hB HM.out); have hlti := hlti; (go_simp <;> with_reducible rfl)
      try simp only [Act.put, zA, zB, zC]
      refine tk (i := 10) (oi := ⟨some 68, _, _, _, _, _⟩) (v := ?_) rfl (Or.inl ⟨by rfl, ?_⟩) hS ?_
      rotate_left 1
      · intro w' hB; obtain ⟨p0, p1, p2, p3, p4, p5, p6⟩ := HST.out w' (stpsT_keepX HA8.out hB HM.out); have hlti := hlti; (go_simp <;> with_reducible rfl)
      try simp only [Act.put, zA, zB, zC]
      refine wpAnyH_ready (rs := [11]) (by kernel_rfl) (by simp) (AllReadyH.cons (o := ⟨none, _, _, _, _, _⟩) rfl (fun K hK => ?_) AllReadyH.nil)
      have k19 := cell_of_one XZ.out
      have f19 := frozen_of_row _ z 0 _ _ XZ.out
      replace hS := KeepX.setRow hS XZ.out rfl 0 (Value.pointer (pa m))
      replace XT := Lib.hid (XT.out.setBox XZ.out (by decide) 0 (Value.pointer (pa m)))
      replace XC := Lib.hid (els_keepX XC.out (KeepX.setRow (KeepX.refl _) XZ.out rfl 0 (Value.pointer (pa m))) XZ.out)
      replace XZ := Lib.hid (Boxed.set (t := 27) (.pointer (pa m)) XZ.out)
      go_simp
      refine hK.out _ _ hS (fun _ => ?_)
      clear hK K k19 f19
      try simp only [Act.put, zA, zB, zC]
      refine tk (i := 12) (oi := ⟨some 9, _, _, _, _, _⟩) (v := ?_) rfl (Or.inl ⟨by rfl, ?_⟩) hS ?_
      rotate_left 1
      · intro w' hB; obtain ⟨p0, p1, p2, p3, p4, p5, p6⟩ := HST.out w' (stpsT_keepX HA8.out hB HM.out); have hlti := hlti; (go_simp <;> with_reducible rfl)
      try simp only [Act.put, zA, zB, zC]
      refine tk (i := 13) (oi := ⟨some 11, _, _, _, _, _⟩) (v := ?_) rfl (Or.inl ⟨by rfl, ?_⟩) hS ?_
      rotate_left 1
      · intro w' hB; obtain ⟨p0, p1, p2, p3, p4, p5, p6⟩ := HST.out w' (stpsT_keepX HA8.out hB HM.out); have hlti := hlti; (go_simp <;> with_reducible rfl)
      try simp only [Act.put, zA, zB, zC]
      refine wpAnyH_done (by kernel_rfl) (NoPanic.normal ?_) _
      generalize r2.setCell ⟨z, 0, none⟩ (.pointer (pa m)) = rF at *
      have FK := Lib.hid (HKX.out.trans hS)
      have HM : Hid (rF.heap[z]? = some (.cells #[.pointer (pa m)] 27 (0, 0))) := Lib.hid XZ.out
      clear hS XZ HC
      have HC : Hid (Chain [rF] rF) := Lib.hid (Chain.one rF)
      have kM0 := cell_of_one HM.out
      go_wp2_with fail
      refine (stands_11 m a' n' c' _ XT.out RM.out XC.out NN.out (by have := LL.out; have := HNB.out; omega)).mono ?_
      rintro e rG ⟨rfl, hb⟩
      clear kM0
      replace HC := Lib.hid (HC.out.push hb)
      clear hb
      have FA := Lib.hid (XT.out.below (HC.out.to rF (by simp)) rfl)
      have FM := Lib.hid (boxStays HM.out (HC.out.to rF (by simp)))
      have FC := Lib.hid (XC.out.below (HC.out.to rF (by simp)) rfl)
      have FK2 := Lib.hid (FK.out.trans (KeepX.ofBelow (HC.out.to rF (by simp))))
      go_wp2_with fail
      go_roundw
      case rel => exact ⟨k + 1, n', L', m, a', c', by omega, by omega, by go_num, rfl, NN, Lib.hid (by have := LL.out; have := HNB.out; omega), FC, RM, FA, FM, FK2⟩
      case measure => simp [intOf]; omega
    ·
     have hlti : ¬ (k : Int) < (n2 : Int) := by omega
     have kF0 := cell_of_one HF.out
     go_wp2_with fail
     refine (stands_11 t0 _ n _ _ (HAT8.out.below (HC.out.to wr (by simp)) rfl) R0.out (by rw [EQ0.out]; exact HW8.out.below (HC.out.to wr (by simp)) rfl) L0.out (by omega)).mono ?_
     rintro e y1 ⟨rfl, hb⟩
     clear kF0
     replace HC := Lib.hid (HC.out.push hb)
     clear hb
     go_wp2_with fail
     refine (known_11 _ (HGR.out _ (HC.out.to wr (by simp)))).mono ?_
     rintro e y2 ⟨rfl, hb⟩
     replace HC := Lib.hid (HC.out.push hb)
     clear hb
     go_wp2_with fail
     go_ret
     exact ⟨rfl, HBW.out _ (HC.out.to wr (by simp))⟩
  ·
   have h60i : ¬ (k : Int) < 60 := by omega
   by_cases hlt : k < n2
   · have hlti : (k : Int) < (n2 : Int) := by omega
     have kF0 := cell_of_one HF.out
     go_wp2_with fail
     refine (stands_11 t0 _ n _ _ (HAT8.out.below (HC.out.to wr (by simp)) rfl) R0.out (by rw [EQ0.out]; exact HW8.out.below (HC.out.to wr (by simp)) rfl) L0.out (by omega)).mono ?_
     rintro e y1 ⟨rfl, hb⟩
     clear kF0
     replace HC := Lib.hid (HC.out.push hb)
     clear hb
     go_wp2_with fail
     refine (known_11 _ (HGR.out _ (HC.out.to wr (by simp)))).mono ?_
     rintro e y2 ⟨rfl, hb⟩
     replace HC := Lib.hid (HC.out.push hb)
     clear hb
     go_wp2_with fail
     go_ret
     exact ⟨rfl, HBW.out _ (HC.out.to wr (by simp))⟩
   ·
    have hlti : ¬ (k : Int) < (n2 : Int) := by omega
    have kF0 := cell_of_one HF.out
    go_wp2_with fail
    refine (stands_11 t0 _ n _ _ (HAT8.out.below (HC.out.to wr (by simp)) rfl) R0.out (by rw [EQ0.out]; exact HW8.out.below (HC.out.to wr (by simp)) rfl) L0.out (by omega)).mono ?_
    rintro e y1 ⟨rfl, hb⟩
    clear kF0
    replace HC := Lib.hid (HC.out.push hb)
    clear hb
    go_wp2_with fail
    refine (known_11 _ (HGR.out _ (HC.out.to wr (by simp)))).mono ?_
    rintro e y2 ⟨rfl, hb⟩
    replace HC := Lib.hid (HC.out.push hb)
    clear hb
    go_wp2_with fail
    go_ret
    exact ⟨rfl, HBW.out _ (HC.out.to wr (by simp))⟩
end Go.Proofs.YtjlliohjeiclaaaGreatDoor
namespace Go.Proofs.YtjlliohjeiclaaaGreatDoor
open Go.ChangeShapes Go.WideShapes Go.ChangeAt Go.RowKit Go.Deep
section
variable {H : Type} {enc : TypeId × Value → H} {P : Program} {w : World} {base : Nat} {held : Bool}
theorem spot_none {a : Addr} {v : Value} (h : w.cell? (a.add 0) = some v) : ∃ b off, a = ⟨b, off, none⟩ := by
 obtain ⟨b, off, spot⟩ := a
 have hs : spot = none := by simpa [Addr.add] using World.cell?_spot h
 subst hs
 exact ⟨b, off, rfl⟩
end
end Go.Proofs.YtjlliohjeiclaaaGreatDoor
namespace Go.Proofs.YtjlliohjeiclaaaGreatDoor
open Go.ChangeShapes Go.WideShapes Go.ChangeAt Go.RowKit Go.Deep St
section
variable {H : Type} {enc : TypeId × Value → H} {w : World} {base : Nat} {held : Bool}
theorem maxLen_small {n : Nat} (h : n ≤ maxLen) : n ≤ 9223372036854775807 := by unfold maxLen at h; omega
set_option maxRecDepth 100000 in
theorem open_br {fuel : Nat} {cs : List Value} {x : DataW H × List MemPlace} (h : DataW.trod enc Tryz.prog w base (fun _ => true) held fuel 39 cs = some x) :
 ∃ (r : Int) (l : ByteArray), cs = [.int .i64 r, .string l] ∧ l.size ≤ maxLen := by
 obtain ⟨xs, n, _, _, hlen, hz, hff⟩ := DataW.trod_struct Tryz.underlying39 h
 rw [show Tryz.prog.cellsOf 39 = 2 by kernel_rfl] at hlen
 match cs, hlen with
 | [v0, v1], _ =>
  have q0 := hff 0 _ rfl
  have q1 := hff 1 _ rfl
  rw [List.getElem?_eq_getElem (by rw [hz]; decide)] at q0 q1
  change DataW.trod enc _ w base _ held n 3 (List.take (Tryz.prog.cellsOf 3) [v0, v1]) = _ at q0
  change DataW.trod enc _ w base _ held n 9 (List.take (Tryz.prog.cellsOf 9) [v1]) = _ at q1
  rw [show Tryz.prog.cellsOf 3 = 1 by kernel_rfl] at q0
  rw [show Tryz.prog.cellsOf 9 = 1 by kernel_rfl] at q1
  obtain ⟨r, k0, _⟩ := DataW.trod_int Tryz.underlying3 q0
  obtain ⟨l, k1, _, k2⟩ := DataW.trod_string Tryz.underlying9 q1
  simp only [List.take, List.cons.injEq, and_true] at k0 k1
  subst k0 k1
  exact ⟨r, l, rfl, k2⟩
set_option maxRecDepth 100000 in
theorem open_nm {fuel : Nat} {cs : List Value} {x : DataW H × List MemPlace} (h : DataW.trod enc Tryz.prog w base (fun _ => true) held fuel 41 cs = some x) :
 ∃ (r : Int) (l : ByteArray) (k : Int), cs = [.int .i64 r, .string l, .int .i64 k] ∧ l.size ≤ maxLen := by
 obtain ⟨xs, n, _, _, hlen, hz, hff⟩ := DataW.trod_struct Tryz.underlying41 h
 rw [show Tryz.prog.cellsOf 41 = 3 by kernel_rfl] at hlen
 match cs, hlen with
 | [v0, v1, v2], _ =>
  have q0 := hff 0 _ rfl
  have q1 := hff 1 _ rfl
  rw [List.getElem?_eq_getElem (by rw [hz]; decide)] at q0 q1
  change DataW.trod enc _ w base _ held n 39 (List.take (Tryz.prog.cellsOf 39) [v0, v1, v2]) = _ at q0
  change DataW.trod enc _ w base _ held n 2 (List.take (Tryz.prog.cellsOf 2) [v2]) = _ at q1
  rw [show Tryz.prog.cellsOf 39 = 2 by kernel_rfl] at q0
  rw [show Tryz.prog.cellsOf 2 = 1 by kernel_rfl] at q1
  obtain ⟨r, l, k0, kl⟩ := open_br q0
  obtain ⟨k, k1, _⟩ := DataW.trod_int Tryz.underlying2 q1
  simp only [List.take, List.cons.injEq, and_true] at k0 k1
  obtain ⟨k0, k0'⟩ := k0
  subst k0 k0' k1
  exact ⟨r, l, k, rfl, kl⟩
set_option maxRecDepth 100000 in
theorem open_sv {fuel : Nat} {cs : List Value} {x : DataW H × List MemPlace} (h : DataW.trod enc Tryz.prog w base (fun _ => true) held fuel 43 cs = some x) :
 ∃ s : Sv, cs = [.int .i64 s.g, .int .i64 s.r, .string s.l, .int .i64 s.n, .int .i64 s.i] ∧ s.l.size ≤ maxLen := by
 obtain ⟨xs, n, _, _, hlen, hz, hff⟩ := DataW.trod_struct Tryz.underlying43 h
 rw [show Tryz.prog.cellsOf 43 = 5 by kernel_rfl] at hlen
 match cs, hlen with
 | [v0, v1, v2, v3, v4], _ =>
  have q0 := hff 0 _ rfl
  have q1 := hff 1 _ rfl
  have q2 := hff 2 _ rfl
  rw [List.getElem?_eq_getElem (by rw [hz]; decide)] at q0 q1 q2
  change DataW.trod enc _ w base _ held n 2 (List.take (Tryz.prog.cellsOf 2) [v0, v1, v2, v3, v4]) = _ at q0
  change DataW.trod enc _ w base _ held n 41 (List.take (Tryz.prog.cellsOf 41) [v1, v2, v3, v4]) = _ at q1
  change DataW.trod enc _ w base _ held n 3 (List.take (Tryz.prog.cellsOf 3) [v4]) = _ at q2
  rw [show Tryz.prog.cellsOf 2 = 1 by kernel_rfl] at q0
  rw [show Tryz.prog.cellsOf 41 = 3 by kernel_rfl] at q1
  rw [show Tryz.prog.cellsOf 3 = 1 by kernel_rfl] at q2
  obtain ⟨g, k0, _⟩ := DataW.trod_int Tryz.underlying2 q0
  obtain ⟨r, l, k, k1, kl⟩ := open_nm q1
  obtain ⟨i, k2, _⟩ := DataW.trod_int Tryz.underlying3 q2
  simp only [List.take, List.cons.injEq, and_true] at k0 k1 k2
  obtain ⟨e1, e2, e3⟩ := k1
  subst k0 e1 e2 e3 k2
  exact ⟨⟨g, r, l, k, i⟩, rfl, kl⟩
set_option maxRecDepth 100000 in
set_option maxRecDepth 100000 in
end
theorem laid_eq1 : (Rows.laid_unicode_utf8_acceptRanges : DataW Unit) = Lib.acceptData := by kernel_rfl
theorem laid_eq2 : Rows.laid_unicode_utf8_first = Lib.firstData := by kernel_rfl
theorem glob_of {W : World} (hL : laidMetH Tryz.prog [("unicode/utf8.acceptRanges", Rows.laid_unicode_utf8_acceptRanges), ("unicode/utf8.first", Rows.laid_unicode_utf8_first)] W) (hS : W.ShapedOpen Tryz.prog) : Glob W := by
 refine ⟨utf8Tabs_of_readsT (U8Types.of196 lay196) ⟨by kernel_rfl, by kernel_rfl, by kernel_rfl, by kernel_rfl, by kernel_rfl, by kernel_rfl, by kernel_rfl⟩ ?_ ?_, ?_⟩
 · rw [← laid_eq2]; exact Lib.laidMet.reads hL (.tail _ (.head _))
 · rw [← laid_eq1]; exact Lib.laidMet.reads hL (.head _)
 · exact cell_of_shapedOpen_int (P := Tryz.prog) (g := 2) (t := 3) (zero := #[.int .i64 0]) hS (of_decide_eq_true (by kernel_rfl)) (by kernel_rfl) rfl (by kernel_rfl) (by kernel_rfl) Tryz.underlying3
noncomputable def laidWorld (os : Os) : World :=
 let w0 := World.holding Tryz.prog os ⟨#[], #[], []⟩
 let put (h : Array Obj) (g : Nat) (cs : Array Value) : Array Obj := h.modify g fun
  | .cells _ t frozen => .cells cs t frozen
  | o => o
 let h1 := put w0.heap 0 (Lib.firstTab.map fun z => Value.int .u8 z).toArray
 let h2 := put h1 1 ((List.range 16).flatMap fun i => [Value.int .u8 (Lib.accLo i), Value.int .u8 (Lib.accHi i)]).toArray
 { w0 with heap := h2 }
theorem laid_met (os : Os) (args : Array Value) : laidMet Tryz.prog [("unicode/utf8.acceptRanges", Rows.laid_unicode_utf8_acceptRanges), ("unicode/utf8.first", Rows.laid_unicode_utf8_first)] ((laidWorld os).forCall (fun _ _ => 0) ⟨#[], args, []⟩).memory :=
 (LaidIn.of_run (l := [("unicode/utf8.acceptRanges", Rows.laid_unicode_utf8_acceptRanges), ("unicode/utf8.first", Rows.laid_unicode_utf8_first)]) [1, 0] 8 (by kernel_rfl) (by kernel_rfl) (by kernel_rfl) (by kernel_rfl)).met
end Go.Proofs.YtjlliohjeiclaaaGreatDoor
namespace Go.Proofs.YtjlliohjeiclaaaGreatDoor
open Go.ChangeShapes Go.WideShapes Go.ChangeAt Go.RowKit Go.Deep St
section
variable {H : Type} {enc : TypeId × Value → H} {w : World} {base : Nat} {held : Bool}
theorem flat_getU {α : Type} (f : α → List Value) (m : Nat) (hf : ∀ x, (f x).length = m) (hm : 0 < m) : ∀ (l : List α) (i r : Nat) (hi : i < l.length), r < m → (l.flatMap f)[i * m + r]? = (f l[i])[r]?
 | [], i, r, hi, _ => by simp at hi
 | x :: l, 0, r, _, hr => by
  rw [List.flatMap_cons, Nat.zero_mul, Nat.zero_add, List.getElem?_append_left (by rw [hf]; exact hr)]
  rfl
 | x :: l, i + 1, r, hi, hr => by
  rw [List.flatMap_cons, List.getElem?_append_right (by rw [hf, Nat.succ_mul]; omega), hf, Nat.succ_mul]
  rw [show i * m + m + r - m = i * m + r by omega, flat_getU f m hf hm l i r (by simpa using hi) hr]
  rfl
theorem flat_lenU {α : Type} (f : α → List Value) (m : Nat) (hf : ∀ x, (f x).length = m) : ∀ (l : List α), (l.flatMap f).length = l.length * m
 | [] => by simp
 | x :: l => by rw [List.flatMap_cons, List.length_append, hf, flat_lenU f m hf l, List.length_cons, Nat.succ_mul]; omega
theorem bulk_partU {d : DataW H} {l : List (DataW H)} (h : d ∈ l) : Rows.uptoBulk d ≤ Rows.uptoBulkAll l := by
 induction l with
 | nil => cases h
 | cons x r ih =>
  simp only [Rows.uptoBulkAll]
  cases List.mem_cons.1 h with
  | inl e => subst e; omega
  | inr e => have := ih e; omega
theorem open_structsU {α : Type} [Inhabited α] (f : α → List Value) (m : Nat) (hf : ∀ x, (f x).length = m) (hm : 0 < m) (G : α → Nat → Prop) (hG : ∀ {y a b}, G y a → a ≤ b → G y b) {t e : TypeId} {fuel : Nat} {a0 : Option Addr} {len cap : Nat} {x : DataW H × List MemPlace} (ht : Tryz.prog.underlying t = some (.slice e)) (ce : Tryz.prog.cellsOf e = m)
 (each : ∀ {fuel : Nat} {cs : List Value} {x : DataW H × List MemPlace}, DataW.trod enc Tryz.prog w base (fun _ => true) held fuel e cs = some x → ∃ y : α, cs = f y ∧ G y (Rows.uptoBulk x.1))
 (h : DataW.trod enc Tryz.prog w base (fun _ => true) held fuel t (Value.slice a0 len cap).cells.toList = some x) :
 ∃ l : List α, len = l.length ∧ CellsAt w a0 (l.flatMap f) ∧ l.length ≤ maxLen ∧ ∀ y ∈ l, G y (Rows.uptoBulk x.1) := by
 rcases open_slice ht h with ⟨hcs, _⟩ | ⟨a, l, c, k, n, D, Pl, hcs, _, hl, hmx, hmm, hx, hi⟩
 · simp [Value.cells] at hcs
   obtain ⟨rfl, rfl, rfl⟩ := hcs
   exact ⟨[], rfl, CellsAt.nil _ _, Nat.zero_le _, fun y hy => by cases hy⟩
 · simp [Value.cells] at hcs
   obtain ⟨rfl, rfl, rfl⟩ := hcs
   simp only [if_true] at hmm
   subst hmm
   have each2 : ∀ i, i < k → ∃ y : α, (∀ r, r < m → w.cell? ((a.add (i * m)).add r) = (f y)[r]?) ∧ G y (Rows.uptoBulk (D i)) := by
    intro i hik
    obtain ⟨cs', hc, htr⟩ := hi i hik
    rw [ce] at hc
    obtain ⟨y, rfl, hg⟩ := each htr
    obtain ⟨_, hcl, hat⟩ := World.cells?_some hc
    refine ⟨y, fun r hr => ?_, hg⟩
    have := hat r hr
    rw [this]
    try rw [List.getElem?_eq_getElem]
    done
   obtain ⟨F, hF⟩ := choose_lt (α := α) (n := k) (p := fun i y => (∀ r, r < m → w.cell? ((a.add (i * m)).add r) = (f y)[r]?) ∧ G y (Rows.uptoBulk (D i))) each2
   refine ⟨(List.range len).map F, by simp, fun q hq => ?_, by simp; omega, fun y hy => ?_⟩
   · have hlenF : (((List.range len).map F).flatMap f).length = len * m := by rw [flat_lenU f m hf]; simp
     have hq2 : q < len * m := by rw [← hlenF]; exact hq
     have hqm : q / m < len := Nat.div_lt_of_lt_mul (by rw [Nat.mul_comm]; exact hq2)
     have hp : 0 < k := Nat.lt_of_le_of_lt (Nat.zero_le _) (Nat.lt_of_lt_of_le hqm hl)
     have z0 := (hF 0 hp).1 0 hm
     rw [List.getElem?_eq_getElem (by rw [hf]; exact hm), Nat.zero_mul] at z0
     obtain ⟨b, off, rfl⟩ := spot_none (a := a) z0
     refine ⟨b, off, rfl, ?_⟩
     have hr : q % m < m := Nat.mod_lt _ hm
     have hk := (hF (q / m) (Nat.lt_of_lt_of_le hqm hl)).1 (q % m) hr
     have hg := flat_getU f m hf hm ((List.range len).map F) (q / m) (q % m) (by simpa using hqm) hr
     simp only [List.getElem_map, List.getElem_range] at hg
     have hqe : q / m * m + q % m = q := by rw [Nat.mul_comm]; exact Nat.div_add_mod q m
     rw [hqe] at hg
     rw [Addr_add, Addr_add, Nat.add_assoc, hqe] at hk
     rw [hk, ← hg, List.getElem?_eq_getElem hq]
   · obtain ⟨i, hi', rfl⟩ := List.mem_map.1 hy
     have hlt := List.mem_range.1 hi'
     refine hG (hF i (by omega)).2 ?_
     have h1 : D i ∈ (List.range len).map D := List.mem_map.2 ⟨i, hi', rfl⟩
     have h2 := bulk_partU h1
     rw [hx]
     simp only [Rows.uptoBulk]
     omega
theorem bulk_str {fuel : Nat} {cs : List Value} {x : DataW H × List MemPlace} {t : TypeId} (ht : Tryz.prog.underlying t = some .string) (h : DataW.trod enc Tryz.prog w base (fun _ => true) held fuel t cs = some x) :
 ∃ s : ByteArray, cs = [.string s] ∧ s.size ≤ Rows.uptoBulk x.1 := by
 obtain ⟨s, k0, hx, _⟩ := DataW.trod_string ht h
 refine ⟨s, k0, ?_⟩
 rw [hx]
 simp [Rows.uptoBulk]
set_option maxRecDepth 100000 in
end
end Go.Proofs.YtjlliohjeiclaaaGreatDoor
namespace Go.Proofs.YtjlliohjeiclaaaGreatDoor
open Go.ChangeShapes Go.WideShapes Go.ChangeAt Go.RowKit Go.Deep St
section
variable {H : Type} {enc : TypeId × Value → H} {w : World} {base : Nat} {held : Bool}
set_option maxRecDepth 100000 in
theorem open_evU {fuel : Nat} {cs : List Value} {x : DataW H × List MemPlace} (h : DataW.trod enc Tryz.prog w base (fun _ => true) held fuel 53 cs = some x) :
 ∃ e : Ev, cs = elV e ∧ e.1.l.size ≤ 9223372036854775807 := by
 obtain ⟨xs, n, _, _, hlen, hz, hff⟩ := DataW.trod_struct Tryz.underlying53 h
 rw [show Tryz.prog.cellsOf 53 = 6 by kernel_rfl] at hlen
 match cs, hlen with
 | [v0, v1, v2, v3, v4, v5], _ =>
  have q0 := hff 0 _ rfl
  have q1 := hff 1 _ rfl
  rw [List.getElem?_eq_getElem (by rw [hz]; decide)] at q0 q1
  change DataW.trod enc _ w base _ held n 43 (List.take (Tryz.prog.cellsOf 43) [v0, v1, v2, v3, v4, v5]) = _ at q0
  change DataW.trod enc _ w base _ held n 9 (List.take (Tryz.prog.cellsOf 9) [v5]) = _ at q1
  rw [show Tryz.prog.cellsOf 43 = 5 by kernel_rfl] at q0
  rw [show Tryz.prog.cellsOf 9 = 1 by kernel_rfl] at q1
  obtain ⟨s, k0, kl⟩ := open_sv q0
  obtain ⟨t, k1, _, kt⟩ := DataW.trod_string Tryz.underlying9 q1
  simp only [List.take, List.cons.injEq, and_true] at k0 k1
  obtain ⟨e1, e2, e3, e4, e5⟩ := k0
  subst e1 e2 e3 e4 e5 k1
  exact ⟨(s, t), rfl, maxLen_small kl⟩
theorem open_elsU {fuel : Nat} {a0 : Option Addr} {len cap : Nat} {x : DataW H × List MemPlace} (h : DataW.trod enc Tryz.prog w base (fun _ => true) held fuel 22 (Value.slice a0 len cap).cells.toList = some x) :
 ∃ l : List Ev, len = l.length ∧ CellsAt w a0 (elsV l) ∧ l.length ≤ maxLen ∧ ∀ e ∈ l, e.1.l.size ≤ 9223372036854775807 :=
 open_structsU (α := Ev) elV 6 (fun _ => rfl) (by omega) (fun e _ => e.1.l.size ≤ 9223372036854775807) (fun h _ => h) Tryz.underlying22 (by kernel_rfl) open_evU h
end
end Go.Proofs.YtjlliohjeiclaaaGreatDoor
namespace Go.Proofs.YtjlliohjeiclaaaGreatDoor
open Go.ChangeShapes Go.WideShapes Go.ChangeAt Go.RowKit Go.Deep St
section
variable {H : Type} {enc : TypeId × Value → H} {w : World} {base : Nat} {held : Bool}
set_option maxRecDepth 100000 in
theorem open_stpT {fuel : Nat} {cs : List Value} {x : DataW H × List MemPlace} (h : DataW.trod enc Tryz.prog w base (fun _ => true) held fuel 45 cs = some x) :
 ∃ t : StpT, cs = stpTV t ∧ t.s.l.size ≤ 9223372036854775807 ∧ t.x.size ≤ Rows.uptoBulk x.1 := by
 obtain ⟨xs, n, _, rfl, hlen, hz, hff⟩ := DataW.trod_struct Tryz.underlying45 h
 rw [show Tryz.prog.cellsOf 45 = 7 by kernel_rfl] at hlen
 match cs, hlen with
 | [v0, v1, v2, v3, v4, v5, v6], _ =>
  have q0 := hff 0 _ rfl
  have q1 := hff 1 _ rfl
  have q2 := hff 2 _ rfl
  have z1 : 1 < xs.length := by rw [hz]; decide
  rw [List.getElem?_eq_getElem (by rw [hz]; decide)] at q0 q2
  rw [List.getElem?_eq_getElem z1] at q1
  change DataW.trod enc _ w base _ held n 3 (List.take (Tryz.prog.cellsOf 3) [v0, v1, v2, v3, v4, v5, v6]) = _ at q0
  change DataW.trod enc _ w base _ held n 9 (List.take (Tryz.prog.cellsOf 9) [v1, v2, v3, v4, v5, v6]) = _ at q1
  change DataW.trod enc _ w base _ held n 43 (List.take (Tryz.prog.cellsOf 43) [v2, v3, v4, v5, v6]) = _ at q2
  rw [show Tryz.prog.cellsOf 3 = 1 by kernel_rfl] at q0
  rw [show Tryz.prog.cellsOf 9 = 1 by kernel_rfl] at q1
  rw [show Tryz.prog.cellsOf 43 = 5 by kernel_rfl] at q2
  obtain ⟨k, k0, _⟩ := DataW.trod_int Tryz.underlying3 q0
  obtain ⟨t, k1, b1⟩ := bulk_str Tryz.underlying9 q1
  obtain ⟨s, k2, kl⟩ := open_sv q2
  simp only [List.take, List.cons.injEq, and_true] at k0 k1 k2
  obtain ⟨e1, e2, e3, e4, e5⟩ := k2
  subst e1 e2 e3 e4 e5 k0 k1
  have m1 := bulk_partU (List.mem_map.2 ⟨xs[1], List.getElem_mem z1, rfl⟩ : xs[1].1 ∈ xs.map (·.1))
  refine ⟨⟨k, t, s⟩, rfl, maxLen_small kl, ?_⟩
  simp only [Rows.uptoBulk]
  show t.size ≤ _
  omega
instance : Inhabited StpT := ⟨⟨0, ⟨#[]⟩, ⟨0, 0, ⟨#[]⟩, 0, 0⟩⟩⟩
theorem open_stpsT {fuel : Nat} {a0 : Option Addr} {len cap : Nat} {x : DataW H × List MemPlace} (h : DataW.trod enc Tryz.prog w base (fun _ => true) held fuel 23 (Value.slice a0 len cap).cells.toList = some x) :
 ∃ l : List StpT, len = l.length ∧ CellsAt w a0 (stpsTV l) ∧ l.length ≤ maxLen ∧ ∀ t ∈ l, t.s.l.size ≤ 9223372036854775807 ∧ t.x.size ≤ Rows.uptoBulk x.1 :=
 open_structsU (α := StpT) stpTV 7 (fun _ => rfl) (by omega) (fun t n => t.s.l.size ≤ 9223372036854775807 ∧ t.x.size ≤ n) (fun h h2 => ⟨h.1, Nat.le_trans h.2 h2⟩) Tryz.underlying23 (by kernel_rfl) open_stpT h
end
end Go.Proofs.YtjlliohjeiclaaaGreatDoor
