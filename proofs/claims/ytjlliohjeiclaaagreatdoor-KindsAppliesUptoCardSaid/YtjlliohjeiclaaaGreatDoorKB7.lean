/- Words, contracts and walks that the proof stands on (KnD KnE KnF). -/
import Derived.LoopIn
import Derived.LoopNIn
import Derived.OwnWalkIn
import Derived.RangeFuncBound
import Derived.RangeFuncCalls
import Derived.RangeFuncLeaves
import Derived.RangeFuncNested
import Derived.TacticsInMore
import Derived.Test.YtjlliohjeiclaaaGreatDoorKB2
import Derived.Test.YtjlliohjeiclaaaGreatDoorKB4
import Derived.Test.YtjlliohjeiclaaaGreatDoorKB6
import Derived.WalkKit
namespace Go.Proofs.YtjlliohjeiclaaaGreatDoor
open Go.RowKit St Pm Ku Kn
namespace Kn
def risG : Option Sv → List Ev → Bool
 | _, [] => true
 | p, e :: l => okV e && ((match p with | none => true | some q => decide (svC q e.1 < 0)) && risG (some e.1) l)
def prevG (l : List Ev) (q : Nat) : Option Sv := if q = 0 then none else (l[q - 1]?).map (·.1)
def valG (k m : Int) (l : List Ev) : Bool := thingG k && (if k = 1 then decide (l.length = 0) else (decide (m = 0) && risG none l))
theorem ris_step {l : List Ev} {q : Nat} (h : q < l.length) {r : Bool} (hr : risG (prevG l q) (l.drop q) = r) : r = (okV l[q] && ((if h0 : 0 < q then decide (svC (l[q - 1]'(by omega)).1 l[q].1 < 0) else true) && risG (prevG l (q + 1)) (l.drop (q + 1)))) := by
 subst hr
 rw [List.drop_eq_getElem_cons h]
 change (okV l[q] && ((match prevG l q with | none => true | some p => decide (svC p l[q].1 < 0)) && risG (some l[q].1) (l.drop (q + 1)))) = _
 congr 1
 congr 1
 · unfold prevG
   by_cases h0 : q = 0
   · subst h0; rfl
   · rw [if_neg h0, List.getElem?_eq_getElem (by omega)]
     rw [dif_pos (by omega)]
     rfl
 · unfold prevG
   rw [if_neg (by omega), Nat.add_sub_cancel, List.getElem?_eq_getElem h]
   rfl
end Kn
open Kn
set_option maxRecDepth 100000 in
set_option maxHeartbeats 4000000 in
theorem kn_Value (k m : Int) (l : List Ev) (a : Option Addr) (n c : Nat) (w : World) (hl : CellsAt w a (elsV l)) (hn : n = l.length) (hb : n ≤ 9223372036854775807) (hz : ∀ e ∈ l, e.1.l.size ≤ 9223372036854775807) :
 Calls Tryz.prog 36 #[.agg #[.int .i64 k, .int .i64 m, .slice a n c]] w fun e w' => e = .returned (.bool (valG k m l)) ∧ Below w.heap.size w w' := by
 have HL := Lib.hid hl
 have HN := Lib.hid hn
 have HZ := Lib.hid hz
 obtain ⟨re, hre⟩ : ∃ r, valG k m l = r := ⟨_, rfl⟩
 have RE := Lib.hid hre
 rw [hre]
 clear hl hn hz hre
 have HC : Hid (Chain [w] w) := Lib.hid (Chain.one w)
 go_enter Tryz.func36, Tryz.ntmps36
 go_upto_region 1 with (fail)
 obtain ⟨z, hz⟩ : ∃ c, w.heap.size = c := ⟨_, rfl⟩
 try rw [hz]
 obtain ⟨w1, hw1⟩ : ∃ X, allocs w [.cells #[.int .i64 k, .int .i64 m, .slice a n c] 79] = X := ⟨_, rfl⟩
 rw [show w.alloc (.cells #[.int .i64 k, .int .i64 m, .slice a n c] 79) = w1 from hw1]
 have hb : Below w.heap.size w w1 := by rw [← hw1]; exact allocs_below _ _
 have HV : Hid (w1.heap[z]? = some (.cells #[.int .i64 k, .int .i64 m, .slice a n c] 79 (0, 0))) := Lib.hid (by have := allocs_get [.cells #[.int .i64 k, .int .i64 m, .slice a n c] 79] w 0 _ rfl; rw [hw1, hz] at this; exact this)
 have Sz : Hid (w.heap.size = z) := Lib.hid hz
 replace HC := Lib.hid (HC.out.push hb)
 clear hb hw1 hz
 have kV0 := cell_of_row _ _ 0 _ _ _ HV.out
 have kV1 := cell_of_row _ _ 1 _ _ _ HV.out
 have kV2 := cell_of_row _ _ 2 _ _ _ HV.out
 go_wp2_with fail
 refine (kn_thingB k _).mono ?_
 rintro e w2 ⟨rfl, hb⟩
 clear kV0 kV1 kV2
 replace HC := Lib.hid (HC.out.push hb)
 clear hb
 obtain ⟨b1, h1⟩ : ∃ b, thingG k = b := ⟨_, rfl⟩
 rw [h1]
 have H1 := Lib.hid h1
 clear h1
 cases b1
 case false =>
  obtain rfl : false = re := by rw [← RE.out]; unfold valG; rw [H1.out]; rfl
  have kV0 := cell_of_row _ _ 0 _ _ _ (boxStays HV.out (HC.out.to w1 (by simp)))
  have kV1 := cell_of_row _ _ 1 _ _ _ (boxStays HV.out (HC.out.to w1 (by simp)))
  have kV2 := cell_of_row _ _ 2 _ _ _ (boxStays HV.out (HC.out.to w1 (by simp)))
  go_wp2_with fail
  go_ret
  exact ⟨rfl, (HC.out.to w (by simp))⟩
 by_cases hk : k = 1
 · subst hk
   obtain rfl : decide (l.length = 0) = re := by rw [← RE.out]; unfold valG; rw [H1.out, if_pos rfl]; rfl
   have hnl : ((n : Int) == 0) = decide (l.length = 0) := by rw [← HN.out]; by_cases h : n = 0 <;> simp [h]
   have kV0 := cell_of_row _ _ 0 _ _ _ (boxStays HV.out (HC.out.to w1 (by simp)))
   have kV1 := cell_of_row _ _ 1 _ _ _ (boxStays HV.out (HC.out.to w1 (by simp)))
   have kV2 := cell_of_row _ _ 2 _ _ _ (boxStays HV.out (HC.out.to w1 (by simp)))
   go_wp2_with fail
   go_ret
   exact ⟨by simp [HN.out], (HC.out.to w (by simp))⟩
 have hkb : (k == 1) = false := by simp [hk]
 by_cases hm : m = 0
 case neg =>
  obtain rfl : false = re := by rw [← RE.out]; unfold valG; rw [H1.out, if_neg hk]; simp [hm]
  have hmb : (m != 0) = true := by simp [hm]
  have kV0 := cell_of_row _ _ 0 _ _ _ (boxStays HV.out (HC.out.to w1 (by simp)))
  have kV1 := cell_of_row _ _ 1 _ _ _ (boxStays HV.out (HC.out.to w1 (by simp)))
  have kV2 := cell_of_row _ _ 2 _ _ _ (boxStays HV.out (HC.out.to w1 (by simp)))
  go_wp2_with fail
  go_ret
  exact ⟨rfl, (HC.out.to w (by simp))⟩
 subst hm
 have RR : Hid (risG (prevG l 0) (l.drop 0) = re) := Lib.hid (by rw [← RE.out]; unfold valG; rw [H1.out, if_neg hk]; simp [prevG])
 have HV2 : Hid (w2.heap[z]? = some (.cells #[.int .i64 k, .int .i64 0, .slice a n c] 79 (0, 0))) := Lib.hid (boxStays HV.out (HC.out.to w1 (by simp)))
 have HL2 := Lib.hid (HL.out.below (HC.out.to w (by simp)) rfl)
 have BW2 := Lib.hid (HC.out.to w (by simp))
 have kV0 := cell_of_row _ _ 0 _ _ _ (boxStays HV.out (HC.out.to w1 (by simp)))
 have kV1 := cell_of_row _ _ 1 _ _ _ (boxStays HV.out (HC.out.to w1 (by simp)))
 have kV2 := cell_of_row _ _ 2 _ _ _ (boxStays HV.out (HC.out.to w1 (by simp)))
 go_wp2_with fail
 clear kV0 kV1 kV2
 clear HC HV Sz hkb
 go_loopw [3, 4, 25] (fun _ _ j wr => ∃ q : Nat, j = .int .i64 (q : Int) ∧ q ≤ n ∧ Hid (risG (prevG l q) (l.drop q) = re) ∧ Hid (Below w2.heap.size w2 wr)) (fun _ _ j _ => n - (intOf j).toNat)
 case atStart => exact ⟨0, rfl, Nat.zero_le _, RR, Lib.hid (Below.refl _ _)⟩
 case round =>
  obtain ⟨q, rfl, hq, HR, HB⟩ := hrel
  by_cases hlt : q < n
  · have hqi : (q : Int) < (n : Int) := by omega
    have hql : q < l.length := by have := HN.out; omega
    have HST := Lib.hid (ris_step hql HR.out)
    have HC : Hid (Chain [wr] wr) := Lib.hid (Chain.one wr)
    obtain ⟨ba, oa, rfl, ca⟩ := els_get (HL2.out.below HB.out rfl) q hql
    obtain ⟨x, hx⟩ : ∃ x, l[q] = x := ⟨_, rfl⟩
    rw [hx] at ca HST
    have HXZ : Hid (x.1.l.size ≤ 9223372036854775807) := Lib.hid (HZ.out x (hx ▸ List.getElem_mem hql))
    have HVR : Hid (wr.heap[z]? = some (.cells #[.int .i64 k, .int .i64 0, .slice (some ⟨ba, oa, none⟩) n c] 79 (0, 0))) := Lib.hid (boxStays HV2.out HB.out)
    have CA := Lib.hid ca
    obtain ⟨p0, p1, p2, p3, p4, p5⟩ := ca
    clear hx
    go_upto_region 10 with (fail)
    clear p0 p1 p2 p3 p4 p5
    obtain ⟨y, hy⟩ : ∃ c, wr.heap.size = c := ⟨_, rfl⟩
    try rw [hy]
    obtain ⟨w3, hw3⟩ : ∃ X, allocs wr [.cells #[.int .i64 x.1.g, .int .i64 x.1.r, .string x.1.l, .int .i64 x.1.n, .int .i64 x.1.i, .string x.2] 53] = X := ⟨_, rfl⟩
    rw [show wr.alloc (.cells #[.int .i64 x.1.g, .int .i64 x.1.r, .string x.1.l, .int .i64 x.1.n, .int .i64 x.1.i, .string x.2] 53) = w3 from hw3]
    have hb : Below wr.heap.size wr w3 := by rw [← hw3]; exact allocs_below _ _
    have HX : Hid (w3.heap[y]? = some (.cells #[.int .i64 x.1.g, .int .i64 x.1.r, .string x.1.l, .int .i64 x.1.n, .int .i64 x.1.i, .string x.2] 53 (0, 0))) := Lib.hid (by have := allocs_get [.cells #[.int .i64 x.1.g, .int .i64 x.1.r, .string x.1.l, .int .i64 x.1.n, .int .i64 x.1.i, .string x.2] 53] wr 0 _ rfl; rw [hw3, hy] at this; exact this)
    have Sy : Hid (wr.heap.size = y) := Lib.hid hy
    replace HC := Lib.hid (HC.out.push hb)
    clear hb hw3 hy
    have HV3 := Lib.hid (boxStays HVR.out (HC.out.to wr (by simp)))
    have BR3 := Lib.hid (HB.out.trans ((HC.out.to wr (by simp)).mono HB.out.size))
    have CA3 := Lib.hid (CA.out.below (HC.out.to wr (by simp)))
    have HL3 := Lib.hid (HL2.out.below BR3.out rfl)
    obtain ⟨c3, hc3⟩ : ∃ b, (if h0 : 0 < q then decide (svC (l[q - 1]'(by omega)).1 x.1 < 0) else true) = b := ⟨_, rfl⟩
    have C3 := Lib.hid hc3
    rw [hc3] at HST
    clear hc3
    clear HC
    go_cut [56] (fun u56 wx => u56 = .bool (!(okV x && c3)) ∧ Hid (Below w3.heap.size w3 wx))
    case first =>
     have HOV : Hid (okV x = (x.1.ok && decide (x.2.size ≤ 256))) := Lib.hid rfl
     obtain ⟨c1, hc1⟩ : ∃ b, x.1.ok = b := ⟨_, rfl⟩
     obtain ⟨c2, hc2⟩ : ∃ b, decide (x.2.size ≤ 256) = b := ⟨_, rfl⟩
     rw [hc1, hc2] at HOV
     have HC1 := Lib.hid hc1
     have HC2 := Lib.hid hc2
     clear hc1 hc2
     cases c1
     case false =>
      refine wp_region_noPanic ?_
      refine wp_region_held_drew (S := fun w' => Below w3.heap.size w3 w') (by kernel_rfl) (Below.refl _ _).drew (fun hS => ?_)
      refine wpAnyH_take (i := 0) (oi := ⟨some 30, _, _, _, _, _⟩) (v := ?_) rfl (by kernel_rfl) (by kernel_rfl) (by kernel_rfl) (fun _ _ _ h => h) (Or.inl ⟨by rfl, ?_⟩) hS ?_
      rotate_left 1
      · intro w' hB; have hx := boxStays HX.out hB; have x0 := cell_of_row _ y 0 _ _ _ hx; have x1 := cell_of_row _ y 1 _ _ _ hx; have x2 := cell_of_row _ y 2 _ _ _ hx; have x3 := cell_of_row _ y 3 _ _ _ hx; have x4 := cell_of_row _ y 4 _ _ _ hx; have x5 := cell_of_row _ y 5 _ _ _ hx; clear hx; (go_simp <;> with_reducible rfl)
      try simp only [Act.put, List.setIfInBounds_toArray, List.set_cons_zero, List.set_cons_succ]
      refine wpAnyH_take (i := 1) (oi := ⟨some 31, _, _, _, _, _⟩) (v := ?_) rfl (by kernel_rfl) (by kernel_rfl) (by kernel_rfl) (fun _ _ _ h => h) (Or.inl ⟨by rfl, ?_⟩) hS ?_
      rotate_left 1
      · intro w' hB; have hx := boxStays HX.out hB; have x0 := cell_of_row _ y 0 _ _ _ hx; have x1 := cell_of_row _ y 1 _ _ _ hx; have x2 := cell_of_row _ y 2 _ _ _ hx; have x3 := cell_of_row _ y 3 _ _ _ hx; have x4 := cell_of_row _ y 4 _ _ _ hx; have x5 := cell_of_row _ y 5 _ _ _ hx; clear hx; (go_simp <;> with_reducible rfl)
      try simp only [Act.put, List.setIfInBounds_toArray, List.set_cons_zero, List.set_cons_succ]
      refine wpAnyH_ready (rs := [2]) (by kernel_rfl) (by simp) (AllReadyH.cons (o := ⟨some 32, _, _, _, _, _⟩) rfl (fun K hK => ?_) AllReadyH.nil)
      go_simp
      refine (stp_Stamp x.1 _ HXZ.out).mono ?_
      rintro e w4 ⟨rfl, hb⟩
      refine hK.out _ _ (hS.trans (hb.mono hS.size)) (fun _ => ?_)
      clear hK K
      replace hS := hS.trans (hb.mono hS.size)
      rw [HC1.out]
      clear hb
      try simp only [Act.put, List.setIfInBounds_toArray, List.set_cons_zero, List.set_cons_succ]
      refine wpAnyH_take (i := 3) (oi := ⟨some 33, _, _, _, _, _⟩) (v := ?_) rfl (by kernel_rfl) (by kernel_rfl) (by kernel_rfl) (fun _ _ _ h => h) (Or.inl ⟨by rfl, ?_⟩) hS ?_
      rotate_left 1
      · intro w' hB; have hx := boxStays HX.out hB; have x0 := cell_of_row _ y 0 _ _ _ hx; have x1 := cell_of_row _ y 1 _ _ _ hx; have x2 := cell_of_row _ y 2 _ _ _ hx; have x3 := cell_of_row _ y 3 _ _ _ hx; have x4 := cell_of_row _ y 4 _ _ _ hx; have x5 := cell_of_row _ y 5 _ _ _ hx; clear hx; (go_simp <;> with_reducible rfl)
      try simp only [Act.put, List.setIfInBounds_toArray, List.set_cons_zero, List.set_cons_succ]
      refine wpAnyH_take (i := 4) (oi := ⟨some 34, _, _, _, _, _⟩) (v := ?_) rfl (by kernel_rfl) (by kernel_rfl) (by kernel_rfl) (fun _ _ _ h => h) (Or.inl ⟨by rfl, ?_⟩) hS ?_
      rotate_left 1
      · intro w' hB; have hx := boxStays HX.out hB; have x0 := cell_of_row _ y 0 _ _ _ hx; have x1 := cell_of_row _ y 1 _ _ _ hx; have x2 := cell_of_row _ y 2 _ _ _ hx; have x3 := cell_of_row _ y 3 _ _ _ hx; have x4 := cell_of_row _ y 4 _ _ _ hx; have x5 := cell_of_row _ y 5 _ _ _ hx; clear hx; (go_simp <;> with_reducible rfl)
      try simp only [Act.put, List.setIfInBounds_toArray, List.set_cons_zero, List.set_cons_succ]
      refine wpAnyH_take (i := 5) (oi := ⟨some 35, _, _, _, _, _⟩) rfl (by kernel_rfl) (by kernel_rfl) (by kernel_rfl) (fun _ _ _ h => h) (Or.inr ⟨by rfl, rfl⟩) hS ?_
      try simp only [Act.put, List.setIfInBounds_toArray, List.set_cons_zero, List.set_cons_succ]
      refine wpAnyH_take (i := 6) (oi := ⟨some 36, _, _, _, _, _⟩) rfl (by kernel_rfl) (by kernel_rfl) (by kernel_rfl) (fun _ _ _ h => h) (Or.inr ⟨by rfl, rfl⟩) hS ?_
      try simp only [Act.put, List.setIfInBounds_toArray, List.set_cons_zero, List.set_cons_succ]
      refine wpAnyH_take (i := 7) (oi := ⟨some 37, _, _, _, _, _⟩) rfl (by kernel_rfl) (by kernel_rfl) (by kernel_rfl) (fun _ _ _ h => h) (Or.inr ⟨by rfl, rfl⟩) hS ?_
      try simp only [Act.put, List.setIfInBounds_toArray, List.set_cons_zero, List.set_cons_succ]
      refine wpAnyH_take (i := 8) (oi := ⟨some 38, _, _, _, _, _⟩) rfl (by kernel_rfl) (by kernel_rfl) (by kernel_rfl) (fun _ _ _ h => h) (Or.inr ⟨by rfl, rfl⟩) hS ?_
      try simp only [Act.put, List.setIfInBounds_toArray, List.set_cons_zero, List.set_cons_succ]
      refine wpAnyH_take (i := 9) (oi := ⟨some 39, _, _, _, _, _⟩) (v := ?_) rfl (by kernel_rfl) (by kernel_rfl) (by kernel_rfl) (fun _ _ _ h => h) (Or.inl ⟨by rfl, ?_⟩) hS ?_
      rotate_left 1
      · intro w' hB; have hx := boxStays HX.out hB; have x0 := cell_of_row _ y 0 _ _ _ hx; have x1 := cell_of_row _ y 1 _ _ _ hx; have x2 := cell_of_row _ y 2 _ _ _ hx; have x3 := cell_of_row _ y 3 _ _ _ hx; have x4 := cell_of_row _ y 4 _ _ _ hx; have x5 := cell_of_row _ y 5 _ _ _ hx; clear hx; (go_simp <;> with_reducible rfl)
      try simp only [Act.put, List.setIfInBounds_toArray, List.set_cons_zero, List.set_cons_succ]
      refine wpAnyH_take (i := 10) (oi := ⟨some 40, _, _, _, _, _⟩) (v := ?_) rfl (by kernel_rfl) (by kernel_rfl) (by kernel_rfl) (fun _ _ _ h => h) (Or.inl ⟨by rfl, ?_⟩) hS ?_
      rotate_left 1
      · intro w' hB; have hx := boxStays HX.out hB; have x0 := cell_of_row _ y 0 _ _ _ hx; have x1 := cell_of_row _ y 1 _ _ _ hx; have x2 := cell_of_row _ y 2 _ _ _ hx; have x3 := cell_of_row _ y 3 _ _ _ hx; have x4 := cell_of_row _ y 4 _ _ _ hx; have x5 := cell_of_row _ y 5 _ _ _ hx; clear hx; (go_simp <;> with_reducible rfl)
      try simp only [Act.put, List.setIfInBounds_toArray, List.set_cons_zero, List.set_cons_succ]
      refine wpAnyH_take (i := 11) (oi := ⟨some 41, _, _, _, _, _⟩) rfl (by kernel_rfl) (by kernel_rfl) (by kernel_rfl) (fun _ _ _ h => h) (Or.inr ⟨by rfl, rfl⟩) hS ?_
      try simp only [Act.put, List.setIfInBounds_toArray, List.set_cons_zero, List.set_cons_succ]
      refine wpAnyH_take (i := 12) (oi := ⟨some 42, _, _, _, _, _⟩) rfl (by kernel_rfl) (by kernel_rfl) (by kernel_rfl) (fun _ _ _ h => h) (Or.inr ⟨by rfl, rfl⟩) hS ?_
      try simp only [Act.put, List.setIfInBounds_toArray, List.set_cons_zero, List.set_cons_succ]
      refine wpAnyH_take (i := 13) (oi := ⟨some 43, _, _, _, _, _⟩) rfl (by kernel_rfl) (by kernel_rfl) (by kernel_rfl) (fun _ _ _ h => h) (Or.inr ⟨by rfl, rfl⟩) hS ?_
      try simp only [Act.put, List.setIfInBounds_toArray, List.set_cons_zero, List.set_cons_succ]
      refine wpAnyH_take (i := 14) (oi := ⟨some 44, _, _, _, _, _⟩) rfl (by kernel_rfl) (by kernel_rfl) (by kernel_rfl) (fun _ _ _ h => h) (Or.inr ⟨by rfl, rfl⟩) hS ?_
      try simp only [Act.put, List.setIfInBounds_toArray, List.set_cons_zero, List.set_cons_succ]
      refine wpAnyH_take (i := 15) (oi := ⟨some 45, _, _, _, _, _⟩) rfl (by kernel_rfl) (by kernel_rfl) (by kernel_rfl) (fun _ _ _ h => h) (Or.inr ⟨by rfl, rfl⟩) hS ?_
      try simp only [Act.put, List.setIfInBounds_toArray, List.set_cons_zero, List.set_cons_succ]
      refine wpAnyH_take (i := 16) (oi := ⟨some 46, _, _, _, _, _⟩) rfl (by kernel_rfl) (by kernel_rfl) (by kernel_rfl) (fun _ _ _ h => h) (Or.inr ⟨by rfl, rfl⟩) hS ?_
      try simp only [Act.put, List.setIfInBounds_toArray, List.set_cons_zero, List.set_cons_succ]
      refine wpAnyH_take (i := 17) (oi := ⟨some 47, _, _, _, _, _⟩) rfl (by kernel_rfl) (by kernel_rfl) (by kernel_rfl) (fun _ _ _ h => h) (Or.inr ⟨by rfl, rfl⟩) hS ?_
      try simp only [Act.put, List.setIfInBounds_toArray, List.set_cons_zero, List.set_cons_succ]
      refine wpAnyH_take (i := 18) (oi := ⟨some 48, _, _, _, _, _⟩) rfl (by kernel_rfl) (by kernel_rfl) (by kernel_rfl) (fun _ _ _ h => h) (Or.inr ⟨by rfl, rfl⟩) hS ?_
      try simp only [Act.put, List.setIfInBounds_toArray, List.set_cons_zero, List.set_cons_succ]
      refine wpAnyH_take (i := 19) (oi := ⟨some 49, _, _, _, _, _⟩) rfl (by kernel_rfl) (by kernel_rfl) (by kernel_rfl) (fun _ _ _ h => h) (Or.inr ⟨by rfl, rfl⟩) hS ?_
      try simp only [Act.put, List.setIfInBounds_toArray, List.set_cons_zero, List.set_cons_succ]
      refine wpAnyH_take (i := 20) (oi := ⟨some 50, _, _, _, _, _⟩) rfl (by kernel_rfl) (by kernel_rfl) (by kernel_rfl) (fun _ _ _ h => h) (Or.inr ⟨by rfl, rfl⟩) hS ?_
      try simp only [Act.put, List.setIfInBounds_toArray, List.set_cons_zero, List.set_cons_succ]
      refine wpAnyH_take (i := 21) (oi := ⟨some 51, _, _, _, _, _⟩) rfl (by kernel_rfl) (by kernel_rfl) (by kernel_rfl) (fun _ _ _ h => h) (Or.inr ⟨by rfl, rfl⟩) hS ?_
      try simp only [Act.put, List.setIfInBounds_toArray, List.set_cons_zero, List.set_cons_succ]
      refine wpAnyH_take (i := 22) (oi := ⟨some 52, _, _, _, _, _⟩) rfl (by kernel_rfl) (by kernel_rfl) (by kernel_rfl) (fun _ _ _ h => h) (Or.inr ⟨by rfl, rfl⟩) hS ?_
      try simp only [Act.put, List.setIfInBounds_toArray, List.set_cons_zero, List.set_cons_succ]
      refine wpAnyH_take (i := 23) (oi := ⟨some 53, _, _, _, _, _⟩) rfl (by kernel_rfl) (by kernel_rfl) (by kernel_rfl) (fun _ _ _ h => h) (Or.inr ⟨by rfl, rfl⟩) hS ?_
      try simp only [Act.put, List.setIfInBounds_toArray, List.set_cons_zero, List.set_cons_succ]
      refine wpAnyH_take (i := 24) (oi := ⟨some 54, _, _, _, _, _⟩) rfl (by kernel_rfl) (by kernel_rfl) (by kernel_rfl) (fun _ _ _ h => h) (Or.inr ⟨by rfl, rfl⟩) hS ?_
      try simp only [Act.put, List.setIfInBounds_toArray, List.set_cons_zero, List.set_cons_succ]
      refine wpAnyH_take (i := 25) (oi := ⟨some 55, _, _, _, _, _⟩) rfl (by kernel_rfl) (by kernel_rfl) (by kernel_rfl) (fun _ _ _ h => h) (Or.inr ⟨by rfl, rfl⟩) hS ?_
      try simp only [Act.put, List.setIfInBounds_toArray, List.set_cons_zero, List.set_cons_succ]
      refine wpAnyH_take (i := 26) (oi := ⟨some 56, _, _, _, _, _⟩) (v := ?_) rfl (by kernel_rfl) (by kernel_rfl) (by kernel_rfl) (fun _ _ _ h => h) (Or.inl ⟨by rfl, ?_⟩) hS ?_
      rotate_left 1
      · intro w' hB; have hx := boxStays HX.out hB; have x0 := cell_of_row _ y 0 _ _ _ hx; have x1 := cell_of_row _ y 1 _ _ _ hx; have x2 := cell_of_row _ y 2 _ _ _ hx; have x3 := cell_of_row _ y 3 _ _ _ hx; have x4 := cell_of_row _ y 4 _ _ _ hx; have x5 := cell_of_row _ y 5 _ _ _ hx; clear hx; (go_simp <;> with_reducible rfl)
      try simp only [Act.put, List.setIfInBounds_toArray, List.set_cons_zero, List.set_cons_succ]
      refine wpAnyH_done (by kernel_rfl) (NoPanic.normal ?_) _
      have HBD := Lib.hid hS
      go_wp2_with fail
      go_meet
      exact ⟨by rw [HOV.out]; rfl, HBD⟩
     cases c2
     case false =>
      refine wp_region_noPanic ?_
      refine wp_region_held_drew (S := fun w' => Below w3.heap.size w3 w') (by kernel_rfl) (Below.refl _ _).drew (fun hS => ?_)
      refine wpAnyH_take (i := 0) (oi := ⟨some 30, _, _, _, _, _⟩) (v := ?_) rfl (by kernel_rfl) (by kernel_rfl) (by kernel_rfl) (fun _ _ _ h => h) (Or.inl ⟨by rfl, ?_⟩) hS ?_
      rotate_left 1
      · intro w' hB; have hx := boxStays HX.out hB; have x0 := cell_of_row _ y 0 _ _ _ hx; have x1 := cell_of_row _ y 1 _ _ _ hx; have x2 := cell_of_row _ y 2 _ _ _ hx; have x3 := cell_of_row _ y 3 _ _ _ hx; have x4 := cell_of_row _ y 4 _ _ _ hx; have x5 := cell_of_row _ y 5 _ _ _ hx; clear hx; (go_simp <;> with_reducible rfl)
      try simp only [Act.put, List.setIfInBounds_toArray, List.set_cons_zero, List.set_cons_succ]
      refine wpAnyH_take (i := 1) (oi := ⟨some 31, _, _, _, _, _⟩) (v := ?_) rfl (by kernel_rfl) (by kernel_rfl) (by kernel_rfl) (fun _ _ _ h => h) (Or.inl ⟨by rfl, ?_⟩) hS ?_
      rotate_left 1
      · intro w' hB; have hx := boxStays HX.out hB; have x0 := cell_of_row _ y 0 _ _ _ hx; have x1 := cell_of_row _ y 1 _ _ _ hx; have x2 := cell_of_row _ y 2 _ _ _ hx; have x3 := cell_of_row _ y 3 _ _ _ hx; have x4 := cell_of_row _ y 4 _ _ _ hx; have x5 := cell_of_row _ y 5 _ _ _ hx; clear hx; (go_simp <;> with_reducible rfl)
      try simp only [Act.put, List.setIfInBounds_toArray, List.set_cons_zero, List.set_cons_succ]
      refine wpAnyH_ready (rs := [2]) (by kernel_rfl) (by simp) (AllReadyH.cons (o := ⟨some 32, _, _, _, _, _⟩) rfl (fun K hK => ?_) AllReadyH.nil)
      go_simp
      refine (stp_Stamp x.1 _ HXZ.out).mono ?_
      rintro e w4 ⟨rfl, hb⟩
      refine hK.out _ _ (hS.trans (hb.mono hS.size)) (fun _ => ?_)
      clear hK K
      replace hS := hS.trans (hb.mono hS.size)
      rw [HC1.out]
      clear hb
      try simp only [Act.put, List.setIfInBounds_toArray, List.set_cons_zero, List.set_cons_succ]
      refine wpAnyH_take (i := 3) (oi := ⟨some 33, _, _, _, _, _⟩) (v := ?_) rfl (by kernel_rfl) (by kernel_rfl) (by kernel_rfl) (fun _ _ _ h => h) (Or.inl ⟨by rfl, ?_⟩) hS ?_
      rotate_left 1
      · intro w' hB; have hx := boxStays HX.out hB; have x0 := cell_of_row _ y 0 _ _ _ hx; have x1 := cell_of_row _ y 1 _ _ _ hx; have x2 := cell_of_row _ y 2 _ _ _ hx; have x3 := cell_of_row _ y 3 _ _ _ hx; have x4 := cell_of_row _ y 4 _ _ _ hx; have x5 := cell_of_row _ y 5 _ _ _ hx; clear hx; (go_simp <;> with_reducible rfl)
      try simp only [Act.put, List.setIfInBounds_toArray, List.set_cons_zero, List.set_cons_succ]
      refine wpAnyH_take (i := 4) (oi := ⟨some 34, _, _, _, _, _⟩) (v := ?_) rfl (by kernel_rfl) (by kernel_rfl) (by kernel_rfl) (fun _ _ _ h => h) (Or.inl ⟨by rfl, ?_⟩) hS ?_
      rotate_left 1
      · intro w' hB; have hx := boxStays HX.out hB; have x0 := cell_of_row _ y 0 _ _ _ hx; have x1 := cell_of_row _ y 1 _ _ _ hx; have x2 := cell_of_row _ y 2 _ _ _ hx; have x3 := cell_of_row _ y 3 _ _ _ hx; have x4 := cell_of_row _ y 4 _ _ _ hx; have x5 := cell_of_row _ y 5 _ _ _ hx; clear hx; (go_simp <;> with_reducible rfl)
      try simp only [Act.put, List.setIfInBounds_toArray, List.set_cons_zero, List.set_cons_succ]
      refine wpAnyH_take (i := 5) (oi := ⟨some 35, _, _, _, _, _⟩) (v := ?_) rfl (by kernel_rfl) (by kernel_rfl) (by kernel_rfl) (fun _ _ _ h => h) (Or.inl ⟨by rfl, ?_⟩) hS ?_
      rotate_left 1
      · intro w' hB; have hx := boxStays HX.out hB; have x0 := cell_of_row _ y 0 _ _ _ hx; have x1 := cell_of_row _ y 1 _ _ _ hx; have x2 := cell_of_row _ y 2 _ _ _ hx; have x3 := cell_of_row _ y 3 _ _ _ hx; have x4 := cell_of_row _ y 4 _ _ _ hx; have x5 := cell_of_row _ y 5 _ _ _ hx; clear hx; (go_simp <;> with_reducible rfl)
      try simp only [Act.put, List.setIfInBounds_toArray, List.set_cons_zero, List.set_cons_succ]
      refine wpAnyH_take (i := 6) (oi := ⟨some 36, _, _, _, _, _⟩) (v := ?_) rfl (by kernel_rfl) (by kernel_rfl) (by kernel_rfl) (fun _ _ _ h => h) (Or.inl ⟨by rfl, ?_⟩) hS ?_
      rotate_left 1
      · intro w' hB; have hx := boxStays HX.out hB; have x0 := cell_of_row _ y 0 _ _ _ hx; have x1 := cell_of_row _ y 1 _ _ _ hx; have x2 := cell_of_row _ y 2 _ _ _ hx; have x3 := cell_of_row _ y 3 _ _ _ hx; have x4 := cell_of_row _ y 4 _ _ _ hx; have x5 := cell_of_row _ y 5 _ _ _ hx; clear hx; (go_simp <;> with_reducible rfl)
      try simp only [Act.put, List.setIfInBounds_toArray, List.set_cons_zero, List.set_cons_succ]
      refine wpAnyH_ready (rs := [7]) (by kernel_rfl) (by simp) (AllReadyH.cons (o := ⟨some 37, _, _, _, _, _⟩) rfl (fun K hK => ?_) AllReadyH.nil)
      go_simp
      refine (key_Text x.2 _).mono ?_
      rintro e w5 ⟨rfl, hb⟩
      refine hK.out _ _ (hS.trans (hb.mono hS.size)) (fun _ => ?_)
      clear hK K
      replace hS := hS.trans (hb.mono hS.size)
      rw [HC2.out]
      clear hb
      try simp only [Act.put, List.setIfInBounds_toArray, List.set_cons_zero, List.set_cons_succ]
      refine wpAnyH_take (i := 8) (oi := ⟨some 38, _, _, _, _, _⟩) (v := ?_) rfl (by kernel_rfl) (by kernel_rfl) (by kernel_rfl) (fun _ _ _ h => h) (Or.inl ⟨by rfl, ?_⟩) hS ?_
      rotate_left 1
      · intro w' hB; have hx := boxStays HX.out hB; have x0 := cell_of_row _ y 0 _ _ _ hx; have x1 := cell_of_row _ y 1 _ _ _ hx; have x2 := cell_of_row _ y 2 _ _ _ hx; have x3 := cell_of_row _ y 3 _ _ _ hx; have x4 := cell_of_row _ y 4 _ _ _ hx; have x5 := cell_of_row _ y 5 _ _ _ hx; clear hx; (go_simp <;> with_reducible rfl)
      try simp only [Act.put, List.setIfInBounds_toArray, List.set_cons_zero, List.set_cons_succ]
      refine wpAnyH_take (i := 9) (oi := ⟨some 39, _, _, _, _, _⟩) (v := ?_) rfl (by kernel_rfl) (by kernel_rfl) (by kernel_rfl) (fun _ _ _ h => h) (Or.inl ⟨by rfl, ?_⟩) hS ?_
      rotate_left 1
      · intro w' hB; have hx := boxStays HX.out hB; have x0 := cell_of_row _ y 0 _ _ _ hx; have x1 := cell_of_row _ y 1 _ _ _ hx; have x2 := cell_of_row _ y 2 _ _ _ hx; have x3 := cell_of_row _ y 3 _ _ _ hx; have x4 := cell_of_row _ y 4 _ _ _ hx; have x5 := cell_of_row _ y 5 _ _ _ hx; clear hx; (go_simp <;> with_reducible rfl)
      try simp only [Act.put, List.setIfInBounds_toArray, List.set_cons_zero, List.set_cons_succ]
      refine wpAnyH_take (i := 10) (oi := ⟨some 40, _, _, _, _, _⟩) (v := ?_) rfl (by kernel_rfl) (by kernel_rfl) (by kernel_rfl) (fun _ _ _ h => h) (Or.inl ⟨by rfl, ?_⟩) hS ?_
      rotate_left 1
      · intro w' hB; have hx := boxStays HX.out hB; have x0 := cell_of_row _ y 0 _ _ _ hx; have x1 := cell_of_row _ y 1 _ _ _ hx; have x2 := cell_of_row _ y 2 _ _ _ hx; have x3 := cell_of_row _ y 3 _ _ _ hx; have x4 := cell_of_row _ y 4 _ _ _ hx; have x5 := cell_of_row _ y 5 _ _ _ hx; clear hx; (go_simp <;> with_reducible rfl)
      try simp only [Act.put, List.setIfInBounds_toArray, List.set_cons_zero, List.set_cons_succ]
      refine wpAnyH_take (i := 11) (oi := ⟨some 41, _, _, _, _, _⟩) rfl (by kernel_rfl) (by kernel_rfl) (by kernel_rfl) (fun _ _ _ h => h) (Or.inr ⟨by rfl, rfl⟩) hS ?_
      try simp only [Act.put, List.setIfInBounds_toArray, List.set_cons_zero, List.set_cons_succ]
      refine wpAnyH_take (i := 12) (oi := ⟨some 42, _, _, _, _, _⟩) rfl (by kernel_rfl) (by kernel_rfl) (by kernel_rfl) (fun _ _ _ h => h) (Or.inr ⟨by rfl, rfl⟩) hS ?_
      try simp only [Act.put, List.setIfInBounds_toArray, List.set_cons_zero, List.set_cons_succ]
      refine wpAnyH_take (i := 13) (oi := ⟨some 43, _, _, _, _, _⟩) rfl (by kernel_rfl) (by kernel_rfl) (by kernel_rfl) (fun _ _ _ h => h) (Or.inr ⟨by rfl, rfl⟩) hS ?_
      try simp only [Act.put, List.setIfInBounds_toArray, List.set_cons_zero, List.set_cons_succ]
      refine wpAnyH_take (i := 14) (oi := ⟨some 44, _, _, _, _, _⟩) rfl (by kernel_rfl) (by kernel_rfl) (by kernel_rfl) (fun _ _ _ h => h) (Or.inr ⟨by rfl, rfl⟩) hS ?_
      try simp only [Act.put, List.setIfInBounds_toArray, List.set_cons_zero, List.set_cons_succ]
      refine wpAnyH_take (i := 15) (oi := ⟨some 45, _, _, _, _, _⟩) rfl (by kernel_rfl) (by kernel_rfl) (by kernel_rfl) (fun _ _ _ h => h) (Or.inr ⟨by rfl, rfl⟩) hS ?_
      try simp only [Act.put, List.setIfInBounds_toArray, List.set_cons_zero, List.set_cons_succ]
      refine wpAnyH_take (i := 16) (oi := ⟨some 46, _, _, _, _, _⟩) rfl (by kernel_rfl) (by kernel_rfl) (by kernel_rfl) (fun _ _ _ h => h) (Or.inr ⟨by rfl, rfl⟩) hS ?_
      try simp only [Act.put, List.setIfInBounds_toArray, List.set_cons_zero, List.set_cons_succ]
      refine wpAnyH_take (i := 17) (oi := ⟨some 47, _, _, _, _, _⟩) rfl (by kernel_rfl) (by kernel_rfl) (by kernel_rfl) (fun _ _ _ h => h) (Or.inr ⟨by rfl, rfl⟩) hS ?_
      try simp only [Act.put, List.setIfInBounds_toArray, List.set_cons_zero, List.set_cons_succ]
      refine wpAnyH_take (i := 18) (oi := ⟨some 48, _, _, _, _, _⟩) rfl (by kernel_rfl) (by kernel_rfl) (by kernel_rfl) (fun _ _ _ h => h) (Or.inr ⟨by rfl, rfl⟩) hS ?_
      try simp only [Act.put, List.setIfInBounds_toArray, List.set_cons_zero, List.set_cons_succ]
      refine wpAnyH_take (i := 19) (oi := ⟨some 49, _, _, _, _, _⟩) rfl (by kernel_rfl) (by kernel_rfl) (by kernel_rfl) (fun _ _ _ h => h) (Or.inr ⟨by rfl, rfl⟩) hS ?_
      try simp only [Act.put, List.setIfInBounds_toArray, List.set_cons_zero, List.set_cons_succ]
      refine wpAnyH_take (i := 20) (oi := ⟨some 50, _, _, _, _, _⟩) rfl (by kernel_rfl) (by kernel_rfl) (by kernel_rfl) (fun _ _ _ h => h) (Or.inr ⟨by rfl, rfl⟩) hS ?_
      try simp only [Act.put, List.setIfInBounds_toArray, List.set_cons_zero, List.set_cons_succ]
      refine wpAnyH_take (i := 21) (oi := ⟨some 51, _, _, _, _, _⟩) rfl (by kernel_rfl) (by kernel_rfl) (by kernel_rfl) (fun _ _ _ h => h) (Or.inr ⟨by rfl, rfl⟩) hS ?_
      try simp only [Act.put, List.setIfInBounds_toArray, List.set_cons_zero, List.set_cons_succ]
      refine wpAnyH_take (i := 22) (oi := ⟨some 52, _, _, _, _, _⟩) rfl (by kernel_rfl) (by kernel_rfl) (by kernel_rfl) (fun _ _ _ h => h) (Or.inr ⟨by rfl, rfl⟩) hS ?_
      try simp only [Act.put, List.setIfInBounds_toArray, List.set_cons_zero, List.set_cons_succ]
      refine wpAnyH_take (i := 23) (oi := ⟨some 53, _, _, _, _, _⟩) rfl (by kernel_rfl) (by kernel_rfl) (by kernel_rfl) (fun _ _ _ h => h) (Or.inr ⟨by rfl, rfl⟩) hS ?_
      try simp only [Act.put, List.setIfInBounds_toArray, List.set_cons_zero, List.set_cons_succ]
      refine wpAnyH_take (i := 24) (oi := ⟨some 54, _, _, _, _, _⟩) rfl (by kernel_rfl) (by kernel_rfl) (by kernel_rfl) (fun _ _ _ h => h) (Or.inr ⟨by rfl, rfl⟩) hS ?_
      try simp only [Act.put, List.setIfInBounds_toArray, List.set_cons_zero, List.set_cons_succ]
      refine wpAnyH_take (i := 25) (oi := ⟨some 55, _, _, _, _, _⟩) rfl (by kernel_rfl) (by kernel_rfl) (by kernel_rfl) (fun _ _ _ h => h) (Or.inr ⟨by rfl, rfl⟩) hS ?_
      try simp only [Act.put, List.setIfInBounds_toArray, List.set_cons_zero, List.set_cons_succ]
      refine wpAnyH_take (i := 26) (oi := ⟨some 56, _, _, _, _, _⟩) (v := ?_) rfl (by kernel_rfl) (by kernel_rfl) (by kernel_rfl) (fun _ _ _ h => h) (Or.inl ⟨by rfl, ?_⟩) hS ?_
      rotate_left 1
      · intro w' hB; have hx := boxStays HX.out hB; have x0 := cell_of_row _ y 0 _ _ _ hx; have x1 := cell_of_row _ y 1 _ _ _ hx; have x2 := cell_of_row _ y 2 _ _ _ hx; have x3 := cell_of_row _ y 3 _ _ _ hx; have x4 := cell_of_row _ y 4 _ _ _ hx; have x5 := cell_of_row _ y 5 _ _ _ hx; clear hx; (go_simp <;> with_reducible rfl)
      try simp only [Act.put, List.setIfInBounds_toArray, List.set_cons_zero, List.set_cons_succ]
      refine wpAnyH_done (by kernel_rfl) (NoPanic.normal ?_) _
      have HBD := Lib.hid hS
      go_wp2_with fail
      go_meet
      exact ⟨by rw [HOV.out]; rfl, HBD⟩
     by_cases h0 : q = 0
     · subst h0
       obtain rfl : true = c3 := by rw [← C3.out]; rfl
       refine wp_region_noPanic ?_
       refine wp_region_held_drew (S := fun w' => Below w3.heap.size w3 w') (by kernel_rfl) (Below.refl _ _).drew (fun hS => ?_)
       refine wpAnyH_take (i := 0) (oi := ⟨some 30, _, _, _, _, _⟩) (v := ?_) rfl (by kernel_rfl) (by kernel_rfl) (by kernel_rfl) (fun _ _ _ h => h) (Or.inl ⟨by rfl, ?_⟩) hS ?_
       rotate_left 1
       · intro w' hB; have hx := boxStays HX.out hB; have x0 := cell_of_row _ y 0 _ _ _ hx; have x1 := cell_of_row _ y 1 _ _ _ hx; have x2 := cell_of_row _ y 2 _ _ _ hx; have x3 := cell_of_row _ y 3 _ _ _ hx; have x4 := cell_of_row _ y 4 _ _ _ hx; have x5 := cell_of_row _ y 5 _ _ _ hx; clear hx; (go_simp <;> with_reducible rfl)
       try simp only [Act.put, List.setIfInBounds_toArray, List.set_cons_zero, List.set_cons_succ]
       refine wpAnyH_take (i := 1) (oi := ⟨some 31, _, _, _, _, _⟩) (v := ?_) rfl (by kernel_rfl) (by kernel_rfl) (by kernel_rfl) (fun _ _ _ h => h) (Or.inl ⟨by rfl, ?_⟩) hS ?_
       rotate_left 1
       · intro w' hB; have hx := boxStays HX.out hB; have x0 := cell_of_row _ y 0 _ _ _ hx; have x1 := cell_of_row _ y 1 _ _ _ hx; have x2 := cell_of_row _ y 2 _ _ _ hx; have x3 := cell_of_row _ y 3 _ _ _ hx; have x4 := cell_of_row _ y 4 _ _ _ hx; have x5 := cell_of_row _ y 5 _ _ _ hx; clear hx; (go_simp <;> with_reducible rfl)
       try simp only [Act.put, List.setIfInBounds_toArray, List.set_cons_zero, List.set_cons_succ]
       refine wpAnyH_ready (rs := [2]) (by kernel_rfl) (by simp) (AllReadyH.cons (o := ⟨some 32, _, _, _, _, _⟩) rfl (fun K hK => ?_) AllReadyH.nil)
       go_simp
       refine (stp_Stamp x.1 _ HXZ.out).mono ?_
       rintro e w4 ⟨rfl, hb⟩
       refine hK.out _ _ (hS.trans (hb.mono hS.size)) (fun _ => ?_)
       clear hK K
       replace hS := hS.trans (hb.mono hS.size)
       rw [HC1.out]
       clear hb
       try simp only [Act.put, List.setIfInBounds_toArray, List.set_cons_zero, List.set_cons_succ]
       refine wpAnyH_take (i := 3) (oi := ⟨some 33, _, _, _, _, _⟩) (v := ?_) rfl (by kernel_rfl) (by kernel_rfl) (by kernel_rfl) (fun _ _ _ h => h) (Or.inl ⟨by rfl, ?_⟩) hS ?_
       rotate_left 1
       · intro w' hB; have hx := boxStays HX.out hB; have x0 := cell_of_row _ y 0 _ _ _ hx; have x1 := cell_of_row _ y 1 _ _ _ hx; have x2 := cell_of_row _ y 2 _ _ _ hx; have x3 := cell_of_row _ y 3 _ _ _ hx; have x4 := cell_of_row _ y 4 _ _ _ hx; have x5 := cell_of_row _ y 5 _ _ _ hx; clear hx; (go_simp <;> with_reducible rfl)
       try simp only [Act.put, List.setIfInBounds_toArray, List.set_cons_zero, List.set_cons_succ]
       refine wpAnyH_take (i := 4) (oi := ⟨some 34, _, _, _, _, _⟩) (v := ?_) rfl (by kernel_rfl) (by kernel_rfl) (by kernel_rfl) (fun _ _ _ h => h) (Or.inl ⟨by rfl, ?_⟩) hS ?_
       rotate_left 1
       · intro w' hB; have hx := boxStays HX.out hB; have x0 := cell_of_row _ y 0 _ _ _ hx; have x1 := cell_of_row _ y 1 _ _ _ hx; have x2 := cell_of_row _ y 2 _ _ _ hx; have x3 := cell_of_row _ y 3 _ _ _ hx; have x4 := cell_of_row _ y 4 _ _ _ hx; have x5 := cell_of_row _ y 5 _ _ _ hx; clear hx; (go_simp <;> with_reducible rfl)
       try simp only [Act.put, List.setIfInBounds_toArray, List.set_cons_zero, List.set_cons_succ]
       refine wpAnyH_take (i := 5) (oi := ⟨some 35, _, _, _, _, _⟩) (v := ?_) rfl (by kernel_rfl) (by kernel_rfl) (by kernel_rfl) (fun _ _ _ h => h) (Or.inl ⟨by rfl, ?_⟩) hS ?_
       rotate_left 1
       · intro w' hB; have hx := boxStays HX.out hB; have x0 := cell_of_row _ y 0 _ _ _ hx; have x1 := cell_of_row _ y 1 _ _ _ hx; have x2 := cell_of_row _ y 2 _ _ _ hx; have x3 := cell_of_row _ y 3 _ _ _ hx; have x4 := cell_of_row _ y 4 _ _ _ hx; have x5 := cell_of_row _ y 5 _ _ _ hx; clear hx; (go_simp <;> with_reducible rfl)
       try simp only [Act.put, List.setIfInBounds_toArray, List.set_cons_zero, List.set_cons_succ]
       refine wpAnyH_take (i := 6) (oi := ⟨some 36, _, _, _, _, _⟩) (v := ?_) rfl (by kernel_rfl) (by kernel_rfl) (by kernel_rfl) (fun _ _ _ h => h) (Or.inl ⟨by rfl, ?_⟩) hS ?_
       rotate_left 1
       · intro w' hB; have hx := boxStays HX.out hB; have x0 := cell_of_row _ y 0 _ _ _ hx; have x1 := cell_of_row _ y 1 _ _ _ hx; have x2 := cell_of_row _ y 2 _ _ _ hx; have x3 := cell_of_row _ y 3 _ _ _ hx; have x4 := cell_of_row _ y 4 _ _ _ hx; have x5 := cell_of_row _ y 5 _ _ _ hx; clear hx; (go_simp <;> with_reducible rfl)
       try simp only [Act.put, List.setIfInBounds_toArray, List.set_cons_zero, List.set_cons_succ]
       refine wpAnyH_ready (rs := [7]) (by kernel_rfl) (by simp) (AllReadyH.cons (o := ⟨some 37, _, _, _, _, _⟩) rfl (fun K hK => ?_) AllReadyH.nil)
       go_simp
       refine (key_Text x.2 _).mono ?_
       rintro e w5 ⟨rfl, hb⟩
       refine hK.out _ _ (hS.trans (hb.mono hS.size)) (fun _ => ?_)
       clear hK K
       replace hS := hS.trans (hb.mono hS.size)
       rw [HC2.out]
       clear hb
       try simp only [Act.put, List.setIfInBounds_toArray, List.set_cons_zero, List.set_cons_succ]
       refine wpAnyH_take (i := 8) (oi := ⟨some 38, _, _, _, _, _⟩) (v := ?_) rfl (by kernel_rfl) (by kernel_rfl) (by kernel_rfl) (fun _ _ _ h => h) (Or.inl ⟨by rfl, ?_⟩) hS ?_
       rotate_left 1
       · intro w' hB; have hx := boxStays HX.out hB; have x0 := cell_of_row _ y 0 _ _ _ hx; have x1 := cell_of_row _ y 1 _ _ _ hx; have x2 := cell_of_row _ y 2 _ _ _ hx; have x3 := cell_of_row _ y 3 _ _ _ hx; have x4 := cell_of_row _ y 4 _ _ _ hx; have x5 := cell_of_row _ y 5 _ _ _ hx; clear hx; (go_simp <;> with_reducible rfl)
       try simp only [Act.put, List.setIfInBounds_toArray, List.set_cons_zero, List.set_cons_succ]
       refine wpAnyH_take (i := 9) (oi := ⟨some 39, _, _, _, _, _⟩) (v := ?_) rfl (by kernel_rfl) (by kernel_rfl) (by kernel_rfl) (fun _ _ _ h => h) (Or.inl ⟨by rfl, ?_⟩) hS ?_
       rotate_left 1
       · intro w' hB; have hx := boxStays HX.out hB; have x0 := cell_of_row _ y 0 _ _ _ hx; have x1 := cell_of_row _ y 1 _ _ _ hx; have x2 := cell_of_row _ y 2 _ _ _ hx; have x3 := cell_of_row _ y 3 _ _ _ hx; have x4 := cell_of_row _ y 4 _ _ _ hx; have x5 := cell_of_row _ y 5 _ _ _ hx; clear hx; (go_simp <;> with_reducible rfl)
       try simp only [Act.put, List.setIfInBounds_toArray, List.set_cons_zero, List.set_cons_succ]
       refine wpAnyH_take (i := 10) (oi := ⟨some 40, _, _, _, _, _⟩) (v := ?_) rfl (by kernel_rfl) (by kernel_rfl) (by kernel_rfl) (fun _ _ _ h => h) (Or.inl ⟨by rfl, ?_⟩) hS ?_
       rotate_left 1
       · intro w' hB; have hx := boxStays HX.out hB; have x0 := cell_of_row _ y 0 _ _ _ hx; have x1 := cell_of_row _ y 1 _ _ _ hx; have x2 := cell_of_row _ y 2 _ _ _ hx; have x3 := cell_of_row _ y 3 _ _ _ hx; have x4 := cell_of_row _ y 4 _ _ _ hx; have x5 := cell_of_row _ y 5 _ _ _ hx; clear hx; (go_simp <;> with_reducible rfl)
       try simp only [Act.put, List.setIfInBounds_toArray, List.set_cons_zero, List.set_cons_succ]
       refine wpAnyH_take (i := 11) (oi := ⟨some 41, _, _, _, _, _⟩) (v := ?_) rfl (by kernel_rfl) (by kernel_rfl) (by kernel_rfl) (fun _ _ _ h => h) (Or.inl ⟨by rfl, ?_⟩) hS ?_
       rotate_left 1
       · intro w' hB; have hx := boxStays HX.out hB; have x0 := cell_of_row _ y 0 _ _ _ hx; have x1 := cell_of_row _ y 1 _ _ _ hx; have x2 := cell_of_row _ y 2 _ _ _ hx; have x3 := cell_of_row _ y 3 _ _ _ hx; have x4 := cell_of_row _ y 4 _ _ _ hx; have x5 := cell_of_row _ y 5 _ _ _ hx; clear hx; (go_simp <;> with_reducible rfl)
       try simp only [Act.put, List.setIfInBounds_toArray, List.set_cons_zero, List.set_cons_succ]
       refine wpAnyH_take (i := 12) (oi := ⟨some 42, _, _, _, _, _⟩) (v := ?_) rfl (by kernel_rfl) (by kernel_rfl) (by kernel_rfl) (fun _ _ _ h => h) (Or.inl ⟨by rfl, ?_⟩) hS ?_
       rotate_left 1
       · intro w' hB; have hx := boxStays HX.out hB; have x0 := cell_of_row _ y 0 _ _ _ hx; have x1 := cell_of_row _ y 1 _ _ _ hx; have x2 := cell_of_row _ y 2 _ _ _ hx; have x3 := cell_of_row _ y 3 _ _ _ hx; have x4 := cell_of_row _ y 4 _ _ _ hx; have x5 := cell_of_row _ y 5 _ _ _ hx; clear hx; (go_simp <;> with_reducible rfl)
       try simp only [Act.put, List.setIfInBounds_toArray, List.set_cons_zero, List.set_cons_succ]
       refine wpAnyH_take (i := 13) (oi := ⟨some 43, _, _, _, _, _⟩) (v := ?_) rfl (by kernel_rfl) (by kernel_rfl) (by kernel_rfl) (fun _ _ _ h => h) (Or.inl ⟨by rfl, ?_⟩) hS ?_
       rotate_left 1
       · intro w' hB; have hx := boxStays HX.out hB; have x0 := cell_of_row _ y 0 _ _ _ hx; have x1 := cell_of_row _ y 1 _ _ _ hx; have x2 := cell_of_row _ y 2 _ _ _ hx; have x3 := cell_of_row _ y 3 _ _ _ hx; have x4 := cell_of_row _ y 4 _ _ _ hx; have x5 := cell_of_row _ y 5 _ _ _ hx; clear hx; (go_simp <;> with_reducible rfl)
       try simp only [Act.put, List.setIfInBounds_toArray, List.set_cons_zero, List.set_cons_succ]
       refine wpAnyH_take (i := 14) (oi := ⟨some 44, _, _, _, _, _⟩) rfl (by kernel_rfl) (by kernel_rfl) (by kernel_rfl) (fun _ _ _ h => h) (Or.inr ⟨by rfl, rfl⟩) hS ?_
       try simp only [Act.put, List.setIfInBounds_toArray, List.set_cons_zero, List.set_cons_succ]
       refine wpAnyH_take (i := 15) (oi := ⟨some 45, _, _, _, _, _⟩) rfl (by kernel_rfl) (by kernel_rfl) (by kernel_rfl) (fun _ _ _ h => h) (Or.inr ⟨by rfl, rfl⟩) hS ?_
       try simp only [Act.put, List.setIfInBounds_toArray, List.set_cons_zero, List.set_cons_succ]
       refine wpAnyH_take (i := 16) (oi := ⟨some 46, _, _, _, _, _⟩) rfl (by kernel_rfl) (by kernel_rfl) (by kernel_rfl) (fun _ _ _ h => h) (Or.inr ⟨by rfl, rfl⟩) hS ?_
       try simp only [Act.put, List.setIfInBounds_toArray, List.set_cons_zero, List.set_cons_succ]
       refine wpAnyH_take (i := 17) (oi := ⟨some 47, _, _, _, _, _⟩) rfl (by kernel_rfl) (by kernel_rfl) (by kernel_rfl) (fun _ _ _ h => h) (Or.inr ⟨by rfl, rfl⟩) hS ?_
       try simp only [Act.put, List.setIfInBounds_toArray, List.set_cons_zero, List.set_cons_succ]
       refine wpAnyH_take (i := 18) (oi := ⟨some 48, _, _, _, _, _⟩) rfl (by kernel_rfl) (by kernel_rfl) (by kernel_rfl) (fun _ _ _ h => h) (Or.inr ⟨by rfl, rfl⟩) hS ?_
       try simp only [Act.put, List.setIfInBounds_toArray, List.set_cons_zero, List.set_cons_succ]
       refine wpAnyH_take (i := 19) (oi := ⟨some 49, _, _, _, _, _⟩) rfl (by kernel_rfl) (by kernel_rfl) (by kernel_rfl) (fun _ _ _ h => h) (Or.inr ⟨by rfl, rfl⟩) hS ?_
       try simp only [Act.put, List.setIfInBounds_toArray, List.set_cons_zero, List.set_cons_succ]
       refine wpAnyH_take (i := 20) (oi := ⟨some 50, _, _, _, _, _⟩) rfl (by kernel_rfl) (by kernel_rfl) (by kernel_rfl) (fun _ _ _ h => h) (Or.inr ⟨by rfl, rfl⟩) hS ?_
       try simp only [Act.put, List.setIfInBounds_toArray, List.set_cons_zero, List.set_cons_succ]
       refine wpAnyH_take (i := 21) (oi := ⟨some 51, _, _, _, _, _⟩) rfl (by kernel_rfl) (by kernel_rfl) (by kernel_rfl) (fun _ _ _ h => h) (Or.inr ⟨by rfl, rfl⟩) hS ?_
       try simp only [Act.put, List.setIfInBounds_toArray, List.set_cons_zero, List.set_cons_succ]
       refine wpAnyH_take (i := 22) (oi := ⟨some 52, _, _, _, _, _⟩) rfl (by kernel_rfl) (by kernel_rfl) (by kernel_rfl) (fun _ _ _ h => h) (Or.inr ⟨by rfl, rfl⟩) hS ?_
       try simp only [Act.put, List.setIfInBounds_toArray, List.set_cons_zero, List.set_cons_succ]
       refine wpAnyH_take (i := 23) (oi := ⟨some 53, _, _, _, _, _⟩) rfl (by kernel_rfl) (by kernel_rfl) (by kernel_rfl) (fun _ _ _ h => h) (Or.inr ⟨by rfl, rfl⟩) hS ?_
       try simp only [Act.put, List.setIfInBounds_toArray, List.set_cons_zero, List.set_cons_succ]
       refine wpAnyH_take (i := 24) (oi := ⟨some 54, _, _, _, _, _⟩) rfl (by kernel_rfl) (by kernel_rfl) (by kernel_rfl) (fun _ _ _ h => h) (Or.inr ⟨by rfl, rfl⟩) hS ?_
       try simp only [Act.put, List.setIfInBounds_toArray, List.set_cons_zero, List.set_cons_succ]
       refine wpAnyH_take (i := 25) (oi := ⟨some 55, _, _, _, _, _⟩) (v := ?_) rfl (by kernel_rfl) (by kernel_rfl) (by kernel_rfl) (fun _ _ _ h => h) (Or.inl ⟨by rfl, ?_⟩) hS ?_
       rotate_left 1
       · intro w' hB; have hx := boxStays HX.out hB; have x0 := cell_of_row _ y 0 _ _ _ hx; have x1 := cell_of_row _ y 1 _ _ _ hx; have x2 := cell_of_row _ y 2 _ _ _ hx; have x3 := cell_of_row _ y 3 _ _ _ hx; have x4 := cell_of_row _ y 4 _ _ _ hx; have x5 := cell_of_row _ y 5 _ _ _ hx; clear hx; (go_simp <;> with_reducible rfl)
       try simp only [Act.put, List.setIfInBounds_toArray, List.set_cons_zero, List.set_cons_succ]
       refine wpAnyH_take (i := 26) (oi := ⟨some 56, _, _, _, _, _⟩) (v := ?_) rfl (by kernel_rfl) (by kernel_rfl) (by kernel_rfl) (fun _ _ _ h => h) (Or.inl ⟨by rfl, ?_⟩) hS ?_
       rotate_left 1
       · intro w' hB; have hx := boxStays HX.out hB; have x0 := cell_of_row _ y 0 _ _ _ hx; have x1 := cell_of_row _ y 1 _ _ _ hx; have x2 := cell_of_row _ y 2 _ _ _ hx; have x3 := cell_of_row _ y 3 _ _ _ hx; have x4 := cell_of_row _ y 4 _ _ _ hx; have x5 := cell_of_row _ y 5 _ _ _ hx; clear hx; (go_simp <;> with_reducible rfl)
       try simp only [Act.put, List.setIfInBounds_toArray, List.set_cons_zero, List.set_cons_succ]
       refine wpAnyH_done (by kernel_rfl) (NoPanic.normal ?_) _
       have HBD := Lib.hid hS
       go_wp2_with fail
       go_meet
       exact ⟨by rw [HOV.out]; rfl, HBD⟩
     · obtain ⟨r, rfl⟩ : ∃ r, q = r + 1 := ⟨q - 1, by omega⟩
       have hr0 : 0 < (r : Int) + 1 := by omega
       have hrn : (r : Int) < (n : Int) := by omega
       have hrw : IntKind.i64.wrap (r : Int) = r := by rw [IntKind.wrap_i64]; omega
       have hrl : r < l.length := by omega
       obtain ⟨_, _, e9, cy⟩ := els_get HL3.out r hrl
       cases e9
       obtain ⟨v, hv⟩ : ∃ v, l[r] = v := ⟨_, rfl⟩
       rw [hv] at cy
       have CY := Lib.hid cy
       have SV : Hid (decide (svC v.1 x.1 < 0) = c3) := Lib.hid (by rw [← C3.out, dif_pos (by omega)]; simp only [Nat.add_sub_cancel]; rw [hv])
       clear cy hv hrl
       refine wp_region_noPanic ?_
       refine wp_region_held_drew (S := fun w' => Below w3.heap.size w3 w') (by kernel_rfl) (Below.refl _ _).drew (fun hS => ?_)
       refine wpAnyH_take (i := 0) (oi := ⟨some 30, _, _, _, _, _⟩) (v := ?_) rfl (by kernel_rfl) (by kernel_rfl) (by kernel_rfl) (fun _ _ _ h => h) (Or.inl ⟨by rfl, ?_⟩) hS ?_
       rotate_left 1
       · intro w' hB; have hx := boxStays HX.out hB; have x0 := cell_of_row _ y 0 _ _ _ hx; have x1 := cell_of_row _ y 1 _ _ _ hx; have x2 := cell_of_row _ y 2 _ _ _ hx; have x3 := cell_of_row _ y 3 _ _ _ hx; have x4 := cell_of_row _ y 4 _ _ _ hx; have x5 := cell_of_row _ y 5 _ _ _ hx; clear hx; have hy := boxStays HV3.out hB; have y2 := cell_of_row _ z 2 _ _ _ hy; obtain ⟨v0, v1, v2, v3, v4, v5⟩ := CY.out.below hB; clear hy; (go_simp <;> with_reducible rfl)
       try simp only [Act.put, List.setIfInBounds_toArray, List.set_cons_zero, List.set_cons_succ]
       refine wpAnyH_take (i := 1) (oi := ⟨some 31, _, _, _, _, _⟩) (v := ?_) rfl (by kernel_rfl) (by kernel_rfl) (by kernel_rfl) (fun _ _ _ h => h) (Or.inl ⟨by rfl, ?_⟩) hS ?_
       rotate_left 1
       · intro w' hB; have hx := boxStays HX.out hB; have x0 := cell_of_row _ y 0 _ _ _ hx; have x1 := cell_of_row _ y 1 _ _ _ hx; have x2 := cell_of_row _ y 2 _ _ _ hx; have x3 := cell_of_row _ y 3 _ _ _ hx; have x4 := cell_of_row _ y 4 _ _ _ hx; have x5 := cell_of_row _ y 5 _ _ _ hx; clear hx; have hy := boxStays HV3.out hB; have y2 := cell_of_row _ z 2 _ _ _ hy; obtain ⟨v0, v1, v2, v3, v4, v5⟩ := CY.out.below hB; clear hy; (go_simp <;> with_reducible rfl)
       try simp only [Act.put, List.setIfInBounds_toArray, List.set_cons_zero, List.set_cons_succ]
       refine wpAnyH_ready (rs := [2]) (by kernel_rfl) (by simp) (AllReadyH.cons (o := ⟨some 32, _, _, _, _, _⟩) rfl (fun K hK => ?_) AllReadyH.nil)
       go_simp
       refine (stp_Stamp x.1 _ HXZ.out).mono ?_
       rintro e w4 ⟨rfl, hb⟩
       refine hK.out _ _ (hS.trans (hb.mono hS.size)) (fun _ => ?_)
       clear hK K
       replace hS := hS.trans (hb.mono hS.size)
       rw [HC1.out]
       clear hb
       try simp only [Act.put, List.setIfInBounds_toArray, List.set_cons_zero, List.set_cons_succ]
       refine wpAnyH_take (i := 3) (oi := ⟨some 33, _, _, _, _, _⟩) (v := ?_) rfl (by kernel_rfl) (by kernel_rfl) (by kernel_rfl) (fun _ _ _ h => h) (Or.inl ⟨by rfl, ?_⟩) hS ?_
       rotate_left 1
       · intro w' hB; have hx := boxStays HX.out hB; have x0 := cell_of_row _ y 0 _ _ _ hx; have x1 := cell_of_row _ y 1 _ _ _ hx; have x2 := cell_of_row _ y 2 _ _ _ hx; have x3 := cell_of_row _ y 3 _ _ _ hx; have x4 := cell_of_row _ y 4 _ _ _ hx; have x5 := cell_of_row _ y 5 _ _ _ hx; clear hx; have hy := boxStays HV3.out hB; have y2 := cell_of_row _ z 2 _ _ _ hy; obtain ⟨v0, v1, v2, v3, v4, v5⟩ := CY.out.below hB; clear hy; (go_simp <;> with_reducible rfl)
       try simp only [Act.put, List.setIfInBounds_toArray, List.set_cons_zero, List.set_cons_succ]
       refine wpAnyH_take (i := 4) (oi := ⟨some 34, _, _, _, _, _⟩) (v := ?_) rfl (by kernel_rfl) (by kernel_rfl) (by kernel_rfl) (fun _ _ _ h => h) (Or.inl ⟨by rfl, ?_⟩) hS ?_
       rotate_left 1
       · intro w' hB; have hx := boxStays HX.out hB; have x0 := cell_of_row _ y 0 _ _ _ hx; have x1 := cell_of_row _ y 1 _ _ _ hx; have x2 := cell_of_row _ y 2 _ _ _ hx; have x3 := cell_of_row _ y 3 _ _ _ hx; have x4 := cell_of_row _ y 4 _ _ _ hx; have x5 := cell_of_row _ y 5 _ _ _ hx; clear hx; have hy := boxStays HV3.out hB; have y2 := cell_of_row _ z 2 _ _ _ hy; obtain ⟨v0, v1, v2, v3, v4, v5⟩ := CY.out.below hB; clear hy; (go_simp <;> with_reducible rfl)
       try simp only [Act.put, List.setIfInBounds_toArray, List.set_cons_zero, List.set_cons_succ]
       refine wpAnyH_take (i := 5) (oi := ⟨some 35, _, _, _, _, _⟩) (v := ?_) rfl (by kernel_rfl) (by kernel_rfl) (by kernel_rfl) (fun _ _ _ h => h) (Or.inl ⟨by rfl, ?_⟩) hS ?_
       rotate_left 1
       · intro w' hB; have hx := boxStays HX.out hB; have x0 := cell_of_row _ y 0 _ _ _ hx; have x1 := cell_of_row _ y 1 _ _ _ hx; have x2 := cell_of_row _ y 2 _ _ _ hx; have x3 := cell_of_row _ y 3 _ _ _ hx; have x4 := cell_of_row _ y 4 _ _ _ hx; have x5 := cell_of_row _ y 5 _ _ _ hx; clear hx; have hy := boxStays HV3.out hB; have y2 := cell_of_row _ z 2 _ _ _ hy; obtain ⟨v0, v1, v2, v3, v4, v5⟩ := CY.out.below hB; clear hy; (go_simp <;> with_reducible rfl)
       try simp only [Act.put, List.setIfInBounds_toArray, List.set_cons_zero, List.set_cons_succ]
       refine wpAnyH_take (i := 6) (oi := ⟨some 36, _, _, _, _, _⟩) (v := ?_) rfl (by kernel_rfl) (by kernel_rfl) (by kernel_rfl) (fun _ _ _ h => h) (Or.inl ⟨by rfl, ?_⟩) hS ?_
       rotate_left 1
       · intro w' hB; have hx := boxStays HX.out hB; have x0 := cell_of_row _ y 0 _ _ _ hx; have x1 := cell_of_row _ y 1 _ _ _ hx; have x2 := cell_of_row _ y 2 _ _ _ hx; have x3 := cell_of_row _ y 3 _ _ _ hx; have x4 := cell_of_row _ y 4 _ _ _ hx; have x5 := cell_of_row _ y 5 _ _ _ hx; clear hx; have hy := boxStays HV3.out hB; have y2 := cell_of_row _ z 2 _ _ _ hy; obtain ⟨v0, v1, v2, v3, v4, v5⟩ := CY.out.below hB; clear hy; (go_simp <;> with_reducible rfl)
       try simp only [Act.put, List.setIfInBounds_toArray, List.set_cons_zero, List.set_cons_succ]
       refine wpAnyH_ready (rs := [7]) (by kernel_rfl) (by simp) (AllReadyH.cons (o := ⟨some 37, _, _, _, _, _⟩) rfl (fun K hK => ?_) AllReadyH.nil)
       go_simp
       refine (key_Text x.2 _).mono ?_
       rintro e w5 ⟨rfl, hb⟩
       refine hK.out _ _ (hS.trans (hb.mono hS.size)) (fun _ => ?_)
       clear hK K
       replace hS := hS.trans (hb.mono hS.size)
       rw [HC2.out]
       clear hb
       try simp only [Act.put, List.setIfInBounds_toArray, List.set_cons_zero, List.set_cons_succ]
       refine wpAnyH_take (i := 8) (oi := ⟨some 38, _, _, _, _, _⟩) (v := ?_) rfl (by kernel_rfl) (by kernel_rfl) (by kernel_rfl) (fun _ _ _ h => h) (Or.inl ⟨by rfl, ?_⟩) hS ?_
       rotate_left 1
       · intro w' hB; have hx := boxStays HX.out hB; have x0 := cell_of_row _ y 0 _ _ _ hx; have x1 := cell_of_row _ y 1 _ _ _ hx; have x2 := cell_of_row _ y 2 _ _ _ hx; have x3 := cell_of_row _ y 3 _ _ _ hx; have x4 := cell_of_row _ y 4 _ _ _ hx; have x5 := cell_of_row _ y 5 _ _ _ hx; clear hx; have hy := boxStays HV3.out hB; have y2 := cell_of_row _ z 2 _ _ _ hy; obtain ⟨v0, v1, v2, v3, v4, v5⟩ := CY.out.below hB; clear hy; (go_simp <;> with_reducible rfl)
       try simp only [Act.put, List.setIfInBounds_toArray, List.set_cons_zero, List.set_cons_succ]
       refine wpAnyH_take (i := 9) (oi := ⟨some 39, _, _, _, _, _⟩) (v := ?_) rfl (by kernel_rfl) (by kernel_rfl) (by kernel_rfl) (fun _ _ _ h => h) (Or.inl ⟨by rfl, ?_⟩) hS ?_
       rotate_left 1
       · intro w' hB; have hx := boxStays HX.out hB; have x0 := cell_of_row _ y 0 _ _ _ hx; have x1 := cell_of_row _ y 1 _ _ _ hx; have x2 := cell_of_row _ y 2 _ _ _ hx; have x3 := cell_of_row _ y 3 _ _ _ hx; have x4 := cell_of_row _ y 4 _ _ _ hx; have x5 := cell_of_row _ y 5 _ _ _ hx; clear hx; have hy := boxStays HV3.out hB; have y2 := cell_of_row _ z 2 _ _ _ hy; obtain ⟨v0, v1, v2, v3, v4, v5⟩ := CY.out.below hB; clear hy; (go_simp <;> with_reducible rfl)
       try simp only [Act.put, List.setIfInBounds_toArray, List.set_cons_zero, List.set_cons_succ]
       refine wpAnyH_take (i := 10) (oi := ⟨some 40, _, _, _, _, _⟩) (v := ?_) rfl (by kernel_rfl) (by kernel_rfl) (by kernel_rfl) (fun _ _ _ h => h) (Or.inl ⟨by rfl, ?_⟩) hS ?_
       rotate_left 1
       · intro w' hB; have hx := boxStays HX.out hB; have x0 := cell_of_row _ y 0 _ _ _ hx; have x1 := cell_of_row _ y 1 _ _ _ hx; have x2 := cell_of_row _ y 2 _ _ _ hx; have x3 := cell_of_row _ y 3 _ _ _ hx; have x4 := cell_of_row _ y 4 _ _ _ hx; have x5 := cell_of_row _ y 5 _ _ _ hx; clear hx; have hy := boxStays HV3.out hB; have y2 := cell_of_row _ z 2 _ _ _ hy; obtain ⟨v0, v1, v2, v3, v4, v5⟩ := CY.out.below hB; clear hy; (go_simp <;> with_reducible rfl)
       try simp only [Act.put, List.setIfInBounds_toArray, List.set_cons_zero, List.set_cons_succ]
       refine wpAnyH_take (i := 11) (oi := ⟨some 41, _, _, _, _, _⟩) (v := ?_) rfl (by kernel_rfl) (by kernel_rfl) (by kernel_rfl) (fun _ _ _ h => h) (Or.inl ⟨by rfl, ?_⟩) hS ?_
       rotate_left 1
       · intro w' hB; have hx := boxStays HX.out hB; have x0 := cell_of_row _ y 0 _ _ _ hx; have x1 := cell_of_row _ y 1 _ _ _ hx; have x2 := cell_of_row _ y 2 _ _ _ hx; have x3 := cell_of_row _ y 3 _ _ _ hx; have x4 := cell_of_row _ y 4 _ _ _ hx; have x5 := cell_of_row _ y 5 _ _ _ hx; clear hx; have hy := boxStays HV3.out hB; have y2 := cell_of_row _ z 2 _ _ _ hy; obtain ⟨v0, v1, v2, v3, v4, v5⟩ := CY.out.below hB; clear hy; (go_simp <;> with_reducible rfl)
       try simp only [Act.put, List.setIfInBounds_toArray, List.set_cons_zero, List.set_cons_succ]
       refine wpAnyH_take (i := 12) (oi := ⟨some 42, _, _, _, _, _⟩) (v := ?_) rfl (by kernel_rfl) (by kernel_rfl) (by kernel_rfl) (fun _ _ _ h => h) (Or.inl ⟨by rfl, ?_⟩) hS ?_
       rotate_left 1
       · intro w' hB; have hx := boxStays HX.out hB; have x0 := cell_of_row _ y 0 _ _ _ hx; have x1 := cell_of_row _ y 1 _ _ _ hx; have x2 := cell_of_row _ y 2 _ _ _ hx; have x3 := cell_of_row _ y 3 _ _ _ hx; have x4 := cell_of_row _ y 4 _ _ _ hx; have x5 := cell_of_row _ y 5 _ _ _ hx; clear hx; have hy := boxStays HV3.out hB; have y2 := cell_of_row _ z 2 _ _ _ hy; obtain ⟨v0, v1, v2, v3, v4, v5⟩ := CY.out.below hB; clear hy; (go_simp <;> with_reducible rfl)
       try simp only [Act.put, List.setIfInBounds_toArray, List.set_cons_zero, List.set_cons_succ]
       refine wpAnyH_take (i := 13) (oi := ⟨some 43, _, _, _, _, _⟩) (v := ?_) rfl (by kernel_rfl) (by kernel_rfl) (by kernel_rfl) (fun _ _ _ h => h) (Or.inl ⟨by rfl, ?_⟩) hS ?_
       rotate_left 1
       · intro w' hB; have hx := boxStays HX.out hB; have x0 := cell_of_row _ y 0 _ _ _ hx; have x1 := cell_of_row _ y 1 _ _ _ hx; have x2 := cell_of_row _ y 2 _ _ _ hx; have x3 := cell_of_row _ y 3 _ _ _ hx; have x4 := cell_of_row _ y 4 _ _ _ hx; have x5 := cell_of_row _ y 5 _ _ _ hx; clear hx; have hy := boxStays HV3.out hB; have y2 := cell_of_row _ z 2 _ _ _ hy; obtain ⟨v0, v1, v2, v3, v4, v5⟩ := CY.out.below hB; clear hy; (go_simp <;> with_reducible rfl)
       try simp only [Act.put, List.setIfInBounds_toArray, List.set_cons_zero, List.set_cons_succ]
       refine wpAnyH_take (i := 14) (oi := ⟨some 44, _, _, _, _, _⟩) (v := ?_) rfl (by kernel_rfl) (by kernel_rfl) (by kernel_rfl) (fun _ _ _ h => h) (Or.inl ⟨by rfl, ?_⟩) hS ?_
       rotate_left 1
       · intro w' hB; have hx := boxStays HX.out hB; have x0 := cell_of_row _ y 0 _ _ _ hx; have x1 := cell_of_row _ y 1 _ _ _ hx; have x2 := cell_of_row _ y 2 _ _ _ hx; have x3 := cell_of_row _ y 3 _ _ _ hx; have x4 := cell_of_row _ y 4 _ _ _ hx; have x5 := cell_of_row _ y 5 _ _ _ hx; clear hx; have hy := boxStays HV3.out hB; have y2 := cell_of_row _ z 2 _ _ _ hy; obtain ⟨v0, v1, v2, v3, v4, v5⟩ := CY.out.below hB; clear hy; (go_simp <;> with_reducible rfl)
       try simp only [Act.put, List.setIfInBounds_toArray, List.set_cons_zero, List.set_cons_succ]
       refine wpAnyH_take (i := 15) (oi := ⟨some 45, _, _, _, _, _⟩) (v := ?_) rfl (by kernel_rfl) (by kernel_rfl) (by kernel_rfl) (fun _ _ _ h => h) (Or.inl ⟨by rfl, ?_⟩) hS ?_
       rotate_left 1
       · intro w' hB; have hx := boxStays HX.out hB; have x0 := cell_of_row _ y 0 _ _ _ hx; have x1 := cell_of_row _ y 1 _ _ _ hx; have x2 := cell_of_row _ y 2 _ _ _ hx; have x3 := cell_of_row _ y 3 _ _ _ hx; have x4 := cell_of_row _ y 4 _ _ _ hx; have x5 := cell_of_row _ y 5 _ _ _ hx; clear hx; have hy := boxStays HV3.out hB; have y2 := cell_of_row _ z 2 _ _ _ hy; obtain ⟨v0, v1, v2, v3, v4, v5⟩ := CY.out.below hB; clear hy; (go_simp <;> with_reducible rfl)
       try simp only [Act.put, List.setIfInBounds_toArray, List.set_cons_zero, List.set_cons_succ]
       refine wpAnyH_take (i := 16) (oi := ⟨some 46, _, _, _, _, _⟩) (v := ?_) rfl (by kernel_rfl) (by kernel_rfl) (by kernel_rfl) (fun _ _ _ h => h) (Or.inl ⟨by rfl, ?_⟩) hS ?_
       rotate_left 1
       · intro w' hB; have hx := boxStays HX.out hB; have x0 := cell_of_row _ y 0 _ _ _ hx; have x1 := cell_of_row _ y 1 _ _ _ hx; have x2 := cell_of_row _ y 2 _ _ _ hx; have x3 := cell_of_row _ y 3 _ _ _ hx; have x4 := cell_of_row _ y 4 _ _ _ hx; have x5 := cell_of_row _ y 5 _ _ _ hx; clear hx; have hy := boxStays HV3.out hB; have y2 := cell_of_row _ z 2 _ _ _ hy; obtain ⟨v0, v1, v2, v3, v4, v5⟩ := CY.out.below hB; clear hy; (go_simp <;> with_reducible rfl)
       try simp only [Act.put, List.setIfInBounds_toArray, List.set_cons_zero, List.set_cons_succ]
       refine wpAnyH_take (i := 17) (oi := ⟨some 47, _, _, _, _, _⟩) (v := ?_) rfl (by kernel_rfl) (by kernel_rfl) (by kernel_rfl) (fun _ _ _ h => h) (Or.inl ⟨by rfl, ?_⟩) hS ?_
       rotate_left 1
       · intro w' hB; have hx := boxStays HX.out hB; have x0 := cell_of_row _ y 0 _ _ _ hx; have x1 := cell_of_row _ y 1 _ _ _ hx; have x2 := cell_of_row _ y 2 _ _ _ hx; have x3 := cell_of_row _ y 3 _ _ _ hx; have x4 := cell_of_row _ y 4 _ _ _ hx; have x5 := cell_of_row _ y 5 _ _ _ hx; clear hx; have hy := boxStays HV3.out hB; have y2 := cell_of_row _ z 2 _ _ _ hy; obtain ⟨v0, v1, v2, v3, v4, v5⟩ := CY.out.below hB; clear hy; (go_simp <;> with_reducible rfl)
       try simp only [Act.put, List.setIfInBounds_toArray, List.set_cons_zero, List.set_cons_succ]
       refine wpAnyH_take (i := 18) (oi := ⟨some 48, _, _, _, _, _⟩) (v := ?_) rfl (by kernel_rfl) (by kernel_rfl) (by kernel_rfl) (fun _ _ _ h => h) (Or.inl ⟨by rfl, ?_⟩) hS ?_
       rotate_left 1
       · intro w' hB; have hx := boxStays HX.out hB; have x0 := cell_of_row _ y 0 _ _ _ hx; have x1 := cell_of_row _ y 1 _ _ _ hx; have x2 := cell_of_row _ y 2 _ _ _ hx; have x3 := cell_of_row _ y 3 _ _ _ hx; have x4 := cell_of_row _ y 4 _ _ _ hx; have x5 := cell_of_row _ y 5 _ _ _ hx; clear hx; have hy := boxStays HV3.out hB; have y2 := cell_of_row _ z 2 _ _ _ hy; obtain ⟨v0, v1, v2, v3, v4, v5⟩ := CY.out.below hB; clear hy; (go_simp <;> with_reducible rfl)
       try simp only [Act.put, List.setIfInBounds_toArray, List.set_cons_zero, List.set_cons_succ]
       refine wpAnyH_take (i := 19) (oi := ⟨some 49, _, _, _, _, _⟩) (v := ?_) rfl (by kernel_rfl) (by kernel_rfl) (by kernel_rfl) (fun _ _ _ h => h) (Or.inl ⟨by rfl, ?_⟩) hS ?_
       rotate_left 1
       · intro w' hB; have hx := boxStays HX.out hB; have x0 := cell_of_row _ y 0 _ _ _ hx; have x1 := cell_of_row _ y 1 _ _ _ hx; have x2 := cell_of_row _ y 2 _ _ _ hx; have x3 := cell_of_row _ y 3 _ _ _ hx; have x4 := cell_of_row _ y 4 _ _ _ hx; have x5 := cell_of_row _ y 5 _ _ _ hx; clear hx; have hy := boxStays HV3.out hB; have y2 := cell_of_row _ z 2 _ _ _ hy; obtain ⟨v0, v1, v2, v3, v4, v5⟩ := CY.out.below hB; clear hy; (go_simp <;> with_reducible rfl)
       try simp only [Act.put, List.setIfInBounds_toArray, List.set_cons_zero, List.set_cons_succ]
       refine wpAnyH_take (i := 20) (oi := ⟨some 50, _, _, _, _, _⟩) (v := ?_) rfl (by kernel_rfl) (by kernel_rfl) (by kernel_rfl) (fun _ _ _ h => h) (Or.inl ⟨by rfl, ?_⟩) hS ?_
       rotate_left 1
       · intro w' hB; have hx := boxStays HX.out hB; have x0 := cell_of_row _ y 0 _ _ _ hx; have x1 := cell_of_row _ y 1 _ _ _ hx; have x2 := cell_of_row _ y 2 _ _ _ hx; have x3 := cell_of_row _ y 3 _ _ _ hx; have x4 := cell_of_row _ y 4 _ _ _ hx; have x5 := cell_of_row _ y 5 _ _ _ hx; clear hx; have hy := boxStays HV3.out hB; have y2 := cell_of_row _ z 2 _ _ _ hy; obtain ⟨v0, v1, v2, v3, v4, v5⟩ := CY.out.below hB; clear hy; (go_simp <;> with_reducible rfl)
       try simp only [Act.put, List.setIfInBounds_toArray, List.set_cons_zero, List.set_cons_succ]
       refine wpAnyH_take (i := 21) (oi := ⟨some 51, _, _, _, _, _⟩) (v := ?_) rfl (by kernel_rfl) (by kernel_rfl) (by kernel_rfl) (fun _ _ _ h => h) (Or.inl ⟨by rfl, ?_⟩) hS ?_
       rotate_left 1
       · intro w' hB; have hx := boxStays HX.out hB; have x0 := cell_of_row _ y 0 _ _ _ hx; have x1 := cell_of_row _ y 1 _ _ _ hx; have x2 := cell_of_row _ y 2 _ _ _ hx; have x3 := cell_of_row _ y 3 _ _ _ hx; have x4 := cell_of_row _ y 4 _ _ _ hx; have x5 := cell_of_row _ y 5 _ _ _ hx; clear hx; have hy := boxStays HV3.out hB; have y2 := cell_of_row _ z 2 _ _ _ hy; obtain ⟨v0, v1, v2, v3, v4, v5⟩ := CY.out.below hB; clear hy; (go_simp <;> with_reducible rfl)
       try simp only [Act.put, List.setIfInBounds_toArray, List.set_cons_zero, List.set_cons_succ]
       refine wpAnyH_take (i := 22) (oi := ⟨some 52, _, _, _, _, _⟩) (v := ?_) rfl (by kernel_rfl) (by kernel_rfl) (by kernel_rfl) (fun _ _ _ h => h) (Or.inl ⟨by rfl, ?_⟩) hS ?_
       rotate_left 1
       · intro w' hB; have hx := boxStays HX.out hB; have x0 := cell_of_row _ y 0 _ _ _ hx; have x1 := cell_of_row _ y 1 _ _ _ hx; have x2 := cell_of_row _ y 2 _ _ _ hx; have x3 := cell_of_row _ y 3 _ _ _ hx; have x4 := cell_of_row _ y 4 _ _ _ hx; have x5 := cell_of_row _ y 5 _ _ _ hx; clear hx; have hy := boxStays HV3.out hB; have y2 := cell_of_row _ z 2 _ _ _ hy; obtain ⟨v0, v1, v2, v3, v4, v5⟩ := CY.out.below hB; clear hy; (go_simp <;> with_reducible rfl)
       try simp only [Act.put, List.setIfInBounds_toArray, List.set_cons_zero, List.set_cons_succ]
       refine wpAnyH_ready (rs := [23]) (by kernel_rfl) (by simp) (AllReadyH.cons (o := ⟨some 53, _, _, _, _, _⟩) rfl (fun K hK => ?_) AllReadyH.nil)
       go_simp
       refine (stp_Cmp v.1 x.1 _).mono ?_
       rintro e w6 ⟨rfl, hb⟩
       refine hK.out _ _ (hS.trans (hb.mono hS.size)) (fun _ => ?_)
       clear hK K
       replace hS := hS.trans (hb.mono hS.size)
       clear hb
       try simp only [Act.put, List.setIfInBounds_toArray, List.set_cons_zero, List.set_cons_succ]
       refine wpAnyH_take (i := 24) (oi := ⟨some 54, _, _, _, _, _⟩) (v := ?_) rfl (by kernel_rfl) (by kernel_rfl) (by kernel_rfl) (fun _ _ _ h => h) (Or.inl ⟨by rfl, ?_⟩) hS ?_
       rotate_left 1
       · intro w' hB; have hx := boxStays HX.out hB; have x0 := cell_of_row _ y 0 _ _ _ hx; have x1 := cell_of_row _ y 1 _ _ _ hx; have x2 := cell_of_row _ y 2 _ _ _ hx; have x3 := cell_of_row _ y 3 _ _ _ hx; have x4 := cell_of_row _ y 4 _ _ _ hx; have x5 := cell_of_row _ y 5 _ _ _ hx; clear hx; have hy := boxStays HV3.out hB; have y2 := cell_of_row _ z 2 _ _ _ hy; obtain ⟨v0, v1, v2, v3, v4, v5⟩ := CY.out.below hB; clear hy; (go_simp <;> with_reducible rfl)
       try simp only [Act.put, List.setIfInBounds_toArray, List.set_cons_zero, List.set_cons_succ]
       refine wpAnyH_take (i := 25) (oi := ⟨some 55, _, _, _, _, _⟩) (v := ?_) rfl (by kernel_rfl) (by kernel_rfl) (by kernel_rfl) (fun _ _ _ h => h) (Or.inl ⟨by rfl, ?_⟩) hS ?_
       rotate_left 1
       · intro w' hB; have hx := boxStays HX.out hB; have x0 := cell_of_row _ y 0 _ _ _ hx; have x1 := cell_of_row _ y 1 _ _ _ hx; have x2 := cell_of_row _ y 2 _ _ _ hx; have x3 := cell_of_row _ y 3 _ _ _ hx; have x4 := cell_of_row _ y 4 _ _ _ hx; have x5 := cell_of_row _ y 5 _ _ _ hx; clear hx; have hy := boxStays HV3.out hB; have y2 := cell_of_row _ z 2 _ _ _ hy; obtain ⟨v0, v1, v2, v3, v4, v5⟩ := CY.out.below hB; clear hy; (go_simp <;> with_reducible rfl)
       try simp only [Act.put, List.setIfInBounds_toArray, List.set_cons_zero, List.set_cons_succ]
       refine wpAnyH_take (i := 26) (oi := ⟨some 56, _, _, _, _, _⟩) (v := ?_) rfl (by kernel_rfl) (by kernel_rfl) (by kernel_rfl) (fun _ _ _ h => h) (Or.inl ⟨by rfl, ?_⟩) hS ?_
       rotate_left 1
       · intro w' hB; have hx := boxStays HX.out hB; have x0 := cell_of_row _ y 0 _ _ _ hx; have x1 := cell_of_row _ y 1 _ _ _ hx; have x2 := cell_of_row _ y 2 _ _ _ hx; have x3 := cell_of_row _ y 3 _ _ _ hx; have x4 := cell_of_row _ y 4 _ _ _ hx; have x5 := cell_of_row _ y 5 _ _ _ hx; clear hx; have hy := boxStays HV3.out hB; have y2 := cell_of_row _ z 2 _ _ _ hy; obtain ⟨v0, v1, v2, v3, v4, v5⟩ := CY.out.below hB; clear hy; (go_simp <;> with_reducible rfl)
       try simp only [Act.put, List.setIfInBounds_toArray, List.set_cons_zero, List.set_cons_succ]
       refine wpAnyH_done (by kernel_rfl) (NoPanic.normal ?_) _
       have HBD := Lib.hid hS
       have hge : decide (0 ≤ svC v.1 x.1) = !c3 := by rw [← SV.out]; by_cases h : svC v.1 x.1 < 0 <;> simp [h] <;> omega
       go_wp2_with fail
       go_meet
       exact ⟨by rw [hge, HOV.out]; rfl, HBD⟩
    case rest =>
     obtain ⟨rfl, HBD⟩ := hcut
     obtain ⟨cc, hcc⟩ : ∃ b, (okV x && c3) = b := ⟨_, rfl⟩
     rw [hcc]
     cases cc
     case false =>
      obtain rfl : false = re := by
       rw [HST.out, ← Bool.and_assoc, hcc]; rfl
      clear hcc
      go_wp2_with fail
      go_ret
      exact ⟨rfl, BW2.out.trans ((BR3.out.trans (HBD.out.mono BR3.out.size)).mono BW2.out.size)⟩
     have HR2 : Hid (risG (prevG l (q + 1)) (l.drop (q + 1)) = re) := Lib.hid (by
      rw [HST.out, ← Bool.and_assoc, hcc]; rfl)
     clear hcc
     go_wp2_with fail
     go_roundw
     case rel => exact ⟨q + 1, by go_num, by omega, HR2, Lib.hid (BR3.out.trans (HBD.out.mono BR3.out.size))⟩
     case measure => simp [intOf]; omega
  · obtain rfl : q = n := by omega
    have hqi : ¬ (q : Int) < (q : Int) := by omega
    obtain rfl : true = re := by rw [← HR.out, List.drop_of_length_le (by rw [← HN.out]; exact Nat.le_refl _)]; rfl
    go_wp2_with fail
    go_ret
    exact ⟨rfl, BW2.out.trans (HB.out.mono BW2.out.size)⟩
end Go.Proofs.YtjlliohjeiclaaaGreatDoor
namespace Go.Proofs.YtjlliohjeiclaaaGreatDoor
open Go.RowKit St Pm Ku Kn
namespace Kn
def sameG (k1 m1 : Int) (l1 : List Ev) (k2 m2 : Int) (l2 : List Ev) : Bool := decide (k1 = k2) && (decide (m1 = m2) && decide (l1 = l2))
end Kn
open Kn
theorem kn_Three1 (x y : Ev) (w : World) :
 Calls Tryz.prog 92 #[.agg #[.int .i64 x.1.g, .int .i64 x.1.r, .string x.1.l, .int .i64 x.1.n, .int .i64 x.1.i, .string x.2], .agg #[.int .i64 y.1.g, .int .i64 y.1.r, .string y.1.l, .int .i64 y.1.n, .int .i64 y.1.i, .string y.2]] w fun e w' => e = .returned (.int .i64 (svC x.1 y.1)) ∧ Grw w w' := by
 obtain ⟨s, t⟩ := x
 obtain ⟨s2, t2⟩ := y
 have SC := Lib.hid (fun W => stp_CmpS s s2 W)
 simp only at SC ⊢
 generalize svC s s2 = c at SC ⊢
 obtain ⟨g1, r1, l1, n1, i1⟩ := s
 obtain ⟨g2, r2, l2, n2, i2⟩ := s2
 go_enter Tryz.func92, Tryz.ntmps92
 go_wp2_with fail
 refine (SC.out _).mono ?_
 rintro e w' ⟨rfl, hg⟩
 have HG := Lib.hid ((((Grw.refl w).alloc _).alloc _).trans hg)
 clear hg
 go_wp2_with fail
 go_ret
 exact ⟨rfl, HG.out⟩
set_option maxRecDepth 100000 in
set_option maxHeartbeats 2000000 in
theorem sl_Equal (l m : List Ev) (a b : Option Addr) (n1 n2 c1 c2 : Nat) (w : World) (hl : CellsAt w a (elsV l)) (hm : CellsAt w b (elsV m)) (hn1 : n1 = l.length) (hn2 : n2 = m.length) (b1 : n1 ≤ 9223372036854775807) :
 Calls Tryz.prog 86 #[.slice a n1 c1, .slice b n2 c2] w fun e w' => e = .returned (.bool (decide (l = m))) ∧ Below w.heap.size w w' := by
 have HL := Lib.hid hl
 have HM := Lib.hid hm
 clear hl hm
 have EN := ev_neq
 go_enter Tryz.func86, Tryz.ntmps86
 by_cases hlen : n1 = n2
 · subst hlen
   have hN : Hid (l.length = m.length) := Lib.hid (by omega)
   have E : Hid (l.take n1 = m.take n1 → decide (l = m) = true) := Lib.hid (fun h => eq_all hN.out (by rw [← hn1]; exact h))
   have F : Hid (∀ k (h1 : k < l.length) (h2 : k < m.length), l[k] ≠ m[k] → decide (l = m) = false) := Lib.hid (fun k h1 h2 h => ne_at h1 h2 h)
   generalize decide (l = m) = res at *
   go_wp2_with fail
   go_loopw [5, 13] (fun _ i wr => ∃ k : Nat, k ≤ n1 ∧ i = .int .i64 (k : Int) ∧ Hid (l.take k = m.take k) ∧ Hid (Below w.heap.size w wr)) (fun _ i _ => n1 - (intOf i).toNat)
   case atStart => exact ⟨0, Nat.zero_le _, rfl, Lib.hid rfl, Lib.hid (Below.refl _ _)⟩
   case round =>
    obtain ⟨k, hk, rfl, HT, HB⟩ := hrel
    by_cases hlt : k < n1
    · have hk1 : k < l.length := by omega
      have hk2 : k < m.length := by omega
      obtain ⟨ba, oa, rfl, ca⟩ := els_get (HL.out.below HB.out rfl) k hk1
      obtain ⟨bb, ob, rfl, cb⟩ := els_get (HM.out.below HB.out rfl) k hk2
      obtain ⟨p0, p1, p2, p3, p4, p5⟩ := ca
      obtain ⟨q0, q1, q2, q3, q4, q5⟩ := cb
      have G1 : Hid (l[k] ≠ m[k] → res = false) := Lib.hid (F.out k hk1 hk2)
      have G2 : Hid (l[k] = m[k] → l.take (k + 1) = m.take (k + 1)) := Lib.hid (take_eq hk1 hk2 HT.out)
      generalize l[k] = x at *
      generalize m[k] = y at *
      have hki : (k : Int) < (n1 : Int) := by omega
      by_cases hxy : x = y
      · have H := Lib.hid (G2.out hxy)
        have hd : decide (x = y) = true := decide_eq_true hxy
        clear hxy
        go_wp2_with fail
        go_quiet (fail)
        go_wp2_with fail
        refine ⟨⟨k + 1, by omega, by go_num, H, Lib.hid (below_drews HB.out _)⟩, by simp [intOf]; omega⟩
      · have hr := Lib.hid (G1.out hxy)
        have hd : decide (x = y) = false := decide_eq_false hxy
        clear hxy
        go_wp2_with fail
        go_quiet (fail)
        go_wp2_with fail
        go_ret
        rw [hr.out]
        exact ⟨rfl, below_drews HB.out _⟩
    · obtain rfl : k = n1 := by omega
      have hr := Lib.hid (E.out HT.out)
      go_wp2_with fail
      go_ret
      rw [hr.out]
      exact ⟨rfl, HB.out⟩
 · have hr : Hid (decide (l = m) = false) := Lib.hid (by rw [decide_eq_false_iff_not]; rintro rfl; omega)
   have hne : ((n1 : Int) == (n2 : Int)) = false := by simp; omega
   have hne' : ¬ (n1 : Int) = (n2 : Int) := by omega
   generalize decide (l = m) = res at *
   go_wp2_with fail
   go_ret
   rw [hr.out]
   exact ⟨rfl, Below.refl _ _⟩
set_option maxRecDepth 100000 in
set_option maxHeartbeats 2000000 in
theorem kn_Same (k1 m1 : Int) (l1 : List Ev) (a1 : Option Addr) (n1 c1 : Nat) (k2 m2 : Int) (l2 : List Ev) (a2 : Option Addr) (n2 c2 : Nat) (w : World) (hl1 : CellsAt w a1 (elsV l1)) (hl2 : CellsAt w a2 (elsV l2)) (hn1 : n1 = l1.length) (hn2 : n2 = l2.length) (hb : n1 ≤ 9223372036854775807) :
 Calls Tryz.prog 37 #[.agg #[.int .i64 k1, .int .i64 m1, .slice a1 n1 c1], .agg #[.int .i64 k2, .int .i64 m2, .slice a2 n2 c2]] w fun e w' => e = .returned (.bool (sameG k1 m1 l1 k2 m2 l2)) ∧ Below w.heap.size w w' := by
 have SE := Lib.hid (fun W (hW : Below w.heap.size w W) => sl_Equal l1 l2 a1 a2 n1 n2 c1 c2 W (hl1.below hW rfl) (hl2.below hW rfl) hn1 hn2 hb)
 have HV : Hid (sameG k1 m1 l1 k2 m2 l2 = (decide (k1 = k2) && (decide (m1 = m2) && decide (l1 = l2)))) := Lib.hid rfl
 generalize sameG k1 m1 l1 k2 m2 l2 = re at HV ⊢
 generalize decide (l1 = l2) = d at SE HV
 clear hl1 hl2 hn1 hn2 hb
 have HC : Hid (Chain [w] w) := Lib.hid (Chain.one w)
 go_enter Tryz.func37, Tryz.ntmps37
 go_upto_region 1 with (fail)
 obtain ⟨z, hz⟩ : ∃ c, w.heap.size = c := ⟨_, rfl⟩
 try rw [hz]
 obtain ⟨w1, hw1⟩ : ∃ X, allocs w [.cells #[.int .i64 k1, .int .i64 m1, .slice a1 n1 c1] 79, .cells #[.int .i64 k2, .int .i64 m2, .slice a2 n2 c2] 79] = X := ⟨_, rfl⟩
 rw [show (w.alloc (.cells #[.int .i64 k1, .int .i64 m1, .slice a1 n1 c1] 79)).alloc (.cells #[.int .i64 k2, .int .i64 m2, .slice a2 n2 c2] 79) = w1 from hw1]
 have hb : Below w.heap.size w w1 := by rw [← hw1]; exact allocs_below _ _
 have HQ : Hid (w1.heap[z]? = some (.cells #[.int .i64 k1, .int .i64 m1, .slice a1 n1 c1] 79 (0, 0))) := Lib.hid (by have := allocs_get [.cells #[.int .i64 k1, .int .i64 m1, .slice a1 n1 c1] 79, .cells #[.int .i64 k2, .int .i64 m2, .slice a2 n2 c2] 79] w 0 _ rfl; rw [hw1, hz] at this; exact this)
 have HU : Hid (w1.heap[z + 1]? = some (.cells #[.int .i64 k2, .int .i64 m2, .slice a2 n2 c2] 79 (0, 0))) := Lib.hid (by have := allocs_get [.cells #[.int .i64 k1, .int .i64 m1, .slice a1 n1 c1] 79, .cells #[.int .i64 k2, .int .i64 m2, .slice a2 n2 c2] 79] w 1 _ rfl; rw [hw1, hz] at this; exact this)
 have Sz : Hid (w.heap.size = z) := Lib.hid hz
 replace HC := Lib.hid (HC.out.push hb)
 clear hb hw1 hz
 by_cases h1 : k1 = k2
 case neg =>
  obtain rfl : re = false := by rw [HV.out]; simp [h1]
  have e1 : (k1 == k2) = false := by simp [h1]
  have kQ0 := cell_of_row _ _ 0 _ _ _ HQ.out
  have kQ1 := cell_of_row _ _ 1 _ _ _ HQ.out
  have kQ2 := cell_of_row _ _ 2 _ _ _ HQ.out
  have kU0 := cell_of_row _ _ 0 _ _ _ HU.out
  have kU1 := cell_of_row _ _ 1 _ _ _ HU.out
  have kU2 := cell_of_row _ _ 2 _ _ _ HU.out
  go_wp2_with fail
  go_ret
  exact ⟨rfl, (HC.out.to w (by simp))⟩
 subst h1
 by_cases h2 : m1 = m2
 case neg =>
  obtain rfl : re = false := by rw [HV.out]; simp [h2]
  have e1 : (m1 == m2) = false := by simp [h2]
  have kQ0 := cell_of_row _ _ 0 _ _ _ HQ.out
  have kQ1 := cell_of_row _ _ 1 _ _ _ HQ.out
  have kQ2 := cell_of_row _ _ 2 _ _ _ HQ.out
  have kU0 := cell_of_row _ _ 0 _ _ _ HU.out
  have kU1 := cell_of_row _ _ 1 _ _ _ HU.out
  have kU2 := cell_of_row _ _ 2 _ _ _ HU.out
  go_wp2_with fail
  go_ret
  exact ⟨rfl, (HC.out.to w (by simp))⟩
 subst h2
 have kQ0 := cell_of_row _ _ 0 _ _ _ HQ.out
 have kQ1 := cell_of_row _ _ 1 _ _ _ HQ.out
 have kQ2 := cell_of_row _ _ 2 _ _ _ HQ.out
 have kU0 := cell_of_row _ _ 0 _ _ _ HU.out
 have kU1 := cell_of_row _ _ 1 _ _ _ HU.out
 have kU2 := cell_of_row _ _ 2 _ _ _ HU.out
 go_wp2_with fail
 refine (SE.out _ (HC.out.to w (by simp))).mono ?_
 rintro e w2 ⟨rfl, hb⟩
 clear kQ0 kQ1 kQ2 kU0 kU1 kU2
 replace HC := Lib.hid (HC.out.push hb)
 clear hb
 go_wp2_with fail
 go_ret
 exact ⟨by rw [HV.out]; simp, (HC.out.to w (by simp))⟩
set_option maxRecDepth 100000 in
set_option maxHeartbeats 2000000 in
theorem kr_Same (k1 m1 : Int) (l1 : List Ev) (a1 : Option Addr) (n1 c1 : Nat) (k2 m2 : Int) (l2 : List Ev) (a2 : Option Addr) (n2 c2 : Nat) (w : World) (hl1 : CellsAt w a1 (elsV l1)) (hl2 : CellsAt w a2 (elsV l2)) (hn1 : n1 = l1.length) (hn2 : n2 = l2.length) (hb : n1 ≤ 9223372036854775807) :
 Calls Tryz.prog 40 #[.agg #[.int .i64 k1, .int .i64 m1, .slice a1 n1 c1], .agg #[.int .i64 k2, .int .i64 m2, .slice a2 n2 c2]] w fun e w' => e = .returned (.bool (sameG k1 m1 l1 k2 m2 l2)) ∧ Below w.heap.size w w' := by
 have SE := Lib.hid (fun W (hW : Below w.heap.size w W) => ref9_SameElements l1 l2 a1 a2 n1 n2 c1 c2 W (hl1.below hW rfl) (hl2.below hW rfl) hn1 hn2 hb)
 have HV : Hid (sameG k1 m1 l1 k2 m2 l2 = (decide (k1 = k2) && (decide (m1 = m2) && decide (l1 = l2)))) := Lib.hid rfl
 generalize sameG k1 m1 l1 k2 m2 l2 = re at HV ⊢
 generalize decide (l1 = l2) = d at SE HV
 clear hl1 hl2 hn1 hn2 hb
 have HC : Hid (Chain [w] w) := Lib.hid (Chain.one w)
 go_enter Tryz.func40, Tryz.ntmps40
 go_upto_region 1 with (fail)
 obtain ⟨z, hz⟩ : ∃ c, w.heap.size = c := ⟨_, rfl⟩
 try rw [hz]
 obtain ⟨w1, hw1⟩ : ∃ X, allocs w [.cells #[.int .i64 k1, .int .i64 m1, .slice a1 n1 c1] 79, .cells #[.int .i64 k2, .int .i64 m2, .slice a2 n2 c2] 79] = X := ⟨_, rfl⟩
 rw [show (w.alloc (.cells #[.int .i64 k1, .int .i64 m1, .slice a1 n1 c1] 79)).alloc (.cells #[.int .i64 k2, .int .i64 m2, .slice a2 n2 c2] 79) = w1 from hw1]
 have hb : Below w.heap.size w w1 := by rw [← hw1]; exact allocs_below _ _
 have HQ : Hid (w1.heap[z]? = some (.cells #[.int .i64 k1, .int .i64 m1, .slice a1 n1 c1] 79 (0, 0))) := Lib.hid (by have := allocs_get [.cells #[.int .i64 k1, .int .i64 m1, .slice a1 n1 c1] 79, .cells #[.int .i64 k2, .int .i64 m2, .slice a2 n2 c2] 79] w 0 _ rfl; rw [hw1, hz] at this; exact this)
 have HU : Hid (w1.heap[z + 1]? = some (.cells #[.int .i64 k2, .int .i64 m2, .slice a2 n2 c2] 79 (0, 0))) := Lib.hid (by have := allocs_get [.cells #[.int .i64 k1, .int .i64 m1, .slice a1 n1 c1] 79, .cells #[.int .i64 k2, .int .i64 m2, .slice a2 n2 c2] 79] w 1 _ rfl; rw [hw1, hz] at this; exact this)
 have Sz : Hid (w.heap.size = z) := Lib.hid hz
 replace HC := Lib.hid (HC.out.push hb)
 clear hb hw1 hz
 by_cases h1 : k1 = k2
 case neg =>
  obtain rfl : re = false := by rw [HV.out]; simp [h1]
  have e1 : (k1 == k2) = false := by simp [h1]
  have kQ0 := cell_of_row _ _ 0 _ _ _ HQ.out
  have kQ1 := cell_of_row _ _ 1 _ _ _ HQ.out
  have kQ2 := cell_of_row _ _ 2 _ _ _ HQ.out
  have kU0 := cell_of_row _ _ 0 _ _ _ HU.out
  have kU1 := cell_of_row _ _ 1 _ _ _ HU.out
  have kU2 := cell_of_row _ _ 2 _ _ _ HU.out
  go_wp2_with fail
  go_ret
  exact ⟨rfl, (HC.out.to w (by simp))⟩
 subst h1
 by_cases h2 : m1 = m2
 case neg =>
  obtain rfl : re = false := by rw [HV.out]; simp [h2]
  have e1 : (m1 == m2) = false := by simp [h2]
  have kQ0 := cell_of_row _ _ 0 _ _ _ HQ.out
  have kQ1 := cell_of_row _ _ 1 _ _ _ HQ.out
  have kQ2 := cell_of_row _ _ 2 _ _ _ HQ.out
  have kU0 := cell_of_row _ _ 0 _ _ _ HU.out
  have kU1 := cell_of_row _ _ 1 _ _ _ HU.out
  have kU2 := cell_of_row _ _ 2 _ _ _ HU.out
  go_wp2_with fail
  go_ret
  exact ⟨rfl, (HC.out.to w (by simp))⟩
 subst h2
 have kQ0 := cell_of_row _ _ 0 _ _ _ HQ.out
 have kQ1 := cell_of_row _ _ 1 _ _ _ HQ.out
 have kQ2 := cell_of_row _ _ 2 _ _ _ HQ.out
 have kU0 := cell_of_row _ _ 0 _ _ _ HU.out
 have kU1 := cell_of_row _ _ 1 _ _ _ HU.out
 have kU2 := cell_of_row _ _ 2 _ _ _ HU.out
 go_wp2_with fail
 refine (SE.out _ (HC.out.to w (by simp))).mono ?_
 rintro e w2 ⟨rfl, hb⟩
 clear kQ0 kQ1 kQ2 kU0 kU1 kU2
 replace HC := Lib.hid (HC.out.push hb)
 clear hb
 go_wp2_with fail
 go_ret
 exact ⟨by rw [HV.out]; simp, (HC.out.to w (by simp))⟩
end Go.Proofs.YtjlliohjeiclaaaGreatDoor
namespace Go.Proofs.YtjlliohjeiclaaaGreatDoor
open Go.RowKit St Pm Ku Kn
attribute [local go_sem] Oper.semAt_some
namespace Kn
def findW : List ByteArray → Int → ByteArray → Int
 | [], _, _ => 0
 | x :: r, k, s => if x = s then k else findW r (k + 1) s
def kindG (s : ByteArray) : Int := findW (wordL.drop 1) 1 s
abbrev KW := Int × ByteArray
def encKW (x : KW) : Array Value := #[.int .i64 x.1, .string x.2]
def kwX (pre : List KW) (x : KW) (_ : World) : Prop := pre.length < 6 ∧ x = (((pre.length + 1 : Nat) : Int), wordL.getD (pre.length + 1) ⟨#[]⟩)
end Kn
open Kn
theorem kn_Kinds (w : World) : Calls Tryz.prog 116 #[] w fun e w' => e = .returned (.func (.func 154) #[] #[]) ∧ Below w.heap.size w w' := by
 go_enter Tryz.func116, Tryz.ntmps116
 go_wp2
 go_ret
 exact ⟨rfl, Below.refl _ _⟩
set_option maxRecDepth 100000 in
set_option maxHeartbeats 2000000 in
theorem kinds1_iter (nn : Nat) (hn1 : 1 ≤ nn) (w : World) :
 Iter2 nn Tryz.prog 154 #[] encKW (fun _ _ => True) kwX (fun _ xs A B => xs.length = 6 ∧ A = B) (fun _ => True) w := by
 intro ll J Jx W hW _ hJo _ hY h0
 have hJ : ∀ pre A B, J pre A → Below A.heap.size A B → J pre B := fun pre A B h hb => ownFrom_to hJo h hb
 refine callsIn_of_wp Tryz.func154 rfl trivial ?_ rfl
 simp only [Tryz.ntmps154, List.size_toArray, List.length_cons, List.length_nil, Nat.reduceAdd, Nat.reduceSub, Array.replicate_succ, Array.replicate_zero, List.push_toArray, List.append_toArray, List.nil_append, List.cons_append]
 gi_wp2
 refine ⟨trivial, ?_⟩
 refine (callsIn_wide.2 (kn_words W)).mono ?_
 rintro e w1 ⟨rfl, hb⟩
 have J1 := hJ _ _ _ h0 hb
 clear hb h0
 gi_wp2
 gi_loopw [2, 3, 5] (fun _ _ t wr => ∃ (pre : List KW) (j : Nat), t = .int .i64 (j : Int) ∧ j ≤ 7 ∧ pre.length = j - 1 ∧ J pre wr) (fun _ _ t _ => 7 - (intOf t).toNat)
 case atStart => exact ⟨[], 0, rfl, by omega, rfl, J1⟩
 case round =>
  obtain ⟨pre, j, rfl, hj, hp, hJs⟩ := hrel
  by_cases hlt : j < 7
  · have hji : (j : Int) < 7 := by omega
    have hidx := fun W => idxW j hlt W
    by_cases h0 : j = 0
    · subst h0
      have hidx0 : ∀ W, (Instr.index 175 (.agg wordV) (.int .i64 0)).run Tryz.prog W = .ok (.string (wordL.getD 0 ⟨#[]⟩)) W := hidx
      clear hidx
      generalize wordL.getD 0 ⟨#[]⟩ = x at hidx0
      gi_wp2
      refine ⟨fun f hf => (by cases hf), ?_⟩
      gi_wp2
      exact ⟨⟨pre, 1, rfl, by omega, by omega, hJs⟩, by simp [intOf]⟩
    · have hj0 : 0 < j := by omega
      have hj0i : (0 : Int) < (j : Int) := by omega
      have hX : kwX pre ((j : Int), wordL.getD j ⟨#[]⟩) wr := ⟨by omega, by rw [hp, show j - 1 + 1 = j by omega]⟩
      have hPL : Hid (pre.length = j - 1) := Lib.hid hp
      clear hp
      generalize wordL.getD j ⟨#[]⟩ = x at hidx hX
      obtain ⟨fn, tmps, assign, body', hyy, hRR⟩ := hY pre ((j : Int), x) wr hJs hX
      simp only [encKW] at hyy
      gi_wp2
      refine hRR.mono ?_
      rintro e W' (⟨rfl, hJ', _⟩ | ⟨rfl, hJx', _⟩)
      · have HJ' := Lib.hid hJ'
        clear hJ' hJs
        gi_wp2
        exact ⟨⟨pre ++ [((j : Int), x)], j + 1, by go_num, by omega, by rw [List.length_append, hPL.out]; simp; omega, HJ'.out⟩, by simp [intOf]; omega⟩
      · have HJx := Lib.hid hJx'
        clear hJx' hJs
        gi_wp2
        try rw [Exit.noGoto_ret]
        refine bodyPost_ret (results_none rfl _ _ _) rfl ?_
        exact ⟨⟨_, rfl⟩, .inr ⟨_, trivial, HJx.out⟩⟩
  · obtain rfl : j = 7 := by omega
    gi_wp2
    go_end0
    exact ⟨⟨_, rfl⟩, .inl ⟨pre, wr, hJs, hp, rfl⟩⟩
end Go.Proofs.YtjlliohjeiclaaaGreatDoor
