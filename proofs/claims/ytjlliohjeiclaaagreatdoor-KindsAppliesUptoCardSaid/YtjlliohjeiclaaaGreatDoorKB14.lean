/- Words, contracts and walks that the proof stands on (KqB KnX). -/
import Derived.Test.YtjlliohjeiclaaaGreatDoorKB13
import Derived.Test.YtjlliohjeiclaaaGreatDoorKB8
namespace Go.Proofs.YtjlliohjeiclaaaGreatDoor
open Go.RowKit St Pm Ku Kn
set_option maxRecDepth 100000 in
set_option maxHeartbeats 4000000 in
theorem kr_Value (k m : Int) (l : List Ev) (a : Option Addr) (n c : Nat) (w : World) (hl : CellsAt w a (elsV l)) (hn : n = l.length) (hb : n ≤ 9223372036854775807) (hz : ∀ e ∈ l, e.1.l.size ≤ 9223372036854775807) :
 Calls Tryz.prog 42 #[.agg #[.int .i64 k, .int .i64 m, .slice a n c]] w fun e w' => e = .returned (.bool (valG k m l)) ∧ Below w.heap.size w w' := by
 have HL := Lib.hid hl
 have HN := Lib.hid hn
 have HZ := Lib.hid hz
 obtain ⟨re, hre⟩ : ∃ r, valG k m l = r := ⟨_, rfl⟩
 have RE := Lib.hid hre
 rw [hre]
 clear hl hn hz hre
 have HC : Hid (Chain [w] w) := Lib.hid (Chain.one w)
 go_enter Tryz.func42, Tryz.ntmps42
 go_upto_region 1 with (fail)
 obtain ⟨z, hz⟩ : ∃ c, w.heap.size = c := ⟨_, rfl⟩
 try rw [hz]
 obtain ⟨w1, hw1⟩ : ∃ X, allocs w [.cells #[.int .i64 k, .int .i64 m, .slice a n c] 79] = X := ⟨_, rfl⟩
 rw [show w.alloc (.cells #[.int .i64 k, .int .i64 m, .slice a n c] 79) = w1 from hw1]
 have hb : Below w.heap.size w w1 := by rw [← hw1]; exact allocs_below _ _
 have HV : Hid (w1.heap[z]? = some (.cells #[.int .i64 k, .int .i64 m, .slice a n c] 79 (0, 0))) := Lib.hid (by have := allocs_get [.cells #[.int .i64 k, .int .i64 m, .slice a n c] 79] w 0 _ rfl; rw [hw1, hz] at this; exact this)
 have Sz : Hid (w.heap.size = z) := Lib.hid hz
 replace HC := Lib.hid (HC.out.push hb)
 clear hb hw1 hz
 have HV2 : Hid (w1.heap[z]? = some (.cells #[.int .i64 k, .int .i64 m, .slice a n c] 79 (0, 0))) := HV
 have HL2 := Lib.hid (HL.out.below (HC.out.to w (by simp)) rfl)
 have BW2 := Lib.hid (HC.out.to w (by simp))
 obtain ⟨b1, h1⟩ : ∃ b, thingG k = b := ⟨_, rfl⟩
 have H1 := Lib.hid h1
 cases b1
 case false =>
  obtain rfl : false = re := by rw [← RE.out]; unfold valG; rw [H1.out]; rfl
  unfold thingG at h1
  rw [Bool.and_eq_false_iff, decide_eq_false_iff_not, decide_eq_false_iff_not] at h1
  have kV0 := cell_of_row _ _ 0 _ _ _ HV.out
  have kV1 := cell_of_row _ _ 1 _ _ _ HV.out
  have kV2 := cell_of_row _ _ 2 _ _ _ HV.out
  by_cases hk1 : k < 1
  · have e1 : decide (k < 1) = true := decide_eq_true hk1
    clear h1
    go_wp2_with fail
    go_ret
    exact ⟨rfl, (HC.out.to w (by simp))⟩
  · have e1 : decide (k < 1) = false := decide_eq_false hk1
    have hk5 : 5 < k := by rcases h1 with h | h <;> omega
    have e2 : decide (5 < k) = true := decide_eq_true hk5
    clear h1
    go_wp2_with fail
    go_ret
    exact ⟨rfl, (HC.out.to w (by simp))⟩
 have hk1 : ¬ k < 1 := by unfold thingG at h1; rw [Bool.and_eq_true, decide_eq_true_eq, decide_eq_true_eq] at h1; omega
 have hk5 : ¬ 5 < k := by unfold thingG at h1; rw [Bool.and_eq_true, decide_eq_true_eq, decide_eq_true_eq] at h1; omega
 have e1 : decide (k < 1) = false := decide_eq_false hk1
 have e2 : decide (5 < k) = false := decide_eq_false hk5
 clear h1
 by_cases hk : k = 1
 · subst hk
   by_cases h0 : n = 0
   · obtain rfl : true = re := by rw [← RE.out]; unfold valG; rw [H1.out, if_pos rfl, ← HN.out, h0]; rfl
     subst h0
     clear e1 e2 hk1 hk5
     have kV0 := cell_of_row _ _ 0 _ _ _ HV.out
     have kV1 := cell_of_row _ _ 1 _ _ _ HV.out
     have kV2 := cell_of_row _ _ 2 _ _ _ HV.out
     go_wp2_with fail
     go_loopw [3] (fun j wr => j = .int .i64 0 ∧ w1 = wr) (fun _ _ => 0)
     case atStart => exact ⟨rfl, rfl⟩
     case round =>
      obtain ⟨rfl, rfl⟩ := hrel
      have kV0 := cell_of_row _ _ 0 _ _ _ HV.out
      have kV1 := cell_of_row _ _ 1 _ _ _ HV.out
      have kV2 := cell_of_row _ _ 2 _ _ _ HV.out
      go_wp2_with fail
      go_ret
      exact ⟨rfl, BW2.out⟩
   · obtain rfl : false = re := by rw [← RE.out]; unfold valG; rw [H1.out, if_pos rfl, ← HN.out]; simp [h0]
     have hn0 : 0 < (n : Int) := by omega
     clear e1 e2 hk1 hk5
     have kV0 := cell_of_row _ _ 0 _ _ _ HV.out
     have kV1 := cell_of_row _ _ 1 _ _ _ HV.out
     have kV2 := cell_of_row _ _ 2 _ _ _ HV.out
     go_wp2_with fail
     go_ret
     exact ⟨rfl, BW2.out⟩
 have hkb : (k == 1) = false := by simp [hk]
 have hkc : (k != 1) = true := by simp [hk]
 by_cases hm : m = 0
 case neg =>
  obtain rfl : false = re := by rw [← RE.out]; unfold valG; rw [H1.out, if_neg hk]; simp [hm]
  have hmb : (m != 0) = true := by simp [hm]
  have kV0 := cell_of_row _ _ 0 _ _ _ HV.out
  have kV1 := cell_of_row _ _ 1 _ _ _ HV.out
  have kV2 := cell_of_row _ _ 2 _ _ _ HV.out
  go_wp2_with fail
  go_ret
  exact ⟨rfl, BW2.out⟩
 subst hm
 have RR : Hid (risG (prevG l 0) (l.drop 0) = re) := Lib.hid (by rw [← RE.out]; unfold valG; rw [H1.out, if_neg hk]; simp [prevG])
 have kV0 := cell_of_row _ _ 0 _ _ _ HV.out
 have kV1 := cell_of_row _ _ 1 _ _ _ HV.out
 have kV2 := cell_of_row _ _ 2 _ _ _ HV.out
 go_wp2_with fail
 clear kV0 kV1 kV2
 clear HC HV Sz hkb hkc e1 e2 hk1 hk5
 go_loopw [3] (fun j wr => ∃ q : Nat, j = .int .i64 (q : Int) ∧ q ≤ n ∧ Hid (risG (prevG l q) (l.drop q) = re) ∧ Hid (Below w1.heap.size w1 wr)) (fun j _ => n - (intOf j).toNat)
 case atStart => exact ⟨0, rfl, Nat.zero_le _, RR, Lib.hid (Below.refl _ _)⟩
 case round =>
  obtain ⟨q, rfl, hq, HR, HB⟩ := hrel
  by_cases hlt : q < n
  · have hqi : (q : Int) < (n : Int) := by omega
    have hql : q < l.length := by have := HN.out; omega
    have HST := Lib.hid (ris_step hql HR.out)
    have HC : Hid (Chain [wr] wr) := Lib.hid (Chain.one wr)
    obtain ⟨ba, oa, rfl, ca⟩ := els_get (HL2.out.below HB.out rfl) q hql
    obtain ⟨x, hx⟩ : ∃ x, l[q] = x := ⟨_, rfl⟩
    rw [hx] at ca HST
    have HXZ : Hid (x.1.l.size ≤ 9223372036854775807) := Lib.hid (HZ.out x (hx ▸ List.getElem_mem hql))
    have HVR : Hid (wr.heap[z]? = some (.cells #[.int .i64 k, .int .i64 0, .slice (some ⟨ba, oa, none⟩) n c] 79 (0, 0))) := Lib.hid (boxStays HV2.out HB.out)
    have CA := Lib.hid ca
    obtain ⟨p0, p1, p2, p3, p4, p5⟩ := ca
    clear hx
    have kv2 := cell_of_row _ z 2 _ _ _ HVR.out
    go_upto_region 7 with (fail)
    clear kv2 p0 p1 p2 p3 p4 p5
    obtain ⟨y, hy⟩ : ∃ c, wr.heap.size = c := ⟨_, rfl⟩
    try rw [hy]
    obtain ⟨w3, hw3⟩ : ∃ X, allocs wr [.cells #[.int .i64 x.1.g, .int .i64 x.1.r, .string x.1.l, .int .i64 x.1.n, .int .i64 x.1.i, .string x.2] 53] = X := ⟨_, rfl⟩
    rw [show wr.alloc (.cells #[.int .i64 x.1.g, .int .i64 x.1.r, .string x.1.l, .int .i64 x.1.n, .int .i64 x.1.i, .string x.2] 53) = w3 from hw3]
    have hb : Below wr.heap.size wr w3 := by rw [← hw3]; exact allocs_below _ _
    have HX : Hid (w3.heap[y]? = some (.cells #[.int .i64 x.1.g, .int .i64 x.1.r, .string x.1.l, .int .i64 x.1.n, .int .i64 x.1.i, .string x.2] 53 (0, 0))) := Lib.hid (by have := allocs_get [.cells #[.int .i64 x.1.g, .int .i64 x.1.r, .string x.1.l, .int .i64 x.1.n, .int .i64 x.1.i, .string x.2] 53] wr 0 _ rfl; rw [hw3, hy] at this; exact this)
    have Sy : Hid (wr.heap.size = y) := Lib.hid hy
    replace HC := Lib.hid (HC.out.push hb)
    clear hb hw3 hy
    have HV3 := Lib.hid (boxStays HVR.out (HC.out.to wr (by simp)))
    have BR3 := Lib.hid (HB.out.trans ((HC.out.to wr (by simp)).mono HB.out.size))
    have CA3 := Lib.hid (CA.out.below (HC.out.to wr (by simp)))
    have HL3 := Lib.hid (HL2.out.below BR3.out rfl)
    obtain ⟨c3, hc3⟩ : ∃ b, (if h0 : 0 < q then decide (svC (l[q - 1]'(by omega)).1 x.1 < 0) else true) = b := ⟨_, rfl⟩
    have C3 := Lib.hid hc3
    rw [hc3] at HST
    clear hc3
    clear HC
    go_cut [72] (fun u72 wx => u72 = .bool (!(okV x && c3)) ∧ Hid (Below w3.heap.size w3 wx))
    case first =>
     have HOV : Hid (okV x = (x.1.ok && decide (x.2.size ≤ 256))) := Lib.hid rfl
     obtain ⟨c1, hc1⟩ : ∃ b, x.1.ok = b := ⟨_, rfl⟩
     obtain ⟨c2, hc2⟩ : ∃ b, decide (x.2.size ≤ 256) = b := ⟨_, rfl⟩
     rw [hc1, hc2] at HOV
     have HC1 := Lib.hid hc1
     have HC2 := Lib.hid hc2
     clear hc1 hc2
     cases c1
     case false =>
      refine wp_region_noPanic ?_
      refine wp_region_held_drew (S := fun w' => Below w3.heap.size w3 w') (by kernel_rfl) (Below.refl _ _).drew (fun hS => ?_)
      refine wpAnyH_take (i := 0) (oi := ⟨some 46, _, _, _, _, _⟩) (v := ?_) rfl (by kernel_rfl) (by kernel_rfl) (by kernel_rfl) (fun _ _ _ h => h) (Or.inl ⟨by rfl, ?_⟩) hS ?_
      rotate_left 1
      · intro w' hB; have hx := boxStays HX.out hB; have x0 := cell_of_row _ y 0 _ _ _ hx; have x1 := cell_of_row _ y 1 _ _ _ hx; have x2 := cell_of_row _ y 2 _ _ _ hx; have x3 := cell_of_row _ y 3 _ _ _ hx; have x4 := cell_of_row _ y 4 _ _ _ hx; have x5 := cell_of_row _ y 5 _ _ _ hx; clear hx; (go_simp <;> with_reducible rfl)
      try simp only [Act.put, List.setIfInBounds_toArray, List.set_cons_zero, List.set_cons_succ]
      refine wpAnyH_take (i := 1) (oi := ⟨some 47, _, _, _, _, _⟩) (v := ?_) rfl (by kernel_rfl) (by kernel_rfl) (by kernel_rfl) (fun _ _ _ h => h) (Or.inl ⟨by rfl, ?_⟩) hS ?_
      rotate_left 1
      · intro w' hB; have hx := boxStays HX.out hB; have x0 := cell_of_row _ y 0 _ _ _ hx; have x1 := cell_of_row _ y 1 _ _ _ hx; have x2 := cell_of_row _ y 2 _ _ _ hx; have x3 := cell_of_row _ y 3 _ _ _ hx; have x4 := cell_of_row _ y 4 _ _ _ hx; have x5 := cell_of_row _ y 5 _ _ _ hx; clear hx; (go_simp <;> with_reducible rfl)
      try simp only [Act.put, List.setIfInBounds_toArray, List.set_cons_zero, List.set_cons_succ]
      refine wpAnyH_ready (rs := [2]) (by kernel_rfl) (by simp) (AllReadyH.cons (o := ⟨some 48, _, _, _, _, _⟩) rfl (fun K hK => ?_) AllReadyH.nil)
      go_simp
      refine (ref6_Stamp x.1 _ HXZ.out).mono ?_
      rintro e w4 ⟨rfl, hb⟩
      refine hK.out _ _ (hS.trans (hb.mono hS.size)) (fun _ => ?_)
      clear hK K
      replace hS := hS.trans (hb.mono hS.size)
      rw [HC1.out]
      clear hb
      try simp only [Act.put, List.setIfInBounds_toArray, List.set_cons_zero, List.set_cons_succ]
      refine wpAnyH_take (i := 3) (oi := ⟨some 49, _, _, _, _, _⟩) (v := ?_) rfl (by kernel_rfl) (by kernel_rfl) (by kernel_rfl) (fun _ _ _ h => h) (Or.inl ⟨by rfl, ?_⟩) hS ?_
      rotate_left 1
      · intro w' hB; have hx := boxStays HX.out hB; have x0 := cell_of_row _ y 0 _ _ _ hx; have x1 := cell_of_row _ y 1 _ _ _ hx; have x2 := cell_of_row _ y 2 _ _ _ hx; have x3 := cell_of_row _ y 3 _ _ _ hx; have x4 := cell_of_row _ y 4 _ _ _ hx; have x5 := cell_of_row _ y 5 _ _ _ hx; clear hx; (go_simp <;> with_reducible rfl)
      try simp only [Act.put, List.setIfInBounds_toArray, List.set_cons_zero, List.set_cons_succ]
      refine wpAnyH_take (i := 4) (oi := ⟨some 50, _, _, _, _, _⟩) (v := ?_) rfl (by kernel_rfl) (by kernel_rfl) (by kernel_rfl) (fun _ _ _ h => h) (Or.inl ⟨by rfl, ?_⟩) hS ?_
      rotate_left 1
      · intro w' hB; have hx := boxStays HX.out hB; have x0 := cell_of_row _ y 0 _ _ _ hx; have x1 := cell_of_row _ y 1 _ _ _ hx; have x2 := cell_of_row _ y 2 _ _ _ hx; have x3 := cell_of_row _ y 3 _ _ _ hx; have x4 := cell_of_row _ y 4 _ _ _ hx; have x5 := cell_of_row _ y 5 _ _ _ hx; clear hx; (go_simp <;> with_reducible rfl)
      try simp only [Act.put, List.setIfInBounds_toArray, List.set_cons_zero, List.set_cons_succ]
      refine wpAnyH_take (i := 5) (oi := ⟨some 51, _, _, _, _, _⟩) rfl (by kernel_rfl) (by kernel_rfl) (by kernel_rfl) (fun _ _ _ h => h) (Or.inr ⟨by rfl, rfl⟩) hS ?_
      try simp only [Act.put, List.setIfInBounds_toArray, List.set_cons_zero, List.set_cons_succ]
      refine wpAnyH_take (i := 6) (oi := ⟨some 52, _, _, _, _, _⟩) rfl (by kernel_rfl) (by kernel_rfl) (by kernel_rfl) (fun _ _ _ h => h) (Or.inr ⟨by rfl, rfl⟩) hS ?_
      try simp only [Act.put, List.setIfInBounds_toArray, List.set_cons_zero, List.set_cons_succ]
      refine wpAnyH_take (i := 7) (oi := ⟨some 53, _, _, _, _, _⟩) rfl (by kernel_rfl) (by kernel_rfl) (by kernel_rfl) (fun _ _ _ h => h) (Or.inr ⟨by rfl, rfl⟩) hS ?_
      try simp only [Act.put, List.setIfInBounds_toArray, List.set_cons_zero, List.set_cons_succ]
      refine wpAnyH_take (i := 8) (oi := ⟨some 54, _, _, _, _, _⟩) rfl (by kernel_rfl) (by kernel_rfl) (by kernel_rfl) (fun _ _ _ h => h) (Or.inr ⟨by rfl, rfl⟩) hS ?_
      try simp only [Act.put, List.setIfInBounds_toArray, List.set_cons_zero, List.set_cons_succ]
      refine wpAnyH_take (i := 9) (oi := ⟨some 55, _, _, _, _, _⟩) (v := ?_) rfl (by kernel_rfl) (by kernel_rfl) (by kernel_rfl) (fun _ _ _ h => h) (Or.inl ⟨by rfl, ?_⟩) hS ?_
      rotate_left 1
      · intro w' hB; have hx := boxStays HX.out hB; have x0 := cell_of_row _ y 0 _ _ _ hx; have x1 := cell_of_row _ y 1 _ _ _ hx; have x2 := cell_of_row _ y 2 _ _ _ hx; have x3 := cell_of_row _ y 3 _ _ _ hx; have x4 := cell_of_row _ y 4 _ _ _ hx; have x5 := cell_of_row _ y 5 _ _ _ hx; clear hx; (go_simp <;> with_reducible rfl)
      try simp only [Act.put, List.setIfInBounds_toArray, List.set_cons_zero, List.set_cons_succ]
      refine wpAnyH_take (i := 10) (oi := ⟨some 56, _, _, _, _, _⟩) (v := ?_) rfl (by kernel_rfl) (by kernel_rfl) (by kernel_rfl) (fun _ _ _ h => h) (Or.inl ⟨by rfl, ?_⟩) hS ?_
      rotate_left 1
      · intro w' hB; have hx := boxStays HX.out hB; have x0 := cell_of_row _ y 0 _ _ _ hx; have x1 := cell_of_row _ y 1 _ _ _ hx; have x2 := cell_of_row _ y 2 _ _ _ hx; have x3 := cell_of_row _ y 3 _ _ _ hx; have x4 := cell_of_row _ y 4 _ _ _ hx; have x5 := cell_of_row _ y 5 _ _ _ hx; clear hx; (go_simp <;> with_reducible rfl)
      try simp only [Act.put, List.setIfInBounds_toArray, List.set_cons_zero, List.set_cons_succ]
      refine wpAnyH_take (i := 11) (oi := ⟨some 57, _, _, _, _, _⟩) rfl (by kernel_rfl) (by kernel_rfl) (by kernel_rfl) (fun _ _ _ h => h) (Or.inr ⟨by rfl, rfl⟩) hS ?_
      try simp only [Act.put, List.setIfInBounds_toArray, List.set_cons_zero, List.set_cons_succ]
      refine wpAnyH_take (i := 12) (oi := ⟨some 58, _, _, _, _, _⟩) rfl (by kernel_rfl) (by kernel_rfl) (by kernel_rfl) (fun _ _ _ h => h) (Or.inr ⟨by rfl, rfl⟩) hS ?_
      try simp only [Act.put, List.setIfInBounds_toArray, List.set_cons_zero, List.set_cons_succ]
      refine wpAnyH_take (i := 13) (oi := ⟨some 59, _, _, _, _, _⟩) rfl (by kernel_rfl) (by kernel_rfl) (by kernel_rfl) (fun _ _ _ h => h) (Or.inr ⟨by rfl, rfl⟩) hS ?_
      try simp only [Act.put, List.setIfInBounds_toArray, List.set_cons_zero, List.set_cons_succ]
      refine wpAnyH_take (i := 14) (oi := ⟨some 60, _, _, _, _, _⟩) rfl (by kernel_rfl) (by kernel_rfl) (by kernel_rfl) (fun _ _ _ h => h) (Or.inr ⟨by rfl, rfl⟩) hS ?_
      try simp only [Act.put, List.setIfInBounds_toArray, List.set_cons_zero, List.set_cons_succ]
      refine wpAnyH_take (i := 15) (oi := ⟨some 61, _, _, _, _, _⟩) rfl (by kernel_rfl) (by kernel_rfl) (by kernel_rfl) (fun _ _ _ h => h) (Or.inr ⟨by rfl, rfl⟩) hS ?_
      try simp only [Act.put, List.setIfInBounds_toArray, List.set_cons_zero, List.set_cons_succ]
      refine wpAnyH_take (i := 16) (oi := ⟨some 62, _, _, _, _, _⟩) rfl (by kernel_rfl) (by kernel_rfl) (by kernel_rfl) (fun _ _ _ h => h) (Or.inr ⟨by rfl, rfl⟩) hS ?_
      try simp only [Act.put, List.setIfInBounds_toArray, List.set_cons_zero, List.set_cons_succ]
      refine wpAnyH_take (i := 17) (oi := ⟨some 63, _, _, _, _, _⟩) rfl (by kernel_rfl) (by kernel_rfl) (by kernel_rfl) (fun _ _ _ h => h) (Or.inr ⟨by rfl, rfl⟩) hS ?_
      try simp only [Act.put, List.setIfInBounds_toArray, List.set_cons_zero, List.set_cons_succ]
      refine wpAnyH_take (i := 18) (oi := ⟨some 64, _, _, _, _, _⟩) rfl (by kernel_rfl) (by kernel_rfl) (by kernel_rfl) (fun _ _ _ h => h) (Or.inr ⟨by rfl, rfl⟩) hS ?_
      try simp only [Act.put, List.setIfInBounds_toArray, List.set_cons_zero, List.set_cons_succ]
      refine wpAnyH_take (i := 19) (oi := ⟨some 65, _, _, _, _, _⟩) rfl (by kernel_rfl) (by kernel_rfl) (by kernel_rfl) (fun _ _ _ h => h) (Or.inr ⟨by rfl, rfl⟩) hS ?_
      try simp only [Act.put, List.setIfInBounds_toArray, List.set_cons_zero, List.set_cons_succ]
      refine wpAnyH_take (i := 20) (oi := ⟨some 66, _, _, _, _, _⟩) rfl (by kernel_rfl) (by kernel_rfl) (by kernel_rfl) (fun _ _ _ h => h) (Or.inr ⟨by rfl, rfl⟩) hS ?_
      try simp only [Act.put, List.setIfInBounds_toArray, List.set_cons_zero, List.set_cons_succ]
      refine wpAnyH_take (i := 21) (oi := ⟨some 67, _, _, _, _, _⟩) rfl (by kernel_rfl) (by kernel_rfl) (by kernel_rfl) (fun _ _ _ h => h) (Or.inr ⟨by rfl, rfl⟩) hS ?_
      try simp only [Act.put, List.setIfInBounds_toArray, List.set_cons_zero, List.set_cons_succ]
      refine wpAnyH_take (i := 22) (oi := ⟨some 68, _, _, _, _, _⟩) rfl (by kernel_rfl) (by kernel_rfl) (by kernel_rfl) (fun _ _ _ h => h) (Or.inr ⟨by rfl, rfl⟩) hS ?_
      try simp only [Act.put, List.setIfInBounds_toArray, List.set_cons_zero, List.set_cons_succ]
      refine wpAnyH_take (i := 23) (oi := ⟨some 69, _, _, _, _, _⟩) rfl (by kernel_rfl) (by kernel_rfl) (by kernel_rfl) (fun _ _ _ h => h) (Or.inr ⟨by rfl, rfl⟩) hS ?_
      try simp only [Act.put, List.setIfInBounds_toArray, List.set_cons_zero, List.set_cons_succ]
      refine wpAnyH_take (i := 24) (oi := ⟨some 70, _, _, _, _, _⟩) rfl (by kernel_rfl) (by kernel_rfl) (by kernel_rfl) (fun _ _ _ h => h) (Or.inr ⟨by rfl, rfl⟩) hS ?_
      try simp only [Act.put, List.setIfInBounds_toArray, List.set_cons_zero, List.set_cons_succ]
      refine wpAnyH_take (i := 25) (oi := ⟨some 71, _, _, _, _, _⟩) rfl (by kernel_rfl) (by kernel_rfl) (by kernel_rfl) (fun _ _ _ h => h) (Or.inr ⟨by rfl, rfl⟩) hS ?_
      try simp only [Act.put, List.setIfInBounds_toArray, List.set_cons_zero, List.set_cons_succ]
      refine wpAnyH_take (i := 26) (oi := ⟨some 72, _, _, _, _, _⟩) (v := ?_) rfl (by kernel_rfl) (by kernel_rfl) (by kernel_rfl) (fun _ _ _ h => h) (Or.inl ⟨by rfl, ?_⟩) hS ?_
      rotate_left 1
      · intro w' hB; have hx := boxStays HX.out hB; have x0 := cell_of_row _ y 0 _ _ _ hx; have x1 := cell_of_row _ y 1 _ _ _ hx; have x2 := cell_of_row _ y 2 _ _ _ hx; have x3 := cell_of_row _ y 3 _ _ _ hx; have x4 := cell_of_row _ y 4 _ _ _ hx; have x5 := cell_of_row _ y 5 _ _ _ hx; clear hx; (go_simp <;> with_reducible rfl)
      try simp only [Act.put, List.setIfInBounds_toArray, List.set_cons_zero, List.set_cons_succ]
      refine wpAnyH_done (by kernel_rfl) (NoPanic.normal ?_) _
      have HBD := Lib.hid hS
      go_wp2_with fail
      go_meet
      exact ⟨by rw [HOV.out]; rfl, HBD⟩
     cases c2
     case false =>
      refine wp_region_noPanic ?_
      refine wp_region_held_drew (S := fun w' => Below w3.heap.size w3 w') (by kernel_rfl) (Below.refl _ _).drew (fun hS => ?_)
      refine wpAnyH_take (i := 0) (oi := ⟨some 46, _, _, _, _, _⟩) (v := ?_) rfl (by kernel_rfl) (by kernel_rfl) (by kernel_rfl) (fun _ _ _ h => h) (Or.inl ⟨by rfl, ?_⟩) hS ?_
      rotate_left 1
      · intro w' hB; have hx := boxStays HX.out hB; have x0 := cell_of_row _ y 0 _ _ _ hx; have x1 := cell_of_row _ y 1 _ _ _ hx; have x2 := cell_of_row _ y 2 _ _ _ hx; have x3 := cell_of_row _ y 3 _ _ _ hx; have x4 := cell_of_row _ y 4 _ _ _ hx; have x5 := cell_of_row _ y 5 _ _ _ hx; clear hx; (go_simp <;> with_reducible rfl)
      try simp only [Act.put, List.setIfInBounds_toArray, List.set_cons_zero, List.set_cons_succ]
      refine wpAnyH_take (i := 1) (oi := ⟨some 47, _, _, _, _, _⟩) (v := ?_) rfl (by kernel_rfl) (by kernel_rfl) (by kernel_rfl) (fun _ _ _ h => h) (Or.inl ⟨by rfl, ?_⟩) hS ?_
      rotate_left 1
      · intro w' hB; have hx := boxStays HX.out hB; have x0 := cell_of_row _ y 0 _ _ _ hx; have x1 := cell_of_row _ y 1 _ _ _ hx; have x2 := cell_of_row _ y 2 _ _ _ hx; have x3 := cell_of_row _ y 3 _ _ _ hx; have x4 := cell_of_row _ y 4 _ _ _ hx; have x5 := cell_of_row _ y 5 _ _ _ hx; clear hx; (go_simp <;> with_reducible rfl)
      try simp only [Act.put, List.setIfInBounds_toArray, List.set_cons_zero, List.set_cons_succ]
      refine wpAnyH_ready (rs := [2]) (by kernel_rfl) (by simp) (AllReadyH.cons (o := ⟨some 48, _, _, _, _, _⟩) rfl (fun K hK => ?_) AllReadyH.nil)
      go_simp
      refine (ref6_Stamp x.1 _ HXZ.out).mono ?_
      rintro e w4 ⟨rfl, hb⟩
      refine hK.out _ _ (hS.trans (hb.mono hS.size)) (fun _ => ?_)
      clear hK K
      replace hS := hS.trans (hb.mono hS.size)
      rw [HC1.out]
      clear hb
      try simp only [Act.put, List.setIfInBounds_toArray, List.set_cons_zero, List.set_cons_succ]
      refine wpAnyH_take (i := 3) (oi := ⟨some 49, _, _, _, _, _⟩) (v := ?_) rfl (by kernel_rfl) (by kernel_rfl) (by kernel_rfl) (fun _ _ _ h => h) (Or.inl ⟨by rfl, ?_⟩) hS ?_
      rotate_left 1
      · intro w' hB; have hx := boxStays HX.out hB; have x0 := cell_of_row _ y 0 _ _ _ hx; have x1 := cell_of_row _ y 1 _ _ _ hx; have x2 := cell_of_row _ y 2 _ _ _ hx; have x3 := cell_of_row _ y 3 _ _ _ hx; have x4 := cell_of_row _ y 4 _ _ _ hx; have x5 := cell_of_row _ y 5 _ _ _ hx; clear hx; (go_simp <;> with_reducible rfl)
      try simp only [Act.put, List.setIfInBounds_toArray, List.set_cons_zero, List.set_cons_succ]
      refine wpAnyH_take (i := 4) (oi := ⟨some 50, _, _, _, _, _⟩) (v := ?_) rfl (by kernel_rfl) (by kernel_rfl) (by kernel_rfl) (fun _ _ _ h => h) (Or.inl ⟨by rfl, ?_⟩) hS ?_
      rotate_left 1
      · intro w' hB; have hx := boxStays HX.out hB; have x0 := cell_of_row _ y 0 _ _ _ hx; have x1 := cell_of_row _ y 1 _ _ _ hx; have x2 := cell_of_row _ y 2 _ _ _ hx; have x3 := cell_of_row _ y 3 _ _ _ hx; have x4 := cell_of_row _ y 4 _ _ _ hx; have x5 := cell_of_row _ y 5 _ _ _ hx; clear hx; (go_simp <;> with_reducible rfl)
      try simp only [Act.put, List.setIfInBounds_toArray, List.set_cons_zero, List.set_cons_succ]
      refine wpAnyH_take (i := 5) (oi := ⟨some 51, _, _, _, _, _⟩) (v := ?_) rfl (by kernel_rfl) (by kernel_rfl) (by kernel_rfl) (fun _ _ _ h => h) (Or.inl ⟨by rfl, ?_⟩) hS ?_
      rotate_left 1
      · intro w' hB; have hx := boxStays HX.out hB; have x0 := cell_of_row _ y 0 _ _ _ hx; have x1 := cell_of_row _ y 1 _ _ _ hx; have x2 := cell_of_row _ y 2 _ _ _ hx; have x3 := cell_of_row _ y 3 _ _ _ hx; have x4 := cell_of_row _ y 4 _ _ _ hx; have x5 := cell_of_row _ y 5 _ _ _ hx; clear hx; (go_simp <;> with_reducible rfl)
      try simp only [Act.put, List.setIfInBounds_toArray, List.set_cons_zero, List.set_cons_succ]
      refine wpAnyH_take (i := 6) (oi := ⟨some 52, _, _, _, _, _⟩) (v := ?_) rfl (by kernel_rfl) (by kernel_rfl) (by kernel_rfl) (fun _ _ _ h => h) (Or.inl ⟨by rfl, ?_⟩) hS ?_
      rotate_left 1
      · intro w' hB; have hx := boxStays HX.out hB; have x0 := cell_of_row _ y 0 _ _ _ hx; have x1 := cell_of_row _ y 1 _ _ _ hx; have x2 := cell_of_row _ y 2 _ _ _ hx; have x3 := cell_of_row _ y 3 _ _ _ hx; have x4 := cell_of_row _ y 4 _ _ _ hx; have x5 := cell_of_row _ y 5 _ _ _ hx; clear hx; (go_simp <;> with_reducible rfl)
      try simp only [Act.put, List.setIfInBounds_toArray, List.set_cons_zero, List.set_cons_succ]
      refine wpAnyH_ready (rs := [7]) (by kernel_rfl) (by simp) (AllReadyH.cons (o := ⟨some 53, _, _, _, _, _⟩) rfl (fun K hK => ?_) AllReadyH.nil)
      go_simp
      refine (ref5_TextB x.2 _).mono ?_
      rintro e w5 ⟨rfl, hb⟩
      refine hK.out _ _ (hS.trans (hb.mono hS.size)) (fun _ => ?_)
      clear hK K
      replace hS := hS.trans (hb.mono hS.size)
      rw [HC2.out]
      clear hb
      try simp only [Act.put, List.setIfInBounds_toArray, List.set_cons_zero, List.set_cons_succ]
      refine wpAnyH_take (i := 8) (oi := ⟨some 54, _, _, _, _, _⟩) (v := ?_) rfl (by kernel_rfl) (by kernel_rfl) (by kernel_rfl) (fun _ _ _ h => h) (Or.inl ⟨by rfl, ?_⟩) hS ?_
      rotate_left 1
      · intro w' hB; have hx := boxStays HX.out hB; have x0 := cell_of_row _ y 0 _ _ _ hx; have x1 := cell_of_row _ y 1 _ _ _ hx; have x2 := cell_of_row _ y 2 _ _ _ hx; have x3 := cell_of_row _ y 3 _ _ _ hx; have x4 := cell_of_row _ y 4 _ _ _ hx; have x5 := cell_of_row _ y 5 _ _ _ hx; clear hx; (go_simp <;> with_reducible rfl)
      try simp only [Act.put, List.setIfInBounds_toArray, List.set_cons_zero, List.set_cons_succ]
      refine wpAnyH_take (i := 9) (oi := ⟨some 55, _, _, _, _, _⟩) (v := ?_) rfl (by kernel_rfl) (by kernel_rfl) (by kernel_rfl) (fun _ _ _ h => h) (Or.inl ⟨by rfl, ?_⟩) hS ?_
      rotate_left 1
      · intro w' hB; have hx := boxStays HX.out hB; have x0 := cell_of_row _ y 0 _ _ _ hx; have x1 := cell_of_row _ y 1 _ _ _ hx; have x2 := cell_of_row _ y 2 _ _ _ hx; have x3 := cell_of_row _ y 3 _ _ _ hx; have x4 := cell_of_row _ y 4 _ _ _ hx; have x5 := cell_of_row _ y 5 _ _ _ hx; clear hx; (go_simp <;> with_reducible rfl)
      try simp only [Act.put, List.setIfInBounds_toArray, List.set_cons_zero, List.set_cons_succ]
      refine wpAnyH_take (i := 10) (oi := ⟨some 56, _, _, _, _, _⟩) (v := ?_) rfl (by kernel_rfl) (by kernel_rfl) (by kernel_rfl) (fun _ _ _ h => h) (Or.inl ⟨by rfl, ?_⟩) hS ?_
      rotate_left 1
      · intro w' hB; have hx := boxStays HX.out hB; have x0 := cell_of_row _ y 0 _ _ _ hx; have x1 := cell_of_row _ y 1 _ _ _ hx; have x2 := cell_of_row _ y 2 _ _ _ hx; have x3 := cell_of_row _ y 3 _ _ _ hx; have x4 := cell_of_row _ y 4 _ _ _ hx; have x5 := cell_of_row _ y 5 _ _ _ hx; clear hx; (go_simp <;> with_reducible rfl)
      try simp only [Act.put, List.setIfInBounds_toArray, List.set_cons_zero, List.set_cons_succ]
      refine wpAnyH_take (i := 11) (oi := ⟨some 57, _, _, _, _, _⟩) rfl (by kernel_rfl) (by kernel_rfl) (by kernel_rfl) (fun _ _ _ h => h) (Or.inr ⟨by rfl, rfl⟩) hS ?_
      try simp only [Act.put, List.setIfInBounds_toArray, List.set_cons_zero, List.set_cons_succ]
      refine wpAnyH_take (i := 12) (oi := ⟨some 58, _, _, _, _, _⟩) rfl (by kernel_rfl) (by kernel_rfl) (by kernel_rfl) (fun _ _ _ h => h) (Or.inr ⟨by rfl, rfl⟩) hS ?_
      try simp only [Act.put, List.setIfInBounds_toArray, List.set_cons_zero, List.set_cons_succ]
      refine wpAnyH_take (i := 13) (oi := ⟨some 59, _, _, _, _, _⟩) rfl (by kernel_rfl) (by kernel_rfl) (by kernel_rfl) (fun _ _ _ h => h) (Or.inr ⟨by rfl, rfl⟩) hS ?_
      try simp only [Act.put, List.setIfInBounds_toArray, List.set_cons_zero, List.set_cons_succ]
      refine wpAnyH_take (i := 14) (oi := ⟨some 60, _, _, _, _, _⟩) rfl (by kernel_rfl) (by kernel_rfl) (by kernel_rfl) (fun _ _ _ h => h) (Or.inr ⟨by rfl, rfl⟩) hS ?_
      try simp only [Act.put, List.setIfInBounds_toArray, List.set_cons_zero, List.set_cons_succ]
      refine wpAnyH_take (i := 15) (oi := ⟨some 61, _, _, _, _, _⟩) rfl (by kernel_rfl) (by kernel_rfl) (by kernel_rfl) (fun _ _ _ h => h) (Or.inr ⟨by rfl, rfl⟩) hS ?_
      try simp only [Act.put, List.setIfInBounds_toArray, List.set_cons_zero, List.set_cons_succ]
      refine wpAnyH_take (i := 16) (oi := ⟨some 62, _, _, _, _, _⟩) rfl (by kernel_rfl) (by kernel_rfl) (by kernel_rfl) (fun _ _ _ h => h) (Or.inr ⟨by rfl, rfl⟩) hS ?_
      try simp only [Act.put, List.setIfInBounds_toArray, List.set_cons_zero, List.set_cons_succ]
      refine wpAnyH_take (i := 17) (oi := ⟨some 63, _, _, _, _, _⟩) rfl (by kernel_rfl) (by kernel_rfl) (by kernel_rfl) (fun _ _ _ h => h) (Or.inr ⟨by rfl, rfl⟩) hS ?_
      try simp only [Act.put, List.setIfInBounds_toArray, List.set_cons_zero, List.set_cons_succ]
      refine wpAnyH_take (i := 18) (oi := ⟨some 64, _, _, _, _, _⟩) rfl (by kernel_rfl) (by kernel_rfl) (by kernel_rfl) (fun _ _ _ h => h) (Or.inr ⟨by rfl, rfl⟩) hS ?_
      try simp only [Act.put, List.setIfInBounds_toArray, List.set_cons_zero, List.set_cons_succ]
      refine wpAnyH_take (i := 19) (oi := ⟨some 65, _, _, _, _, _⟩) rfl (by kernel_rfl) (by kernel_rfl) (by kernel_rfl) (fun _ _ _ h => h) (Or.inr ⟨by rfl, rfl⟩) hS ?_
      try simp only [Act.put, List.setIfInBounds_toArray, List.set_cons_zero, List.set_cons_succ]
      refine wpAnyH_take (i := 20) (oi := ⟨some 66, _, _, _, _, _⟩) rfl (by kernel_rfl) (by kernel_rfl) (by kernel_rfl) (fun _ _ _ h => h) (Or.inr ⟨by rfl, rfl⟩) hS ?_
      try simp only [Act.put, List.setIfInBounds_toArray, List.set_cons_zero, List.set_cons_succ]
      refine wpAnyH_take (i := 21) (oi := ⟨some 67, _, _, _, _, _⟩) rfl (by kernel_rfl) (by kernel_rfl) (by kernel_rfl) (fun _ _ _ h => h) (Or.inr ⟨by rfl, rfl⟩) hS ?_
      try simp only [Act.put, List.setIfInBounds_toArray, List.set_cons_zero, List.set_cons_succ]
      refine wpAnyH_take (i := 22) (oi := ⟨some 68, _, _, _, _, _⟩) rfl (by kernel_rfl) (by kernel_rfl) (by kernel_rfl) (fun _ _ _ h => h) (Or.inr ⟨by rfl, rfl⟩) hS ?_
      try simp only [Act.put, List.setIfInBounds_toArray, List.set_cons_zero, List.set_cons_succ]
      refine wpAnyH_take (i := 23) (oi := ⟨some 69, _, _, _, _, _⟩) rfl (by kernel_rfl) (by kernel_rfl) (by kernel_rfl) (fun _ _ _ h => h) (Or.inr ⟨by rfl, rfl⟩) hS ?_
      try simp only [Act.put, List.setIfInBounds_toArray, List.set_cons_zero, List.set_cons_succ]
      refine wpAnyH_take (i := 24) (oi := ⟨some 70, _, _, _, _, _⟩) rfl (by kernel_rfl) (by kernel_rfl) (by kernel_rfl) (fun _ _ _ h => h) (Or.inr ⟨by rfl, rfl⟩) hS ?_
      try simp only [Act.put, List.setIfInBounds_toArray, List.set_cons_zero, List.set_cons_succ]
      refine wpAnyH_take (i := 25) (oi := ⟨some 71, _, _, _, _, _⟩) rfl (by kernel_rfl) (by kernel_rfl) (by kernel_rfl) (fun _ _ _ h => h) (Or.inr ⟨by rfl, rfl⟩) hS ?_
      try simp only [Act.put, List.setIfInBounds_toArray, List.set_cons_zero, List.set_cons_succ]
      refine wpAnyH_take (i := 26) (oi := ⟨some 72, _, _, _, _, _⟩) (v := ?_) rfl (by kernel_rfl) (by kernel_rfl) (by kernel_rfl) (fun _ _ _ h => h) (Or.inl ⟨by rfl, ?_⟩) hS ?_
      rotate_left 1
      · intro w' hB; have hx := boxStays HX.out hB; have x0 := cell_of_row _ y 0 _ _ _ hx; have x1 := cell_of_row _ y 1 _ _ _ hx; have x2 := cell_of_row _ y 2 _ _ _ hx; have x3 := cell_of_row _ y 3 _ _ _ hx; have x4 := cell_of_row _ y 4 _ _ _ hx; have x5 := cell_of_row _ y 5 _ _ _ hx; clear hx; (go_simp <;> with_reducible rfl)
      try simp only [Act.put, List.setIfInBounds_toArray, List.set_cons_zero, List.set_cons_succ]
      refine wpAnyH_done (by kernel_rfl) (NoPanic.normal ?_) _
      have HBD := Lib.hid hS
      go_wp2_with fail
      go_meet
      exact ⟨by rw [HOV.out]; rfl, HBD⟩
     by_cases h0 : q = 0
     · subst h0
       obtain rfl : true = c3 := by rw [← C3.out]; rfl
       refine wp_region_noPanic ?_
       refine wp_region_held_drew (S := fun w' => Below w3.heap.size w3 w') (by kernel_rfl) (Below.refl _ _).drew (fun hS => ?_)
       refine wpAnyH_take (i := 0) (oi := ⟨some 46, _, _, _, _, _⟩) (v := ?_) rfl (by kernel_rfl) (by kernel_rfl) (by kernel_rfl) (fun _ _ _ h => h) (Or.inl ⟨by rfl, ?_⟩) hS ?_
       rotate_left 1
       · intro w' hB; have hx := boxStays HX.out hB; have x0 := cell_of_row _ y 0 _ _ _ hx; have x1 := cell_of_row _ y 1 _ _ _ hx; have x2 := cell_of_row _ y 2 _ _ _ hx; have x3 := cell_of_row _ y 3 _ _ _ hx; have x4 := cell_of_row _ y 4 _ _ _ hx; have x5 := cell_of_row _ y 5 _ _ _ hx; clear hx; (go_simp <;> with_reducible rfl)
       try simp only [Act.put, List.setIfInBounds_toArray, List.set_cons_zero, List.set_cons_succ]
       refine wpAnyH_take (i := 1) (oi := ⟨some 47, _, _, _, _, _⟩) (v := ?_) rfl (by kernel_rfl) (by kernel_rfl) (by kernel_rfl) (fun _ _ _ h => h) (Or.inl ⟨by rfl, ?_⟩) hS ?_
       rotate_left 1
       · intro w' hB; have hx := boxStays HX.out hB; have x0 := cell_of_row _ y 0 _ _ _ hx; have x1 := cell_of_row _ y 1 _ _ _ hx; have x2 := cell_of_row _ y 2 _ _ _ hx; have x3 := cell_of_row _ y 3 _ _ _ hx; have x4 := cell_of_row _ y 4 _ _ _ hx; have x5 := cell_of_row _ y 5 _ _ _ hx; clear hx; (go_simp <;> with_reducible rfl)
       try simp only [Act.put, List.setIfInBounds_toArray, List.set_cons_zero, List.set_cons_succ]
       refine wpAnyH_ready (rs := [2]) (by kernel_rfl) (by simp) (AllReadyH.cons (o := ⟨some 48, _, _, _, _, _⟩) rfl (fun K hK => ?_) AllReadyH.nil)
       go_simp
       refine (ref6_Stamp x.1 _ HXZ.out).mono ?_
       rintro e w4 ⟨rfl, hb⟩
       refine hK.out _ _ (hS.trans (hb.mono hS.size)) (fun _ => ?_)
       clear hK K
       replace hS := hS.trans (hb.mono hS.size)
       rw [HC1.out]
       clear hb
       try simp only [Act.put, List.setIfInBounds_toArray, List.set_cons_zero, List.set_cons_succ]
       refine wpAnyH_take (i := 3) (oi := ⟨some 49, _, _, _, _, _⟩) (v := ?_) rfl (by kernel_rfl) (by kernel_rfl) (by kernel_rfl) (fun _ _ _ h => h) (Or.inl ⟨by rfl, ?_⟩) hS ?_
       rotate_left 1
       · intro w' hB; have hx := boxStays HX.out hB; have x0 := cell_of_row _ y 0 _ _ _ hx; have x1 := cell_of_row _ y 1 _ _ _ hx; have x2 := cell_of_row _ y 2 _ _ _ hx; have x3 := cell_of_row _ y 3 _ _ _ hx; have x4 := cell_of_row _ y 4 _ _ _ hx; have x5 := cell_of_row _ y 5 _ _ _ hx; clear hx; (go_simp <;> with_reducible rfl)
       try simp only [Act.put, List.setIfInBounds_toArray, List.set_cons_zero, List.set_cons_succ]
       refine wpAnyH_take (i := 4) (oi := ⟨some 50, _, _, _, _, _⟩) (v := ?_) rfl (by kernel_rfl) (by kernel_rfl) (by kernel_rfl) (fun _ _ _ h => h) (Or.inl ⟨by rfl, ?_⟩) hS ?_
       rotate_left 1
       · intro w' hB; have hx := boxStays HX.out hB; have x0 := cell_of_row _ y 0 _ _ _ hx; have x1 := cell_of_row _ y 1 _ _ _ hx; have x2 := cell_of_row _ y 2 _ _ _ hx; have x3 := cell_of_row _ y 3 _ _ _ hx; have x4 := cell_of_row _ y 4 _ _ _ hx; have x5 := cell_of_row _ y 5 _ _ _ hx; clear hx; (go_simp <;> with_reducible rfl)
       try simp only [Act.put, List.setIfInBounds_toArray, List.set_cons_zero, List.set_cons_succ]
       refine wpAnyH_take (i := 5) (oi := ⟨some 51, _, _, _, _, _⟩) (v := ?_) rfl (by kernel_rfl) (by kernel_rfl) (by kernel_rfl) (fun _ _ _ h => h) (Or.inl ⟨by rfl, ?_⟩) hS ?_
       rotate_left 1
       · intro w' hB; have hx := boxStays HX.out hB; have x0 := cell_of_row _ y 0 _ _ _ hx; have x1 := cell_of_row _ y 1 _ _ _ hx; have x2 := cell_of_row _ y 2 _ _ _ hx; have x3 := cell_of_row _ y 3 _ _ _ hx; have x4 := cell_of_row _ y 4 _ _ _ hx; have x5 := cell_of_row _ y 5 _ _ _ hx; clear hx; (go_simp <;> with_reducible rfl)
       try simp only [Act.put, List.setIfInBounds_toArray, List.set_cons_zero, List.set_cons_succ]
       refine wpAnyH_take (i := 6) (oi := ⟨some 52, _, _, _, _, _⟩) (v := ?_) rfl (by kernel_rfl) (by kernel_rfl) (by kernel_rfl) (fun _ _ _ h => h) (Or.inl ⟨by rfl, ?_⟩) hS ?_
       rotate_left 1
       · intro w' hB; have hx := boxStays HX.out hB; have x0 := cell_of_row _ y 0 _ _ _ hx; have x1 := cell_of_row _ y 1 _ _ _ hx; have x2 := cell_of_row _ y 2 _ _ _ hx; have x3 := cell_of_row _ y 3 _ _ _ hx; have x4 := cell_of_row _ y 4 _ _ _ hx; have x5 := cell_of_row _ y 5 _ _ _ hx; clear hx; (go_simp <;> with_reducible rfl)
       try simp only [Act.put, List.setIfInBounds_toArray, List.set_cons_zero, List.set_cons_succ]
       refine wpAnyH_ready (rs := [7]) (by kernel_rfl) (by simp) (AllReadyH.cons (o := ⟨some 53, _, _, _, _, _⟩) rfl (fun K hK => ?_) AllReadyH.nil)
       go_simp
       refine (ref5_TextB x.2 _).mono ?_
       rintro e w5 ⟨rfl, hb⟩
       refine hK.out _ _ (hS.trans (hb.mono hS.size)) (fun _ => ?_)
       clear hK K
       replace hS := hS.trans (hb.mono hS.size)
       rw [HC2.out]
       clear hb
       try simp only [Act.put, List.setIfInBounds_toArray, List.set_cons_zero, List.set_cons_succ]
       refine wpAnyH_take (i := 8) (oi := ⟨some 54, _, _, _, _, _⟩) (v := ?_) rfl (by kernel_rfl) (by kernel_rfl) (by kernel_rfl) (fun _ _ _ h => h) (Or.inl ⟨by rfl, ?_⟩) hS ?_
       rotate_left 1
       · intro w' hB; have hx := boxStays HX.out hB; have x0 := cell_of_row _ y 0 _ _ _ hx; have x1 := cell_of_row _ y 1 _ _ _ hx; have x2 := cell_of_row _ y 2 _ _ _ hx; have x3 := cell_of_row _ y 3 _ _ _ hx; have x4 := cell_of_row _ y 4 _ _ _ hx; have x5 := cell_of_row _ y 5 _ _ _ hx; clear hx; (go_simp <;> with_reducible rfl)
       try simp only [Act.put, List.setIfInBounds_toArray, List.set_cons_zero, List.set_cons_succ]
       refine wpAnyH_take (i := 9) (oi := ⟨some 55, _, _, _, _, _⟩) (v := ?_) rfl (by kernel_rfl) (by kernel_rfl) (by kernel_rfl) (fun _ _ _ h => h) (Or.inl ⟨by rfl, ?_⟩) hS ?_
       rotate_left 1
       · intro w' hB; have hx := boxStays HX.out hB; have x0 := cell_of_row _ y 0 _ _ _ hx; have x1 := cell_of_row _ y 1 _ _ _ hx; have x2 := cell_of_row _ y 2 _ _ _ hx; have x3 := cell_of_row _ y 3 _ _ _ hx; have x4 := cell_of_row _ y 4 _ _ _ hx; have x5 := cell_of_row _ y 5 _ _ _ hx; clear hx; (go_simp <;> with_reducible rfl)
       try simp only [Act.put, List.setIfInBounds_toArray, List.set_cons_zero, List.set_cons_succ]
       refine wpAnyH_take (i := 10) (oi := ⟨some 56, _, _, _, _, _⟩) (v := ?_) rfl (by kernel_rfl) (by kernel_rfl) (by kernel_rfl) (fun _ _ _ h => h) (Or.inl ⟨by rfl, ?_⟩) hS ?_
       rotate_left 1
       · intro w' hB; have hx := boxStays HX.out hB; have x0 := cell_of_row _ y 0 _ _ _ hx; have x1 := cell_of_row _ y 1 _ _ _ hx; have x2 := cell_of_row _ y 2 _ _ _ hx; have x3 := cell_of_row _ y 3 _ _ _ hx; have x4 := cell_of_row _ y 4 _ _ _ hx; have x5 := cell_of_row _ y 5 _ _ _ hx; clear hx; (go_simp <;> with_reducible rfl)
       try simp only [Act.put, List.setIfInBounds_toArray, List.set_cons_zero, List.set_cons_succ]
       refine wpAnyH_take (i := 11) (oi := ⟨some 57, _, _, _, _, _⟩) (v := ?_) rfl (by kernel_rfl) (by kernel_rfl) (by kernel_rfl) (fun _ _ _ h => h) (Or.inl ⟨by rfl, ?_⟩) hS ?_
       rotate_left 1
       · intro w' hB; have hx := boxStays HX.out hB; have x0 := cell_of_row _ y 0 _ _ _ hx; have x1 := cell_of_row _ y 1 _ _ _ hx; have x2 := cell_of_row _ y 2 _ _ _ hx; have x3 := cell_of_row _ y 3 _ _ _ hx; have x4 := cell_of_row _ y 4 _ _ _ hx; have x5 := cell_of_row _ y 5 _ _ _ hx; clear hx; (go_simp <;> with_reducible rfl)
       try simp only [Act.put, List.setIfInBounds_toArray, List.set_cons_zero, List.set_cons_succ]
       refine wpAnyH_take (i := 12) (oi := ⟨some 58, _, _, _, _, _⟩) (v := ?_) rfl (by kernel_rfl) (by kernel_rfl) (by kernel_rfl) (fun _ _ _ h => h) (Or.inl ⟨by rfl, ?_⟩) hS ?_
       rotate_left 1
       · intro w' hB; have hx := boxStays HX.out hB; have x0 := cell_of_row _ y 0 _ _ _ hx; have x1 := cell_of_row _ y 1 _ _ _ hx; have x2 := cell_of_row _ y 2 _ _ _ hx; have x3 := cell_of_row _ y 3 _ _ _ hx; have x4 := cell_of_row _ y 4 _ _ _ hx; have x5 := cell_of_row _ y 5 _ _ _ hx; clear hx; (go_simp <;> with_reducible rfl)
       try simp only [Act.put, List.setIfInBounds_toArray, List.set_cons_zero, List.set_cons_succ]
       refine wpAnyH_take (i := 13) (oi := ⟨some 59, _, _, _, _, _⟩) (v := ?_) rfl (by kernel_rfl) (by kernel_rfl) (by kernel_rfl) (fun _ _ _ h => h) (Or.inl ⟨by rfl, ?_⟩) hS ?_
       rotate_left 1
       · intro w' hB; have hx := boxStays HX.out hB; have x0 := cell_of_row _ y 0 _ _ _ hx; have x1 := cell_of_row _ y 1 _ _ _ hx; have x2 := cell_of_row _ y 2 _ _ _ hx; have x3 := cell_of_row _ y 3 _ _ _ hx; have x4 := cell_of_row _ y 4 _ _ _ hx; have x5 := cell_of_row _ y 5 _ _ _ hx; clear hx; (go_simp <;> with_reducible rfl)
       try simp only [Act.put, List.setIfInBounds_toArray, List.set_cons_zero, List.set_cons_succ]
       refine wpAnyH_take (i := 14) (oi := ⟨some 60, _, _, _, _, _⟩) rfl (by kernel_rfl) (by kernel_rfl) (by kernel_rfl) (fun _ _ _ h => h) (Or.inr ⟨by rfl, rfl⟩) hS ?_
       try simp only [Act.put, List.setIfInBounds_toArray, List.set_cons_zero, List.set_cons_succ]
       refine wpAnyH_take (i := 15) (oi := ⟨some 61, _, _, _, _, _⟩) rfl (by kernel_rfl) (by kernel_rfl) (by kernel_rfl) (fun _ _ _ h => h) (Or.inr ⟨by rfl, rfl⟩) hS ?_
       try simp only [Act.put, List.setIfInBounds_toArray, List.set_cons_zero, List.set_cons_succ]
       refine wpAnyH_take (i := 16) (oi := ⟨some 62, _, _, _, _, _⟩) rfl (by kernel_rfl) (by kernel_rfl) (by kernel_rfl) (fun _ _ _ h => h) (Or.inr ⟨by rfl, rfl⟩) hS ?_
       try simp only [Act.put, List.setIfInBounds_toArray, List.set_cons_zero, List.set_cons_succ]
       refine wpAnyH_take (i := 17) (oi := ⟨some 63, _, _, _, _, _⟩) rfl (by kernel_rfl) (by kernel_rfl) (by kernel_rfl) (fun _ _ _ h => h) (Or.inr ⟨by rfl, rfl⟩) hS ?_
       try simp only [Act.put, List.setIfInBounds_toArray, List.set_cons_zero, List.set_cons_succ]
       refine wpAnyH_take (i := 18) (oi := ⟨some 64, _, _, _, _, _⟩) rfl (by kernel_rfl) (by kernel_rfl) (by kernel_rfl) (fun _ _ _ h => h) (Or.inr ⟨by rfl, rfl⟩) hS ?_
       try simp only [Act.put, List.setIfInBounds_toArray, List.set_cons_zero, List.set_cons_succ]
       refine wpAnyH_take (i := 19) (oi := ⟨some 65, _, _, _, _, _⟩) rfl (by kernel_rfl) (by kernel_rfl) (by kernel_rfl) (fun _ _ _ h => h) (Or.inr ⟨by rfl, rfl⟩) hS ?_
       try simp only [Act.put, List.setIfInBounds_toArray, List.set_cons_zero, List.set_cons_succ]
       refine wpAnyH_take (i := 20) (oi := ⟨some 66, _, _, _, _, _⟩) rfl (by kernel_rfl) (by kernel_rfl) (by kernel_rfl) (fun _ _ _ h => h) (Or.inr ⟨by rfl, rfl⟩) hS ?_
       try simp only [Act.put, List.setIfInBounds_toArray, List.set_cons_zero, List.set_cons_succ]
       refine wpAnyH_take (i := 21) (oi := ⟨some 67, _, _, _, _, _⟩) rfl (by kernel_rfl) (by kernel_rfl) (by kernel_rfl) (fun _ _ _ h => h) (Or.inr ⟨by rfl, rfl⟩) hS ?_
       try simp only [Act.put, List.setIfInBounds_toArray, List.set_cons_zero, List.set_cons_succ]
       refine wpAnyH_take (i := 22) (oi := ⟨some 68, _, _, _, _, _⟩) rfl (by kernel_rfl) (by kernel_rfl) (by kernel_rfl) (fun _ _ _ h => h) (Or.inr ⟨by rfl, rfl⟩) hS ?_
       try simp only [Act.put, List.setIfInBounds_toArray, List.set_cons_zero, List.set_cons_succ]
       refine wpAnyH_take (i := 23) (oi := ⟨some 69, _, _, _, _, _⟩) rfl (by kernel_rfl) (by kernel_rfl) (by kernel_rfl) (fun _ _ _ h => h) (Or.inr ⟨by rfl, rfl⟩) hS ?_
       try simp only [Act.put, List.setIfInBounds_toArray, List.set_cons_zero, List.set_cons_succ]
       refine wpAnyH_take (i := 24) (oi := ⟨some 70, _, _, _, _, _⟩) rfl (by kernel_rfl) (by kernel_rfl) (by kernel_rfl) (fun _ _ _ h => h) (Or.inr ⟨by rfl, rfl⟩) hS ?_
       try simp only [Act.put, List.setIfInBounds_toArray, List.set_cons_zero, List.set_cons_succ]
       refine wpAnyH_take (i := 25) (oi := ⟨some 71, _, _, _, _, _⟩) (v := ?_) rfl (by kernel_rfl) (by kernel_rfl) (by kernel_rfl) (fun _ _ _ h => h) (Or.inl ⟨by rfl, ?_⟩) hS ?_
       rotate_left 1
       · intro w' hB; have hx := boxStays HX.out hB; have x0 := cell_of_row _ y 0 _ _ _ hx; have x1 := cell_of_row _ y 1 _ _ _ hx; have x2 := cell_of_row _ y 2 _ _ _ hx; have x3 := cell_of_row _ y 3 _ _ _ hx; have x4 := cell_of_row _ y 4 _ _ _ hx; have x5 := cell_of_row _ y 5 _ _ _ hx; clear hx; (go_simp <;> with_reducible rfl)
       try simp only [Act.put, List.setIfInBounds_toArray, List.set_cons_zero, List.set_cons_succ]
       refine wpAnyH_take (i := 26) (oi := ⟨some 72, _, _, _, _, _⟩) (v := ?_) rfl (by kernel_rfl) (by kernel_rfl) (by kernel_rfl) (fun _ _ _ h => h) (Or.inl ⟨by rfl, ?_⟩) hS ?_
       rotate_left 1
       · intro w' hB; have hx := boxStays HX.out hB; have x0 := cell_of_row _ y 0 _ _ _ hx; have x1 := cell_of_row _ y 1 _ _ _ hx; have x2 := cell_of_row _ y 2 _ _ _ hx; have x3 := cell_of_row _ y 3 _ _ _ hx; have x4 := cell_of_row _ y 4 _ _ _ hx; have x5 := cell_of_row _ y 5 _ _ _ hx; clear hx; (go_simp <;> with_reducible rfl)
       try simp only [Act.put, List.setIfInBounds_toArray, List.set_cons_zero, List.set_cons_succ]
       refine wpAnyH_done (by kernel_rfl) (NoPanic.normal ?_) _
       have HBD := Lib.hid hS
       go_wp2_with fail
       go_meet
       exact ⟨by rw [HOV.out]; rfl, HBD⟩
     · obtain ⟨r, rfl⟩ : ∃ r, q = r + 1 := ⟨q - 1, by omega⟩
       have hr0 : 0 < (r : Int) + 1 := by omega
       have hrn : (r : Int) < (n : Int) := by omega
       have hrw : IntKind.i64.wrap (r : Int) = r := by rw [IntKind.wrap_i64]; omega
       have hrl : r < l.length := by omega
       obtain ⟨_, _, e9, cy⟩ := els_get HL3.out r hrl
       cases e9
       obtain ⟨v, hv⟩ : ∃ v, l[r] = v := ⟨_, rfl⟩
       rw [hv] at cy
       have CY := Lib.hid cy
       have HYZ : Hid (v.1.l.size ≤ 9223372036854775807) := Lib.hid (HZ.out v (hv ▸ List.getElem_mem hrl))
       have SV : Hid (decide (svC v.1 x.1 < 0) = c3) := Lib.hid (by rw [← C3.out, dif_pos (by omega)]; simp only [Nat.add_sub_cancel]; rw [hv])
       clear cy hv hrl
       refine wp_region_noPanic ?_
       refine wp_region_held_drew (S := fun w' => Below w3.heap.size w3 w') (by kernel_rfl) (Below.refl _ _).drew (fun hS => ?_)
       refine wpAnyH_take (i := 0) (oi := ⟨some 46, _, _, _, _, _⟩) (v := ?_) rfl (by kernel_rfl) (by kernel_rfl) (by kernel_rfl) (fun _ _ _ h => h) (Or.inl ⟨by rfl, ?_⟩) hS ?_
       rotate_left 1
       · intro w' hB; have hx := boxStays HX.out hB; have x0 := cell_of_row _ y 0 _ _ _ hx; have x1 := cell_of_row _ y 1 _ _ _ hx; have x2 := cell_of_row _ y 2 _ _ _ hx; have x3 := cell_of_row _ y 3 _ _ _ hx; have x4 := cell_of_row _ y 4 _ _ _ hx; have x5 := cell_of_row _ y 5 _ _ _ hx; clear hx; have hy := boxStays HV3.out hB; have y2 := cell_of_row _ z 2 _ _ _ hy; obtain ⟨v0, v1, v2, v3, v4, v5⟩ := CY.out.below hB; clear hy; (go_simp <;> with_reducible rfl)
       try simp only [Act.put, List.setIfInBounds_toArray, List.set_cons_zero, List.set_cons_succ]
       refine wpAnyH_take (i := 1) (oi := ⟨some 47, _, _, _, _, _⟩) (v := ?_) rfl (by kernel_rfl) (by kernel_rfl) (by kernel_rfl) (fun _ _ _ h => h) (Or.inl ⟨by rfl, ?_⟩) hS ?_
       rotate_left 1
       · intro w' hB; have hx := boxStays HX.out hB; have x0 := cell_of_row _ y 0 _ _ _ hx; have x1 := cell_of_row _ y 1 _ _ _ hx; have x2 := cell_of_row _ y 2 _ _ _ hx; have x3 := cell_of_row _ y 3 _ _ _ hx; have x4 := cell_of_row _ y 4 _ _ _ hx; have x5 := cell_of_row _ y 5 _ _ _ hx; clear hx; have hy := boxStays HV3.out hB; have y2 := cell_of_row _ z 2 _ _ _ hy; obtain ⟨v0, v1, v2, v3, v4, v5⟩ := CY.out.below hB; clear hy; (go_simp <;> with_reducible rfl)
       try simp only [Act.put, List.setIfInBounds_toArray, List.set_cons_zero, List.set_cons_succ]
       refine wpAnyH_ready (rs := [2]) (by kernel_rfl) (by simp) (AllReadyH.cons (o := ⟨some 48, _, _, _, _, _⟩) rfl (fun K hK => ?_) AllReadyH.nil)
       go_simp
       refine (ref6_Stamp x.1 _ HXZ.out).mono ?_
       rintro e w4 ⟨rfl, hb⟩
       refine hK.out _ _ (hS.trans (hb.mono hS.size)) (fun _ => ?_)
       clear hK K
       replace hS := hS.trans (hb.mono hS.size)
       rw [HC1.out]
       clear hb
       try simp only [Act.put, List.setIfInBounds_toArray, List.set_cons_zero, List.set_cons_succ]
       refine wpAnyH_take (i := 3) (oi := ⟨some 49, _, _, _, _, _⟩) (v := ?_) rfl (by kernel_rfl) (by kernel_rfl) (by kernel_rfl) (fun _ _ _ h => h) (Or.inl ⟨by rfl, ?_⟩) hS ?_
       rotate_left 1
       · intro w' hB; have hx := boxStays HX.out hB; have x0 := cell_of_row _ y 0 _ _ _ hx; have x1 := cell_of_row _ y 1 _ _ _ hx; have x2 := cell_of_row _ y 2 _ _ _ hx; have x3 := cell_of_row _ y 3 _ _ _ hx; have x4 := cell_of_row _ y 4 _ _ _ hx; have x5 := cell_of_row _ y 5 _ _ _ hx; clear hx; have hy := boxStays HV3.out hB; have y2 := cell_of_row _ z 2 _ _ _ hy; obtain ⟨v0, v1, v2, v3, v4, v5⟩ := CY.out.below hB; clear hy; (go_simp <;> with_reducible rfl)
       try simp only [Act.put, List.setIfInBounds_toArray, List.set_cons_zero, List.set_cons_succ]
       refine wpAnyH_take (i := 4) (oi := ⟨some 50, _, _, _, _, _⟩) (v := ?_) rfl (by kernel_rfl) (by kernel_rfl) (by kernel_rfl) (fun _ _ _ h => h) (Or.inl ⟨by rfl, ?_⟩) hS ?_
       rotate_left 1
       · intro w' hB; have hx := boxStays HX.out hB; have x0 := cell_of_row _ y 0 _ _ _ hx; have x1 := cell_of_row _ y 1 _ _ _ hx; have x2 := cell_of_row _ y 2 _ _ _ hx; have x3 := cell_of_row _ y 3 _ _ _ hx; have x4 := cell_of_row _ y 4 _ _ _ hx; have x5 := cell_of_row _ y 5 _ _ _ hx; clear hx; have hy := boxStays HV3.out hB; have y2 := cell_of_row _ z 2 _ _ _ hy; obtain ⟨v0, v1, v2, v3, v4, v5⟩ := CY.out.below hB; clear hy; (go_simp <;> with_reducible rfl)
       try simp only [Act.put, List.setIfInBounds_toArray, List.set_cons_zero, List.set_cons_succ]
       refine wpAnyH_take (i := 5) (oi := ⟨some 51, _, _, _, _, _⟩) (v := ?_) rfl (by kernel_rfl) (by kernel_rfl) (by kernel_rfl) (fun _ _ _ h => h) (Or.inl ⟨by rfl, ?_⟩) hS ?_
       rotate_left 1
       · intro w' hB; have hx := boxStays HX.out hB; have x0 := cell_of_row _ y 0 _ _ _ hx; have x1 := cell_of_row _ y 1 _ _ _ hx; have x2 := cell_of_row _ y 2 _ _ _ hx; have x3 := cell_of_row _ y 3 _ _ _ hx; have x4 := cell_of_row _ y 4 _ _ _ hx; have x5 := cell_of_row _ y 5 _ _ _ hx; clear hx; have hy := boxStays HV3.out hB; have y2 := cell_of_row _ z 2 _ _ _ hy; obtain ⟨v0, v1, v2, v3, v4, v5⟩ := CY.out.below hB; clear hy; (go_simp <;> with_reducible rfl)
       try simp only [Act.put, List.setIfInBounds_toArray, List.set_cons_zero, List.set_cons_succ]
       refine wpAnyH_take (i := 6) (oi := ⟨some 52, _, _, _, _, _⟩) (v := ?_) rfl (by kernel_rfl) (by kernel_rfl) (by kernel_rfl) (fun _ _ _ h => h) (Or.inl ⟨by rfl, ?_⟩) hS ?_
       rotate_left 1
       · intro w' hB; have hx := boxStays HX.out hB; have x0 := cell_of_row _ y 0 _ _ _ hx; have x1 := cell_of_row _ y 1 _ _ _ hx; have x2 := cell_of_row _ y 2 _ _ _ hx; have x3 := cell_of_row _ y 3 _ _ _ hx; have x4 := cell_of_row _ y 4 _ _ _ hx; have x5 := cell_of_row _ y 5 _ _ _ hx; clear hx; have hy := boxStays HV3.out hB; have y2 := cell_of_row _ z 2 _ _ _ hy; obtain ⟨v0, v1, v2, v3, v4, v5⟩ := CY.out.below hB; clear hy; (go_simp <;> with_reducible rfl)
       try simp only [Act.put, List.setIfInBounds_toArray, List.set_cons_zero, List.set_cons_succ]
       refine wpAnyH_ready (rs := [7]) (by kernel_rfl) (by simp) (AllReadyH.cons (o := ⟨some 53, _, _, _, _, _⟩) rfl (fun K hK => ?_) AllReadyH.nil)
       go_simp
       refine (ref5_TextB x.2 _).mono ?_
       rintro e w5 ⟨rfl, hb⟩
       refine hK.out _ _ (hS.trans (hb.mono hS.size)) (fun _ => ?_)
       clear hK K
       replace hS := hS.trans (hb.mono hS.size)
       rw [HC2.out]
       clear hb
       try simp only [Act.put, List.setIfInBounds_toArray, List.set_cons_zero, List.set_cons_succ]
       refine wpAnyH_take (i := 8) (oi := ⟨some 54, _, _, _, _, _⟩) (v := ?_) rfl (by kernel_rfl) (by kernel_rfl) (by kernel_rfl) (fun _ _ _ h => h) (Or.inl ⟨by rfl, ?_⟩) hS ?_
       rotate_left 1
       · intro w' hB; have hx := boxStays HX.out hB; have x0 := cell_of_row _ y 0 _ _ _ hx; have x1 := cell_of_row _ y 1 _ _ _ hx; have x2 := cell_of_row _ y 2 _ _ _ hx; have x3 := cell_of_row _ y 3 _ _ _ hx; have x4 := cell_of_row _ y 4 _ _ _ hx; have x5 := cell_of_row _ y 5 _ _ _ hx; clear hx; have hy := boxStays HV3.out hB; have y2 := cell_of_row _ z 2 _ _ _ hy; obtain ⟨v0, v1, v2, v3, v4, v5⟩ := CY.out.below hB; clear hy; (go_simp <;> with_reducible rfl)
       try simp only [Act.put, List.setIfInBounds_toArray, List.set_cons_zero, List.set_cons_succ]
       refine wpAnyH_take (i := 9) (oi := ⟨some 55, _, _, _, _, _⟩) (v := ?_) rfl (by kernel_rfl) (by kernel_rfl) (by kernel_rfl) (fun _ _ _ h => h) (Or.inl ⟨by rfl, ?_⟩) hS ?_
       rotate_left 1
       · intro w' hB; have hx := boxStays HX.out hB; have x0 := cell_of_row _ y 0 _ _ _ hx; have x1 := cell_of_row _ y 1 _ _ _ hx; have x2 := cell_of_row _ y 2 _ _ _ hx; have x3 := cell_of_row _ y 3 _ _ _ hx; have x4 := cell_of_row _ y 4 _ _ _ hx; have x5 := cell_of_row _ y 5 _ _ _ hx; clear hx; have hy := boxStays HV3.out hB; have y2 := cell_of_row _ z 2 _ _ _ hy; obtain ⟨v0, v1, v2, v3, v4, v5⟩ := CY.out.below hB; clear hy; (go_simp <;> with_reducible rfl)
       try simp only [Act.put, List.setIfInBounds_toArray, List.set_cons_zero, List.set_cons_succ]
       refine wpAnyH_take (i := 10) (oi := ⟨some 56, _, _, _, _, _⟩) (v := ?_) rfl (by kernel_rfl) (by kernel_rfl) (by kernel_rfl) (fun _ _ _ h => h) (Or.inl ⟨by rfl, ?_⟩) hS ?_
       rotate_left 1
       · intro w' hB; have hx := boxStays HX.out hB; have x0 := cell_of_row _ y 0 _ _ _ hx; have x1 := cell_of_row _ y 1 _ _ _ hx; have x2 := cell_of_row _ y 2 _ _ _ hx; have x3 := cell_of_row _ y 3 _ _ _ hx; have x4 := cell_of_row _ y 4 _ _ _ hx; have x5 := cell_of_row _ y 5 _ _ _ hx; clear hx; have hy := boxStays HV3.out hB; have y2 := cell_of_row _ z 2 _ _ _ hy; obtain ⟨v0, v1, v2, v3, v4, v5⟩ := CY.out.below hB; clear hy; (go_simp <;> with_reducible rfl)
       try simp only [Act.put, List.setIfInBounds_toArray, List.set_cons_zero, List.set_cons_succ]
       refine wpAnyH_take (i := 11) (oi := ⟨some 57, _, _, _, _, _⟩) (v := ?_) rfl (by kernel_rfl) (by kernel_rfl) (by kernel_rfl) (fun _ _ _ h => h) (Or.inl ⟨by rfl, ?_⟩) hS ?_
       rotate_left 1
       · intro w' hB; have hx := boxStays HX.out hB; have x0 := cell_of_row _ y 0 _ _ _ hx; have x1 := cell_of_row _ y 1 _ _ _ hx; have x2 := cell_of_row _ y 2 _ _ _ hx; have x3 := cell_of_row _ y 3 _ _ _ hx; have x4 := cell_of_row _ y 4 _ _ _ hx; have x5 := cell_of_row _ y 5 _ _ _ hx; clear hx; have hy := boxStays HV3.out hB; have y2 := cell_of_row _ z 2 _ _ _ hy; obtain ⟨v0, v1, v2, v3, v4, v5⟩ := CY.out.below hB; clear hy; (go_simp <;> with_reducible rfl)
       try simp only [Act.put, List.setIfInBounds_toArray, List.set_cons_zero, List.set_cons_succ]
       refine wpAnyH_take (i := 12) (oi := ⟨some 58, _, _, _, _, _⟩) (v := ?_) rfl (by kernel_rfl) (by kernel_rfl) (by kernel_rfl) (fun _ _ _ h => h) (Or.inl ⟨by rfl, ?_⟩) hS ?_
       rotate_left 1
       · intro w' hB; have hx := boxStays HX.out hB; have x0 := cell_of_row _ y 0 _ _ _ hx; have x1 := cell_of_row _ y 1 _ _ _ hx; have x2 := cell_of_row _ y 2 _ _ _ hx; have x3 := cell_of_row _ y 3 _ _ _ hx; have x4 := cell_of_row _ y 4 _ _ _ hx; have x5 := cell_of_row _ y 5 _ _ _ hx; clear hx; have hy := boxStays HV3.out hB; have y2 := cell_of_row _ z 2 _ _ _ hy; obtain ⟨v0, v1, v2, v3, v4, v5⟩ := CY.out.below hB; clear hy; (go_simp <;> with_reducible rfl)
       try simp only [Act.put, List.setIfInBounds_toArray, List.set_cons_zero, List.set_cons_succ]
       refine wpAnyH_take (i := 13) (oi := ⟨some 59, _, _, _, _, _⟩) (v := ?_) rfl (by kernel_rfl) (by kernel_rfl) (by kernel_rfl) (fun _ _ _ h => h) (Or.inl ⟨by rfl, ?_⟩) hS ?_
       rotate_left 1
       · intro w' hB; have hx := boxStays HX.out hB; have x0 := cell_of_row _ y 0 _ _ _ hx; have x1 := cell_of_row _ y 1 _ _ _ hx; have x2 := cell_of_row _ y 2 _ _ _ hx; have x3 := cell_of_row _ y 3 _ _ _ hx; have x4 := cell_of_row _ y 4 _ _ _ hx; have x5 := cell_of_row _ y 5 _ _ _ hx; clear hx; have hy := boxStays HV3.out hB; have y2 := cell_of_row _ z 2 _ _ _ hy; obtain ⟨v0, v1, v2, v3, v4, v5⟩ := CY.out.below hB; clear hy; (go_simp <;> with_reducible rfl)
       try simp only [Act.put, List.setIfInBounds_toArray, List.set_cons_zero, List.set_cons_succ]
       refine wpAnyH_take (i := 14) (oi := ⟨some 60, _, _, _, _, _⟩) (v := ?_) rfl (by kernel_rfl) (by kernel_rfl) (by kernel_rfl) (fun _ _ _ h => h) (Or.inl ⟨by rfl, ?_⟩) hS ?_
       rotate_left 1
       · intro w' hB; have hx := boxStays HX.out hB; have x0 := cell_of_row _ y 0 _ _ _ hx; have x1 := cell_of_row _ y 1 _ _ _ hx; have x2 := cell_of_row _ y 2 _ _ _ hx; have x3 := cell_of_row _ y 3 _ _ _ hx; have x4 := cell_of_row _ y 4 _ _ _ hx; have x5 := cell_of_row _ y 5 _ _ _ hx; clear hx; have hy := boxStays HV3.out hB; have y2 := cell_of_row _ z 2 _ _ _ hy; obtain ⟨v0, v1, v2, v3, v4, v5⟩ := CY.out.below hB; clear hy; (go_simp <;> with_reducible rfl)
       try simp only [Act.put, List.setIfInBounds_toArray, List.set_cons_zero, List.set_cons_succ]
       refine wpAnyH_take (i := 15) (oi := ⟨some 61, _, _, _, _, _⟩) (v := ?_) rfl (by kernel_rfl) (by kernel_rfl) (by kernel_rfl) (fun _ _ _ h => h) (Or.inl ⟨by rfl, ?_⟩) hS ?_
       rotate_left 1
       · intro w' hB; have hx := boxStays HX.out hB; have x0 := cell_of_row _ y 0 _ _ _ hx; have x1 := cell_of_row _ y 1 _ _ _ hx; have x2 := cell_of_row _ y 2 _ _ _ hx; have x3 := cell_of_row _ y 3 _ _ _ hx; have x4 := cell_of_row _ y 4 _ _ _ hx; have x5 := cell_of_row _ y 5 _ _ _ hx; clear hx; have hy := boxStays HV3.out hB; have y2 := cell_of_row _ z 2 _ _ _ hy; obtain ⟨v0, v1, v2, v3, v4, v5⟩ := CY.out.below hB; clear hy; (go_simp <;> with_reducible rfl)
       try simp only [Act.put, List.setIfInBounds_toArray, List.set_cons_zero, List.set_cons_succ]
       refine wpAnyH_take (i := 16) (oi := ⟨some 62, _, _, _, _, _⟩) (v := ?_) rfl (by kernel_rfl) (by kernel_rfl) (by kernel_rfl) (fun _ _ _ h => h) (Or.inl ⟨by rfl, ?_⟩) hS ?_
       rotate_left 1
       · intro w' hB; have hx := boxStays HX.out hB; have x0 := cell_of_row _ y 0 _ _ _ hx; have x1 := cell_of_row _ y 1 _ _ _ hx; have x2 := cell_of_row _ y 2 _ _ _ hx; have x3 := cell_of_row _ y 3 _ _ _ hx; have x4 := cell_of_row _ y 4 _ _ _ hx; have x5 := cell_of_row _ y 5 _ _ _ hx; clear hx; have hy := boxStays HV3.out hB; have y2 := cell_of_row _ z 2 _ _ _ hy; obtain ⟨v0, v1, v2, v3, v4, v5⟩ := CY.out.below hB; clear hy; (go_simp <;> with_reducible rfl)
       try simp only [Act.put, List.setIfInBounds_toArray, List.set_cons_zero, List.set_cons_succ]
       refine wpAnyH_take (i := 17) (oi := ⟨some 63, _, _, _, _, _⟩) (v := ?_) rfl (by kernel_rfl) (by kernel_rfl) (by kernel_rfl) (fun _ _ _ h => h) (Or.inl ⟨by rfl, ?_⟩) hS ?_
       rotate_left 1
       · intro w' hB; have hx := boxStays HX.out hB; have x0 := cell_of_row _ y 0 _ _ _ hx; have x1 := cell_of_row _ y 1 _ _ _ hx; have x2 := cell_of_row _ y 2 _ _ _ hx; have x3 := cell_of_row _ y 3 _ _ _ hx; have x4 := cell_of_row _ y 4 _ _ _ hx; have x5 := cell_of_row _ y 5 _ _ _ hx; clear hx; have hy := boxStays HV3.out hB; have y2 := cell_of_row _ z 2 _ _ _ hy; obtain ⟨v0, v1, v2, v3, v4, v5⟩ := CY.out.below hB; clear hy; (go_simp <;> with_reducible rfl)
       try simp only [Act.put, List.setIfInBounds_toArray, List.set_cons_zero, List.set_cons_succ]
       refine wpAnyH_take (i := 18) (oi := ⟨some 64, _, _, _, _, _⟩) (v := ?_) rfl (by kernel_rfl) (by kernel_rfl) (by kernel_rfl) (fun _ _ _ h => h) (Or.inl ⟨by rfl, ?_⟩) hS ?_
       rotate_left 1
       · intro w' hB; have hx := boxStays HX.out hB; have x0 := cell_of_row _ y 0 _ _ _ hx; have x1 := cell_of_row _ y 1 _ _ _ hx; have x2 := cell_of_row _ y 2 _ _ _ hx; have x3 := cell_of_row _ y 3 _ _ _ hx; have x4 := cell_of_row _ y 4 _ _ _ hx; have x5 := cell_of_row _ y 5 _ _ _ hx; clear hx; have hy := boxStays HV3.out hB; have y2 := cell_of_row _ z 2 _ _ _ hy; obtain ⟨v0, v1, v2, v3, v4, v5⟩ := CY.out.below hB; clear hy; (go_simp <;> with_reducible rfl)
       try simp only [Act.put, List.setIfInBounds_toArray, List.set_cons_zero, List.set_cons_succ]
       refine wpAnyH_take (i := 19) (oi := ⟨some 65, _, _, _, _, _⟩) (v := ?_) rfl (by kernel_rfl) (by kernel_rfl) (by kernel_rfl) (fun _ _ _ h => h) (Or.inl ⟨by rfl, ?_⟩) hS ?_
       rotate_left 1
       · intro w' hB; have hx := boxStays HX.out hB; have x0 := cell_of_row _ y 0 _ _ _ hx; have x1 := cell_of_row _ y 1 _ _ _ hx; have x2 := cell_of_row _ y 2 _ _ _ hx; have x3 := cell_of_row _ y 3 _ _ _ hx; have x4 := cell_of_row _ y 4 _ _ _ hx; have x5 := cell_of_row _ y 5 _ _ _ hx; clear hx; have hy := boxStays HV3.out hB; have y2 := cell_of_row _ z 2 _ _ _ hy; obtain ⟨v0, v1, v2, v3, v4, v5⟩ := CY.out.below hB; clear hy; (go_simp <;> with_reducible rfl)
       try simp only [Act.put, List.setIfInBounds_toArray, List.set_cons_zero, List.set_cons_succ]
       refine wpAnyH_take (i := 20) (oi := ⟨some 66, _, _, _, _, _⟩) (v := ?_) rfl (by kernel_rfl) (by kernel_rfl) (by kernel_rfl) (fun _ _ _ h => h) (Or.inl ⟨by rfl, ?_⟩) hS ?_
       rotate_left 1
       · intro w' hB; have hx := boxStays HX.out hB; have x0 := cell_of_row _ y 0 _ _ _ hx; have x1 := cell_of_row _ y 1 _ _ _ hx; have x2 := cell_of_row _ y 2 _ _ _ hx; have x3 := cell_of_row _ y 3 _ _ _ hx; have x4 := cell_of_row _ y 4 _ _ _ hx; have x5 := cell_of_row _ y 5 _ _ _ hx; clear hx; have hy := boxStays HV3.out hB; have y2 := cell_of_row _ z 2 _ _ _ hy; obtain ⟨v0, v1, v2, v3, v4, v5⟩ := CY.out.below hB; clear hy; (go_simp <;> with_reducible rfl)
       try simp only [Act.put, List.setIfInBounds_toArray, List.set_cons_zero, List.set_cons_succ]
       refine wpAnyH_take (i := 21) (oi := ⟨some 67, _, _, _, _, _⟩) (v := ?_) rfl (by kernel_rfl) (by kernel_rfl) (by kernel_rfl) (fun _ _ _ h => h) (Or.inl ⟨by rfl, ?_⟩) hS ?_
       rotate_left 1
       · intro w' hB; have hx := boxStays HX.out hB; have x0 := cell_of_row _ y 0 _ _ _ hx; have x1 := cell_of_row _ y 1 _ _ _ hx; have x2 := cell_of_row _ y 2 _ _ _ hx; have x3 := cell_of_row _ y 3 _ _ _ hx; have x4 := cell_of_row _ y 4 _ _ _ hx; have x5 := cell_of_row _ y 5 _ _ _ hx; clear hx; have hy := boxStays HV3.out hB; have y2 := cell_of_row _ z 2 _ _ _ hy; obtain ⟨v0, v1, v2, v3, v4, v5⟩ := CY.out.below hB; clear hy; (go_simp <;> with_reducible rfl)
       try simp only [Act.put, List.setIfInBounds_toArray, List.set_cons_zero, List.set_cons_succ]
       refine wpAnyH_take (i := 22) (oi := ⟨some 68, _, _, _, _, _⟩) (v := ?_) rfl (by kernel_rfl) (by kernel_rfl) (by kernel_rfl) (fun _ _ _ h => h) (Or.inl ⟨by rfl, ?_⟩) hS ?_
       rotate_left 1
       · intro w' hB; have hx := boxStays HX.out hB; have x0 := cell_of_row _ y 0 _ _ _ hx; have x1 := cell_of_row _ y 1 _ _ _ hx; have x2 := cell_of_row _ y 2 _ _ _ hx; have x3 := cell_of_row _ y 3 _ _ _ hx; have x4 := cell_of_row _ y 4 _ _ _ hx; have x5 := cell_of_row _ y 5 _ _ _ hx; clear hx; have hy := boxStays HV3.out hB; have y2 := cell_of_row _ z 2 _ _ _ hy; obtain ⟨v0, v1, v2, v3, v4, v5⟩ := CY.out.below hB; clear hy; (go_simp <;> with_reducible rfl)
       try simp only [Act.put, List.setIfInBounds_toArray, List.set_cons_zero, List.set_cons_succ]
       refine wpAnyH_ready (rs := [23]) (by kernel_rfl) (by simp) (AllReadyH.cons (o := ⟨some 69, _, _, _, _, _⟩) rfl (fun K hK => ?_) AllReadyH.nil)
       go_simp
       refine (ref6_Cmp v.1 x.1 _ HYZ.out HXZ.out).mono ?_
       rintro e w6 ⟨rfl, hb⟩
       refine hK.out _ _ (hS.trans (hb.mono hS.size)) (fun _ => ?_)
       clear hK K
       replace hS := hS.trans (hb.mono hS.size)
       clear hb
       try simp only [Act.put, List.setIfInBounds_toArray, List.set_cons_zero, List.set_cons_succ]
       refine wpAnyH_take (i := 24) (oi := ⟨some 70, _, _, _, _, _⟩) (v := ?_) rfl (by kernel_rfl) (by kernel_rfl) (by kernel_rfl) (fun _ _ _ h => h) (Or.inl ⟨by rfl, ?_⟩) hS ?_
       rotate_left 1
       · intro w' hB; have hx := boxStays HX.out hB; have x0 := cell_of_row _ y 0 _ _ _ hx; have x1 := cell_of_row _ y 1 _ _ _ hx; have x2 := cell_of_row _ y 2 _ _ _ hx; have x3 := cell_of_row _ y 3 _ _ _ hx; have x4 := cell_of_row _ y 4 _ _ _ hx; have x5 := cell_of_row _ y 5 _ _ _ hx; clear hx; have hy := boxStays HV3.out hB; have y2 := cell_of_row _ z 2 _ _ _ hy; obtain ⟨v0, v1, v2, v3, v4, v5⟩ := CY.out.below hB; clear hy; (go_simp <;> with_reducible rfl)
       try simp only [Act.put, List.setIfInBounds_toArray, List.set_cons_zero, List.set_cons_succ]
       refine wpAnyH_take (i := 25) (oi := ⟨some 71, _, _, _, _, _⟩) (v := ?_) rfl (by kernel_rfl) (by kernel_rfl) (by kernel_rfl) (fun _ _ _ h => h) (Or.inl ⟨by rfl, ?_⟩) hS ?_
       rotate_left 1
       · intro w' hB; have hx := boxStays HX.out hB; have x0 := cell_of_row _ y 0 _ _ _ hx; have x1 := cell_of_row _ y 1 _ _ _ hx; have x2 := cell_of_row _ y 2 _ _ _ hx; have x3 := cell_of_row _ y 3 _ _ _ hx; have x4 := cell_of_row _ y 4 _ _ _ hx; have x5 := cell_of_row _ y 5 _ _ _ hx; clear hx; have hy := boxStays HV3.out hB; have y2 := cell_of_row _ z 2 _ _ _ hy; obtain ⟨v0, v1, v2, v3, v4, v5⟩ := CY.out.below hB; clear hy; (go_simp <;> with_reducible rfl)
       try simp only [Act.put, List.setIfInBounds_toArray, List.set_cons_zero, List.set_cons_succ]
       refine wpAnyH_take (i := 26) (oi := ⟨some 72, _, _, _, _, _⟩) (v := ?_) rfl (by kernel_rfl) (by kernel_rfl) (by kernel_rfl) (fun _ _ _ h => h) (Or.inl ⟨by rfl, ?_⟩) hS ?_
       rotate_left 1
       · intro w' hB; have hx := boxStays HX.out hB; have x0 := cell_of_row _ y 0 _ _ _ hx; have x1 := cell_of_row _ y 1 _ _ _ hx; have x2 := cell_of_row _ y 2 _ _ _ hx; have x3 := cell_of_row _ y 3 _ _ _ hx; have x4 := cell_of_row _ y 4 _ _ _ hx; have x5 := cell_of_row _ y 5 _ _ _ hx; clear hx; have hy := boxStays HV3.out hB; have y2 := cell_of_row _ z 2 _ _ _ hy; obtain ⟨v0, v1, v2, v3, v4, v5⟩ := CY.out.below hB; clear hy; (go_simp <;> with_reducible rfl)
       try simp only [Act.put, List.setIfInBounds_toArray, List.set_cons_zero, List.set_cons_succ]
       refine wpAnyH_done (by kernel_rfl) (NoPanic.normal ?_) _
       have HBD := Lib.hid hS
       have hge : decide (0 ≤ svC v.1 x.1) = !c3 := by rw [← SV.out]; by_cases h : svC v.1 x.1 < 0 <;> simp [h] <;> omega
       go_wp2_with fail
       go_meet
       exact ⟨by rw [hge, HOV.out]; rfl, HBD⟩
    case rest =>
     obtain ⟨rfl, HBD⟩ := hcut
     obtain ⟨cc, hcc⟩ : ∃ b, (okV x && c3) = b := ⟨_, rfl⟩
     rw [hcc]
     cases cc
     case false =>
      obtain rfl : false = re := by
       rw [HST.out, ← Bool.and_assoc, hcc]; rfl
      clear hcc
      go_wp2_with fail
      go_ret
      exact ⟨rfl, BW2.out.trans ((BR3.out.trans (HBD.out.mono BR3.out.size)).mono BW2.out.size)⟩
     have HR2 : Hid (risG (prevG l (q + 1)) (l.drop (q + 1)) = re) := Lib.hid (by
      rw [HST.out, ← Bool.and_assoc, hcc]; rfl)
     clear hcc
     go_wp2_with fail
     go_roundw
     case rel => exact ⟨q + 1, by go_num, by omega, HR2, Lib.hid (BR3.out.trans (HBD.out.mono BR3.out.size))⟩
     case measure => simp [intOf]; omega
  · obtain rfl : q = n := by omega
    have hqi : ¬ (q : Int) < (q : Int) := by omega
    obtain rfl : true = re := by rw [← HR.out, List.drop_of_length_le (by rw [← HN.out]; exact Nat.le_refl _)]; rfl
    have kv2 := cell_of_row _ z 2 _ _ _ (boxStays HV2.out HB.out)
    go_wp2_with fail
    go_ret
    exact ⟨rfl, BW2.out.trans (HB.out.mono BW2.out.size)⟩
end Go.Proofs.YtjlliohjeiclaaaGreatDoor
namespace Go.Proofs.YtjlliohjeiclaaaGreatDoor
open Go.RowKit St Pm Ku Kn
namespace Kn
def stampedG (l : List ByteArray) (k : Int) (x : ByteArray) (d m : Int) (t : ByteArray) : Bool := decide (checkK l k x d m t = 0) && bringsG d
end Kn
open Kn
set_option maxRecDepth 100000 in
set_option maxHeartbeats 4000000 in
theorem kr_Stamped (l : List ByteArray) (k : Int) (x : ByteArray) (d m : Int) (t : ByteArray) (a : Option Addr) (n c : Nat) (w : World) (hl : CellsAt w a (txV l)) (hn : n = l.length) :
 Calls Tryz.prog 88 #[.agg #[.slice a n c, .int .i64 k, .string x, .int .i64 d, .int .i64 m, .string t]] w fun e w' => e = .returned (.bool (stampedG l k x d m t)) ∧ Below w.heap.size w w' := by
 have HL := Lib.hid hl
 have HN := Lib.hid hn
 obtain ⟨ce, hce⟩ : ∃ r, checkK l k x d m t = r := ⟨_, rfl⟩
 have HV : Hid (stampedG l k x d m t = (decide (ce = 0) && bringsG d)) := Lib.hid (by unfold stampedG; rw [hce])
 have CE := Lib.hid hce
 obtain ⟨re, hre⟩ : ∃ r, stampedG l k x d m t = r := ⟨_, rfl⟩
 rw [hre] at HV ⊢
 clear hl hn hce hre
 have HC : Hid (Chain [w] w) := Lib.hid (Chain.one w)
 go_enter Tryz.func88, Tryz.ntmps88
 go_upto_region 1 with (fail)
 obtain ⟨z, hz⟩ : ∃ c, w.heap.size = c := ⟨_, rfl⟩
 try rw [hz]
 obtain ⟨w1, hw1⟩ : ∃ X, allocs w [.cells #[.slice a n c, .int .i64 k, .string x, .int .i64 d, .int .i64 m, .string t] 82] = X := ⟨_, rfl⟩
 rw [show w.alloc (.cells #[.slice a n c, .int .i64 k, .string x, .int .i64 d, .int .i64 m, .string t] 82) = w1 from hw1]
 have hb : Below w.heap.size w w1 := by rw [← hw1]; exact allocs_below _ _
 have HO : Hid (w1.heap[z]? = some (.cells #[.slice a n c, .int .i64 k, .string x, .int .i64 d, .int .i64 m, .string t] 82 (0, 0))) := Lib.hid (by have := allocs_get [.cells #[.slice a n c, .int .i64 k, .string x, .int .i64 d, .int .i64 m, .string t] 82] w 0 _ rfl; rw [hw1, hz] at this; exact this)
 have Sz : Hid (w.heap.size = z) := Lib.hid hz
 replace HC := Lib.hid (HC.out.push hb)
 clear hb hw1 hz
 have kO0 := cell_of_row _ _ 0 _ _ _ HO.out
 have kO1 := cell_of_row _ _ 1 _ _ _ HO.out
 have kO2 := cell_of_row _ _ 2 _ _ _ HO.out
 have kO3 := cell_of_row _ _ 3 _ _ _ HO.out
 have kO4 := cell_of_row _ _ 4 _ _ _ HO.out
 have kO5 := cell_of_row _ _ 5 _ _ _ HO.out
 go_wp2_with fail
 refine (kr_Check l k x d m t a n c _ (HL.out.below (HC.out.to w (by simp)) rfl) HN.out).mono ?_
 rintro e w2 ⟨rfl, hb⟩
 clear kO0 kO1 kO2 kO3 kO4 kO5
 replace HC := Lib.hid (HC.out.push hb)
 clear hb
 rw [CE.out]
 by_cases h0 : ce = 0
 · subst h0
   obtain rfl : bringsG d = re := by rw [HV.out]; simp
   rcases (by omega : d = 2 ∨ d = 4 ∨ d = 5 ∨ d = 7 ∨ (d ≠ 2 ∧ d ≠ 4 ∧ d ≠ 5 ∧ d ≠ 7)) with rfl | rfl | rfl | rfl | ⟨h2, h4, h5, h7⟩
   all_goals
    have kO0 := cell_of_row _ _ 0 _ _ _ (boxStays HO.out (HC.out.to w1 (by simp)))
    have kO1 := cell_of_row _ _ 1 _ _ _ (boxStays HO.out (HC.out.to w1 (by simp)))
    have kO2 := cell_of_row _ _ 2 _ _ _ (boxStays HO.out (HC.out.to w1 (by simp)))
    have kO3 := cell_of_row _ _ 3 _ _ _ (boxStays HO.out (HC.out.to w1 (by simp)))
    have kO4 := cell_of_row _ _ 4 _ _ _ (boxStays HO.out (HC.out.to w1 (by simp)))
    have kO5 := cell_of_row _ _ 5 _ _ _ (boxStays HO.out (HC.out.to w1 (by simp)))
   · go_wp2_with fail
     go_ret
     exact ⟨rfl, (HC.out.to w (by simp))⟩
   · go_wp2_with fail
     go_ret
     exact ⟨rfl, (HC.out.to w (by simp))⟩
   · go_wp2_with fail
     go_ret
     exact ⟨rfl, (HC.out.to w (by simp))⟩
   · go_wp2_with fail
     go_ret
     exact ⟨rfl, (HC.out.to w (by simp))⟩
   · have e2 : (d == 2) = false := by simp [h2]
     have e4 : (d == 4) = false := by simp [h4]
     have e5 : (d == 5) = false := by simp [h5]
     have e7 : (d == 7) = false := by simp [h7]
     have eb : Hid (bringsG d = false) := Lib.hid (by unfold bringsG; simp [h2, h4, h5, h7])
     go_wp2_with fail
     go_ret
     exact ⟨by rw [eb.out]; rfl, (HC.out.to w (by simp))⟩
 · have h0b : (ce == 0) = false := by simp [h0]
   obtain rfl : false = re := by rw [HV.out]; simp [h0]
   go_wp2_with fail
   go_ret
   exact ⟨rfl, (HC.out.to w (by simp))⟩
end Go.Proofs.YtjlliohjeiclaaaGreatDoor
