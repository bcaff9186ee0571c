/- Words, contracts and walks that the proof stands on (QuS Tail2 QuE OpenC OpenE OpenQ). -/
import Derived.Deep.Grids
import Derived.Deep.Slices
import Derived.OpenShut
import Derived.ProofKit
import Derived.SliceStrings
import Derived.Test.YtnpiepimajippaaRE13
import Derived.Test.YtnpiepimajippaaRE14
import Derived.Test.YtnpiepimajippaaRE4
namespace Go.Proofs.Ytnpiepimajippaa
open Go.RowKit St Pm
set_option maxRecDepth 100000 in
set_option maxHeartbeats 8000000 in
theorem stands_13 (l : List Ev) (t : Tr ByteArray) (a : Option Addr) (n c : Nat) (w : World) (ht : AtS w t) (hr : Reg l t) (hl : CellsAt w a (elsV l)) (hn : n = l.length) (hz : n ≤ 1000) :
    Calls Try.prog 39 #[.agg #[.pointer (pa t)], .slice a n c] w fun e w' => e = .returned (.bool true) ∧ Below w.heap.size w w' := by
  have T := Lib.hid ht
  have R := Lib.hid hr
  have CL := Lib.hid hl
  have HN := Lib.hid hn
  have HZ := Lib.hid hz
  have HK := Lib.hid hr.keys
  have HSZ : Hid (sz t ≤ 100000) := Lib.hid (by rw [hr.len]; omega)
  have HZL : Hid (l.length ≤ 100000) := Lib.hid (by omega)
  obtain ⟨b1, hb1⟩ : ∃ b, decide (0 < n) = b := ⟨_, rfl⟩
  have B1 : Hid ((firstE l).2 = b1) := Lib.hid (by
    cases l with
    | nil => rw [← hb1, hn]; rfl
    | cons x l => rw [← hb1, hn]; exact (decide_eq_true (by simp)).symm)
  have DN := Lib.hid hb1
  clear ht hr hl hn hz hb1
  have HC : Hid (Chain [w] w) := Lib.hid (Chain.one w)
  go_enter Try.func39, Try.ntmps39
  go_upto_region 1 with (fail)
  obtain ⟨c1, hc1⟩ : ∃ c, w.heap.size = c := ⟨_, rfl⟩
  try rw [hc1]
  obtain ⟨w1, hw1⟩ : ∃ X, allocs w [.cells #[.pointer (pa t)] 27] = X := ⟨_, rfl⟩
  rw [show w.alloc (.cells #[.pointer (pa t)] 27) = w1 from hw1]
  have hb : Below w.heap.size w w1 := by rw [← hw1]; exact allocs_below _ _
  have HM : Hid (w1.heap[c1]? = some (.cells #[.pointer (pa t)] 27 (0, 0))) := Lib.hid (by have := allocs_get [.cells #[.pointer (pa t)] 27] w 0 _ rfl; rw [hw1, hc1] at this; exact this)
  have Sc1 : Hid (w.heap.size = c1) := Lib.hid hc1
  replace HC := Lib.hid (HC.out.push hb)
  clear hb hw1 hc1
  have kM0 := cell_of_one HM.out
  go_wp2_with fail
  refine (els_reg13 _ (T.out.below (HC.out.to w (by simp)) rfl) R.out HZL.out).mono ?_
  rintro e w2 ⟨vx, rfl, hb, hown⟩
  clear kM0
  replace HC := Lib.hid (HC.out.push hb)
  clear hb
  obtain ⟨ax, cx, rfl, _⟩ := own_slice hown
  have X2 : Hid (CellsAt w2 ax (elsV l)) := Lib.hid (CellsAt.ownN hown)
  clear hown
  rw [← HN.out]
  go_upto_region 2 with (fail)
  have kM0 := cell_of_one (boxStays HM.out (HC.out.to w1 (by simp)))
  go_wp2_with fail
  refine (txt_reg13 _ (T.out.below (HC.out.to w (by simp)) rfl) R.out HZL.out).mono ?_
  rintro e w3 ⟨vt, rfl, hb, hown⟩
  clear kM0
  replace HC := Lib.hid (HC.out.push hb)
  clear hb
  obtain ⟨at3, ct3, rfl, _⟩ := own_slice hown
  have X3 : Hid (CellsAt w3 at3 (txV (l.map (·.2)))) := Lib.hid (CellsAt.ownN hown)
  clear hown
  rw [← HN.out]
  go_upto_region 3 with (fail)
  have kM0 := cell_of_one (boxStays HM.out (HC.out.to w1 (by simp)))
  go_wp2_with fail
  refine (first_reg _ (T.out.below (HC.out.to w (by simp)) rfl) R.out HZL.out).mono ?_
  rintro e w4 ⟨x, rfl, hx, hb⟩
  clear kM0
  replace HC := Lib.hid (HC.out.push hb)
  clear hb
  rw [B1.out]
  have XE := Lib.hid hx
  clear hx
  go_upto_region 4 with (fail)
  obtain ⟨c5, hc5⟩ : ∃ c, w4.heap.size = c := ⟨_, rfl⟩
  try rw [hc5]
  obtain ⟨w5, hw5⟩ : ∃ X, allocs w4 [.cells #[.int .i64 x.1.g, .int .i64 x.1.r, .string x.1.l, .int .i64 x.1.n, .int .i64 x.1.i, .string x.2] 47] = X := ⟨_, rfl⟩
  rw [show w4.alloc (.cells #[.int .i64 x.1.g, .int .i64 x.1.r, .string x.1.l, .int .i64 x.1.n, .int .i64 x.1.i, .string x.2] 47) = w5 from hw5]
  have hb : Below w4.heap.size w4 w5 := by rw [← hw5]; exact allocs_below _ _
  have HX : Hid (w5.heap[c5]? = some (.cells #[.int .i64 x.1.g, .int .i64 x.1.r, .string x.1.l, .int .i64 x.1.n, .int .i64 x.1.i, .string x.2] 47 (0, 0))) := Lib.hid (by have := allocs_get [.cells #[.int .i64 x.1.g, .int .i64 x.1.r, .string x.1.l, .int .i64 x.1.n, .int .i64 x.1.i, .string x.2] 47] w4 0 _ rfl; rw [hw5, hc5] at this; exact this)
  have Sc5 : Hid (w4.heap.size = c5) := Lib.hid hc5
  replace HC := Lib.hid (HC.out.push hb)
  clear hb hw5 hc5
  have T5 := Lib.hid (T.out.below (HC.out.to w (by simp)) rfl)
  have X25 := Lib.hid (X2.out.below (HC.out.to w2 (by simp)) rfl)
  have X35 := Lib.hid (X3.out.below (HC.out.to w3 (by simp)) rfl)
  have CL5 := Lib.hid (CL.out.below (HC.out.to w (by simp)) rfl)
  have HM5 := Lib.hid (boxStays HM.out (HC.out.to w1 (by simp)))
  have HX5 := HX
  have BE5 := Lib.hid (HC.out.to w (by simp))
  clear HC HM HX X2 X3 T CL
  have HC : Hid (Chain [w5] w5) := Lib.hid (Chain.one w5)
  have HM := HM5
  have HX := HX5
  go_upto_region 5 with (fail)
  obtain ⟨c6, hc6⟩ : ∃ c, w5.heap.size = c := ⟨_, rfl⟩
  try rw [hc6]
  obtain ⟨w6, hw6⟩ : ∃ X, allocs w5 [.cells #[.int .i64 0, .int .i64 0, .string ⟨#[]⟩, .int .i64 0, .int .i64 0, .string ⟨#[]⟩] 47] = X := ⟨_, rfl⟩
  rw [show w5.alloc (.cells #[.int .i64 0, .int .i64 0, .string ⟨#[]⟩, .int .i64 0, .int .i64 0, .string ⟨#[]⟩] 47) = w6 from hw6]
  have hb : Below w5.heap.size w5 w6 := by rw [← hw6]; exact allocs_below _ _
  have HF : Hid (w6.heap[c6]? = some (.cells #[.int .i64 0, .int .i64 0, .string ⟨#[]⟩, .int .i64 0, .int .i64 0, .string ⟨#[]⟩] 47 (0, 0))) := Lib.hid (by have := allocs_get [.cells #[.int .i64 0, .int .i64 0, .string ⟨#[]⟩, .int .i64 0, .int .i64 0, .string ⟨#[]⟩] 47] w5 0 _ rfl; rw [hw6, hc6] at this; exact this)
  have Sc6 : Hid (w5.heap.size = c6) := Lib.hid hc6
  replace HC := Lib.hid (HC.out.push hb)
  clear hb hw6 hc6
  have EQ : Hid (∀ W, (binOp .eql 47 (.agg #[.int .i64 x.1.g, .int .i64 x.1.r, .string x.1.l, .int .i64 x.1.n, .int .i64 x.1.i, .string x.2]) (.agg #[.int .i64 x.1.g, .int .i64 x.1.r, .string x.1.l, .int .i64 x.1.n, .int .i64 x.1.i, .string x.2])).run Try.prog W = .ok (.bool true) W) := Lib.hid (fun W => (ev_eql x x W).trans (by simp))
  by_cases hp : 0 < n
  · have hpi : (0 : Int) < (n : Int) := by omega
    obtain rfl : b1 = true := by rw [← DN.out]; exact decide_eq_true hp
    obtain ⟨ba, oa, rfl, ca⟩ := els_get (CL5.out.below (HC.out.to w5 (by simp)) rfl) 0 (by rw [← HN.out]; omega)
    have hxe : l[0]'(by rw [← HN.out]; omega) = x := by
      rw [XE.out]
      cases l with
      | nil => exact absurd HN.out (by simp; omega)
      | cons y l => rfl
    rw [hxe, Nat.zero_mul, Nat.add_zero] at ca
    have p0 := ca.c0
    have p1 := ca.c1
    have p2 := ca.c2
    have p3 := ca.c3
    have p4 := ca.c4
    have p5 := ca.c5
    clear ca hxe B1 DN
    go_upto_region 7 with (refine wpList_store_row rfl 47 (.tmp 11) (.tmp 33) rfl c6 #[.int .i64 x.1.g, .int .i64 x.1.r, .string x.1.l, .int .i64 x.1.n, .int .i64 x.1.i, .string x.2] rfl rfl 47 _ HF.out (by kernel_rfl) rfl (el_one x) ?_)
    have HF7 := Lib.hid (setRow_heap w6 c6 _ #[.int .i64 x.1.g, .int .i64 x.1.r, .string x.1.l, .int .i64 x.1.n, .int .i64 x.1.i, .string x.2] _ _ HF.out)
    have hbz := below_setRow (HC.out.to w5 (by simp)) (Nat.le_of_eq Sc6.out) #[.int .i64 x.1.g, .int .i64 x.1.r, .string x.1.l, .int .i64 x.1.n, .int .i64 x.1.i, .string x.2]
    generalize w6.setRow c6 #[.int .i64 x.1.g, .int .i64 x.1.r, .string x.1.l, .int .i64 x.1.n, .int .i64 x.1.i, .string x.2] = w7 at *
    clear HC HF
    have HC : Hid (Chain [w5] w5) := Lib.hid (Chain.one w5)
    have hb := hbz
    replace HC := Lib.hid (HC.out.push hb)
    clear hb
    have HF := HF7
    try simp only [List.append]
    go_wp2_with fail
    refine (ref9_SameElements l l ax _ n n cx c _ (X25.out.below (HC.out.to w5 (by simp)) rfl) (CL5.out.below (HC.out.to w5 (by simp)) rfl) HN.out HN.out (by have := HZ.out; omega)).mono ?_
    rintro e u5 ⟨rfl, hb⟩
    replace HC := Lib.hid (HC.out.push hb)
    clear hb
    rw [decide_eq_true rfl]
    go_wp2_with fail
    refine (ltx_13 l _ n c _ (CL5.out.below (HC.out.to w5 (by simp)) rfl) HN.out (by have := HZ.out; omega)).mono ?_
    rintro e u6 ⟨vu, rfl, hb, hown⟩
    replace HC := Lib.hid (HC.out.push hb)
    clear hb
    obtain ⟨au, cu, rfl, _⟩ := own_slice hown
    have X6 : Hid (CellsAt u6 au (txV (l.map (·.2)))) := Lib.hid (CellsAt.ownN hown)
    clear hown
    go_wp2_with fail
    refine (ref9_SameTexts (l.map (·.2)) (l.map (·.2)) at3 au n n ct3 cu _ (X35.out.below (HC.out.to w5 (by simp)) rfl) X6.out (by rw [List.length_map]; exact HN.out) (by rw [List.length_map]; exact HN.out) (by have := HZ.out; omega)).mono ?_
    rintro e u7 ⟨rfl, hb⟩
    replace HC := Lib.hid (HC.out.push hb)
    clear hb
    rw [decide_eq_true rfl]
    go_wp2_with fail
    refine (num_13 0 _).mono ?_
    rintro e _ ⟨rfl, rfl⟩
    go_wp2_with fail
    refine (num_13 0 _).mono ?_
    rintro e _ ⟨rfl, rfl⟩
    have kM0 := cell_of_one (boxStays HM.out (HC.out.to w5 (by simp)))
    have kX0 := cell_of_row _ _ 0 _ _ _ (boxStays HX.out (HC.out.to w5 (by simp)))
    have kX1 := cell_of_row _ _ 1 _ _ _ (boxStays HX.out (HC.out.to w5 (by simp)))
    have kX2 := cell_of_row _ _ 2 _ _ _ (boxStays HX.out (HC.out.to w5 (by simp)))
    have kX3 := cell_of_row _ _ 3 _ _ _ (boxStays HX.out (HC.out.to w5 (by simp)))
    have kX4 := cell_of_row _ _ 4 _ _ _ (boxStays HX.out (HC.out.to w5 (by simp)))
    have kX5 := cell_of_row _ _ 5 _ _ _ (boxStays HX.out (HC.out.to w5 (by simp)))
    have kF0 := cell_of_row _ _ 0 _ _ _ (boxStays HF.out (HC.out.to w7 (by simp)))
    have kF1 := cell_of_row _ _ 1 _ _ _ (boxStays HF.out (HC.out.to w7 (by simp)))
    have kF2 := cell_of_row _ _ 2 _ _ _ (boxStays HF.out (HC.out.to w7 (by simp)))
    have kF3 := cell_of_row _ _ 3 _ _ _ (boxStays HF.out (HC.out.to w7 (by simp)))
    have kF4 := cell_of_row _ _ 4 _ _ _ (boxStays HF.out (HC.out.to w7 (by simp)))
    have kF5 := cell_of_row _ _ 5 _ _ _ (boxStays HF.out (HC.out.to w7 (by simp)))
    have eq := EQ.out
    go_wp2_with fail
    clear eq
    refine (may_reg13 _ (T5.out.below (HC.out.to w5 (by simp)) rfl) R.out HZL.out).mono ?_
    rintro e u8 ⟨rfl, hb⟩
    clear kM0 kX0 kX1 kX2 kX3 kX4 kX5 kF0 kF1 kF2 kF3 kF4 kF5
    replace HC := Lib.hid (HC.out.push hb)
    clear hb
    have kM0 := cell_of_one (boxStays HM.out (HC.out.to w5 (by simp)))
    go_wp2_with fail
    refine (all_13 t _).mono ?_
    rintro e u9 ⟨mb, rfl, _, hmb, hb⟩
    clear kM0
    replace HC := Lib.hid (HC.out.push hb)
    clear hb
    have MB := Lib.hid hmb
    clear hmb
    go_wp2_with fail
    refine (goes_reg13 t mb l _ n c 2 _ MB.out (T5.out.below (HC.out.to w5 (by simp)) rfl) HSZ.out HK.out R.out.shown (CL5.out.below (HC.out.to w5 (by simp)) rfl) HN.out).mono ?_
    rintro e u10 ⟨rfl, hb⟩
    replace HC := Lib.hid (HC.out.push hb)
    clear hb
    have kM0 := cell_of_one (boxStays HM.out (HC.out.to w5 (by simp)))
    go_wp2_with fail
    refine (all_13 t _).mono ?_
    rintro e u11 ⟨mc, rfl, _, hmc, hb⟩
    clear kM0
    replace HC := Lib.hid (HC.out.push hb)
    clear hb
    have MC := Lib.hid hmc
    clear hmc
    go_wp2_with fail
    refine (goes_reg13 t mc l _ n c 0 _ MC.out (T5.out.below (HC.out.to w5 (by simp)) rfl) HSZ.out HK.out R.out.shown (CL5.out.below (HC.out.to w5 (by simp)) rfl) HN.out).mono ?_
    rintro e u12 ⟨rfl, hb⟩
    replace HC := Lib.hid (HC.out.push hb)
    clear hb
    go_wp2_with fail
    go_ret
    exact ⟨rfl, BE5.out.trans ((HC.out.to w5 (by simp)).mono BE5.out.size)⟩
  ·
    have hpi : ¬ (0 : Int) < (n : Int) := by omega
    obtain rfl : b1 = false := by rw [← DN.out]; exact decide_eq_false hp
    have hx0 : x = zeroE := by
      rw [XE.out]
      cases l with
      | nil => rfl
      | cons y l => exact absurd HN.out (by simp; omega)
    clear B1 DN hp
    go_upto_region 7 with (fail)
    have HF6 : Hid (w6.heap[c6]? = some (.cells #[.int .i64 x.1.g, .int .i64 x.1.r, .string x.1.l, .int .i64 x.1.n, .int .i64 x.1.i, .string x.2] 47 (0, 0))) := Lib.hid (by rw [hx0]; exact HF.out)
    clear hx0
    have HF := HF6
    try simp only [List.append]
    go_wp2_with fail
    refine (ref9_SameElements l l ax _ n n cx c _ (X25.out.below (HC.out.to w5 (by simp)) rfl) (CL5.out.below (HC.out.to w5 (by simp)) rfl) HN.out HN.out (by have := HZ.out; omega)).mono ?_
    rintro e u5 ⟨rfl, hb⟩
    replace HC := Lib.hid (HC.out.push hb)
    clear hb
    rw [decide_eq_true rfl]
    go_wp2_with fail
    refine (ltx_13 l _ n c _ (CL5.out.below (HC.out.to w5 (by simp)) rfl) HN.out (by have := HZ.out; omega)).mono ?_
    rintro e u6 ⟨vu, rfl, hb, hown⟩
    replace HC := Lib.hid (HC.out.push hb)
    clear hb
    obtain ⟨au, cu, rfl, _⟩ := own_slice hown
    have X6 : Hid (CellsAt u6 au (txV (l.map (·.2)))) := Lib.hid (CellsAt.ownN hown)
    clear hown
    go_wp2_with fail
    refine (ref9_SameTexts (l.map (·.2)) (l.map (·.2)) at3 au n n ct3 cu _ (X35.out.below (HC.out.to w5 (by simp)) rfl) X6.out (by rw [List.length_map]; exact HN.out) (by rw [List.length_map]; exact HN.out) (by have := HZ.out; omega)).mono ?_
    rintro e u7 ⟨rfl, hb⟩
    replace HC := Lib.hid (HC.out.push hb)
    clear hb
    rw [decide_eq_true rfl]
    go_wp2_with fail
    refine (num_13 0 _).mono ?_
    rintro e _ ⟨rfl, rfl⟩
    go_wp2_with fail
    refine (num_13 0 _).mono ?_
    rintro e _ ⟨rfl, rfl⟩
    have kM0 := cell_of_one (boxStays HM.out (HC.out.to w5 (by simp)))
    have kX0 := cell_of_row _ _ 0 _ _ _ (boxStays HX.out (HC.out.to w5 (by simp)))
    have kX1 := cell_of_row _ _ 1 _ _ _ (boxStays HX.out (HC.out.to w5 (by simp)))
    have kX2 := cell_of_row _ _ 2 _ _ _ (boxStays HX.out (HC.out.to w5 (by simp)))
    have kX3 := cell_of_row _ _ 3 _ _ _ (boxStays HX.out (HC.out.to w5 (by simp)))
    have kX4 := cell_of_row _ _ 4 _ _ _ (boxStays HX.out (HC.out.to w5 (by simp)))
    have kX5 := cell_of_row _ _ 5 _ _ _ (boxStays HX.out (HC.out.to w5 (by simp)))
    have kF0 := cell_of_row _ _ 0 _ _ _ (boxStays HF.out (HC.out.to w6 (by simp)))
    have kF1 := cell_of_row _ _ 1 _ _ _ (boxStays HF.out (HC.out.to w6 (by simp)))
    have kF2 := cell_of_row _ _ 2 _ _ _ (boxStays HF.out (HC.out.to w6 (by simp)))
    have kF3 := cell_of_row _ _ 3 _ _ _ (boxStays HF.out (HC.out.to w6 (by simp)))
    have kF4 := cell_of_row _ _ 4 _ _ _ (boxStays HF.out (HC.out.to w6 (by simp)))
    have kF5 := cell_of_row _ _ 5 _ _ _ (boxStays HF.out (HC.out.to w6 (by simp)))
    have eq := EQ.out
    go_wp2_with fail
    clear eq
    refine (may_reg13 _ (T5.out.below (HC.out.to w5 (by simp)) rfl) R.out HZL.out).mono ?_
    rintro e u8 ⟨rfl, hb⟩
    clear kM0 kX0 kX1 kX2 kX3 kX4 kX5 kF0 kF1 kF2 kF3 kF4 kF5
    replace HC := Lib.hid (HC.out.push hb)
    clear hb
    have kM0 := cell_of_one (boxStays HM.out (HC.out.to w5 (by simp)))
    go_wp2_with fail
    refine (all_13 t _).mono ?_
    rintro e u9 ⟨mb, rfl, _, hmb, hb⟩
    clear kM0
    replace HC := Lib.hid (HC.out.push hb)
    clear hb
    have MB := Lib.hid hmb
    clear hmb
    go_wp2_with fail
    refine (goes_reg13 t mb l _ n c 2 _ MB.out (T5.out.below (HC.out.to w5 (by simp)) rfl) HSZ.out HK.out R.out.shown (CL5.out.below (HC.out.to w5 (by simp)) rfl) HN.out).mono ?_
    rintro e u10 ⟨rfl, hb⟩
    replace HC := Lib.hid (HC.out.push hb)
    clear hb
    have kM0 := cell_of_one (boxStays HM.out (HC.out.to w5 (by simp)))
    go_wp2_with fail
    refine (all_13 t _).mono ?_
    rintro e u11 ⟨mc, rfl, _, hmc, hb⟩
    clear kM0
    replace HC := Lib.hid (HC.out.push hb)
    clear hb
    have MC := Lib.hid hmc
    clear hmc
    go_wp2_with fail
    refine (goes_reg13 t mc l _ n c 0 _ MC.out (T5.out.below (HC.out.to w5 (by simp)) rfl) HSZ.out HK.out R.out.shown (CL5.out.below (HC.out.to w5 (by simp)) rfl) HN.out).mono ?_
    rintro e u12 ⟨rfl, hb⟩
    replace HC := Lib.hid (HC.out.push hb)
    clear hb
    go_wp2_with fail
    go_ret
    exact ⟨rfl, BE5.out.trans ((HC.out.to w5 (by simp)).mono BE5.out.size)⟩
end Go.Proofs.Ytnpiepimajippaa
namespace Go.Proofs.Ytnpiepimajippaa
open Go.RowKit
section
variable {P : Program} {md : Region.Mode} {ops : Array Oper} {Q : Exit → Act → World → Prop} {S : World → Prop} {T : List Nat}
def Closed (md : Region.Mode) (ops : Array Oper) (listed : Array Bool) : Prop :=
  ∀ j oj, ops[j]? = some oj → listed.getD j false = true → ∀ e ∈ oj.after, Region.binds md e = true → listed.getD e.on false = true
theorem Closed.step {listed : Array Bool} (h : Closed md ops listed) {j : Nat} {oj : Oper} (hoj : ops[j]? = some oj) (hall : ∀ e ∈ oj.after, Region.binds md e = true → listed.getD e.on false = true) : Closed md ops (listed.setIfInBounds j true) := by
  intro k ok hok hk e he hb
  have h0 : listed.getD e.on false = true := by
    by_cases hjk : j = k
    · subst hjk; rw [hoj] at hok; cases hok; exact hall e he hb
    · rw [getD_set_ne false hjk] at hk; exact h k ok hok hk e he hb
  by_cases hje : j = e.on
  · rw [← hje] at h0 ⊢
    rcases Nat.lt_or_ge j listed.size with hlt | hge
    · simp [Array.getD, hlt]
    · simp [Array.getD, Nat.not_lt.2 hge] at h0
  · rw [getD_set_ne false hje]; exact h0
end
end Go.Proofs.Ytnpiepimajippaa
namespace Go.Proofs.Ytnpiepimajippaa
open Go.RowKit St Pm
structure Stp where
  k : Int
  s : Sv
  x : ByteArray
  d : Int
def stpV (t : Stp) : List Value := [.int .i64 t.k, .int .i64 t.s.g, .int .i64 t.s.r, .string t.s.l, .int .i64 t.s.n, .int .i64 t.s.i, .string t.x, .int .i64 t.d]
def stpsV (l : List Stp) : List Value := l.flatMap stpV
structure StCell (w : World) (b o : Nat) (t : Stp) : Prop where
  c0 : w.cell? ⟨b, o, none⟩ = some (.int .i64 t.k)
  c1 : w.cell? ⟨b, o + 1, none⟩ = some (.int .i64 t.s.g)
  c2 : w.cell? ⟨b, o + 2, none⟩ = some (.int .i64 t.s.r)
  c3 : w.cell? ⟨b, o + 3, none⟩ = some (.string t.s.l)
  c4 : w.cell? ⟨b, o + 4, none⟩ = some (.int .i64 t.s.n)
  c5 : w.cell? ⟨b, o + 5, none⟩ = some (.int .i64 t.s.i)
  c6 : w.cell? ⟨b, o + 6, none⟩ = some (.string t.x)
  c7 : w.cell? ⟨b, o + 7, none⟩ = some (.int .i64 t.d)
theorem stpsV_get : ∀ (l : List Stp) (k r : Nat) (hk : k < l.length), r < 8 → (stpsV l)[k * 8 + r]? = (stpV l[k])[r]?
  | [], _, _, hk, _ => by simp at hk
  | t :: l, 0, r, _, hr => by
    rw [stpsV, List.flatMap_cons, Nat.zero_mul, Nat.zero_add, List.getElem?_append_left (by simpa [stpV] using hr)]
    rfl
  | t :: l, k + 1, r, hk, hr => by
    rw [stpsV, List.flatMap_cons, List.getElem?_append_right (by simp [stpV]; omega)]
    rw [show (k + 1) * 8 + r - (stpV t).length = k * 8 + r by simp [stpV]; omega]
    exact stpsV_get l k r (by simpa using hk) hr
theorem stp_get {w : World} {a : Option Addr} {l : List Stp} (h : CellsAt w a (stpsV l)) (k : Nat) (hk : k < l.length) : ∃ b off, a = some ⟨b, off, none⟩ ∧ StCell w b (off + k * 8) l[k] := by
  have g : ∀ j v, j < 8 → (stpV l[k])[j]? = some v → ∃ b off, a = some ⟨b, off, none⟩ ∧ w.cell? ⟨b, off + (k * 8 + j), none⟩ = some v := fun j v hj hv => h.get _ v (by rw [stpsV_get l k j hk hj, hv])
  obtain ⟨b, off, rfl, q0⟩ := g 0 _ (by omega) rfl
  have g2 : ∀ j v, j < 8 → (stpV l[k])[j]? = some v → w.cell? ⟨b, off + k * 8 + j, none⟩ = some v := fun j v hj hv => by
    obtain ⟨_, _, e, q⟩ := g j v hj hv
    cases e
    rw [Nat.add_assoc]
    exact q
  exact ⟨b, off, rfl, g2 0 _ (by omega) rfl, g2 1 _ (by omega) rfl, g2 2 _ (by omega) rfl, g2 3 _ (by omega) rfl, g2 4 _ (by omega) rfl, g2 5 _ (by omega) rfl, g2 6 _ (by omega) rfl, g2 7 _ (by omega) rfl⟩
theorem stps_keepX {z : Nat} {A B : World} {a : Option Addr} {L : List Stp} {p : Option Addr} {T : TypeId} {fr : Nat × Nat} (h : CellsAt A a (stpsV L)) (hk : KeepX (fun k _ => k = z) A B) (hx : A.heap[z]? = some (.cells #[.pointer p] T fr)) : CellsAt B a (stpsV L) := by
  cases L with
  | nil => exact CellsAt.nil _ _
  | cons e L =>
    obtain ⟨ba, oa, rfl, ca⟩ := stp_get h 0 (by simp)
    refine h.keepX hk fun ad had => ?_
    cases had
    show ba ≠ z
    rintro rfl
    have h1 := ca.c0
    rw [cell_of_row _ _ _ _ _ _ hx] at h1
    cases oa with
    | zero => simp at h1
    | succ oa => simp at h1
theorem doQ_len (l : List Ev) (k : Int) (s : Sv) (x : ByteArray) (d : Int) : (doQ l k s x d).length ≤ l.length + 1 := by
  unfold doQ
  split
  · split
    · simp
    · omega
  · split
    · rw [List.length_tail]; omega
    · split
      · rw [List.length_drop]; omega
      · omega
set_option maxRecDepth 100000 in
set_option maxHeartbeats 16000000 in
theorem law_Steps (l : List Ev) (ws : List Stp) (a b : Option Addr) (n n2 c c2 : Nat) (w : World) (hl : CellsAt w a (elsV l)) (hn : n = l.length) (hb : n ≤ 9223372036854775807) (hs : ∀ e ∈ l, e.1.l.size ≤ 9223372036854775807)
    (hl2 : CellsAt w b (stpsV ws)) (hn2 : n2 = ws.length) (hb2 : n2 ≤ 9223372036854775807) (hs2 : ∀ t ∈ ws, t.s.l.size ≤ 9223372036854775807) :
    Calls Try.prog 5 #[.slice a n c, .slice b n2 c2] w fun e w' => e = .returned (.bool true) ∧ Below w.heap.size w w' := by
  have HL := Lib.hid hl
  have HN := Lib.hid hn
  have HB := Lib.hid hb
  have HS := Lib.hid hs
  have HL2 := Lib.hid hl2
  have HN2 := Lib.hid hn2
  have HS2 := Lib.hid hs2
  clear hl hn hs hl2 hn2 hs2
  have HC : Hid (Chain [w] w) := Lib.hid (Chain.one w)
  go_enter Try.func5, Try.ntmps5
  by_cases q1 : 120 < n
  ·
    have q1i : (120 : Int) < (n : Int) := by omega
    go_wp2_with fail
    refine (known_13 _).mono ?_
    rintro e w1 ⟨rfl, hb⟩
    replace HC := Lib.hid (HC.out.push hb)
    clear hb
    go_wp2_with fail
    go_ret
    exact ⟨rfl, (HC.out.to w (by simp))⟩
  have q1i : ¬ (120 : Int) < (n : Int) := by omega
  have hn100 : n ≤ 100000 := by omega
  go_wp2_with fail
  refine (of_reg13 l _ n c _ (HL.out.below (HC.out.to w (by simp)) rfl) HN.out hn100 HS.out).mono ?_
  rintro e w1 ⟨t0, ce, rfl, ht, hb, _, hP⟩
  replace HC := Lib.hid (HC.out.push hb)
  clear hb
  have T1 := Lib.hid ht
  clear ht
  go_upto_region 4 with (fail)
  have LW1 : Hid (w.heap.size ≤ w1.heap.size) := Lib.hid (HC.out.to w (by simp)).size
  obtain ⟨z, hz⟩ : ∃ c, w1.heap.size = c := ⟨_, rfl⟩
  try rw [hz]
  obtain ⟨w2, hw2⟩ : ∃ X, allocs w1 [.cells #[.pointer (pa t0)] 27] = X := ⟨_, rfl⟩
  rw [show w1.alloc (.cells #[.pointer (pa t0)] 27) = w2 from hw2]
  have hb : Below w1.heap.size w1 w2 := by rw [← hw2]; exact allocs_below _ _
  have HM : Hid (w2.heap[z]? = some (.cells #[.pointer (pa t0)] 27 (0, 0))) := Lib.hid (by have := allocs_get [.cells #[.pointer (pa t0)] 27] w1 0 _ rfl; rw [hw2, hz] at this; exact this)
  have Sz : Hid (w1.heap.size = z) := Lib.hid hz
  replace HC := Lib.hid (HC.out.push hb)
  clear hb hw2 hz
  have ZM2 : Hid (z < w2.heap.size) := Lib.hid (Array.getElem?_eq_some_iff.1 HM.out).1
  go_wp2_with fail
  refine (ref13_May l _ n c _ (HL.out.below (HC.out.to w (by simp)) rfl) HN.out HB.out HS.out).mono ?_
  rintro e w3 ⟨rfl, hb⟩
  replace HC := Lib.hid (HC.out.push hb)
  clear hb
  cases hm : mayV l
  case false =>
    obtain ⟨rfl, rfl⟩ : ce = 2 ∧ t0 = .nil := by
      rcases hP with ⟨h, _⟩ | ⟨_, h1, h2⟩
      · rw [hm] at h; cases h
      · exact ⟨h1, h2⟩
    clear hP hm
    go_wp2_with fail
    refine (num_13 2 _).mono ?_
    rintro e _ ⟨rfl, rfl⟩
    have kM0 := cell_of_one (boxStays HM.out (HC.out.to w2 (by simp)))
    go_wp2_with fail
    refine (pm_MLenS .nil _ trivial).mono ?_
    rintro e w4 ⟨rfl, hb⟩
    clear kM0
    replace HC := Lib.hid (HC.out.push hb)
    clear hb
    rw [show ((sz (Tr.nil : Tr ByteArray) : Nat) : Int) = 0 from rfl]
    go_wp2_with fail
    refine (known_13 _).mono ?_
    rintro e w5 ⟨rfl, hb⟩
    replace HC := Lib.hid (HC.out.push hb)
    clear hb
    go_wp2_with fail
    go_ret
    exact ⟨rfl, (HC.out.to w (by simp))⟩
  obtain ⟨rfl, hr⟩ : ce = 0 ∧ Reg (sortV l) t0 := by
    rcases hP with ⟨_, h1, h2⟩ | ⟨h, _⟩
    · exact ⟨h1, h2⟩
    · rw [hm] at h; cases h
  have R0 := Lib.hid hr
  have L0 : Hid (n = (sortV l).length) := Lib.hid (by rw [sortV_length]; exact HN.out)
  clear hP hm hr
  have M3 := Lib.hid (boxStays HM.out (HC.out.to w2 (by simp)))
  have HL3 := Lib.hid (HL.out.below (HC.out.to w (by simp)) rfl)
  go_upto_region 6 with (fail)
  refine relG_start (slots := [35, 36, 37, 7, 8]) (so := [4]) (by kernel_rfl) (by kernel_rfl) (by rfl) ?_
  refine relG_pure (i := 0) (o := ⟨some 35, _, _, _, _, _⟩) (v := ?v1) [] [5] rfl rfl (by kernel_rfl) (by kernel_rfl) (fun t w1 hB hf hbf => ?y1) ?n1
  case y1 =>
    simp only [BasF] at hbf
    clear hf
    obtain ⟨⟨b5, k5⟩, _⟩ := hbf
    have m0 := cell_of_one (boxStays M3.out hB)
    refine Or.inl ⟨wanted_none rfl, ?_⟩
    rintro _ rfl
    go_simp <;> with_reducible rfl
  refine relG_pure (i := 1) (o := ⟨some 36, _, _, _, _, _⟩) (v := ?v2) [] [0] rfl rfl (by kernel_rfl) (by kernel_rfl) (fun t w1 hB hf hbf => ?y2) ?n2
  case y2 =>
    simp only [BasF] at hbf
    clear hf
    obtain ⟨⟨b0, k0⟩, _⟩ := hbf
    have m0 := cell_of_one (boxStays M3.out hB)
    refine Or.inl ⟨wanted_none rfl, ?_⟩
    rintro _ rfl
    go_simp <;> with_reducible rfl
  refine relG_call (i := 2) (o := ⟨some 37, _, _, _, _, _⟩) ((fun v w' => ∃ a c, v = .slice a n c ∧ CellsAt w' a (elsV (sortV l)) ∧ n ≤ c)) [(1, 36, 0)] [] rfl rfl (by kernel_rfl) (by kernel_rfl) ((fun v w' w'' h hb => by obtain ⟨a, c, e1, e2, e3⟩ := h; exact ⟨a, c, e1, e2.below hb rfl, e3⟩)) ?_ ?_
  · intro t w1 hB hf hbf K hK
    simp only [DepF, List.getD_cons_zero] at hf
    obtain ⟨⟨_, ⟨e36, i36⟩, rfl⟩, _⟩ := hf
    clear hbf
    have m0 := cell_of_one (boxStays M3.out hB)
    refine ⟨wanted_none rfl, ?_⟩
    go_simp
    refine (ref13_Sorted l _ n c w1 (HL3.out.below hB rfl) HN.out (by omega) HS.out).mono ?_
    rintro e w2 ⟨v, rfl, hown, hb⟩
    exact hK.out _ w2 ((by obtain ⟨a, c, rfl, h2, _⟩ := own_slice hown; exact ⟨a, c, rfl, CellsAt.ownN hown, h2⟩)) hb
  refine relG_call (i := 3) (o := ⟨some 7, _, _, _, _, _⟩) ((fun v w' => ∃ b, v = .pointer (some ⟨b, 0, none⟩) ∧ w3.heap.size ≤ b ∧ w'.heap[b]? = some (.cells #[.pointer none] 27 (0, 0)))) [] [] rfl rfl (by kernel_rfl) (by kernel_rfl) ((fun v w' w'' h hb => by obtain ⟨b, e1, e2, e3⟩ := h; exact ⟨b, e1, e2, boxStays e3 hb⟩)) ?_ ?_
  · intro t w1 hB hf hbf K hK
    clear hf
    clear hbf
    have m0 := cell_of_one (boxStays M3.out hB)
    refine ⟨wanted_none rfl, ?_⟩
    go_simp
    exact hK.out _ _ (⟨_, rfl, hB.size, heap_alloc_new _ _⟩) (below_new _ _)
  refine relG_skip 4 rfl (by rfl) ?_ (by kernel_rfl)
  refine relG_call (i := 5) (o := ⟨some 8, _, _, _, _, _⟩) ((fun v w' => ∃ a c, v = .slice a n c ∧ CellsAt w' a (elsV (sortV l)) ∧ n ≤ c)) [(2, 37, 2)] [] rfl rfl (by kernel_rfl) (by kernel_rfl) ((fun v w' w'' h hb => by obtain ⟨a, c, e1, e2, e3⟩ := h; exact ⟨a, c, e1, e2.below hb rfl, e3⟩)) ?_ ?_
  · intro t w1 hB hf hbf K hK
    simp only [DepF, List.getD_cons_zero, List.getD_cons_succ] at hf
    obtain ⟨⟨_, ⟨e37, i37⟩, ⟨aw, cw, rfl, hca, hcap⟩⟩, _⟩ := hf
    clear hbf
    have m0 := cell_of_one (boxStays M3.out hB)
    refine ⟨wanted_none rfl, ?_⟩
    go_simp
    exact hK.out _ _ (⟨_, _, rfl, hca, hcap⟩) (Below.refl _ _)
  refine relG_own 4 7 3 35 0 [(0, 35, 5), (1, 36, 4), (2, 37, 3), (3, 7, 2), (5, 8, 0)] [(0, 35, 5), (1, 36, 4), (2, 37, 3), (3, 7, 2)] (by kernel_rfl) rfl (by kernel_rfl) (by kernel_rfl) (by kernel_rfl) (by kernel_rfl) ?_ (fun f wE hB hf => ?_)
  · intro f w1 hB hf K hK
    simp only [FinF, List.getD_cons_zero, List.getD_cons_succ] at hf
    obtain ⟨⟨_, e35, rfl⟩, ⟨_, e36, rfl⟩, ⟨_, e37, ⟨aw, cw, rfl, hca, hcap⟩⟩, ⟨_, e7, ⟨zF, rfl, hbb, hbr⟩⟩, _⟩ := hf
    have m0 := cell_of_one (boxStays M3.out hB)
    refine sto_own (i := 4) 27 7 35 zF (#[.pointer (pa t0)]) _ _ rfl rfl rfl rfl (by rfl) (by rfl) e7 (by rfl) (by rfl) e35 (hbr) (by kernel_rfl) rfl (mp_one _) hK
  simp only [FinF, List.getD_cons_zero, List.getD_cons_succ] at hf
  obtain ⟨⟨_, e35, rfl⟩, ⟨_, e36, rfl⟩, ⟨_, e37, ⟨aw, cw, rfl, hca, hcap⟩⟩, ⟨_, e7, ⟨zF, rfl, hbb, hbr⟩⟩, ⟨_, e8, ⟨aw, cw, rfl, hca, hcap⟩⟩, _⟩ := hf
  simp only [blkOf, Value.cells, regT, List.foldl_cons, List.foldl_nil, List.setIfInBounds_toArray, List.set_cons_zero, List.set_cons_succ, e35, e36, e37, e7, e8]
  clear e35 e36 e37 e7 e8
  rw [setRow_one hbr]
  have hk := KeepX.setRow (Ex := fun k _ => k = zF) (KeepX.refl wE) hbr rfl 0 (.pointer (pa t0))
  have hcW := els_keepX hca hk hbr
  have hF := Boxed.set (t := 27) (.pointer (pa t0)) hbr
  have hb8 := hB.setCell (p := ⟨zF, 0, none⟩) hbb (.pointer (pa t0))
  have QD := Lib.hid hb8
  have CAP := Lib.hid hcap
  have ZF4 : Hid (w2.heap.size ≤ zF) := Lib.hid (Nat.le_trans (HC.out.to w2 (by simp)).size hbb)
  have QW := Lib.hid hcW
  have QF := Lib.hid hF
  clear hcap hb8 hB hbb hbr hca hF hcW hk
  generalize wE.setCell ⟨zF, 0, none⟩ (.pointer (pa t0)) = w4 at *
  have hb := QD.out
  have HF : Hid (w4.heap[zF]? = some (.cells #[.pointer (pa t0)] 27 (0, 0))) := Lib.hid QF.out
  replace HC := Lib.hid (HC.out.push hb)
  clear hb
  go_wp2_with fail
  refine (num_13 0 _).mono ?_
  rintro e _ ⟨rfl, rfl⟩
  have kM0 := cell_of_one (boxStays HM.out (HC.out.to w2 (by simp)))
  go_wp2_with fail
  refine (stands_13 (sortV l) t0 _ n _ _ (T1.out.below (HC.out.to w1 (by simp)) rfl) R0.out (QW.out.below (HC.out.to w4 (by simp)) rfl) L0.out (by omega)).mono ?_
  rintro e v8 ⟨rfl, hb⟩
  clear kM0
  replace HC := Lib.hid (HC.out.push hb)
  clear hb
  have M8 := Lib.hid (boxStays HM.out (HC.out.to w2 (by simp)))
  have T8 := Lib.hid (T1.out.below (HC.out.to w1 (by simp)) rfl)
  have F8 := Lib.hid (boxStays HF.out (HC.out.to w4 (by simp)))
  have W8 := Lib.hid (QW.out.below (HC.out.to w4 (by simp)) rfl)
  have A8 := Lib.hid (HL2.out.below (HC.out.to w (by simp)) rfl)
  have B8 := Lib.hid (HC.out.to w (by simp))
  have Z8 : Hid (w.heap.size ≤ z ∧ z < v8.heap.size) := Lib.hid ⟨by rw [← Sz.out]; exact LW1.out, (Array.getElem?_eq_some_iff.1 M8.out).1⟩
  have NE : Hid (zF ≠ z) := Lib.hid (by have := ZF4.out; have := ZM2.out; omega)
  clear HC
  go_wp2_with fail
  go_loopw [9, 10, 11] (fun now i okv wr => ∃ (k nL : Nat) (L : List Ev) (tr : Tr ByteArray) (an : Option Addr) (cn : Nat), k ≤ n2 ∧ k ≤ 60 ∧ i = .int .i64 (k : Int) ∧ now = .slice an nL cn ∧ Hid (nL = L.length) ∧ Hid (nL ≤ 120 + k) ∧ Hid (nL ≤ cn) ∧ Hid (CellsAt wr an (elsV L)) ∧ Hid (Reg L tr) ∧ Hid (AtS wr tr) ∧ Hid (wr.heap[z]? = some (.cells #[.pointer (pa tr)] 27 (0, 0))) ∧ Hid (KeepX (fun k _ => k = z) v8 wr)) (fun _ i _ _ => 60 - (intOf i).toNat)
  case atStart => exact ⟨0, n, sortV l, t0, aw, cw, Nat.zero_le _, Nat.zero_le _, rfl, rfl, L0, Lib.hid (by omega), CAP, W8, R0, T8, M8, Lib.hid (KeepX.refl _)⟩
  case round =>
    obtain ⟨k, nL, L, tr, an, cn, hk, hk60, rfl, rfl, HNL, HNB, HNC, HCL, HR, HAt, HM, HKX⟩ := hrel
    have HAT8 : Hid (AtS wr t0) := Lib.hid (T8.out.keepZ HKX.out M8.out (by decide))
    have HA8 : Hid (CellsAt wr b (stpsV ws)) := Lib.hid (stps_keepX A8.out HKX.out M8.out)
    have HW8 : Hid (CellsAt wr aw (elsV (sortV l))) := Lib.hid (els_keepX W8.out HKX.out M8.out)
    have HF : Hid (wr.heap[zF]? = some (.cells #[.pointer (pa t0)] 27 (0, 0))) := Lib.hid (HKX.out.row F8.out NE.out)
    have HBW : Hid (∀ W, Below wr.heap.size wr W → Below w.heap.size w W) := Lib.hid (fun W hW => by
      have h1 := HKX.out.toBelowZ (by have := Z8.out.2; omega)
      exact (B8.out.trans (h1.mono Z8.out.1)).trans (hW.mono (Nat.le_trans B8.out.size HKX.out.size)))
    have HC : Hid (Chain [wr] wr) := Lib.hid (Chain.one wr)
    by_cases h60 : k < 60
    · have h60i : (k : Int) < 60 := by omega
      by_cases hlt : k < n2
      · have hlti : (k : Int) < (n2 : Int) := by omega
        have hk1 : k < ws.length := by have := HN2.out; omega
        obtain ⟨ba, oa, rfl, _⟩ := stp_get HA8.out k hk1
        have HSX : Hid (ws[k].s.l.size ≤ 9223372036854775807) := Lib.hid (HS2.out _ (List.getElem_mem hk1))
        have HST : Hid (∀ W, CellsAt W (some ⟨ba, oa, none⟩) (stpsV ws) → StCell W ba (oa + k * 8) ws[k]) := Lib.hid (fun W h => by
          obtain ⟨_, _, e, q⟩ := stp_get h k hk1
          cases e
          exact q)
        generalize ws[k] = x at *
        have HNB2 : Hid (nL ≤ 1000) := Lib.hid (by have := HNB.out; omega)
        have HDO : Hid (∀ W, Below wr.heap.size wr W → Calls Try.prog 40 #[.agg #[.pointer (pa tr)], .slice an nL cn, .agg #[.int .i64 x.k, .int .i64 x.s.g, .int .i64 x.s.r, .string x.s.l, .int .i64 x.s.n, .int .i64 x.s.i, .string x.x, .int .i64 x.d]] W fun e w' => ∃ (L' : List Ev) (m : Tr ByteArray) (a' : Option Addr) (n' c' : Nat), L'.length ≤ L.length + 1 ∧ e = .returned (.tuple #[.agg #[.pointer (pa m)], .slice a' n' c', .bool true]) ∧ AtS w' m ∧ Reg L' m ∧ CellsAt w' a' (elsV L') ∧ n' = L'.length ∧ n' ≤ c' ∧ Below W.heap.size W w' ∧ ∀ {Ex : Nat → TypeId → Prop}, KeepX Ex W w') := Lib.hid (fun W hW => by
          refine (do_13 L tr an nL cn x.k x.s x.x x.d W (HAt.out.below hW rfl) HR.out (HCL.out.below hW rfl) HNL.out HNC.out HNB2.out HSX.out).mono ?_
          rintro e w' ⟨m, a', n', c', rfl, h1, h2, h3, h4, h5, h6⟩
          exact ⟨_, m, a', n', c', doQ_len L x.k x.s x.x x.d, rfl, h1, h2, h3, h4, h5, h6, KeepX.ofBelow h6⟩)
        go_upto_region 14 with (fail)
        have XZ : Hid (wr.drew.heap[z]? = some (.cells #[.pointer (pa tr)] 27 (0, 0))) := HM
        refine wp_region_noPanic ?_
        refine wp_region_held_drew (S := fun w' => KeepX (fun k _ => k = z) wr w') (by kernel_rfl) (KeepX.refl _).drew (fun hS => ?_)
        refine wpAnyH_take (i := 1) (oi := ⟨some 60, _, _, _, _, _⟩) (v := ?_) rfl (by kernel_rfl) (by kernel_rfl) (by kernel_rfl) (fun _ _ _ h => h) (Or.inl ⟨by rfl, ?_⟩) hS ?_
        rotate_left 1
        · intro w' hB; obtain ⟨p0, p1, p2, p3, p4, p5, p6, p7⟩ := HST.out w' (stps_keepX HA8.out hB HM.out); have hlti := hlti; (go_simp <;> with_reducible rfl)
        try simp only [Act.put, List.setIfInBounds_toArray, List.set_cons_zero, List.set_cons_succ]
        refine wpAnyH_take (i := 2) (oi := ⟨some 61, _, _, _, _, _⟩) (v := ?_) rfl (by kernel_rfl) (by kernel_rfl) (by kernel_rfl) (fun _ _ _ h => h) (Or.inl ⟨by rfl, ?_⟩) hS ?_
        rotate_left 1
        · intro w' hB; obtain ⟨p0, p1, p2, p3, p4, p5, p6, p7⟩ := HST.out w' (stps_keepX HA8.out hB HM.out); have hlti := hlti; (go_simp <;> with_reducible rfl)
        try simp only [Act.put, List.setIfInBounds_toArray, List.set_cons_zero, List.set_cons_succ]
        refine wpAnyH_take (i := 3) (oi := ⟨some 62, _, _, _, _, _⟩) (v := ?_) rfl (by kernel_rfl) (by kernel_rfl) (by kernel_rfl) (fun _ _ _ h => h) (Or.inl ⟨by rfl, ?_⟩) hS ?_
        rotate_left 1
        · intro w' hB; obtain ⟨p0, p1, p2, p3, p4, p5, p6, p7⟩ := HST.out w' (stps_keepX HA8.out hB HM.out); have hlti := hlti; (go_simp <;> with_reducible rfl)
        try simp only [Act.put, List.setIfInBounds_toArray, List.set_cons_zero, List.set_cons_succ]
        refine wpAnyH_take (i := 4) (oi := ⟨some 63, _, _, _, _, _⟩) (v := ?_) rfl (by kernel_rfl) (by kernel_rfl) (by kernel_rfl) (fun _ _ _ h => h) (Or.inl ⟨by rfl, ?_⟩) hS ?_
        rotate_left 1
        · intro w' hB; obtain ⟨p0, p1, p2, p3, p4, p5, p6, p7⟩ := HST.out w' (stps_keepX HA8.out hB HM.out); have hlti := hlti; (go_simp <;> with_reducible rfl)
        try simp only [Act.put, List.setIfInBounds_toArray, List.set_cons_zero, List.set_cons_succ]
        refine wpAnyH_take (i := 5) (oi := ⟨some 64, _, _, _, _, _⟩) (v := ?_) rfl (by kernel_rfl) (by kernel_rfl) (by kernel_rfl) (fun _ _ _ h => h) (Or.inl ⟨by rfl, ?_⟩) hS ?_
        rotate_left 1
        · intro w' hB; obtain ⟨p0, p1, p2, p3, p4, p5, p6, p7⟩ := HST.out w' (stps_keepX HA8.out hB HM.out); have hlti := hlti; (go_simp <;> with_reducible rfl)
        try simp only [Act.put, List.setIfInBounds_toArray, List.set_cons_zero, List.set_cons_succ]
        refine wpAnyH_ready (rs := [0]) (by kernel_rfl) (by simp) (AllReadyH.cons (o := ⟨some 59, _, _, _, _, _⟩) rfl (fun K hK => ?_) AllReadyH.nil)
        have m0 := cell_of_one XZ.out
        go_simp
        refine hK.out _ _ hS (fun _ => ?_)
        clear hK K m0
        try simp only [Act.put, List.setIfInBounds_toArray, List.set_cons_zero, List.set_cons_succ]
        refine wpAnyH_ready (rs := [6]) (by kernel_rfl) (by simp) (AllReadyH.cons (o := ⟨some 65, _, _, _, _, _⟩) rfl (fun K hK => ?_) AllReadyH.nil)
        go_simp
        refine (HDO.out _ (Below.refl _ wr).drew).mono ?_
        rintro e r2 ⟨L', m, a', n', c', hLL, rfl, hm, hr, hc, hn', hnc', hb', hb⟩
        refine hK.out _ _ (hS.trans (hb)) (fun _ => ?_)
        clear hK K
        replace hS := hS.trans (hb)
        have LL := Lib.hid hLL
        have XT := Lib.hid hm
        have RM := Lib.hid hr
        have XC := Lib.hid hc
        have NN := Lib.hid hn'
        have NC := Lib.hid hnc'
        replace XZ := Lib.hid (boxStays XZ.out hb')
        clear hLL hm hr hc hn' hnc' hb'
        clear hb
        try simp only [Act.put, List.setIfInBounds_toArray, List.set_cons_zero, List.set_cons_succ]
        refine wpAnyH_take (i := 7) (oi := ⟨some 58, _, _, _, _, _⟩) (v := ?_) rfl (by kernel_rfl) (by kernel_rfl) (by kernel_rfl) (fun _ _ _ h => h) (Or.inl ⟨by rfl, ?_⟩) hS ?_
        rotate_left 1
        · intro w' hB; obtain ⟨p0, p1, p2, p3, p4, p5, p6, p7⟩ := HST.out w' (stps_keepX HA8.out hB HM.out); have hlti := hlti; (go_simp <;> with_reducible rfl)
        try simp only [Act.put, List.setIfInBounds_toArray, List.set_cons_zero, List.set_cons_succ]
        refine wpAnyH_take (i := 8) (oi := ⟨some 66, _, _, _, _, _⟩) (v := ?_) rfl (by kernel_rfl) (by kernel_rfl) (by kernel_rfl) (fun _ _ _ h => h) (Or.inl ⟨by rfl, ?_⟩) hS ?_
        rotate_left 1
        · intro w' hB; obtain ⟨p0, p1, p2, p3, p4, p5, p6, p7⟩ := HST.out w' (stps_keepX HA8.out hB HM.out); have hlti := hlti; (go_simp <;> with_reducible rfl)
        try simp only [Act.put, List.setIfInBounds_toArray, List.set_cons_zero, List.set_cons_succ]
        refine wpAnyH_take (i := 9) (oi := ⟨some 67, _, _, _, _, _⟩) (v := ?_) rfl (by kernel_rfl) (by kernel_rfl) (by kernel_rfl) (fun _ _ _ h => h) (Or.inl ⟨by rfl, ?_⟩) hS ?_
        rotate_left 1
        · intro w' hB; obtain ⟨p0, p1, p2, p3, p4, p5, p6, p7⟩ := HST.out w' (stps_keepX HA8.out hB HM.out); have hlti := hlti; (go_simp <;> with_reducible rfl)
        try simp only [Act.put, List.setIfInBounds_toArray, List.set_cons_zero, List.set_cons_succ]
        refine wpAnyH_take (i := 10) (oi := ⟨some 68, _, _, _, _, _⟩) (v := ?_) rfl (by kernel_rfl) (by kernel_rfl) (by kernel_rfl) (fun _ _ _ h => h) (Or.inl ⟨by rfl, ?_⟩) hS ?_
        rotate_left 1
        · intro w' hB; obtain ⟨p0, p1, p2, p3, p4, p5, p6, p7⟩ := HST.out w' (stps_keepX HA8.out hB HM.out); have hlti := hlti; (go_simp <;> with_reducible rfl)
        try simp only [Act.put, List.setIfInBounds_toArray, List.set_cons_zero, List.set_cons_succ]
        refine wpAnyH_ready (rs := [11]) (by kernel_rfl) (by simp) (AllReadyH.cons (o := ⟨none, _, _, _, _, _⟩) rfl (fun K hK => ?_) AllReadyH.nil)
        have k19 := cell_of_one XZ.out
        have f19 := frozen_of_row _ z 0 _ _ XZ.out
        replace hS := KeepX.setRow hS XZ.out rfl 0 (Value.pointer (pa m))
        replace XT := Lib.hid (XT.out.setBox XZ.out (by decide) 0 (Value.pointer (pa m)))
        replace XC := Lib.hid (els_keepX XC.out (KeepX.setRow (KeepX.refl _) XZ.out rfl 0 (Value.pointer (pa m))) XZ.out)
        replace XZ := Lib.hid (Boxed.set (t := 27) (.pointer (pa m)) XZ.out)
        go_simp
        refine hK.out _ _ hS (fun _ => ?_)
        clear hK K k19 f19
        try simp only [Act.put, List.setIfInBounds_toArray, List.set_cons_zero, List.set_cons_succ]
        refine wpAnyH_take (i := 12) (oi := ⟨some 9, _, _, _, _, _⟩) (v := ?_) rfl (by kernel_rfl) (by kernel_rfl) (by kernel_rfl) (fun _ _ _ h => h) (Or.inl ⟨by rfl, ?_⟩) hS ?_
        rotate_left 1
        · intro w' hB; obtain ⟨p0, p1, p2, p3, p4, p5, p6, p7⟩ := HST.out w' (stps_keepX HA8.out hB HM.out); have hlti := hlti; (go_simp <;> with_reducible rfl)
        try simp only [Act.put, List.setIfInBounds_toArray, List.set_cons_zero, List.set_cons_succ]
        refine wpAnyH_take (i := 13) (oi := ⟨some 11, _, _, _, _, _⟩) (v := ?_) rfl (by kernel_rfl) (by kernel_rfl) (by kernel_rfl) (fun _ _ _ h => h) (Or.inl ⟨by rfl, ?_⟩) hS ?_
        rotate_left 1
        · intro w' hB; obtain ⟨p0, p1, p2, p3, p4, p5, p6, p7⟩ := HST.out w' (stps_keepX HA8.out hB HM.out); have hlti := hlti; (go_simp <;> with_reducible rfl)
        try simp only [Act.put, List.setIfInBounds_toArray, List.set_cons_zero, List.set_cons_succ]
        refine wpAnyH_done (by kernel_rfl) (NoPanic.normal ?_) _
        generalize r2.setCell ⟨z, 0, none⟩ (.pointer (pa m)) = rF at *
        have FK := Lib.hid (HKX.out.trans hS)
        have HM : Hid (rF.heap[z]? = some (.cells #[.pointer (pa m)] 27 (0, 0))) := Lib.hid XZ.out
        clear hS XZ HC
        have HC : Hid (Chain [rF] rF) := Lib.hid (Chain.one rF)
        have kM0 := cell_of_one HM.out
        go_wp2_with fail
        refine (stands_13 L' m a' n' c' _ XT.out RM.out XC.out NN.out (by have := NN.out; have := LL.out; have := HNL.out; have := HNB.out; omega)).mono ?_
        rintro e rG ⟨rfl, hb⟩
        clear kM0
        replace HC := Lib.hid (HC.out.push hb)
        clear hb
        have FA := Lib.hid (XT.out.below (HC.out.to rF (by simp)) rfl)
        have FM := Lib.hid (boxStays HM.out (HC.out.to rF (by simp)))
        have FC := Lib.hid (XC.out.below (HC.out.to rF (by simp)) rfl)
        have FK2 := Lib.hid (FK.out.trans (KeepX.ofBelow (HC.out.to rF (by simp))))
        go_wp2_with fail
        go_roundw
        case rel => exact ⟨k + 1, n', L', m, a', c', by omega, by omega, by go_num, rfl, NN, Lib.hid (by have := NN.out; have := LL.out; have := HNL.out; have := HNB.out; omega), NC, FC, RM, FA, FM, FK2⟩
        case measure => simp [intOf]; omega
      ·
        have hlti : ¬ (k : Int) < (n2 : Int) := by omega
        have kF0 := cell_of_one HF.out
        go_wp2_with fail
        refine (stands_13 (sortV l) t0 _ n _ _ (HAT8.out.below (HC.out.to wr (by simp)) rfl) R0.out (HW8.out.below (HC.out.to wr (by simp)) rfl) L0.out (by omega)).mono ?_
        rintro e y1 ⟨rfl, hb⟩
        clear kF0
        replace HC := Lib.hid (HC.out.push hb)
        clear hb
        go_wp2_with fail
        refine (known_13 _).mono ?_
        rintro e y2 ⟨rfl, hb⟩
        replace HC := Lib.hid (HC.out.push hb)
        clear hb
        go_wp2_with fail
        go_ret
        exact ⟨rfl, HBW.out _ (HC.out.to wr (by simp))⟩
    ·
      have h60i : ¬ (k : Int) < 60 := by omega
      by_cases hlt : k < n2
      · have hlti : (k : Int) < (n2 : Int) := by omega
        have kF0 := cell_of_one HF.out
        go_wp2_with fail
        refine (stands_13 (sortV l) t0 _ n _ _ (HAT8.out.below (HC.out.to wr (by simp)) rfl) R0.out (HW8.out.below (HC.out.to wr (by simp)) rfl) L0.out (by omega)).mono ?_
        rintro e y1 ⟨rfl, hb⟩
        clear kF0
        replace HC := Lib.hid (HC.out.push hb)
        clear hb
        go_wp2_with fail
        refine (known_13 _).mono ?_
        rintro e y2 ⟨rfl, hb⟩
        replace HC := Lib.hid (HC.out.push hb)
        clear hb
        go_wp2_with fail
        go_ret
        exact ⟨rfl, HBW.out _ (HC.out.to wr (by simp))⟩
      ·
        have hlti : ¬ (k : Int) < (n2 : Int) := by omega
        have kF0 := cell_of_one HF.out
        go_wp2_with fail
        refine (stands_13 (sortV l) t0 _ n _ _ (HAT8.out.below (HC.out.to wr (by simp)) rfl) R0.out (HW8.out.below (HC.out.to wr (by simp)) rfl) L0.out (by omega)).mono ?_
        rintro e y1 ⟨rfl, hb⟩
        clear kF0
        replace HC := Lib.hid (HC.out.push hb)
        clear hb
        go_wp2_with fail
        refine (known_13 _).mono ?_
        rintro e y2 ⟨rfl, hb⟩
        replace HC := Lib.hid (HC.out.push hb)
        clear hb
        go_wp2_with fail
        go_ret
        exact ⟨rfl, HBW.out _ (HC.out.to wr (by simp))⟩
end Go.Proofs.Ytnpiepimajippaa
namespace Go.Proofs.Ytnpiepimajippaa
open Go.ChangeShapes Go.WideShapes Go.ChangeAt Go.RowKit Go.Deep
section
variable {H : Type} {enc : TypeId × Value → H} {P : Program} {w : World} {base : Nat} {held : Bool}
theorem spot_none {a : Addr} {v : Value} (h : w.cell? (a.add 0) = some v) : ∃ b off, a = ⟨b, off, none⟩ := by
  obtain ⟨b, off, spot⟩ := a
  have hs : spot = none := by simpa [Addr.add] using World.cell?_spot h
  subst hs
  exact ⟨b, off, rfl⟩
end
end Go.Proofs.Ytnpiepimajippaa
namespace Go.Proofs.Ytnpiepimajippaa
open Go.ChangeShapes Go.WideShapes Go.ChangeAt Go.RowKit Go.Deep St
section
variable {H : Type} {enc : TypeId × Value → H} {w : World} {base : Nat} {held : Bool}
theorem maxLen_small {n : Nat} (h : n ≤ maxLen) : n ≤ 9223372036854775807 := by unfold maxLen at h; omega
set_option maxRecDepth 100000 in
theorem open_br {fuel : Nat} {cs : List Value} {x : DataW H × List MemPlace} (h : DataW.trod enc Try.prog w base (fun _ => true) held fuel 37 cs = some x) :
    ∃ (r : Int) (l : ByteArray), cs = [.int .i64 r, .string l] ∧ l.size ≤ maxLen := by
  obtain ⟨xs, n, _, _, hlen, hz, hff⟩ := DataW.trod_struct Try.underlying37 h
  rw [show Try.prog.cellsOf 37 = 2 by kernel_rfl] at hlen
  match cs, hlen with
  | [v0, v1], _ =>
    have q0 := hff 0 _ rfl
    have q1 := hff 1 _ rfl
    rw [List.getElem?_eq_getElem (by rw [hz]; decide)] at q0 q1
    change DataW.trod enc _ w base _ held n 3 (List.take (Try.prog.cellsOf 3) [v0, v1]) = _ at q0
    change DataW.trod enc _ w base _ held n 9 (List.take (Try.prog.cellsOf 9) [v1]) = _ at q1
    rw [show Try.prog.cellsOf 3 = 1 by kernel_rfl] at q0
    rw [show Try.prog.cellsOf 9 = 1 by kernel_rfl] at q1
    obtain ⟨r, k0, _⟩ := DataW.trod_int Try.underlying3 q0
    obtain ⟨l, k1, _, k2⟩ := DataW.trod_string Try.underlying9 q1
    simp only [List.take, List.cons.injEq, and_true] at k0 k1
    subst k0 k1
    exact ⟨r, l, rfl, k2⟩
set_option maxRecDepth 100000 in
theorem open_nm {fuel : Nat} {cs : List Value} {x : DataW H × List MemPlace} (h : DataW.trod enc Try.prog w base (fun _ => true) held fuel 39 cs = some x) :
    ∃ (r : Int) (l : ByteArray) (k : Int), cs = [.int .i64 r, .string l, .int .i64 k] ∧ l.size ≤ maxLen := by
  obtain ⟨xs, n, _, _, hlen, hz, hff⟩ := DataW.trod_struct Try.underlying39 h
  rw [show Try.prog.cellsOf 39 = 3 by kernel_rfl] at hlen
  match cs, hlen with
  | [v0, v1, v2], _ =>
    have q0 := hff 0 _ rfl
    have q1 := hff 1 _ rfl
    rw [List.getElem?_eq_getElem (by rw [hz]; decide)] at q0 q1
    change DataW.trod enc _ w base _ held n 37 (List.take (Try.prog.cellsOf 37) [v0, v1, v2]) = _ at q0
    change DataW.trod enc _ w base _ held n 2 (List.take (Try.prog.cellsOf 2) [v2]) = _ at q1
    rw [show Try.prog.cellsOf 37 = 2 by kernel_rfl] at q0
    rw [show Try.prog.cellsOf 2 = 1 by kernel_rfl] at q1
    obtain ⟨r, l, k0, kl⟩ := open_br q0
    obtain ⟨k, k1, _⟩ := DataW.trod_int Try.underlying2 q1
    simp only [List.take, List.cons.injEq, and_true] at k0 k1
    obtain ⟨k0, k0'⟩ := k0
    subst k0 k0' k1
    exact ⟨r, l, k, rfl, kl⟩
set_option maxRecDepth 100000 in
theorem open_sv {fuel : Nat} {cs : List Value} {x : DataW H × List MemPlace} (h : DataW.trod enc Try.prog w base (fun _ => true) held fuel 41 cs = some x) :
    ∃ s : Sv, cs = [.int .i64 s.g, .int .i64 s.r, .string s.l, .int .i64 s.n, .int .i64 s.i] ∧ s.l.size ≤ maxLen := by
  obtain ⟨xs, n, _, _, hlen, hz, hff⟩ := DataW.trod_struct Try.underlying41 h
  rw [show Try.prog.cellsOf 41 = 5 by kernel_rfl] at hlen
  match cs, hlen with
  | [v0, v1, v2, v3, v4], _ =>
    have q0 := hff 0 _ rfl
    have q1 := hff 1 _ rfl
    have q2 := hff 2 _ rfl
    rw [List.getElem?_eq_getElem (by rw [hz]; decide)] at q0 q1 q2
    change DataW.trod enc _ w base _ held n 2 (List.take (Try.prog.cellsOf 2) [v0, v1, v2, v3, v4]) = _ at q0
    change DataW.trod enc _ w base _ held n 39 (List.take (Try.prog.cellsOf 39) [v1, v2, v3, v4]) = _ at q1
    change DataW.trod enc _ w base _ held n 3 (List.take (Try.prog.cellsOf 3) [v4]) = _ at q2
    rw [show Try.prog.cellsOf 2 = 1 by kernel_rfl] at q0
    rw [show Try.prog.cellsOf 39 = 3 by kernel_rfl] at q1
    rw [show Try.prog.cellsOf 3 = 1 by kernel_rfl] at q2
    obtain ⟨g, k0, _⟩ := DataW.trod_int Try.underlying2 q0
    obtain ⟨r, l, k, k1, kl⟩ := open_nm q1
    obtain ⟨i, k2, _⟩ := DataW.trod_int Try.underlying3 q2
    simp only [List.take, List.cons.injEq, and_true] at k0 k1 k2
    obtain ⟨e1, e2, e3⟩ := k1
    subst k0 e1 e2 e3 k2
    exact ⟨⟨g, r, l, k, i⟩, rfl, kl⟩
set_option maxRecDepth 100000 in
theorem open_ev {fuel : Nat} {cs : List Value} {x : DataW H × List MemPlace} (h : DataW.trod enc Try.prog w base (fun _ => true) held fuel 47 cs = some x) :
    ∃ e : Ev, cs = elV e ∧ e.1.l.size ≤ maxLen ∧ e.2.size ≤ maxLen := by
  obtain ⟨xs, n, _, _, hlen, hz, hff⟩ := DataW.trod_struct Try.underlying47 h
  rw [show Try.prog.cellsOf 47 = 6 by kernel_rfl] at hlen
  match cs, hlen with
  | [v0, v1, v2, v3, v4, v5], _ =>
    have q0 := hff 0 _ rfl
    have q1 := hff 1 _ rfl
    rw [List.getElem?_eq_getElem (by rw [hz]; decide)] at q0 q1
    change DataW.trod enc _ w base _ held n 41 (List.take (Try.prog.cellsOf 41) [v0, v1, v2, v3, v4, v5]) = _ at q0
    change DataW.trod enc _ w base _ held n 9 (List.take (Try.prog.cellsOf 9) [v5]) = _ at q1
    rw [show Try.prog.cellsOf 41 = 5 by kernel_rfl] at q0
    rw [show Try.prog.cellsOf 9 = 1 by kernel_rfl] at q1
    obtain ⟨s, k0, kl⟩ := open_sv q0
    obtain ⟨t, k1, _, kt⟩ := DataW.trod_string Try.underlying9 q1
    simp only [List.take, List.cons.injEq, and_true] at k0 k1
    obtain ⟨e1, e2, e3, e4, e5⟩ := k0
    subst e1 e2 e3 e4 e5 k1
    exact ⟨(s, t), rfl, kl, kt⟩
theorem flat_get {α : Type} (f : α → List Value) (m : Nat) (hf : ∀ x, (f x).length = m) (hm : 0 < m) : ∀ (l : List α) (i r : Nat) (hi : i < l.length), r < m → (l.flatMap f)[i * m + r]? = (f l[i])[r]?
  | [], i, r, hi, _ => by simp at hi
  | x :: l, 0, r, _, hr => by
    rw [List.flatMap_cons, Nat.zero_mul, Nat.zero_add, List.getElem?_append_left (by rw [hf]; exact hr)]
    rfl
  | x :: l, i + 1, r, hi, hr => by
    rw [List.flatMap_cons, List.getElem?_append_right (by rw [hf, Nat.succ_mul]; omega), hf, Nat.succ_mul]
    rw [show i * m + m + r - m = i * m + r by omega, flat_get f m hf hm l i r (by simpa using hi) hr]
    rfl
theorem flat_len {α : Type} (f : α → List Value) (m : Nat) (hf : ∀ x, (f x).length = m) : ∀ (l : List α), (l.flatMap f).length = l.length * m
  | [] => by simp
  | x :: l => by rw [List.flatMap_cons, List.length_append, hf, flat_len f m hf l, List.length_cons, Nat.succ_mul]; omega
theorem open_structs {α : Type} [Inhabited α] (f : α → List Value) (m : Nat) (hf : ∀ x, (f x).length = m) (hm : 0 < m) (G : α → Prop) {t e : TypeId} {fuel : Nat} {a0 : Option Addr} {len cap : Nat} {x : DataW H × List MemPlace} (ht : Try.prog.underlying t = some (.slice e)) (ce : Try.prog.cellsOf e = m)
    (each : ∀ {fuel : Nat} {cs : List Value} {x : DataW H × List MemPlace}, DataW.trod enc Try.prog w base (fun _ => true) held fuel e cs = some x → ∃ y : α, cs = f y ∧ G y)
    (h : DataW.trod enc Try.prog w base (fun _ => true) held fuel t (Value.slice a0 len cap).cells.toList = some x) :
    ∃ l : List α, len = l.length ∧ CellsAt w a0 (l.flatMap f) ∧ l.length ≤ maxLen ∧ ∀ y ∈ l, G y := by
  rcases open_slice ht h with ⟨hcs, _⟩ | ⟨a, l, c, k, n, D, Pl, hcs, _, hl, hmx, hmm, hx, hi⟩
  · simp [Value.cells] at hcs
    obtain ⟨rfl, rfl, rfl⟩ := hcs
    exact ⟨[], rfl, CellsAt.nil _ _, Nat.zero_le _, fun y hy => by cases hy⟩
  · simp [Value.cells] at hcs
    obtain ⟨rfl, rfl, rfl⟩ := hcs
    simp only [if_true] at hmm
    subst hmm
    have each2 : ∀ i, i < k → ∃ y : α, (∀ r, r < m → w.cell? ((a.add (i * m)).add r) = (f y)[r]?) ∧ G y := by
      intro i hik
      obtain ⟨cs', hc, htr⟩ := hi i hik
      rw [ce] at hc
      obtain ⟨y, rfl, hg⟩ := each htr
      obtain ⟨_, hcl, hat⟩ := World.cells?_some hc
      refine ⟨y, fun r hr => ?_, hg⟩
      have := hat r hr
      rw [this]
      try rw [List.getElem?_eq_getElem]
      done
    obtain ⟨F, hF⟩ := choose_lt (α := α) (n := k) (p := fun i y => (∀ r, r < m → w.cell? ((a.add (i * m)).add r) = (f y)[r]?) ∧ G y) each2
    refine ⟨(List.range len).map F, by simp, fun q hq => ?_, by simp; omega, fun y hy => ?_⟩
    · have hlenF : (((List.range len).map F).flatMap f).length = len * m := by rw [flat_len f m hf]; simp
      have hq2 : q < len * m := by rw [← hlenF]; exact hq
      have hqm : q / m < len := Nat.div_lt_of_lt_mul (by rw [Nat.mul_comm]; exact hq2)
      have hp : 0 < k := Nat.lt_of_le_of_lt (Nat.zero_le _) (Nat.lt_of_lt_of_le hqm hl)
      have z0 := (hF 0 hp).1 0 hm
      rw [List.getElem?_eq_getElem (by rw [hf]; exact hm), Nat.zero_mul] at z0
      obtain ⟨b, off, rfl⟩ := spot_none (a := a) z0
      refine ⟨b, off, rfl, ?_⟩
      have hr : q % m < m := Nat.mod_lt _ hm
      have hk := (hF (q / m) (Nat.lt_of_lt_of_le hqm hl)).1 (q % m) hr
      have hg := flat_get f m hf hm ((List.range len).map F) (q / m) (q % m) (by simpa using hqm) hr
      simp only [List.getElem_map, List.getElem_range] at hg
      have hqe : q / m * m + q % m = q := by rw [Nat.mul_comm]; exact Nat.div_add_mod q m
      rw [hqe] at hg
      rw [Addr_add, Addr_add, Nat.add_assoc, hqe] at hk
      rw [hk, ← hg, List.getElem?_eq_getElem hq]
    · obtain ⟨i, hi', rfl⟩ := List.mem_map.1 hy
      exact (hF i (by have := List.mem_range.1 hi'; omega)).2
instance : Inhabited Ev := ⟨(⟨0, 0, ⟨#[]⟩, 0, 0⟩, ⟨#[]⟩)⟩
theorem open_els {fuel : Nat} {a0 : Option Addr} {len cap : Nat} {x : DataW H × List MemPlace} (h : DataW.trod enc Try.prog w base (fun _ => true) held fuel 22 (Value.slice a0 len cap).cells.toList = some x) :
    ∃ l : List Ev, len = l.length ∧ CellsAt w a0 (elsV l) ∧ l.length ≤ maxLen ∧ ∀ e ∈ l, e.1.l.size ≤ 9223372036854775807 ∧ e.2.size ≤ maxLen :=
  open_structs (α := Ev) elV 6 (fun _ => rfl) (by omega) (fun e => e.1.l.size ≤ 9223372036854775807 ∧ e.2.size ≤ maxLen) Try.underlying22 (by kernel_rfl) (fun h => by obtain ⟨e, h1, h2, h3⟩ := open_ev h; exact ⟨e, h1, maxLen_small h2, h3⟩) h
end
end Go.Proofs.Ytnpiepimajippaa
namespace Go.Proofs.Ytnpiepimajippaa
open Go.ChangeShapes Go.WideShapes Go.ChangeAt Go.RowKit Go.Deep St
section
variable {H : Type} {enc : TypeId × Value → H} {w : World} {base : Nat} {held : Bool}
set_option maxRecDepth 100000 in
theorem open_stp {fuel : Nat} {cs : List Value} {x : DataW H × List MemPlace} (h : DataW.trod enc Try.prog w base (fun _ => true) held fuel 56 cs = some x) :
    ∃ t : Stp, cs = stpV t ∧ t.s.l.size ≤ maxLen := by
  obtain ⟨xs, n, _, _, hlen, hz, hff⟩ := DataW.trod_struct Try.underlying56 h
  rw [show Try.prog.cellsOf 56 = 8 by kernel_rfl] at hlen
  match cs, hlen with
  | [v0, v1, v2, v3, v4, v5, v6, v7], _ =>
    have q0 := hff 0 _ rfl
    have q1 := hff 1 _ rfl
    have q2 := hff 2 _ rfl
    have q3 := hff 3 _ rfl
    rw [List.getElem?_eq_getElem (by rw [hz]; decide)] at q0 q1 q2 q3
    change DataW.trod enc _ w base _ held n 3 (List.take (Try.prog.cellsOf 3) [v0, v1, v2, v3, v4, v5, v6, v7]) = _ at q0
    change DataW.trod enc _ w base _ held n 41 (List.take (Try.prog.cellsOf 41) [v1, v2, v3, v4, v5, v6, v7]) = _ at q1
    change DataW.trod enc _ w base _ held n 9 (List.take (Try.prog.cellsOf 9) [v6, v7]) = _ at q2
    change DataW.trod enc _ w base _ held n 3 (List.take (Try.prog.cellsOf 3) [v7]) = _ at q3
    rw [show Try.prog.cellsOf 3 = 1 by kernel_rfl] at q0 q3
    rw [show Try.prog.cellsOf 41 = 5 by kernel_rfl] at q1
    rw [show Try.prog.cellsOf 9 = 1 by kernel_rfl] at q2
    obtain ⟨k, k0, _⟩ := DataW.trod_int Try.underlying3 q0
    obtain ⟨s, k1, kl⟩ := open_sv q1
    obtain ⟨t, k2, _, kt⟩ := DataW.trod_string Try.underlying9 q2
    obtain ⟨d, k3, _⟩ := DataW.trod_int Try.underlying3 q3
    simp only [List.take, List.cons.injEq, and_true] at k0 k1 k2 k3
    obtain ⟨e1, e2, e3, e4, e5⟩ := k1
    subst e1 e2 e3 e4 e5 k0 k2 k3
    exact ⟨⟨k, s, t, d⟩, rfl, kl⟩
instance : Inhabited Stp := ⟨⟨0, ⟨0, 0, ⟨#[]⟩, 0, 0⟩, ⟨#[]⟩, 0⟩⟩
theorem open_stps {fuel : Nat} {a0 : Option Addr} {len cap : Nat} {x : DataW H × List MemPlace} (h : DataW.trod enc Try.prog w base (fun _ => true) held fuel 52 (Value.slice a0 len cap).cells.toList = some x) :
    ∃ l : List Stp, len = l.length ∧ CellsAt w a0 (stpsV l) ∧ l.length ≤ maxLen ∧ ∀ t ∈ l, t.s.l.size ≤ 9223372036854775807 :=
  open_structs (α := Stp) stpV 8 (fun _ => rfl) (by omega) (fun t => t.s.l.size ≤ 9223372036854775807) Try.underlying52 (by kernel_rfl) (fun h => by obtain ⟨t, h1, h2⟩ := open_stp h; exact ⟨t, h1, maxLen_small h2⟩) h
end
end Go.Proofs.Ytnpiepimajippaa
