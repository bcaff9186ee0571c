/- Words, contracts and walks that the proof stands on (QuK Tail PmPS PmSS WkAS). -/
import Derived.Deep.RegionHeld3
import Derived.MapKept
import Derived.Maps.Own
import Derived.RangeFuncKeeps
import Derived.RangeFuncWrites
import Derived.Test.YtnpiepimajippaaRG1
import Derived.Test.YtnpiepimajippaaRG10
import Derived.Test.YtnpiepimajippaaRG12
import Derived.Test.YtnpiepimajippaaRG4
namespace Go.Proofs.Ytnpiepimajippaa
open Go.RowKit St Pm
def tA : ByteArray := ⟨#[97]⟩
def tB : ByteArray := ⟨#[98]⟩
def tC : ByteArray := ⟨#[99]⟩
theorem at_ok (g : Int) (x : ByteArray) (h1 : 1 ≤ g) (h2 : g ≤ 100) (hx : x.size ≤ 256) : okV (atV g x) = true := by
  refine okV_iff.2 ⟨Sv.ok_iff.2 ⟨h1, ?_, ?_, ?_, ?_, ?_, ?_, ?_, ?_⟩, hx⟩
  · show g ≤ _; omega
  · show (0 : Int) ≤ 0; omega
  · show (0 : Int) < 8; omega
  · show okLabel [97] = true; decide
  · show (1 : Int) ≤ 1; omega
  · show (1 : Int) ≤ _; omega
  · show (0 : Int) ≤ 0; omega
  · show (0 : Int) < 64; omega
theorem at_lt (g h : Int) (x y : ByteArray) : decide (svC (atV g x).1 (atV h y).1 < 0) = decide (g < h) := by
  have e : txtC labA labA = 0 := by unfold txtC; rw [klt_irrefl]; rfl
  show decide (firstC (firstC (numC g h) (firstC (firstC (numC 0 0) (txtC labA labA)) (numC 1 1))) (numC 0 0) < 0) = _
  rw [e, show numC 0 0 = 0 from rfl, show numC 1 1 = 0 from rfl]
  show decide (firstC (firstC (numC g h) 0) 0 < 0) = _
  unfold numC firstC
  by_cases h1 : g < h
  · rw [if_pos h1]; simp [h1]
  · rw [if_neg h1]
    by_cases h2 : g > h
    · rw [if_pos h2]; simp [h1]
    · rw [if_neg h2]; simp [h1]
theorem k_sort : sortV [atV 2 tB, atV 1 tA] = [atV 1 tA, atV 2 tB] := by
  show insV (atV 1 tA) (insV (atV 2 tB) []) = _
  have e1 : insV (atV 2 tB) [] = [atV 2 tB] := rfl
  rw [e1]
  unfold insV
  have e2 : aheadV (atV 1 tA) (atV 2 tB) = false := by
    unfold aheadV
    rw [at_lt]
    simp [atV]
  rw [List.takeWhile_cons, List.dropWhile_cons, e2]
  rfl
theorem k_may : mayV [atV 2 tB, atV 1 tA] = true := mayV_iff.2 ⟨fun x hx => by
  simp only [List.mem_cons, List.not_mem_nil, or_false] at hx
  rcases hx with rfl | rfl
  · exact at_ok _ _ (by omega) (by omega) (by decide)
  · exact at_ok _ _ (by omega) (by omega) (by decide), by simp [atV]⟩
theorem k_beh (g : Int) : behindV [atV 1 tA, atV 2 tB] (atV g ⟨#[]⟩).1 = decide (2 < g) := at_lt 2 g tB ⟨#[]⟩
theorem k_fit (g : Int) (h1 : 1 ≤ g) (h2 : g ≤ 100) : okV ((atV g ⟨#[]⟩).1, tC) = true := at_ok g tC h1 h2 (by decide)
theorem k_lab (L : List Ev) (h : ∀ x ∈ L, x.1.l = labA) : ∀ e ∈ L, e.1.l.size ≤ 9223372036854775807 := fun e he => by rw [h e he]; decide
theorem num_13b (x : Int) (w : World) : Calls Try.prog 37 #[.int .i64 x] w fun e w' => e = .returned (.int .i64 x) ∧ Below w.heap.size w w' := (num_13 x w).mono fun _ _ ⟨h1, h2⟩ => ⟨h1, by rw [← h2]; exact Below.refl _ _⟩
theorem first_reg {l : List Ev} {t : Tr ByteArray} (w : World) (h : AtS w t) (hr : Reg l t) (hz : l.length ≤ 100000) :
    Calls Try.prog 65 #[.agg #[.pointer (pa t)]] w fun e w' => ∃ x : Ev, e = .returned (.tuple #[.agg #[.int .i64 x.1.g, .int .i64 x.1.r, .string x.1.l, .int .i64 x.1.n, .int .i64 x.1.i, .string x.2], .bool (firstE l).2]) ∧ x = (firstE l).1 ∧ Below w.heap.size w w' := by
  have := qu_First t w h (by rw [hr.len]; exact hz) hr.keys
  rw [hr.shown] at this
  exact this
set_option maxRecDepth 100000 in
set_option maxHeartbeats 8000000 in
theorem known_13 (w : World) : Calls Try.prog 34 #[] w fun e w' => e = .returned (.bool true) ∧ Below w.heap.size w w' := by
  have HC : Hid (Chain [w] w) := Lib.hid (Chain.one w)
  go_enter Try.func34, Try.ntmps34
  go_wp2_with fail
  refine (at_13 2 ⟨#[98]⟩ _).mono ?_
  rintro e w1 ⟨rfl, hb⟩
  replace HC := Lib.hid (HC.out.push hb)
  clear hb
  go_wp2_with fail
  refine (at_13 1 ⟨#[97]⟩ _).mono ?_
  rintro e w2 ⟨rfl, hb⟩
  replace HC := Lib.hid (HC.out.push hb)
  clear hb
  go_wp2_with fail
  obtain ⟨c3, hc3⟩ : ∃ c, w2.heap.size = c := ⟨_, rfl⟩
  try rw [hc3]
  obtain ⟨w3, hw3⟩ : ∃ X, allocs w2 [.cells #[.int .i64 2, .int .i64 0, .string labA, .int .i64 1, .int .i64 0, .string ⟨#[98]⟩, .int .i64 1, .int .i64 0, .string labA, .int .i64 1, .int .i64 0, .string ⟨#[97]⟩] 47] = X := ⟨_, rfl⟩
  rw [show w2.alloc (.cells #[.int .i64 2, .int .i64 0, .string labA, .int .i64 1, .int .i64 0, .string ⟨#[98]⟩, .int .i64 1, .int .i64 0, .string labA, .int .i64 1, .int .i64 0, .string ⟨#[97]⟩] 47) = w3 from hw3]
  have hb : Below w2.heap.size w2 w3 := by rw [← hw3]; exact allocs_below _ _
  have HE : Hid (w3.heap[c3]? = some (.cells #[.int .i64 2, .int .i64 0, .string labA, .int .i64 1, .int .i64 0, .string ⟨#[98]⟩, .int .i64 1, .int .i64 0, .string labA, .int .i64 1, .int .i64 0, .string ⟨#[97]⟩] 47 (0, 0))) := Lib.hid (by have := allocs_get [.cells #[.int .i64 2, .int .i64 0, .string labA, .int .i64 1, .int .i64 0, .string ⟨#[98]⟩, .int .i64 1, .int .i64 0, .string labA, .int .i64 1, .int .i64 0, .string ⟨#[97]⟩] 47] w2 0 _ rfl; rw [hw3, hc3] at this; exact this)
  have Sc3 : Hid (w2.heap.size = c3) := Lib.hid hc3
  replace HC := Lib.hid (HC.out.push hb)
  clear hb hw3 hc3
  refine (of_reg13 [atV 2 tB, atV 1 tA] (some ⟨c3, 0, none⟩) 2 2 _ (cells_row HE.out) rfl (by omega) (k_lab _ (by simp [atV]))).mono ?_
  rintro e w4 ⟨t, ce, rfl, ht, hb, _, hP⟩
  replace HC := Lib.hid (HC.out.push hb)
  clear hb
  have T4 := Lib.hid ht
  obtain ⟨rfl, hr⟩ : ce = 0 ∧ Reg [atV 1 tA, atV 2 tB] t := by
    rcases hP with ⟨_, h1, h2⟩ | ⟨h, _⟩
    · rw [k_sort] at h2; exact ⟨h1, h2⟩
    · rw [k_may] at h; cases h
  have R4 := Lib.hid hr
  clear hP hr ht
  go_upto_region 2 with (fail)
  obtain ⟨c5, hc5⟩ : ∃ c, w4.heap.size = c := ⟨_, rfl⟩
  try rw [hc5]
  obtain ⟨w5, hw5⟩ : ∃ X, allocs w4 [.cells #[.pointer (pa t)] 27] = X := ⟨_, rfl⟩
  rw [show w4.alloc (.cells #[.pointer (pa t)] 27) = w5 from hw5]
  have hb : Below w4.heap.size w4 w5 := by rw [← hw5]; exact allocs_below _ _
  have HM : Hid (w5.heap[c5]? = some (.cells #[.pointer (pa t)] 27 (0, 0))) := Lib.hid (by have := allocs_get [.cells #[.pointer (pa t)] 27] w4 0 _ rfl; rw [hw5, hc5] at this; exact this)
  have Sc5 : Hid (w4.heap.size = c5) := Lib.hid hc5
  replace HC := Lib.hid (HC.out.push hb)
  clear hb hw5 hc5
  have kM0 := cell_of_one HM.out
  go_wp2_with fail
  refine (first_reg _ (T4.out.below (HC.out.to w4 (by simp)) rfl) R4.out (by simp)).mono ?_
  rintro e w6 ⟨x, rfl, rfl, hb⟩
  clear kM0
  replace HC := Lib.hid (HC.out.push hb)
  clear hb
  simp only [firstE, atV, tA]
  go_upto_region 3 with (fail)
  obtain ⟨c7, hc7⟩ : ∃ c, w6.heap.size = c := ⟨_, rfl⟩
  try rw [hc7]
  obtain ⟨w7, hw7⟩ : ∃ X, allocs w6 [.cells #[.int .i64 1, .int .i64 0, .string labA, .int .i64 1, .int .i64 0, .string ⟨#[97]⟩] 47] = X := ⟨_, rfl⟩
  rw [show w6.alloc (.cells #[.int .i64 1, .int .i64 0, .string labA, .int .i64 1, .int .i64 0, .string ⟨#[97]⟩] 47) = w7 from hw7]
  have hb : Below w6.heap.size w6 w7 := by rw [← hw7]; exact allocs_below _ _
  have HX : Hid (w7.heap[c7]? = some (.cells #[.int .i64 1, .int .i64 0, .string labA, .int .i64 1, .int .i64 0, .string ⟨#[97]⟩] 47 (0, 0))) := Lib.hid (by have := allocs_get [.cells #[.int .i64 1, .int .i64 0, .string labA, .int .i64 1, .int .i64 0, .string ⟨#[97]⟩] 47] w6 0 _ rfl; rw [hw7, hc7] at this; exact this)
  have Sc7 : Hid (w6.heap.size = c7) := Lib.hid hc7
  replace HC := Lib.hid (HC.out.push hb)
  clear hb hw7 hc7
  have M7 := Lib.hid (boxStays HM.out (HC.out.to w5 (by simp)))
  have T7 := Lib.hid (T4.out.below (HC.out.to w4 (by simp)) rfl)
  refine relG_start (slots := [31, 32, 33, 34, 30, 35, 36, 5, 6]) (so := [8]) (by kernel_rfl) (by kernel_rfl) (by rfl) ?_
  refine relG_pure (i := 0) (o := ⟨some 31, _, _, _, _, _⟩) (v := ?v1) [] [1] rfl rfl (by kernel_rfl) (by kernel_rfl) (fun t w1 hB hf hbf => ?y1) ?n1
  case y1 =>
    simp only [BasF] at hbf
    clear hf
    obtain ⟨⟨b1, k1⟩, _⟩ := hbf
    have m0 := cell_of_one (boxStays M7.out hB)
    refine Or.inl ⟨wanted_none rfl, ?_⟩
    rintro _ rfl
    go_simp <;> with_reducible rfl
  refine relG_call (i := 1) (o := ⟨some 32, _, _, _, _, _⟩) ((fun v _ => v = .agg #[.int .i64 1, .int .i64 0, .string labA, .int .i64 1, .int .i64 0, .string ⟨#[]⟩])) [] [] rfl rfl (by kernel_rfl) (by kernel_rfl) ((fun _ _ _ h _ => h)) ?_ ?_
  · intro t w1 hB hf hbf K hK
    clear hf
    clear hbf
    have m0 := cell_of_one (boxStays M7.out hB)
    refine ⟨wanted_none rfl, ?_⟩
    go_simp
    refine (at_13 1 ⟨#[]⟩ w1).mono ?_
    rintro e w2 ⟨rfl, hb⟩
    exact hK.out _ w2 (rfl) hb
  refine relG_pure (i := 2) (o := ⟨some 33, _, _, _, _, _⟩) (v := ?v2) [(1, 32, 0)] [] rfl rfl (by kernel_rfl) (by kernel_rfl) (fun t w1 hB hf hbf => ?y2) ?n2
  case y2 =>
    simp only [DepF, List.getD_cons_zero] at hf
    obtain ⟨⟨_, ⟨e32, i32⟩, rfl⟩, _⟩ := hf
    clear hbf
    have m0 := cell_of_one (boxStays M7.out hB)
    have fd := fld_st 1 0 1 0 labA ⟨#[]⟩
    refine Or.inl ⟨wanted_none rfl, ?_⟩
    rintro _ rfl
    go_simp <;> with_reducible rfl
  refine relG_call (i := 3) (o := ⟨some 34, _, _, _, _, _⟩) ((fun v w' => v = .tuple #[.agg #[.pointer none], .int .i64 2])) [(0, 31, 2), (2, 33, 0)] [] rfl rfl (by kernel_rfl) (by kernel_rfl) ((fun v w' w'' h hb => h)) ?_ ?_
  · intro t w1 hB hf hbf K hK
    simp only [DepF, List.getD_cons_zero, List.getD_cons_succ] at hf
    obtain ⟨⟨_, ⟨e31, i31⟩, rfl⟩, ⟨_, ⟨e33, i33⟩, rfl⟩, _⟩ := hf
    clear hbf
    have m0 := cell_of_one (boxStays M7.out hB)
    refine ⟨wanted_none rfl, ?_⟩
    go_simp
    refine (put_reg13 (atV 1 ⟨#[]⟩).1 tC w1 (T7.out.below hB rfl) R4.out (by simp) (by decide)).mono ?_
    rintro e w2 ⟨m, ce, rfl, hm, hb, hP⟩
    exact hK.out _ w2 ((by rcases hP with ⟨h, _⟩ | ⟨_, h1, h2⟩; rw [k_beh] at h; simp at h; rw [h1, h2]; rfl)) hb
  refine relG_pure (i := 4) (o := ⟨some 30, _, _, _, _, _⟩) (v := ?v3) [(3, 34, 0)] [] rfl rfl (by kernel_rfl) (by kernel_rfl) (fun t w1 hB hf hbf => ?y3) ?n3
  case y3 =>
    simp only [DepF, List.getD_cons_zero] at hf
    obtain ⟨⟨_, ⟨e34, i34⟩, rfl⟩, _⟩ := hf
    clear hbf
    have m0 := cell_of_one (boxStays M7.out hB)
    refine Or.inl ⟨wanted_none rfl, ?_⟩
    rintro _ rfl
    go_simp <;> with_reducible rfl
  refine relG_pure (i := 5) (o := ⟨some 35, _, _, _, _, _⟩) (v := ?v4) [(4, 30, 0)] [] rfl rfl (by kernel_rfl) (by kernel_rfl) (fun t w1 hB hf hbf => ?y4) ?n4
  case y4 =>
    simp only [DepF, List.getD_cons_zero] at hf
    obtain ⟨⟨_, ⟨e30, i30⟩, rfl⟩, _⟩ := hf
    clear hbf
    have m0 := cell_of_one (boxStays M7.out hB)
    refine Or.inl ⟨wanted_none rfl, ?_⟩
    rintro _ rfl
    go_simp <;> with_reducible rfl
  refine relG_pure (i := 6) (o := ⟨some 36, _, _, _, _, _⟩) (v := ?v5) [(4, 30, 1)] [] rfl rfl (by kernel_rfl) (by kernel_rfl) (fun t w1 hB hf hbf => ?y5) ?n5
  case y5 =>
    simp only [DepF, List.getD_cons_zero, List.getD_cons_succ] at hf
    obtain ⟨⟨_, ⟨e30, i30⟩, rfl⟩, _⟩ := hf
    clear hbf
    have m0 := cell_of_one (boxStays M7.out hB)
    refine Or.inl ⟨wanted_none rfl, ?_⟩
    rintro _ rfl
    go_simp <;> with_reducible rfl
  refine relG_call (i := 7) (o := ⟨some 5, _, _, _, _, _⟩) ((fun v w' => ∃ b, v = .pointer (some ⟨b, 0, none⟩) ∧ w7.heap.size ≤ b ∧ w'.heap[b]? = some (.cells #[.pointer none] 27 (0, 0)))) [] [] rfl rfl (by kernel_rfl) (by kernel_rfl) ((fun v w' w'' h hb => by obtain ⟨b, e1, e2, e3⟩ := h; exact ⟨b, e1, e2, boxStays e3 hb⟩)) ?_ ?_
  · intro t w1 hB hf hbf K hK
    clear hf
    clear hbf
    have m0 := cell_of_one (boxStays M7.out hB)
    refine ⟨wanted_none rfl, ?_⟩
    go_simp
    exact hK.out _ _ (⟨_, rfl, hB.size, heap_alloc_new _ _⟩) (below_new _ _)
  refine relG_skip 8 rfl (by rfl) ?_ (by kernel_rfl)
  refine relG_pure (i := 9) (o := ⟨some 6, _, _, _, _, _⟩) (v := ?v6) [(6, 36, 2)] [] rfl rfl (by kernel_rfl) (by kernel_rfl) (fun t w1 hB hf hbf => ?y6) ?n6
  case y6 =>
    simp only [DepF, List.getD_cons_zero, List.getD_cons_succ] at hf
    obtain ⟨⟨_, ⟨e36, i36⟩, rfl⟩, _⟩ := hf
    clear hbf
    have m0 := cell_of_one (boxStays M7.out hB)
    refine Or.inl ⟨wanted_none rfl, ?_⟩
    rintro _ rfl
    go_simp <;> with_reducible rfl
  refine relG_own 8 5 7 35 5 [(0, 31, 9), (1, 32, 8), (2, 33, 7), (3, 34, 6), (4, 30, 5), (5, 35, 4), (6, 36, 3), (7, 5, 2), (9, 6, 0)] [(0, 31, 9), (1, 32, 8), (2, 33, 7), (3, 34, 6), (4, 30, 5), (5, 35, 4), (7, 5, 2)] (by kernel_rfl) rfl (by kernel_rfl) (by kernel_rfl) (by kernel_rfl) (by kernel_rfl) ?_ (fun f wE hB hf => ?_)
  · intro f w1 hB hf K hK
    simp only [FinF, List.getD_cons_zero, List.getD_cons_succ] at hf
    obtain ⟨⟨_, e31, rfl⟩, ⟨_, e32, rfl⟩, ⟨_, e33, rfl⟩, ⟨_, e34, rfl⟩, ⟨_, e30, rfl⟩, ⟨_, e35, rfl⟩, ⟨_, e5, ⟨b1, rfl, hbb, hbr⟩⟩, _⟩ := hf
    have m0 := cell_of_one (boxStays M7.out hB)
    refine sto_own (i := 8) 27 5 35 b1 (#[.pointer none]) _ _ rfl rfl rfl rfl (by rfl) (by rfl) e5 (by rfl) (by rfl) e35 (hbr) (by kernel_rfl) rfl (mp_one _) hK
  simp only [FinF, List.getD_cons_zero, List.getD_cons_succ] at hf
  obtain ⟨⟨_, e31, rfl⟩, ⟨_, e32, rfl⟩, ⟨_, e33, rfl⟩, ⟨_, e34, rfl⟩, ⟨_, e30, rfl⟩, ⟨_, e35, rfl⟩, ⟨_, e36, rfl⟩, ⟨_, e5, ⟨b1, rfl, hbb, hbr⟩⟩, ⟨_, e6, rfl⟩, _⟩ := hf
  simp only [blkOf, Value.cells, regT, List.foldl_cons, List.foldl_nil, List.setIfInBounds_toArray, List.set_cons_zero, List.set_cons_succ, e31, e32, e33, e34, e30, e35, e36, e5, e6]
  clear e31 e32 e33 e34 e30 e35 e36 e5 e6
  rw [setRow_one hbr]
  have hb8 := hB.setCell (p := ⟨b1, 0, none⟩) hbb (.pointer none)
  have QDb1 := Lib.hid hb8
  clear hb8 hB hbb hbr
  generalize wE.setCell ⟨b1, 0, none⟩ (.pointer none) = w8 at *
  have hb := QDb1.out
  replace HC := Lib.hid (HC.out.push hb)
  clear hb
  go_upto_region 4 with (fail)
  have M8 := Lib.hid (boxStays HM.out (HC.out.to w5 (by simp)))
  have T8 := Lib.hid (T4.out.below (HC.out.to w4 (by simp)) rfl)
  refine relG_start (slots := [38, 39, 40, 41, 37, 42, 43, 7, 8]) (so := [8]) (by kernel_rfl) (by kernel_rfl) (by rfl) ?_
  refine relG_pure (i := 0) (o := ⟨some 38, _, _, _, _, _⟩) (v := ?v7) [] [1] rfl rfl (by kernel_rfl) (by kernel_rfl) (fun t w1 hB hf hbf => ?y7) ?n7
  case y7 =>
    simp only [BasF] at hbf
    clear hf
    obtain ⟨⟨b1, k1⟩, _⟩ := hbf
    have m0 := cell_of_one (boxStays M8.out hB)
    refine Or.inl ⟨wanted_none rfl, ?_⟩
    rintro _ rfl
    go_simp <;> with_reducible rfl
  refine relG_call (i := 1) (o := ⟨some 39, _, _, _, _, _⟩) ((fun v _ => v = .agg #[.int .i64 3, .int .i64 0, .string labA, .int .i64 1, .int .i64 0, .string ⟨#[]⟩])) [] [] rfl rfl (by kernel_rfl) (by kernel_rfl) ((fun _ _ _ h _ => h)) ?_ ?_
  · intro t w1 hB hf hbf K hK
    clear hf
    clear hbf
    have m0 := cell_of_one (boxStays M8.out hB)
    refine ⟨wanted_none rfl, ?_⟩
    go_simp
    refine (at_13 3 ⟨#[]⟩ w1).mono ?_
    rintro e w2 ⟨rfl, hb⟩
    exact hK.out _ w2 (rfl) hb
  refine relG_pure (i := 2) (o := ⟨some 40, _, _, _, _, _⟩) (v := ?v8) [(1, 39, 0)] [] rfl rfl (by kernel_rfl) (by kernel_rfl) (fun t w1 hB hf hbf => ?y8) ?n8
  case y8 =>
    simp only [DepF, List.getD_cons_zero] at hf
    obtain ⟨⟨_, ⟨e39, i39⟩, rfl⟩, _⟩ := hf
    clear hbf
    have m0 := cell_of_one (boxStays M8.out hB)
    have fd := fld_st 3 0 1 0 labA ⟨#[]⟩
    refine Or.inl ⟨wanted_none rfl, ?_⟩
    rintro _ rfl
    go_simp <;> with_reducible rfl
  refine relG_call (i := 3) (o := ⟨some 41, _, _, _, _, _⟩) ((fun v w' => ∃ m : Tr ByteArray, v = .tuple #[.agg #[.pointer (pa m)], .int .i64 0] ∧ AtS w' m ∧ Reg [atV 1 tA, atV 2 tB, ((atV 3 ⟨#[]⟩).1, tC)] m)) [(0, 38, 2), (2, 40, 0)] [] rfl rfl (by kernel_rfl) (by kernel_rfl) ((fun v w' w'' h hb => by obtain ⟨m, e1, e2, e3⟩ := h; exact ⟨m, e1, e2.below hb rfl, e3⟩)) ?_ ?_
  · intro t w1 hB hf hbf K hK
    simp only [DepF, List.getD_cons_zero, List.getD_cons_succ] at hf
    obtain ⟨⟨_, ⟨e38, i38⟩, rfl⟩, ⟨_, ⟨e40, i40⟩, rfl⟩, _⟩ := hf
    clear hbf
    have m0 := cell_of_one (boxStays M8.out hB)
    refine ⟨wanted_none rfl, ?_⟩
    go_simp
    refine (put_reg13 (atV 3 ⟨#[]⟩).1 tC w1 (T8.out.below hB rfl) R4.out (by simp) (by decide)).mono ?_
    rintro e w2 ⟨m, ce, rfl, hm, hb, hP⟩
    exact hK.out _ w2 ((by rcases hP with ⟨_, rfl, h3, _⟩ | ⟨h, _⟩; exact ⟨m, rfl, hm, h3⟩; rw [k_beh, k_fit 3 (by omega) (by omega)] at h; simp at h)) hb
  refine relG_call (i := 4) (o := ⟨some 37, _, _, _, _, _⟩) ((fun v w' => ∃ m : Tr ByteArray, v = .tuple #[.agg #[.pointer (pa m)], .int .i64 0] ∧ AtS w' m ∧ Reg [atV 1 tA, atV 2 tB, ((atV 3 ⟨#[]⟩).1, tC)] m)) [(3, 41, 0)] [] rfl rfl (by kernel_rfl) (by kernel_rfl) ((fun v w' w'' h hb => by obtain ⟨m, e1, e2, e3⟩ := h; exact ⟨m, e1, e2.below hb rfl, e3⟩)) ?_ ?_
  · intro t w1 hB hf hbf K hK
    simp only [DepF, List.getD_cons_zero] at hf
    obtain ⟨⟨_, ⟨e41, i41⟩, ⟨m, rfl, hm, hmr⟩⟩, _⟩ := hf
    clear hbf
    have m0 := cell_of_one (boxStays M8.out hB)
    refine ⟨wanted_none rfl, ?_⟩
    go_simp
    exact hK.out _ _ (⟨m, rfl, hm, hmr⟩) (Below.refl _ _)
  refine relG_call (i := 5) (o := ⟨some 42, _, _, _, _, _⟩) ((fun v w' => ∃ m : Tr ByteArray, v = .agg #[.pointer (pa m)] ∧ AtS w' m ∧ Reg [atV 1 tA, atV 2 tB, ((atV 3 ⟨#[]⟩).1, tC)] m)) [(4, 37, 0)] [] rfl rfl (by kernel_rfl) (by kernel_rfl) ((fun v w' w'' h hb => by obtain ⟨m, e1, e2, e3⟩ := h; exact ⟨m, e1, e2.below hb rfl, e3⟩)) ?_ ?_
  · intro t w1 hB hf hbf K hK
    simp only [DepF, List.getD_cons_zero] at hf
    obtain ⟨⟨_, ⟨e37, i37⟩, ⟨m, rfl, hm, hmr⟩⟩, _⟩ := hf
    clear hbf
    have m0 := cell_of_one (boxStays M8.out hB)
    refine ⟨wanted_none rfl, ?_⟩
    go_simp
    exact hK.out _ _ (⟨m, rfl, hm, hmr⟩) (Below.refl _ _)
  refine relG_pure (i := 6) (o := ⟨some 43, _, _, _, _, _⟩) (v := ?v9) [(4, 37, 1)] [] rfl rfl (by kernel_rfl) (by kernel_rfl) (fun t w1 hB hf hbf => ?y9) ?n9
  case y9 =>
    simp only [DepF, List.getD_cons_zero, List.getD_cons_succ] at hf
    obtain ⟨⟨_, ⟨e37, i37⟩, ⟨m, rfl, hm, hmr⟩⟩, _⟩ := hf
    clear hbf
    have m0 := cell_of_one (boxStays M8.out hB)
    refine Or.inl ⟨wanted_none rfl, ?_⟩
    rintro _ rfl
    go_simp <;> with_reducible rfl
  refine relG_call (i := 7) (o := ⟨some 7, _, _, _, _, _⟩) ((fun v w' => ∃ b, v = .pointer (some ⟨b, 0, none⟩) ∧ w8.heap.size ≤ b ∧ w'.heap[b]? = some (.cells #[.pointer none] 27 (0, 0)))) [] [] rfl rfl (by kernel_rfl) (by kernel_rfl) ((fun v w' w'' h hb => by obtain ⟨b, e1, e2, e3⟩ := h; exact ⟨b, e1, e2, boxStays e3 hb⟩)) ?_ ?_
  · intro t w1 hB hf hbf K hK
    clear hf
    clear hbf
    have m0 := cell_of_one (boxStays M8.out hB)
    refine ⟨wanted_none rfl, ?_⟩
    go_simp
    exact hK.out _ _ (⟨_, rfl, hB.size, heap_alloc_new _ _⟩) (below_new _ _)
  refine relG_skip 8 rfl (by rfl) ?_ (by kernel_rfl)
  refine relG_pure (i := 9) (o := ⟨some 8, _, _, _, _, _⟩) (v := ?v10) [(6, 43, 2)] [] rfl rfl (by kernel_rfl) (by kernel_rfl) (fun t w1 hB hf hbf => ?y10) ?n10
  case y10 =>
    simp only [DepF, List.getD_cons_zero, List.getD_cons_succ] at hf
    obtain ⟨⟨_, ⟨e43, i43⟩, rfl⟩, _⟩ := hf
    clear hbf
    have m0 := cell_of_one (boxStays M8.out hB)
    refine Or.inl ⟨wanted_none rfl, ?_⟩
    rintro _ rfl
    go_simp <;> with_reducible rfl
  refine relG_own 8 7 7 42 5 [(0, 38, 9), (1, 39, 8), (2, 40, 7), (3, 41, 6), (4, 37, 5), (5, 42, 4), (6, 43, 3), (7, 7, 2), (9, 8, 0)] [(0, 38, 9), (1, 39, 8), (2, 40, 7), (3, 41, 6), (4, 37, 5), (5, 42, 4), (7, 7, 2)] (by kernel_rfl) rfl (by kernel_rfl) (by kernel_rfl) (by kernel_rfl) (by kernel_rfl) ?_ (fun f wE hB hf => ?_)
  · intro f w1 hB hf K hK
    simp only [FinF, List.getD_cons_zero, List.getD_cons_succ] at hf
    obtain ⟨⟨_, e38, rfl⟩, ⟨_, e39, rfl⟩, ⟨_, e40, rfl⟩, ⟨_, e41, ⟨m, rfl, hm, hmr⟩⟩, ⟨_, e37, ⟨m, rfl, hm, hmr⟩⟩, ⟨_, e42, ⟨n, rfl, hn, hnr⟩⟩, ⟨_, e7, ⟨bb, rfl, hbb, hbr⟩⟩, _⟩ := hf
    have m0 := cell_of_one (boxStays M8.out hB)
    refine sto_own (i := 8) 27 7 42 bb (#[.pointer (pa n)]) _ _ rfl rfl rfl rfl (by rfl) (by rfl) e7 (by rfl) (by rfl) e42 (hbr) (by kernel_rfl) rfl (mp_one _) hK
  simp only [FinF, List.getD_cons_zero, List.getD_cons_succ] at hf
  obtain ⟨⟨_, e38, rfl⟩, ⟨_, e39, rfl⟩, ⟨_, e40, rfl⟩, ⟨_, e41, ⟨m, rfl, hm, hmr⟩⟩, ⟨_, e37, ⟨m, rfl, hm, hmr⟩⟩, ⟨_, e42, ⟨n, rfl, hn, hnr⟩⟩, ⟨_, e43, rfl⟩, ⟨_, e7, ⟨bb, rfl, hbb, hbr⟩⟩, ⟨_, e8, rfl⟩, _⟩ := hf
  simp only [blkOf, Value.cells, regT, List.foldl_cons, List.foldl_nil, List.setIfInBounds_toArray, List.set_cons_zero, List.set_cons_succ, e38, e39, e40, e41, e37, e42, e43, e7, e8]
  clear e38 e39 e40 e41 e37 e42 e43 e7 e8
  rw [setRow_one hbr]
  have N7 := Lib.hid hnr
  have hn8 := hn.setBox hbr (by decide) 0 (.pointer (pa n))
  have hN8 := Boxed.set (t := 27) (.pointer (pa n)) hbr
  have hb8 := hB.setCell (p := ⟨bb, 0, none⟩) hbb (.pointer (pa n))
  have QA := Lib.hid hn8
  have QB := Lib.hid hN8
  have QC := Lib.hid hb8
  clear hn8 hN8 hb8 hB hn hnr hm hmr hbb hbr
  generalize wE.setCell ⟨bb, 0, none⟩ (.pointer (pa n)) = w9 at *
  have hb := QC.out
  have HN : Hid (w9.heap[bb]? = some (.cells #[.pointer (pa n)] 27 (0, 0))) := Lib.hid QB.out
  replace HC := Lib.hid (HC.out.push hb)
  clear hb
  have kN0 := cell_of_one HN.out
  go_wp2_with fail
  refine (qu_Pop (atV 1 tA) [atV 2 tB, ((atV 3 ⟨#[]⟩).1, tC)] n _ QA.out N7.out (by simp)).mono ?_
  rintro e w10 ⟨o, rfl, ho, hor, hb⟩
  clear kN0
  replace HC := Lib.hid (HC.out.push hb)
  clear hb
  have T10 := Lib.hid ho
  have R10 := Lib.hid hor
  clear ho hor
  simp only [atV, tA]
  go_upto_region 6 with (fail)
  obtain ⟨c11, hc11⟩ : ∃ c, w10.heap.size = c := ⟨_, rfl⟩
  try rw [hc11]
  obtain ⟨w11, hw11⟩ : ∃ X, allocs w10 [.cells #[.pointer (pa o)] 27, .cells #[.int .i64 1, .int .i64 0, .string labA, .int .i64 1, .int .i64 0, .string ⟨#[97]⟩] 47] = X := ⟨_, rfl⟩
  rw [show (w10.alloc (.cells #[.pointer (pa o)] 27)).alloc (.cells #[.int .i64 1, .int .i64 0, .string labA, .int .i64 1, .int .i64 0, .string ⟨#[97]⟩] 47) = w11 from hw11]
  have hb : Below w10.heap.size w10 w11 := by rw [← hw11]; exact allocs_below _ _
  have HO : Hid (w11.heap[c11]? = some (.cells #[.pointer (pa o)] 27 (0, 0))) := Lib.hid (by have := allocs_get [.cells #[.pointer (pa o)] 27, .cells #[.int .i64 1, .int .i64 0, .string labA, .int .i64 1, .int .i64 0, .string ⟨#[97]⟩] 47] w10 0 _ rfl; rw [hw11, hc11] at this; exact this)
  have HY : Hid (w11.heap[c11 + 1]? = some (.cells #[.int .i64 1, .int .i64 0, .string labA, .int .i64 1, .int .i64 0, .string ⟨#[97]⟩] 47 (0, 0))) := Lib.hid (by have := allocs_get [.cells #[.pointer (pa o)] 27, .cells #[.int .i64 1, .int .i64 0, .string labA, .int .i64 1, .int .i64 0, .string ⟨#[97]⟩] 47] w10 1 _ rfl; rw [hw11, hc11] at this; exact this)
  have Sc11 : Hid (w10.heap.size = c11) := Lib.hid hc11
  replace HC := Lib.hid (HC.out.push hb)
  clear hb hw11 hc11
  have kO0 := cell_of_one HO.out
  go_wp2_with fail
  refine (txt_reg13 _ (T10.out.below (HC.out.to w10 (by simp)) rfl) R10.out (by simp)).mono ?_
  rintro e w12 ⟨vt, rfl, hb, hown⟩
  clear kO0
  replace HC := Lib.hid (HC.out.push hb)
  clear hb
  obtain ⟨at6, ct6, rfl, _⟩ := own_slice hown
  have X6 : Hid (CellsAt w12 at6 (txV [tB, tC])) := Lib.hid (CellsAt.ownN hown)
  clear hown
  try simp only [List.length_cons, List.length_nil, Nat.zero_add, Nat.reduceAdd]
  have kM0 := cell_of_one (boxStays HM.out (HC.out.to w5 (by simp)))
  go_wp2_with fail
  refine (qu_Drop [atV 1 tA, atV 2 tB] t 5 _ (T4.out.below (HC.out.to w4 (by simp)) rfl) (R4.out.qs (by simp)) (by simp)).mono ?_
  rintro e w13 ⟨m2, k, hk, rfl, _, _, hb⟩
  clear kM0
  replace HC := Lib.hid (HC.out.push hb)
  clear hb
  obtain rfl : k = 2 := hk
  go_upto_region 8 with (fail)
  obtain ⟨c14, hc14⟩ : ∃ c, w13.heap.size = c := ⟨_, rfl⟩
  try rw [hc14]
  obtain ⟨w14, hw14⟩ : ∃ X, allocs w13 [.cells #[.pointer (pa m2)] 27] = X := ⟨_, rfl⟩
  rw [show w13.alloc (.cells #[.pointer (pa m2)] 27) = w14 from hw14]
  have hb : Below w13.heap.size w13 w14 := by rw [← hw14]; exact allocs_below _ _
  have Sc14 : Hid (w13.heap.size = c14) := Lib.hid hc14
  replace HC := Lib.hid (HC.out.push hb)
  clear hb hw14 hc14
  have M14 := Lib.hid (boxStays HM.out (HC.out.to w5 (by simp)))
  have T14 := Lib.hid (T4.out.below (HC.out.to w4 (by simp)) rfl)
  refine relG_start (slots := [61, 62, 63, 64, 60, 65, 66, 16, 17]) (so := [8]) (by kernel_rfl) (by kernel_rfl) (by rfl) ?_
  refine relG_pure (i := 0) (o := ⟨some 61, _, _, _, _, _⟩) (v := ?v11) [] [1] rfl rfl (by kernel_rfl) (by kernel_rfl) (fun t w1 hB hf hbf => ?y11) ?n11
  case y11 =>
    simp only [BasF] at hbf
    clear hf
    obtain ⟨⟨b1, k1⟩, _⟩ := hbf
    have m0 := cell_of_one (boxStays M14.out hB)
    refine Or.inl ⟨wanted_none rfl, ?_⟩
    rintro _ rfl
    go_simp <;> with_reducible rfl
  refine relG_call (i := 1) (o := ⟨some 62, _, _, _, _, _⟩) ((fun v _ => v = .agg #[.int .i64 2, .int .i64 0, .string labA, .int .i64 1, .int .i64 0, .string ⟨#[]⟩])) [] [] rfl rfl (by kernel_rfl) (by kernel_rfl) ((fun _ _ _ h _ => h)) ?_ ?_
  · intro t w1 hB hf hbf K hK
    clear hf
    clear hbf
    have m0 := cell_of_one (boxStays M14.out hB)
    refine ⟨wanted_none rfl, ?_⟩
    go_simp
    refine (at_13 2 ⟨#[]⟩ w1).mono ?_
    rintro e w2 ⟨rfl, hb⟩
    exact hK.out _ w2 (rfl) hb
  refine relG_pure (i := 2) (o := ⟨some 63, _, _, _, _, _⟩) (v := ?v12) [(1, 62, 0)] [] rfl rfl (by kernel_rfl) (by kernel_rfl) (fun t w1 hB hf hbf => ?y12) ?n12
  case y12 =>
    simp only [DepF, List.getD_cons_zero] at hf
    obtain ⟨⟨_, ⟨e62, i62⟩, rfl⟩, _⟩ := hf
    clear hbf
    have m0 := cell_of_one (boxStays M14.out hB)
    have fd := fld_st 2 0 1 0 labA ⟨#[]⟩
    refine Or.inl ⟨wanted_none rfl, ?_⟩
    rintro _ rfl
    go_simp <;> with_reducible rfl
  refine relG_call (i := 3) (o := ⟨some 64, _, _, _, _, _⟩) ((fun v w' => v = .tuple #[.agg #[.pointer none], .int .i64 2])) [(0, 61, 2), (2, 63, 0)] [] rfl rfl (by kernel_rfl) (by kernel_rfl) ((fun v w' w'' h hb => h)) ?_ ?_
  · intro t w1 hB hf hbf K hK
    simp only [DepF, List.getD_cons_zero, List.getD_cons_succ] at hf
    obtain ⟨⟨_, ⟨e61, i61⟩, rfl⟩, ⟨_, ⟨e63, i63⟩, rfl⟩, _⟩ := hf
    clear hbf
    have m0 := cell_of_one (boxStays M14.out hB)
    refine ⟨wanted_none rfl, ?_⟩
    go_simp
    refine (put_reg13 (atV 2 ⟨#[]⟩).1 tC w1 (T14.out.below hB rfl) R4.out (by simp) (by decide)).mono ?_
    rintro e w2 ⟨m, ce, rfl, hm, hb, hP⟩
    exact hK.out _ w2 ((by rcases hP with ⟨h, _⟩ | ⟨_, h1, h2⟩; rw [k_beh] at h; simp at h; rw [h1, h2]; rfl)) hb
  refine relG_pure (i := 4) (o := ⟨some 60, _, _, _, _, _⟩) (v := ?v13) [(3, 64, 0)] [] rfl rfl (by kernel_rfl) (by kernel_rfl) (fun t w1 hB hf hbf => ?y13) ?n13
  case y13 =>
    simp only [DepF, List.getD_cons_zero] at hf
    obtain ⟨⟨_, ⟨e64, i64⟩, rfl⟩, _⟩ := hf
    clear hbf
    have m0 := cell_of_one (boxStays M14.out hB)
    refine Or.inl ⟨wanted_none rfl, ?_⟩
    rintro _ rfl
    go_simp <;> with_reducible rfl
  refine relG_pure (i := 5) (o := ⟨some 65, _, _, _, _, _⟩) (v := ?v14) [(4, 60, 0)] [] rfl rfl (by kernel_rfl) (by kernel_rfl) (fun t w1 hB hf hbf => ?y14) ?n14
  case y14 =>
    simp only [DepF, List.getD_cons_zero] at hf
    obtain ⟨⟨_, ⟨e60, i60⟩, rfl⟩, _⟩ := hf
    clear hbf
    have m0 := cell_of_one (boxStays M14.out hB)
    refine Or.inl ⟨wanted_none rfl, ?_⟩
    rintro _ rfl
    go_simp <;> with_reducible rfl
  refine relG_pure (i := 6) (o := ⟨some 66, _, _, _, _, _⟩) (v := ?v15) [(4, 60, 1)] [] rfl rfl (by kernel_rfl) (by kernel_rfl) (fun t w1 hB hf hbf => ?y15) ?n15
  case y15 =>
    simp only [DepF, List.getD_cons_zero, List.getD_cons_succ] at hf
    obtain ⟨⟨_, ⟨e60, i60⟩, rfl⟩, _⟩ := hf
    clear hbf
    have m0 := cell_of_one (boxStays M14.out hB)
    refine Or.inl ⟨wanted_none rfl, ?_⟩
    rintro _ rfl
    go_simp <;> with_reducible rfl
  refine relG_call (i := 7) (o := ⟨some 16, _, _, _, _, _⟩) ((fun v w' => ∃ b, v = .pointer (some ⟨b, 0, none⟩) ∧ w14.heap.size ≤ b ∧ w'.heap[b]? = some (.cells #[.pointer none] 27 (0, 0)))) [] [] rfl rfl (by kernel_rfl) (by kernel_rfl) ((fun v w' w'' h hb => by obtain ⟨b, e1, e2, e3⟩ := h; exact ⟨b, e1, e2, boxStays e3 hb⟩)) ?_ ?_
  · intro t w1 hB hf hbf K hK
    clear hf
    clear hbf
    have m0 := cell_of_one (boxStays M14.out hB)
    refine ⟨wanted_none rfl, ?_⟩
    go_simp
    exact hK.out _ _ (⟨_, rfl, hB.size, heap_alloc_new _ _⟩) (below_new _ _)
  refine relG_skip 8 rfl (by rfl) ?_ (by kernel_rfl)
  refine relG_pure (i := 9) (o := ⟨some 17, _, _, _, _, _⟩) (v := ?v16) [(6, 66, 2)] [] rfl rfl (by kernel_rfl) (by kernel_rfl) (fun t w1 hB hf hbf => ?y16) ?n16
  case y16 =>
    simp only [DepF, List.getD_cons_zero, List.getD_cons_succ] at hf
    obtain ⟨⟨_, ⟨e66, i66⟩, rfl⟩, _⟩ := hf
    clear hbf
    have m0 := cell_of_one (boxStays M14.out hB)
    refine Or.inl ⟨wanted_none rfl, ?_⟩
    rintro _ rfl
    go_simp <;> with_reducible rfl
  refine relG_own 8 16 7 65 5 [(0, 61, 9), (1, 62, 8), (2, 63, 7), (3, 64, 6), (4, 60, 5), (5, 65, 4), (6, 66, 3), (7, 16, 2), (9, 17, 0)] [(0, 61, 9), (1, 62, 8), (2, 63, 7), (3, 64, 6), (4, 60, 5), (5, 65, 4), (7, 16, 2)] (by kernel_rfl) rfl (by kernel_rfl) (by kernel_rfl) (by kernel_rfl) (by kernel_rfl) ?_ (fun f wE hB hf => ?_)
  · intro f w1 hB hf K hK
    simp only [FinF, List.getD_cons_zero, List.getD_cons_succ] at hf
    obtain ⟨⟨_, e61, rfl⟩, ⟨_, e62, rfl⟩, ⟨_, e63, rfl⟩, ⟨_, e64, rfl⟩, ⟨_, e60, rfl⟩, ⟨_, e65, rfl⟩, ⟨_, e16, ⟨b2, rfl, hbb, hbr⟩⟩, _⟩ := hf
    have m0 := cell_of_one (boxStays M14.out hB)
    refine sto_own (i := 8) 27 16 65 b2 (#[.pointer none]) _ _ rfl rfl rfl rfl (by rfl) (by rfl) e16 (by rfl) (by rfl) e65 (hbr) (by kernel_rfl) rfl (mp_one _) hK
  simp only [FinF, List.getD_cons_zero, List.getD_cons_succ] at hf
  obtain ⟨⟨_, e61, rfl⟩, ⟨_, e62, rfl⟩, ⟨_, e63, rfl⟩, ⟨_, e64, rfl⟩, ⟨_, e60, rfl⟩, ⟨_, e65, rfl⟩, ⟨_, e66, rfl⟩, ⟨_, e16, ⟨b2, rfl, hbb, hbr⟩⟩, ⟨_, e17, rfl⟩, _⟩ := hf
  simp only [blkOf, Value.cells, regT, List.foldl_cons, List.foldl_nil, List.setIfInBounds_toArray, List.set_cons_zero, List.set_cons_succ, e61, e62, e63, e64, e60, e65, e66, e16, e17]
  clear e61 e62 e63 e64 e60 e65 e66 e16 e17
  rw [setRow_one hbr]
  have hb8 := hB.setCell (p := ⟨b2, 0, none⟩) hbb (.pointer none)
  have QDb2 := Lib.hid hb8
  clear hb8 hB hbb hbr
  generalize wE.setCell ⟨b2, 0, none⟩ (.pointer none) = w15 at *
  have hb := QDb2.out
  replace HC := Lib.hid (HC.out.push hb)
  clear hb
  go_upto_region 9 with (fail)
  try simp only [List.append]
  have X15 := Lib.hid (boxStays HX.out (HC.out.to w7 (by simp)))
  have Y15 := Lib.hid (boxStays HY.out (HC.out.to w11 (by simp)))
  have TX15 := Lib.hid (X6.out.below (HC.out.to w12 (by simp)) rfl)
  have EQ : Hid (∀ W, (binOp .eql 47 (.agg #[.int .i64 1, .int .i64 0, .string labA, .int .i64 1, .int .i64 0, .string ⟨#[97]⟩]) (.agg #[.int .i64 1, .int .i64 0, .string labA, .int .i64 1, .int .i64 0, .string ⟨#[97]⟩])).run Try.prog W = .ok (.bool true) W) := Lib.hid (fun W => (ev_eql (atV 1 ⟨#[97]⟩) (atV 1 ⟨#[97]⟩) W).trans (by simp))
  refine relG_start (slots := [67, 68, 69, 70, 71, 72, 73, 74, 75, 76, 77, 78, 79, 80, 81, 82, 83, 84, 85, 86, 87, 88, 89, 90, 91, 92, 93, 94, 95, 96, 97, 98, 99, 100, 101, 102, 103, 104, 105, 106, 107, 108, 109, 110, 0]) (so := []) (by kernel_rfl) (by kernel_rfl) (by rfl) ?_
  refine relG_pure (i := 0) (o := ⟨some 67, _, _, _, _, _⟩) (v := ?v17) [] [17] rfl rfl (by kernel_rfl) (by kernel_rfl) (fun t w1 hB hf hbf => ?y17) ?n17
  case y17 =>
    simp only [BasF] at hbf
    clear hf
    obtain ⟨⟨b17, k17⟩, _⟩ := hbf
    skip
    refine Or.inl ⟨wanted_none rfl, ?_⟩
    rintro _ rfl
    go_simp <;> with_reducible rfl
  refine relG_call (i := 1) (o := ⟨some 68, _, _, _, _, _⟩) ((fun v _ => v = .int .i64 2)) [(0, 67, 0)] [] rfl rfl (by kernel_rfl) (by kernel_rfl) ((fun _ _ _ h _ => h)) ?_ ?_
  · intro t w1 hB hf hbf K hK
    simp only [DepF, List.getD_cons_zero] at hf
    obtain ⟨⟨_, ⟨e67, i67⟩, rfl⟩, _⟩ := hf
    clear hbf
    skip
    refine ⟨wanted_none rfl, ?_⟩
    go_simp
    refine (num_13b 2 w1).mono ?_
    rintro e w2 ⟨rfl, hb⟩
    exact hK.out _ w2 (rfl) hb
  refine relG_pure (i := 2) (o := ⟨some 69, _, _, _, _, _⟩) (v := ?v18) [(1, 68, 0)] [] rfl rfl (by kernel_rfl) (by kernel_rfl) (fun t w1 hB hf hbf => ?y18) ?n18
  case y18 =>
    simp only [DepF, List.getD_cons_zero] at hf
    obtain ⟨⟨_, ⟨e68, i68⟩, rfl⟩, _⟩ := hf
    clear hbf
    skip
    refine Or.inl ⟨wanted_none rfl, ?_⟩
    rintro _ rfl
    go_simp <;> with_reducible rfl
  refine relG_pure (i := 3) (o := ⟨some 70, _, _, _, _, _⟩) (v := ?v19) [(2, 69, 0)] [] rfl rfl (by kernel_rfl) (by kernel_rfl) (fun t w1 hB hf hbf => ?y19) ?n19
  case y19 =>
    simp only [DepF, List.getD_cons_zero] at hf
    obtain ⟨⟨_, ⟨e69, i69⟩, rfl⟩, _⟩ := hf
    clear hbf
    skip
    refine Or.inl ⟨wanted_none rfl, ?_⟩
    rintro _ rfl
    go_simp <;> with_reducible rfl
  refine relG_pure (i := 4) (o := ⟨some 71, _, _, _, _, _⟩) (v := ?v20) [(3, 70, 0)] [2] rfl rfl (by kernel_rfl) (by kernel_rfl) (fun t w1 hB hf hbf => ?y20) ?n20
  case y20 =>
    simp only [DepF, List.getD_cons_zero] at hf
    simp only [BasF] at hbf
    obtain ⟨⟨_, ⟨e70, i70⟩, rfl⟩, _⟩ := hf
    obtain ⟨⟨b2, k2⟩, _⟩ := hbf
    skip
    refine Or.inl ⟨(by have hg := getD_some i70; simp [Region.wanted, yielded, hg]), ?_⟩
    rintro _ rfl
    go_simp <;> with_reducible rfl
  refine relG_call (i := 5) (o := ⟨some 72, _, _, _, _, _⟩) ((fun v _ => v = .int .i64 0)) [(4, 71, 0), (3, 70, 1)] [] rfl rfl (by kernel_rfl) (by kernel_rfl) ((fun _ _ _ h _ => h)) ?_ ?_
  · intro t w1 hB hf hbf K hK
    simp only [DepF, List.getD_cons_zero, List.getD_cons_succ] at hf
    obtain ⟨⟨_, ⟨e71, i71⟩, rfl⟩, ⟨_, ⟨e70, i70⟩, rfl⟩, _⟩ := hf
    clear hbf
    skip
    refine ⟨(by have hg := getD_some i70; simp [Region.wanted, yielded, hg]), ?_⟩
    go_simp
    refine (num_13b 0 w1).mono ?_
    rintro e w2 ⟨rfl, hb⟩
    exact hK.out _ w2 (rfl) hb
  refine relG_pure (i := 6) (o := ⟨some 73, _, _, _, _, _⟩) (v := ?v21) [(3, 70, 2)] [8] rfl rfl (by kernel_rfl) (by kernel_rfl) (fun t w1 hB hf hbf => ?y21) ?n21
  case y21 =>
    simp only [DepF, List.getD_cons_zero, List.getD_cons_succ] at hf
    simp only [BasF] at hbf
    obtain ⟨⟨_, ⟨e70, i70⟩, rfl⟩, _⟩ := hf
    obtain ⟨⟨b8, k8⟩, _⟩ := hbf
    skip
    refine Or.inl ⟨(by have hg := getD_some i70; simp [Region.wanted, yielded, hg]), ?_⟩
    rintro _ rfl
    go_simp <;> with_reducible rfl
  refine relG_call (i := 7) (o := ⟨some 74, _, _, _, _, _⟩) ((fun v _ => v = .int .i64 0)) [(6, 73, 0), (3, 70, 3)] [] rfl rfl (by kernel_rfl) (by kernel_rfl) ((fun _ _ _ h _ => h)) ?_ ?_
  · intro t w1 hB hf hbf K hK
    simp only [DepF, List.getD_cons_zero, List.getD_cons_succ] at hf
    obtain ⟨⟨_, ⟨e73, i73⟩, rfl⟩, ⟨_, ⟨e70, i70⟩, rfl⟩, _⟩ := hf
    clear hbf
    skip
    refine ⟨(by have hg := getD_some i70; simp [Region.wanted, yielded, hg]), ?_⟩
    go_simp
    refine (num_13b 0 w1).mono ?_
    rintro e w2 ⟨rfl, hb⟩
    exact hK.out _ w2 (rfl) hb
  refine relG_pure (i := 8) (o := ⟨some 75, _, _, _, _, _⟩) (v := .int .i64 0) [(5, 72, 2), (7, 74, 0), (3, 70, 4)] [] rfl rfl (by kernel_rfl) (by kernel_rfl) (fun t w1 hB hf hbf => ?y22) ?n22
  case y22 =>
    simp only [DepF, List.getD_cons_zero, List.getD_cons_succ] at hf
    obtain ⟨⟨_, ⟨e72, i72⟩, rfl⟩, ⟨_, ⟨e74, i74⟩, rfl⟩, ⟨_, ⟨e70, i70⟩, rfl⟩, _⟩ := hf
    clear hbf
    skip
    have wz : IntKind.i64.wrap 0 = 0 := by decide
    refine Or.inl ⟨(by have hg := getD_some i70; simp [Region.wanted, yielded, hg]), ?_⟩
    rintro _ rfl
    go_simp <;> with_reducible rfl
  refine relG_pure (i := 9) (o := ⟨some 76, _, _, _, _, _⟩) (v := ?v23) [(3, 70, 5)] [13] rfl rfl (by kernel_rfl) (by kernel_rfl) (fun t w1 hB hf hbf => ?y23) ?n23
  case y23 =>
    simp only [DepF, List.getD_cons_zero, List.getD_cons_succ] at hf
    simp only [BasF] at hbf
    obtain ⟨⟨_, ⟨e70, i70⟩, rfl⟩, _⟩ := hf
    obtain ⟨⟨b13, k13⟩, _⟩ := hbf
    skip
    refine Or.inl ⟨(by have hg := getD_some i70; simp [Region.wanted, yielded, hg]), ?_⟩
    rintro _ rfl
    go_simp <;> with_reducible rfl
  refine relG_call (i := 10) (o := ⟨some 77, _, _, _, _, _⟩) ((fun v _ => v = .int .i64 0)) [(9, 76, 0), (3, 70, 6)] [] rfl rfl (by kernel_rfl) (by kernel_rfl) ((fun _ _ _ h _ => h)) ?_ ?_
  · intro t w1 hB hf hbf K hK
    simp only [DepF, List.getD_cons_zero, List.getD_cons_succ] at hf
    obtain ⟨⟨_, ⟨e76, i76⟩, rfl⟩, ⟨_, ⟨e70, i70⟩, rfl⟩, _⟩ := hf
    clear hbf
    skip
    refine ⟨(by have hg := getD_some i70; simp [Region.wanted, yielded, hg]), ?_⟩
    go_simp
    refine (num_13b 0 w1).mono ?_
    rintro e w2 ⟨rfl, hb⟩
    exact hK.out _ w2 (rfl) hb
  refine relG_pure (i := 11) (o := ⟨some 78, _, _, _, _, _⟩) (v := .int .i64 0) [(8, 75, 2), (10, 77, 0), (3, 70, 7)] [] rfl rfl (by kernel_rfl) (by kernel_rfl) (fun t w1 hB hf hbf => ?y24) ?n24
  case y24 =>
    simp only [DepF, List.getD_cons_zero, List.getD_cons_succ] at hf
    obtain ⟨⟨_, ⟨e75, i75⟩, rfl⟩, ⟨_, ⟨e77, i77⟩, rfl⟩, ⟨_, ⟨e70, i70⟩, rfl⟩, _⟩ := hf
    clear hbf
    skip
    have wz : IntKind.i64.wrap 0 = 0 := by decide
    refine Or.inl ⟨(by have hg := getD_some i70; simp [Region.wanted, yielded, hg]), ?_⟩
    rintro _ rfl
    go_simp <;> with_reducible rfl
  refine relG_pure (i := 12) (o := ⟨some 79, _, _, _, _, _⟩) (v := ?v25) [(11, 78, 0), (3, 70, 8)] [] rfl rfl (by kernel_rfl) (by kernel_rfl) (fun t w1 hB hf hbf => ?y25) ?n25
  case y25 =>
    simp only [DepF, List.getD_cons_zero, List.getD_cons_succ] at hf
    obtain ⟨⟨_, ⟨e78, i78⟩, rfl⟩, ⟨_, ⟨e70, i70⟩, rfl⟩, _⟩ := hf
    clear hbf
    skip
    refine Or.inl ⟨(by have hg := getD_some i70; simp [Region.wanted, yielded, hg]), ?_⟩
    rintro _ rfl
    go_simp <;> with_reducible rfl
  refine relG_pure (i := 13) (o := ⟨some 80, _, _, _, _, _⟩) (v := ?v26) [(3, 70, 9), (12, 79, 0)] [] rfl rfl (by kernel_rfl) (by kernel_rfl) (fun t w1 hB hf hbf => ?y26) ?n26
  case y26 =>
    simp only [DepF, List.getD_cons_zero, List.getD_cons_succ] at hf
    obtain ⟨⟨_, ⟨e70, i70⟩, rfl⟩, ⟨_, ⟨e79, i79⟩, rfl⟩, _⟩ := hf
    clear hbf
    skip
    refine Or.inl ⟨wanted_none rfl, ?_⟩
    rintro _ rfl
    go_simp <;> with_reducible rfl
  refine relG_pure (i := 14) (o := ⟨some 81, _, _, _, _, _⟩) (v := ?v27) [(13, 80, 0)] [] rfl rfl (by kernel_rfl) (by kernel_rfl) (fun t w1 hB hf hbf => ?y27) ?n27
  case y27 =>
    simp only [DepF, List.getD_cons_zero] at hf
    obtain ⟨⟨_, ⟨e80, i80⟩, rfl⟩, _⟩ := hf
    clear hbf
    skip
    refine Or.inl ⟨wanted_none rfl, ?_⟩
    rintro _ rfl
    go_simp <;> with_reducible rfl
  refine relG_pure (i := 15) (o := ⟨some 82, _, _, _, _, _⟩) (v := ?v28) [(14, 81, 0)] [3] rfl rfl (by kernel_rfl) (by kernel_rfl) (fun t w1 hB hf hbf => ?y28) ?n28
  case y28 =>
    simp only [DepF, List.getD_cons_zero] at hf
    simp only [BasF] at hbf
    obtain ⟨⟨_, ⟨e81, i81⟩, rfl⟩, _⟩ := hf
    obtain ⟨⟨b3, k3⟩, _⟩ := hbf
    skip
    have hx := boxStays X15.out hB
    have x0 := cell_of_row _ c7 0 _ _ _ hx
    have x1 := cell_of_row _ c7 1 _ _ _ hx
    have x2 := cell_of_row _ c7 2 _ _ _ hx
    have x3 := cell_of_row _ c7 3 _ _ _ hx
    have x4 := cell_of_row _ c7 4 _ _ _ hx
    have x5 := cell_of_row _ c7 5 _ _ _ hx
    refine Or.inl ⟨(by have hg := getD_some i81; simp [Region.wanted, yielded, hg]), ?_⟩
    rintro _ rfl
    go_simp <;> with_reducible rfl
  refine relG_call (i := 16) (o := ⟨some 83, _, _, _, _, _⟩) ((fun v _ => v = .agg #[.int .i64 1, .int .i64 0, .string labA, .int .i64 1, .int .i64 0, .string ⟨#[97]⟩])) [(14, 81, 1)] [] rfl rfl (by kernel_rfl) (by kernel_rfl) ((fun _ _ _ h _ => h)) ?_ ?_
  · intro t w1 hB hf hbf K hK
    simp only [DepF, List.getD_cons_zero, List.getD_cons_succ] at hf
    obtain ⟨⟨_, ⟨e81, i81⟩, rfl⟩, _⟩ := hf
    clear hbf
    skip
    refine ⟨(by have hg := getD_some i81; simp [Region.wanted, yielded, hg]), ?_⟩
    go_simp
    refine (at_13 1 ⟨#[97]⟩ w1).mono ?_
    rintro e w2 ⟨rfl, hb⟩
    exact hK.out _ w2 (rfl) hb
  refine relG_pure (i := 17) (o := ⟨some 84, _, _, _, _, _⟩) (v := ?v29) [(15, 82, 1), (16, 83, 0), (14, 81, 2)] [] rfl rfl (by kernel_rfl) (by kernel_rfl) (fun t w1 hB hf hbf => ?y29) ?n29
  case y29 =>
    simp only [DepF, List.getD_cons_zero, List.getD_cons_succ] at hf
    obtain ⟨⟨_, ⟨e82, i82⟩, rfl⟩, ⟨_, ⟨e83, i83⟩, rfl⟩, ⟨_, ⟨e81, i81⟩, rfl⟩, _⟩ := hf
    clear hbf
    skip
    have eq := EQ.out
    refine Or.inl ⟨(by have hg := getD_some i81; simp [Region.wanted, yielded, hg]), ?_⟩
    rintro _ rfl
    go_simp <;> with_reducible rfl
  refine relG_pure (i := 18) (o := ⟨some 85, _, _, _, _, _⟩) (v := ?v30) [(14, 81, 3), (17, 84, 0)] [] rfl rfl (by kernel_rfl) (by kernel_rfl) (fun t w1 hB hf hbf => ?y30) ?n30
  case y30 =>
    simp only [DepF, List.getD_cons_zero, List.getD_cons_succ] at hf
    obtain ⟨⟨_, ⟨e81, i81⟩, rfl⟩, ⟨_, ⟨e84, i84⟩, rfl⟩, _⟩ := hf
    clear hbf
    skip
    refine Or.inl ⟨wanted_none rfl, ?_⟩
    rintro _ rfl
    go_simp <;> with_reducible rfl
  refine relG_pure (i := 19) (o := ⟨some 86, _, _, _, _, _⟩) (v := ?v31) [(18, 85, 0)] [] rfl rfl (by kernel_rfl) (by kernel_rfl) (fun t w1 hB hf hbf => ?y31) ?n31
  case y31 =>
    simp only [DepF, List.getD_cons_zero] at hf
    obtain ⟨⟨_, ⟨e85, i85⟩, rfl⟩, _⟩ := hf
    clear hbf
    skip
    refine Or.inl ⟨wanted_none rfl, ?_⟩
    rintro _ rfl
    go_simp <;> with_reducible rfl
  refine relG_pure (i := 20) (o := ⟨some 87, _, _, _, _, _⟩) (v := ?v32) [(19, 86, 0)] [4] rfl rfl (by kernel_rfl) (by kernel_rfl) (fun t w1 hB hf hbf => ?y32) ?n32
  case y32 =>
    simp only [DepF, List.getD_cons_zero] at hf
    simp only [BasF] at hbf
    obtain ⟨⟨_, ⟨e86, i86⟩, rfl⟩, _⟩ := hf
    obtain ⟨⟨b4, k4⟩, _⟩ := hbf
    skip
    refine Or.inl ⟨(by have hg := getD_some i86; simp [Region.wanted, yielded, hg]), ?_⟩
    rintro _ rfl
    go_simp <;> with_reducible rfl
  refine relG_pure (i := 21) (o := ⟨some 88, _, _, _, _, _⟩) (v := ?v33) [(19, 86, 1), (20, 87, 0)] [] rfl rfl (by kernel_rfl) (by kernel_rfl) (fun t w1 hB hf hbf => ?y33) ?n33
  case y33 =>
    simp only [DepF, List.getD_cons_zero, List.getD_cons_succ] at hf
    obtain ⟨⟨_, ⟨e86, i86⟩, rfl⟩, ⟨_, ⟨e87, i87⟩, rfl⟩, _⟩ := hf
    clear hbf
    skip
    refine Or.inl ⟨wanted_none rfl, ?_⟩
    rintro _ rfl
    go_simp <;> with_reducible rfl
  refine relG_pure (i := 22) (o := ⟨some 89, _, _, _, _, _⟩) (v := ?v34) [(21, 88, 0)] [] rfl rfl (by kernel_rfl) (by kernel_rfl) (fun t w1 hB hf hbf => ?y34) ?n34
  case y34 =>
    simp only [DepF, List.getD_cons_zero] at hf
    obtain ⟨⟨_, ⟨e88, i88⟩, rfl⟩, _⟩ := hf
    clear hbf
    skip
    refine Or.inl ⟨wanted_none rfl, ?_⟩
    rintro _ rfl
    go_simp <;> with_reducible rfl
  refine relG_pure (i := 23) (o := ⟨some 90, _, _, _, _, _⟩) (v := ?v35) [(22, 89, 0)] [6] rfl rfl (by kernel_rfl) (by kernel_rfl) (fun t w1 hB hf hbf => ?y35) ?n35
  case y35 =>
    simp only [DepF, List.getD_cons_zero] at hf
    simp only [BasF] at hbf
    obtain ⟨⟨_, ⟨e89, i89⟩, rfl⟩, _⟩ := hf
    obtain ⟨⟨b6, k6⟩, _⟩ := hbf
    skip
    refine Or.inl ⟨(by have hg := getD_some i89; simp [Region.wanted, yielded, hg]), ?_⟩
    rintro _ rfl
    go_simp <;> with_reducible rfl
  refine relG_call (i := 24) (o := ⟨some 91, _, _, _, _, _⟩) ((fun v _ => v = .int .i64 2)) [(23, 90, 0), (22, 89, 1)] [] rfl rfl (by kernel_rfl) (by kernel_rfl) ((fun _ _ _ h _ => h)) ?_ ?_
  · intro t w1 hB hf hbf K hK
    simp only [DepF, List.getD_cons_zero, List.getD_cons_succ] at hf
    obtain ⟨⟨_, ⟨e90, i90⟩, rfl⟩, ⟨_, ⟨e89, i89⟩, rfl⟩, _⟩ := hf
    clear hbf
    skip
    refine ⟨(by have hg := getD_some i89; simp [Region.wanted, yielded, hg]), ?_⟩
    go_simp
    refine (num_13b 2 w1).mono ?_
    rintro e w2 ⟨rfl, hb⟩
    exact hK.out _ w2 (rfl) hb
  refine relG_pure (i := 25) (o := ⟨some 92, _, _, _, _, _⟩) (v := ?v36) [(24, 91, 0), (22, 89, 2)] [] rfl rfl (by kernel_rfl) (by kernel_rfl) (fun t w1 hB hf hbf => ?y36) ?n36
  case y36 =>
    simp only [DepF, List.getD_cons_zero, List.getD_cons_succ] at hf
    obtain ⟨⟨_, ⟨e91, i91⟩, rfl⟩, ⟨_, ⟨e89, i89⟩, rfl⟩, _⟩ := hf
    clear hbf
    skip
    refine Or.inl ⟨(by have hg := getD_some i89; simp [Region.wanted, yielded, hg]), ?_⟩
    rintro _ rfl
    go_simp <;> with_reducible rfl
  refine relG_pure (i := 26) (o := ⟨some 93, _, _, _, _, _⟩) (v := ?v37) [(22, 89, 3), (25, 92, 0)] [] rfl rfl (by kernel_rfl) (by kernel_rfl) (fun t w1 hB hf hbf => ?y37) ?n37
  case y37 =>
    simp only [DepF, List.getD_cons_zero, List.getD_cons_succ] at hf
    obtain ⟨⟨_, ⟨e89, i89⟩, rfl⟩, ⟨_, ⟨e92, i92⟩, rfl⟩, _⟩ := hf
    clear hbf
    skip
    refine Or.inl ⟨wanted_none rfl, ?_⟩
    rintro _ rfl
    go_simp <;> with_reducible rfl
  refine relG_pure (i := 27) (o := ⟨some 94, _, _, _, _, _⟩) (v := ?v38) [(26, 93, 0)] [] rfl rfl (by kernel_rfl) (by kernel_rfl) (fun t w1 hB hf hbf => ?y38) ?n38
  case y38 =>
    simp only [DepF, List.getD_cons_zero] at hf
    obtain ⟨⟨_, ⟨e93, i93⟩, rfl⟩, _⟩ := hf
    clear hbf
    skip
    refine Or.inl ⟨wanted_none rfl, ?_⟩
    rintro _ rfl
    go_simp <;> with_reducible rfl
  refine relG_pure (i := 28) (o := ⟨some 95, _, _, _, _, _⟩) (v := ?v39) [(27, 94, 0)] [10] rfl rfl (by kernel_rfl) (by kernel_rfl) (fun t w1 hB hf hbf => ?y39) ?n39
  case y39 =>
    simp only [DepF, List.getD_cons_zero] at hf
    simp only [BasF] at hbf
    obtain ⟨⟨_, ⟨e94, i94⟩, rfl⟩, _⟩ := hf
    obtain ⟨⟨b10, k10⟩, _⟩ := hbf
    skip
    have hx := boxStays Y15.out hB
    have x0 := cell_of_row _ (c11 + 1) 0 _ _ _ hx
    have x1 := cell_of_row _ (c11 + 1) 1 _ _ _ hx
    have x2 := cell_of_row _ (c11 + 1) 2 _ _ _ hx
    have x3 := cell_of_row _ (c11 + 1) 3 _ _ _ hx
    have x4 := cell_of_row _ (c11 + 1) 4 _ _ _ hx
    have x5 := cell_of_row _ (c11 + 1) 5 _ _ _ hx
    refine Or.inl ⟨(by have hg := getD_some i94; simp [Region.wanted, yielded, hg]), ?_⟩
    rintro _ rfl
    go_simp <;> with_reducible rfl
  refine relG_pure (i := 29) (o := ⟨some 96, _, _, _, _, _⟩) (v := ?v40) [(27, 94, 1)] [3] rfl rfl (by kernel_rfl) (by kernel_rfl) (fun t w1 hB hf hbf => ?y40) ?n40
  case y40 =>
    simp only [DepF, List.getD_cons_zero, List.getD_cons_succ] at hf
    simp only [BasF] at hbf
    obtain ⟨⟨_, ⟨e94, i94⟩, rfl⟩, _⟩ := hf
    obtain ⟨⟨b3, k3⟩, _⟩ := hbf
    skip
    have hx := boxStays X15.out hB
    have x0 := cell_of_row _ c7 0 _ _ _ hx
    have x1 := cell_of_row _ c7 1 _ _ _ hx
    have x2 := cell_of_row _ c7 2 _ _ _ hx
    have x3 := cell_of_row _ c7 3 _ _ _ hx
    have x4 := cell_of_row _ c7 4 _ _ _ hx
    have x5 := cell_of_row _ c7 5 _ _ _ hx
    refine Or.inl ⟨(by have hg := getD_some i94; simp [Region.wanted, yielded, hg]), ?_⟩
    rintro _ rfl
    go_simp <;> with_reducible rfl
  refine relG_pure (i := 30) (o := ⟨some 97, _, _, _, _, _⟩) (v := ?v41) [(28, 95, 1), (29, 96, 0), (27, 94, 2)] [] rfl rfl (by kernel_rfl) (by kernel_rfl) (fun t w1 hB hf hbf => ?y41) ?n41
  case y41 =>
    simp only [DepF, List.getD_cons_zero, List.getD_cons_succ] at hf
    obtain ⟨⟨_, ⟨e95, i95⟩, rfl⟩, ⟨_, ⟨e96, i96⟩, rfl⟩, ⟨_, ⟨e94, i94⟩, rfl⟩, _⟩ := hf
    clear hbf
    skip
    have eq := EQ.out
    refine Or.inl ⟨(by have hg := getD_some i94; simp [Region.wanted, yielded, hg]), ?_⟩
    rintro _ rfl
    go_simp <;> with_reducible rfl
  refine relG_pure (i := 31) (o := ⟨some 98, _, _, _, _, _⟩) (v := ?v42) [(27, 94, 3), (30, 97, 0)] [] rfl rfl (by kernel_rfl) (by kernel_rfl) (fun t w1 hB hf hbf => ?y42) ?n42
  case y42 =>
    simp only [DepF, List.getD_cons_zero, List.getD_cons_succ] at hf
    obtain ⟨⟨_, ⟨e94, i94⟩, rfl⟩, ⟨_, ⟨e97, i97⟩, rfl⟩, _⟩ := hf
    clear hbf
    skip
    refine Or.inl ⟨wanted_none rfl, ?_⟩
    rintro _ rfl
    go_simp <;> with_reducible rfl
  refine relG_pure (i := 32) (o := ⟨some 99, _, _, _, _, _⟩) (v := ?v43) [(31, 98, 0)] [] rfl rfl (by kernel_rfl) (by kernel_rfl) (fun t w1 hB hf hbf => ?y43) ?n43
  case y43 =>
    simp only [DepF, List.getD_cons_zero] at hf
    obtain ⟨⟨_, ⟨e98, i98⟩, rfl⟩, _⟩ := hf
    clear hbf
    skip
    refine Or.inl ⟨wanted_none rfl, ?_⟩
    rintro _ rfl
    go_simp <;> with_reducible rfl
  refine relG_pure (i := 33) (o := ⟨some 100, _, _, _, _, _⟩) (v := ?v44) [(32, 99, 0)] [11] rfl rfl (by kernel_rfl) (by kernel_rfl) (fun t w1 hB hf hbf => ?y44) ?n44
  case y44 =>
    simp only [DepF, List.getD_cons_zero] at hf
    simp only [BasF] at hbf
    obtain ⟨⟨_, ⟨e99, i99⟩, rfl⟩, _⟩ := hf
    obtain ⟨⟨b11, k11⟩, _⟩ := hbf
    skip
    refine Or.inl ⟨(by have hg := getD_some i99; simp [Region.wanted, yielded, hg]), ?_⟩
    rintro _ rfl
    go_simp <;> with_reducible rfl
  refine relG_pure (i := 34) (o := ⟨some 101, _, _, _, _, _⟩) (v := ?v45) [(32, 99, 1), (33, 100, 0)] [] rfl rfl (by kernel_rfl) (by kernel_rfl) (fun t w1 hB hf hbf => ?y45) ?n45
  case y45 =>
    simp only [DepF, List.getD_cons_zero, List.getD_cons_succ] at hf
    obtain ⟨⟨_, ⟨e99, i99⟩, rfl⟩, ⟨_, ⟨e100, i100⟩, rfl⟩, _⟩ := hf
    clear hbf
    skip
    refine Or.inl ⟨wanted_none rfl, ?_⟩
    rintro _ rfl
    go_simp <;> with_reducible rfl
  refine relG_pure (i := 35) (o := ⟨some 102, _, _, _, _, _⟩) (v := ?v46) [(34, 101, 0)] [] rfl rfl (by kernel_rfl) (by kernel_rfl) (fun t w1 hB hf hbf => ?y46) ?n46
  case y46 =>
    simp only [DepF, List.getD_cons_zero] at hf
    obtain ⟨⟨_, ⟨e101, i101⟩, rfl⟩, _⟩ := hf
    clear hbf
    skip
    refine Or.inl ⟨wanted_none rfl, ?_⟩
    rintro _ rfl
    go_simp <;> with_reducible rfl
  refine relG_pure (i := 36) (o := ⟨some 103, _, _, _, _, _⟩) (v := ?v47) [(35, 102, 0)] [12] rfl rfl (by kernel_rfl) (by kernel_rfl) (fun t w1 hB hf hbf => ?y47) ?n47
  case y47 =>
    simp only [DepF, List.getD_cons_zero] at hf
    simp only [BasF] at hbf
    obtain ⟨⟨_, ⟨e102, i102⟩, rfl⟩, _⟩ := hf
    obtain ⟨⟨b12, k12⟩, _⟩ := hbf
    skip
    refine Or.inl ⟨(by have hg := getD_some i102; simp [Region.wanted, yielded, hg]), ?_⟩
    rintro _ rfl
    go_simp <;> with_reducible rfl
  refine relG_call (i := 37) (o := ⟨some 104, _, _, _, _, _⟩) ((fun v w' => ∃ b, v = .slice (some ⟨b, 0, none⟩) 2 2 ∧ CellsAt w' (some ⟨b, 0, none⟩) (txV [tB, tC]))) [(35, 102, 1)] [] rfl rfl (by kernel_rfl) (by kernel_rfl) ((fun v w' w'' h hb => by obtain ⟨b, e1, e2⟩ := h; exact ⟨b, e1, e2.below hb rfl⟩)) ?_ ?_
  · intro t w1 hB hf hbf K hK
    simp only [DepF, List.getD_cons_zero, List.getD_cons_succ] at hf
    obtain ⟨⟨_, ⟨e102, i102⟩, rfl⟩, _⟩ := hf
    clear hbf
    skip
    refine ⟨(by have hg := getD_some i102; simp [Region.wanted, yielded, hg]), ?_⟩
    go_simp
    exact hK.out _ _ (⟨_, rfl, CellsAt.new _ _ _ [.string tB, .string tC]⟩) (below_new _ _)
  refine relG_call (i := 38) (o := ⟨some 105, _, _, _, _, _⟩) ((fun v _ => v = .bool true)) [(36, 103, 1), (37, 104, 0), (35, 102, 2)] [] rfl rfl (by kernel_rfl) (by kernel_rfl) ((fun _ _ _ h _ => h)) ?_ ?_
  · intro t w1 hB hf hbf K hK
    simp only [DepF, List.getD_cons_zero, List.getD_cons_succ] at hf
    obtain ⟨⟨_, ⟨e103, i103⟩, rfl⟩, ⟨_, ⟨e104, i104⟩, ⟨b37, rfl, hc37⟩⟩, ⟨_, ⟨e102, i102⟩, rfl⟩, _⟩ := hf
    clear hbf
    skip
    refine ⟨(by have hg := getD_some i102; simp [Region.wanted, yielded, hg]), ?_⟩
    go_simp
    refine (ref9_SameTexts [tB, tC] [tB, tC] at6 (some ⟨b37, 0, none⟩) 2 2 ct6 2 w1 (TX15.out.below hB rfl) hc37 rfl rfl (by omega)).mono ?_
    rintro e w2 ⟨rfl, hb⟩
    exact hK.out _ w2 (by rw [decide_eq_true rfl]) hb
  refine relG_pure (i := 39) (o := ⟨some 106, _, _, _, _, _⟩) (v := ?v48) [(35, 102, 3), (38, 105, 0)] [] rfl rfl (by kernel_rfl) (by kernel_rfl) (fun t w1 hB hf hbf => ?y48) ?n48
  case y48 =>
    simp only [DepF, List.getD_cons_zero, List.getD_cons_succ] at hf
    obtain ⟨⟨_, ⟨e102, i102⟩, rfl⟩, ⟨_, ⟨e105, i105⟩, rfl⟩, _⟩ := hf
    clear hbf
    skip
    refine Or.inl ⟨wanted_none rfl, ?_⟩
    rintro _ rfl
    go_simp <;> with_reducible rfl
  refine relG_pure (i := 40) (o := ⟨some 107, _, _, _, _, _⟩) (v := ?v49) [(39, 106, 0)] [] rfl rfl (by kernel_rfl) (by kernel_rfl) (fun t w1 hB hf hbf => ?y49) ?n49
  case y49 =>
    simp only [DepF, List.getD_cons_zero] at hf
    obtain ⟨⟨_, ⟨e106, i106⟩, rfl⟩, _⟩ := hf
    clear hbf
    skip
    refine Or.inl ⟨wanted_none rfl, ?_⟩
    rintro _ rfl
    go_simp <;> with_reducible rfl
  refine relG_pure (i := 41) (o := ⟨some 108, _, _, _, _, _⟩) (v := ?v50) [(40, 107, 0)] [15] rfl rfl (by kernel_rfl) (by kernel_rfl) (fun t w1 hB hf hbf => ?y50) ?n50
  case y50 =>
    simp only [DepF, List.getD_cons_zero] at hf
    simp only [BasF] at hbf
    obtain ⟨⟨_, ⟨e107, i107⟩, rfl⟩, _⟩ := hf
    obtain ⟨⟨b15, k15⟩, _⟩ := hbf
    skip
    refine Or.inl ⟨(by have hg := getD_some i107; simp [Region.wanted, yielded, hg]), ?_⟩
    rintro _ rfl
    go_simp <;> with_reducible rfl
  refine relG_pure (i := 42) (o := ⟨some 109, _, _, _, _, _⟩) (v := ?v51) [(41, 108, 0), (40, 107, 1)] [] rfl rfl (by kernel_rfl) (by kernel_rfl) (fun t w1 hB hf hbf => ?y51) ?n51
  case y51 =>
    simp only [DepF, List.getD_cons_zero, List.getD_cons_succ] at hf
    obtain ⟨⟨_, ⟨e108, i108⟩, rfl⟩, ⟨_, ⟨e107, i107⟩, rfl⟩, _⟩ := hf
    clear hbf
    skip
    refine Or.inl ⟨(by have hg := getD_some i107; simp [Region.wanted, yielded, hg]), ?_⟩
    rintro _ rfl
    go_simp <;> with_reducible rfl
  refine relG_pure (i := 43) (o := ⟨some 110, _, _, _, _, _⟩) (v := ?v52) [(40, 107, 2), (42, 109, 0)] [] rfl rfl (by kernel_rfl) (by kernel_rfl) (fun t w1 hB hf hbf => ?y52) ?n52
  case y52 =>
    simp only [DepF, List.getD_cons_zero, List.getD_cons_succ] at hf
    obtain ⟨⟨_, ⟨e107, i107⟩, rfl⟩, ⟨_, ⟨e109, i109⟩, rfl⟩, _⟩ := hf
    clear hbf
    skip
    refine Or.inl ⟨wanted_none rfl, ?_⟩
    rintro _ rfl
    go_simp <;> with_reducible rfl
  refine relG_pure (i := 44) (o := ⟨some 0, _, _, _, _, _⟩) (v := ?v53) [(43, 110, 0)] [] rfl rfl (by kernel_rfl) (by kernel_rfl) (fun t w1 hB hf hbf => ?y53) ?n53
  case y53 =>
    simp only [DepF, List.getD_cons_zero] at hf
    obtain ⟨⟨_, ⟨e110, i110⟩, rfl⟩, _⟩ := hf
    clear hbf
    skip
    refine Or.inl ⟨wanted_none rfl, ?_⟩
    rintro _ rfl
    go_simp <;> with_reducible rfl
  refine relG_done [(0, 67, 44), (1, 68, 43), (2, 69, 42), (3, 70, 41), (4, 71, 40), (5, 72, 39), (6, 73, 38), (7, 74, 37), (8, 75, 36), (9, 76, 35), (10, 77, 34), (11, 78, 33), (12, 79, 32), (13, 80, 31), (14, 81, 30), (15, 82, 29), (16, 83, 28), (17, 84, 27), (18, 85, 26), (19, 86, 25), (20, 87, 24), (21, 88, 23), (22, 89, 22), (23, 90, 21), (24, 91, 20), (25, 92, 19), (26, 93, 18), (27, 94, 17), (28, 95, 16), (29, 96, 15), (30, 97, 14), (31, 98, 13), (32, 99, 12), (33, 100, 11), (34, 101, 10), (35, 102, 9), (36, 103, 8), (37, 104, 7), (38, 105, 6), (39, 106, 5), (40, 107, 4), (41, 108, 3), (42, 109, 2), (43, 110, 1), (44, 0, 0)] (by kernel_rfl) rfl (by kernel_rfl) (fun f wE hB hf => ?_)
  simp only [FinF, List.getD_cons_zero, List.getD_cons_succ] at hf
  obtain ⟨⟨_, e67, rfl⟩, ⟨_, e68, rfl⟩, ⟨_, e69, rfl⟩, ⟨_, e70, rfl⟩, ⟨_, e71, rfl⟩, ⟨_, e72, rfl⟩, ⟨_, e73, rfl⟩, ⟨_, e74, rfl⟩, ⟨_, e75, rfl⟩, ⟨_, e76, rfl⟩, ⟨_, e77, rfl⟩, ⟨_, e78, rfl⟩, ⟨_, e79, rfl⟩, ⟨_, e80, rfl⟩, ⟨_, e81, rfl⟩, ⟨_, e82, rfl⟩, ⟨_, e83, rfl⟩, ⟨_, e84, rfl⟩, ⟨_, e85, rfl⟩, ⟨_, e86, rfl⟩, ⟨_, e87, rfl⟩, ⟨_, e88, rfl⟩, ⟨_, e89, rfl⟩, ⟨_, e90, rfl⟩, ⟨_, e91, rfl⟩, ⟨_, e92, rfl⟩, ⟨_, e93, rfl⟩, ⟨_, e94, rfl⟩, ⟨_, e95, rfl⟩, ⟨_, e96, rfl⟩, ⟨_, e97, rfl⟩, ⟨_, e98, rfl⟩, ⟨_, e99, rfl⟩, ⟨_, e100, rfl⟩, ⟨_, e101, rfl⟩, ⟨_, e102, rfl⟩, ⟨_, e103, rfl⟩, ⟨_, e104, ⟨b37, rfl, hc37⟩⟩, ⟨_, e105, rfl⟩, ⟨_, e106, rfl⟩, ⟨_, e107, rfl⟩, ⟨_, e108, rfl⟩, ⟨_, e109, rfl⟩, ⟨_, e110, rfl⟩, ⟨_, e0, rfl⟩, _⟩ := hf
  simp only [regT, List.foldl_cons, List.foldl_nil, List.setIfInBounds_toArray, List.set_cons_zero, List.set_cons_succ, e67, e68, e69, e70, e71, e72, e73, e74, e75, e76, e77, e78, e79, e80, e81, e82, e83, e84, e85, e86, e87, e88, e89, e90, e91, e92, e93, e94, e95, e96, e97, e98, e99, e100, e101, e102, e103, e104, e105, e106, e107, e108, e109, e110, e0]
  clear e67 e68 e69 e70 e71 e72 e73 e74 e75 e76 e77 e78 e79 e80 e81 e82 e83 e84 e85 e86 e87 e88 e89 e90 e91 e92 e93 e94 e95 e96 e97 e98 e99 e100 e101 e102 e103 e104 e105 e106 e107 e108 e109 e110 e0
  have hb := hB
  clear hB
  replace HC := Lib.hid (HC.out.push hb)
  clear hb
  go_wp2_with fail
  go_ret
  exact ⟨rfl, (HC.out.to w (by simp))⟩
end Go.Proofs.Ytnpiepimajippaa
namespace Go.Proofs.Ytnpiepimajippaa
open Go.RowKit
section
variable {P : Program} {md : Region.Mode} {ops : Array Oper} {Q : Exit → Act → World → Prop} {S : World → Prop} {T : List Nat}
def doneB (ops : Array Oper) (T : List Nat) (listed : Array Bool) : Bool := (List.range ops.size).all fun k => T.contains k || listed.getD k false
def anyT (P : Program) (md : Region.Mode) (ops : Array Oper) (Q : Exit → Act → World → Prop) (T : List Nat) (S : World → Prop) : Nat → Array Bool → Act → World → Prop
  | 0, listed, a, w => wpAny P md ops Q 0 listed a w
  | fuel + 1, listed, a, w => if doneB ops T listed = true then wpAny P md ops Q (fuel + 1) listed a w
    else (Region.ready md ops listed = [] → Q .normal a w) ∧ ∀ i ∈ Region.ready md ops listed, wpOp P ops Q i (fun a' w' => S w' ∧ anyT P md ops Q T S fuel (listed.setIfInBounds i true) a' w') a w
def AllReadyT (P : Program) (md : Region.Mode) (ops : Array Oper) (Q : Exit → Act → World → Prop) (T : List Nat) (S : World → Prop) (fuel : Nat) (listed : Array Bool) (a : Act) (w : World) (rs : List Nat) : Prop :=
  ∀ i ∈ rs, wpOp P ops Q i (fun a' w' => S w' ∧ anyT P md ops Q T S fuel (listed.setIfInBounds i true) a' w') a w
theorem AllReadyT.nil {fuel : Nat} {listed : Array Bool} {a : Act} {w : World} : AllReadyT P md ops Q T S fuel listed a w [] := fun _ h => by cases h
theorem AllReadyT.cons {fuel : Nat} {listed : Array Bool} {a : Act} {w : World} {i : Nat} {o : Oper} {rs : List Nat} (ho : ops[i]? = some o) (hw : Region.wanted o (yielded ops a.tmps) = true)
    (h : ∀ K' : Act → World → Prop, Shut (∀ a w, S w → (S w → anyT P md ops Q T S fuel (listed.setIfInBounds i true) a w) → K' a w) → Oper.wp P o a w K' Q)
    (hs : AllReadyT P md ops Q T S fuel listed a w rs) : AllReadyT P md ops Q T S fuel listed a w (i :: rs) := fun j hj => by
  rcases List.mem_cons.1 hj with rfl | hj
  · unfold wpOp
    simp only [ho]
    rw [if_pos hw]
    exact .inl (h _ (fun a w hS hW => ⟨hS, hW hS⟩))
  · exact hs j hj
end
end Go.Proofs.Ytnpiepimajippaa
namespace Go.Proofs.Ytnpiepimajippaa
open Go.RowKit Pm
def NodeMapS (W : World) (B : Nat) (ps : List Nat) : Prop :=
  ∃ (es : Array MapEntry) (clock : Nat), W.heap[B]? = some (.map es clock) ∧ es.toList.map (fun e => (e.key, e.val)) = ps.map fun b => (Value.pointer (some ⟨b, 0, none⟩), Value.bool true)
def NdsS (W : World) (ps : List Nat) : Prop := ∀ b ∈ ps, ∃ cs, W.heap[b]? = some (.cells cs 110 (0, 0))
theorem AtS.nds {w : World} {t : Tr ByteArray} (h : AtS w t) : NdsS w (blocks t) := by
  induction t with
  | nil => intro b hb; simp [blocks] at hb
  | node b l k v r ih1 ih2 =>
    obtain ⟨h1, h2, h3⟩ := h
    intro b' hb
    simp only [blocks, List.mem_append, List.mem_cons] at hb
    rcases hb with hb | rfl | hb
    · exact ih1 h2 b' hb
    · exact ⟨_, h1⟩
    · exact ih2 h3 b' hb
theorem ptr_equalS (w : World) (b b' : Nat) (h : NdsS w [b, b']) : (Op.equal 25 (.pointer (some ⟨b, 0, none⟩)) (.pointer (some ⟨b', 0, none⟩))).run Try.prog w = .ok (decide (b = b')) w := by
  have hp := Try.underlying25
  obtain ⟨j, hj, hs⟩ : ∃ j, Try.prog.info? 110 = some j ∧ j.size = 6 := by
    have h := infoNodeS
    cases hi : Try.prog.info? 110 with
    | none => rw [hi] at h; cases h
    | some j => rw [hi] at h; exact ⟨j, rfl, by simpa using h⟩
  obtain ⟨c1, h1⟩ := h b (by simp)
  obtain ⟨c2, h2⟩ := h b' (by simp)
  by_cases e : b = b'
  · subst e
    have h : ∀ d : Nat, (Op.equalIn (d + 1) 25 (.pointer (some ⟨b, 0, none⟩)) (.pointer (some ⟨b, 0, none⟩))).run Try.prog w = .ok true w := fun d => by
      simp [Op.equalIn, run_underlying hp, sizeOf, typeInfo, hj, run_sameAddr_same]
    simp [Op.equal, Op.maxDepth, h 9999]
  · have h : ∀ d : Nat, (Op.equalIn (d + 1) 25 (.pointer (some ⟨b, 0, none⟩)) (.pointer (some ⟨b', 0, none⟩))).run Try.prog w = .ok false w := fun d => by
      simp [Op.equalIn, run_underlying hp, sizeOf, typeInfo, hj, hs, run_sameAddr_other w (a := ⟨b, 0, none⟩) (b := ⟨b', 0, none⟩) (by simp [e]) h1 h2]
    simp [Op.equal, Op.maxDepth, h 9999, e]
theorem findAskingS (w : World) (b : Nat) : ∀ (es : List MapEntry) (ps : List Nat) (i : Nat), es.map (fun e => (e.key, e.val)) = ps.map (fun b => (Value.pointer (some ⟨b, 0, none⟩), Value.bool true)) → NdsS w (b :: ps) →
    (b ∉ ps ∧ (Instr.findAsking 25 (.pointer (some ⟨b, 0, none⟩)) es i).run Try.prog w = .ok none w) ∨ (b ∈ ps ∧ ∃ j, (Instr.findAsking 25 (.pointer (some ⟨b, 0, none⟩)) es i).run Try.prog w = .ok (some (j, .bool true)) w)
  | [], ps, i, h, _ => by
    have : ps = [] := by simpa using h.symm
    subst this
    exact .inl ⟨by simp, by simp [Instr.findAsking]⟩
  | e :: es, [], i, h, _ => by simp at h
  | e :: es, p :: ps, i, h, hn => by
    simp only [List.map_cons, List.cons.injEq, Prod.mk.injEq] at h
    obtain ⟨⟨hk, hv⟩, hr⟩ := h
    have he := ptr_equalS w b p (fun x hx => hn x (by simp at hx ⊢; rcases hx with h | h <;> simp [h]))
    by_cases e1 : b = p
    · subst e1
      refine .inr ⟨by simp, i, ?_⟩
      simp only [decide_true] at he
      simp [Instr.findAsking, hk, hv, he]
    · have hd : decide (b = p) = false := by simpa using e1
      rw [hd] at he
      rcases findAskingS w b es ps (i + 1) hr (fun x hx => hn x (by simp at hx ⊢; rcases hx with h | h <;> simp [h])) with ⟨h1, h2⟩ | ⟨h1, j, h2⟩
      · exact .inl ⟨by simp [e1, h1], by simp [Instr.findAsking, hk, he, h2]⟩
      · exact .inr ⟨by simp [h1], j, by simp [Instr.findAsking, hk, he, h2]⟩
theorem findKeyS (w : World) (b : Nat) (es : List MapEntry) (ps : List Nat) (h : es.map (fun e => (e.key, e.val)) = ps.map (fun b => (Value.pointer (some ⟨b, 0, none⟩), Value.bool true))) (hn : NdsS w (b :: ps)) :
    (b ∉ ps ∧ (Instr.findKey 25 (.pointer (some ⟨b, 0, none⟩)) es).run Try.prog w = .ok none w) ∨ (b ∈ ps ∧ ∃ j, (Instr.findKey 25 (.pointer (some ⟨b, 0, none⟩)) es).run Try.prog w = .ok (some (j, .bool true)) w) := by
  have hp := Try.underlying25
  cases es with
  | nil =>
    have : ps = [] := by simpa using h.symm
    subst this
    exact .inl ⟨by simp, by simp [Instr.findKey, run_underlying hp, Instr.findNow]⟩
  | cons e es =>
    have hs : ∀ v, Instr.sameNow (.pointer 110) (.pointer (some ⟨b, 0, none⟩)) v = none := fun v => by simp [Instr.sameNow]
    have hf : Instr.findNow (.pointer 110) (.pointer (some ⟨b, 0, none⟩)) (e :: es) 0 = none := by simp [Instr.findNow, hs]
    have := findAskingS w b (e :: es) ps 0 h hn
    simpa [Instr.findKey, run_underlying hp, hf] using this
theorem checkKeySS (w : World) (em : Bool) (n b : Nat) : (Instr.checkKey em (n + 1) 25 (.pointer (some ⟨b, 0, none⟩))).run Try.prog w = .ok () w := by
  have hp := Try.underlying25
  simp [Instr.checkKey, run_underlying hp]
theorem checkKeyNS (w : World) (em : Bool) (b : Nat) : (Instr.checkKey em 10000 25 (.pointer (some ⟨b, 0, none⟩))).run Try.prog w = .ok () w := checkKeySS w em 9999 b
theorem nodeMap_lookS {w : World} {B : Nat} {ps : List Nat} (h : NodeMapS w B ps) (b : Nat) (hn : NdsS w (b :: ps)) :
    (Instr.lookup 151 (.map (some B)) (.pointer (some ⟨b, 0, none⟩)) false).run Try.prog w = .ok (.bool (decide (b ∈ ps))) w := by
  obtain ⟨es, clock, hB, he⟩ := h
  have hm := Try.underlying151
  have hz : (zeroValue 4).run Try.prog w = .ok (.bool false) w := by kernel_rfl
  have hc := checkKeyNS w es.isEmpty b
  rcases findKeyS w b es.toList ps he hn with ⟨h1, h2⟩ | ⟨h1, j, h2⟩
  · unfold Instr.lookup
    simp [run_underlying hm, Go.MapKept.run_getObj_map hB, hc, h2, hz, h1]
  · unfold Instr.lookup
    simp [run_underlying hm, Go.MapKept.run_getObj_map hB, hc, h2, h1]
theorem nodeMap_putS {w : World} {B : Nat} {ps : List Nat} (h : NodeMapS w B ps) (b : Nat) (hn : NdsS w (b :: ps)) (hb : b ∉ ps) :
    ∃ o, (Instr.mapUpdate 151 (.map (some B)) (.pointer (some ⟨b, 0, none⟩)) (.bool true)).run Try.prog w = .ok () (w.putObj B o) ∧ NodeMapS (w.putObj B o) B (ps ++ [b]) := by
  obtain ⟨es, clock, hB, he⟩ := h
  have hm := Try.underlying151
  have hc := checkKeyNS w false b
  rcases findKeyS w b es.toList ps he hn with ⟨h1, h2⟩ | ⟨h1, j, h2⟩
  · refine ⟨.map (es.push { key := .pointer (some ⟨b, 0, none⟩), val := .bool true, born := clock }) (clock + 1), ?_, ?_⟩
    · unfold Instr.mapUpdate
      simp [run_underlying hm, Go.MapKept.run_getObj_map hB, Go.MapKept.run_setObj_map _ hB, hc, h2]
      rfl
    · exact ⟨_, _, World.putObj_heap_same (Array.getElem?_eq_some_iff.1 hB).1, by simp [he]⟩
  · exact absurd h1 hb
end Go.Proofs.Ytnpiepimajippaa
namespace Go.Proofs.Ytnpiepimajippaa
open Go.RowKit Pm
attribute [local go_sem] Oper.semAt_some
def Pm.blkOfS : Tr ByteArray → Nat
  | .nil => 0
  | .node b _ _ _ _ => b
theorem nodesL_nodeS : ∀ (t : Tr ByteArray) (x : Tr ByteArray), x ∈ nodesLS t → ∃ b l k v r, x = .node b l k v r ∧ b ∈ blocks t
  | .nil, x, h => by simp [nodesLS] at h
  | .node b l k v r, x, h => by
    simp only [nodesLS, List.mem_append, List.mem_singleton] at h
    rcases h with (h | h) | h
    · obtain ⟨b', l', k', v', r', e, hb⟩ := nodesL_nodeS l x h
      exact ⟨b', l', k', v', r', e, by simp [blocks, hb]⟩
    · obtain ⟨b', l', k', v', r', e, hb⟩ := nodesL_nodeS r x h
      exact ⟨b', l', k', v', r', e, by simp [blocks, hb]⟩
    · exact ⟨b, l, k, v, r, h, by simp [blocks]⟩
theorem nodesL_permS : ∀ (t : Tr ByteArray), ((nodesLS t).map blkOfS).Perm (blocks t)
  | .nil => .nil
  | .node b l k v r => by
    simp only [nodesLS, blocks, List.map_append, List.map_cons, List.map_nil]
    have h1 := nodesL_permS l
    have h2 := nodesL_permS r
    have h3 : ((nodesLS r).map blkOfS ++ [b]).Perm (b :: blocks r) := (List.perm_append_comm (l₁ := (nodesLS r).map blkOfS) (l₂ := [b])).trans (h2.cons b)
    rw [List.append_assoc]
    exact h1.append h3
end Go.Proofs.Ytnpiepimajippaa
namespace Go.Proofs.Ytnpiepimajippaa
open Go.RowKit Pm
def prtVS (p : ByteArray × Bool) : Value := .agg #[.string p.1, .bool p.2]
def keepFS (p q r : ByteArray × Bool) : ByteArray × Bool := if q.2 && r.2 then (q.1, true) else if q.2 && !p.2 then (q.1, true) else if r.2 && !q.2 && !p.2 then (r.1, true) else ((⟨#[]⟩ : ByteArray), false)
def prtTS (t : Tr ByteArray) (k : ByteArray) : ByteArray × Bool := (valOr (seek k t), isNS (seek k t))
theorem prtT_lkS {t : Tr ByteArray} {k : ByteArray} (hs : Srt (items t)) : prtTS t k = lk (⟨#[]⟩ : ByteArray) (items t) k := by
  unfold prtTS
  cases e : seek k t with
  | nil => rw [lk_none (seek_none hs e)]; rfl
  | node b l k0 v0 r =>
    obtain ⟨rfl, h⟩ := seek_some e
    rw [lk_mem hs h]; rfl
set_option maxRecDepth 100000 in
set_option maxHeartbeats 2000000 in
theorem wk_KeepS (key : ByteArray) (p q r : ByteArray × Bool) (w : World) :
    Calls Try.prog 127 #[.string key, prtVS p, prtVS q, prtVS r] w fun e w' => e = .returned (.tuple #[.string (keepFS p q r).1, .bool (keepFS p q r).2]) ∧ Below w.heap.size w w' := by
  obtain ⟨p1, p2⟩ := p
  obtain ⟨q1, q2⟩ := q
  obtain ⟨r1, r2⟩ := r
  unfold prtVS
  have hb : Below w.heap.size w (((w.alloc (.cells #[.string p1, .bool p2] 148)).alloc (.cells #[.string q1, .bool q2] 148)).alloc (.cells #[.string r1, .bool r2] 148)) := (((Below.refl _ w).alloc (Nat.le_refl _) _).alloc (by simp) _).alloc (by simp; omega) _
  have HB := Lib.hid hb
  clear hb
  cases p2 <;> cases q2 <;> cases r2
  all_goals
    go_enter Try.func127, Try.ntmps127
    go_wp2_with fail
    go_ret2
    exact ⟨by simp [keepFS], HB.out⟩
end Go.Proofs.Ytnpiepimajippaa
