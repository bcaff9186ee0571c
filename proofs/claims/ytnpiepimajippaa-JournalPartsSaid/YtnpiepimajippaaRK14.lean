/- Words, contracts and walks that the proof stands on (JoK JoP). -/
import Derived.Test.YtnpiepimajippaaRK12
import Derived.Test.YtnpiepimajippaaRK13
import Derived.Test.YtnpiepimajippaaRK4
import Derived.Test.YtnpiepimajippaaRK8
namespace Go.Proofs.Ytnpiepimajippaa
open Go.RowKit St Pm
def tA : ByteArray := ⟨#[97]⟩
def tB : ByteArray := ⟨#[98]⟩
def tC : ByteArray := ⟨#[99]⟩
def tZ : ByteArray := ⟨#[122]⟩
theorem at_ok (g : Int) (x : ByteArray) (h1 : 1 ≤ g) (h2 : g ≤ 100) (hx : x.size ≤ 256) : okV (atV g x) = true := by
 refine okV_iff.2 ⟨Sv.ok_iff.2 ⟨h1, ?_, ?_, ?_, ?_, ?_, ?_, ?_, ?_⟩, hx⟩
 · show g ≤ _; omega
 · show (0 : Int) ≤ 0; omega
 · show (0 : Int) < 8; omega
 · show okLabel [97] = true; decide
 · show (1 : Int) ≤ 1; omega
 · show (1 : Int) ≤ _; omega
 · show (0 : Int) ≤ 0; omega
 · show (0 : Int) < 64; omega
theorem at_lt (g h : Int) (x y : ByteArray) : decide (svC (atV g x).1 (atV h y).1 < 0) = decide (g < h) := by
 have e : txtC labA labA = 0 := by unfold txtC; rw [klt_irrefl]; rfl
 show decide (firstC (firstC (numC g h) (firstC (firstC (numC 0 0) (txtC labA labA)) (numC 1 1))) (numC 0 0) < 0) = _
 rw [e, show numC 0 0 = 0 from rfl, show numC 1 1 = 0 from rfl]
 show decide (firstC (firstC (numC g h) 0) 0 < 0) = _
 unfold numC firstC
 by_cases h1 : g < h
 · rw [if_pos h1]; simp [h1]
 · rw [if_neg h1]
   by_cases h2 : g > h
   · rw [if_pos h2]; simp [h1]
   · rw [if_neg h2]; simp [h1]
theorem k_sortx (x : ByteArray) : sortV [atV 2 tB, atV 1 x] = [atV 1 x, atV 2 tB] := by
 show insV (atV 1 x) (insV (atV 2 tB) []) = _
 have e1 : insV (atV 2 tB) [] = [atV 2 tB] := rfl
 rw [e1]
 unfold insV
 have e2 : aheadV (atV 1 x) (atV 2 tB) = false := by
   unfold aheadV
   rw [at_lt]
   simp [atV]
 rw [List.takeWhile_cons, List.dropWhile_cons, e2]
 rfl
theorem k_mayx (x : ByteArray) (hx : x.size ≤ 256) : mayV [atV 2 tB, atV 1 x] = true := mayV_iff.2 ⟨fun y hy => by
 simp only [List.mem_cons, List.not_mem_nil, or_false] at hy
 rcases hy with rfl | rfl
 · exact at_ok _ _ (by omega) (by omega) (by decide)
 · exact at_ok _ _ (by omega) (by omega) hx, by simp [atV]⟩
theorem k_beh (g : Int) : behindV [atV 1 tA, atV 2 tB] (atV g ⟨#[]⟩).1 = decide (2 < g) := at_lt 2 g tB ⟨#[]⟩
theorem k_fit (g : Int) (h1 : 1 ≤ g) (h2 : g ≤ 100) : okV ((atV g ⟨#[]⟩).1, tC) = true := at_ok g tC h1 h2 (by decide)
theorem k_lab (L : List Ev) (h : ∀ x ∈ L, x.1.l = labA) : ∀ e ∈ L, e.1.l.size ≤ 9223372036854775807 := fun e he => by rw [h e he]; decide
theorem part_k {l1 l2 : List Ev} {a b : Tr ByteArray} {v : Bool} (W : World) (a1 : AtS W a) (a2 : AtS W b) (h1 : Reg l1 a) (h2 : Reg l2 b) (z1 : l1.length ≤ 100) (z2 : l2.length ≤ 100) (hv : partV l1 l2 = v) :
   Calls Try.prog 33 #[.agg #[.pointer (pa a)], .agg #[.pointer (pa b)]] W fun e w' => e = .returned (.bool v) ∧ Below W.heap.size W w' := by
 rw [← hv, ← part_reg h1 h2]
 exact jo_Part a b W a1 a2 (by rw [h1.len]; omega) (by rw [h2.len]; omega) h1.keys h2.keys
theorem k_since : sinceL [atV 1 tA, atV 2 tB] (atV 1 ⟨#[]⟩).1 = [atV 2 tB] := by
 unfold sinceL
 have e1 : (atV 1 (⟨#[]⟩ : ByteArray)).1 ≠ zeroS := by simp [atV, zeroS]
 have e2 : (atV 1 (⟨#[]⟩ : ByteArray)).1.ok = true := (okV_iff.1 (at_ok 1 ⟨#[]⟩ (by omega) (by omega) (by decide))).1
 rw [if_neg e1, if_pos e2]
 have b1 : behindV [atV 1 tA] (atV 1 ⟨#[]⟩).1 = false := (at_lt 1 1 tA ⟨#[]⟩).trans (by simp)
 have b2 : behindV [atV 2 tB] (atV 1 ⟨#[]⟩).1 = false := (at_lt 2 1 tB ⟨#[]⟩).trans (by simp)
 rw [List.filter_cons, List.filter_cons, b1, b2]
 simp [atV]
set_option maxRecDepth 100000 in
set_option maxHeartbeats 8000000 in
theorem known_14 (w : World) : Calls Try.prog 24 #[] w fun e w' => e = .returned (.bool true) ∧ Below w.heap.size w w' := by
 have HC : Hid (Chain [w] w) := Lib.hid (Chain.one w)
 go_enter Try.func24, Try.ntmps24
 go_wp2_with fail
 refine (at_14 2 ⟨#[98]⟩ _).mono ?_
 rintro e w1 ⟨rfl, hb⟩
 replace HC := Lib.hid (HC.out.push hb)
 clear hb
 go_wp2_with fail
 refine (at_14 1 ⟨#[97]⟩ _).mono ?_
 rintro e w2 ⟨rfl, hb⟩
 replace HC := Lib.hid (HC.out.push hb)
 clear hb
 go_wp2_with fail
 obtain ⟨c3, hc3⟩ : ∃ c, w2.heap.size = c := ⟨_, rfl⟩
 try rw [hc3]
 obtain ⟨w3, hw3⟩ : ∃ X, allocs w2 [.cells #[.int .i64 2, .int .i64 0, .string labA, .int .i64 1, .int .i64 0, .string ⟨#[98]⟩, .int .i64 1, .int .i64 0, .string labA, .int .i64 1, .int .i64 0, .string ⟨#[97]⟩] 47] = X := ⟨_, rfl⟩
 rw [show w2.alloc (.cells #[.int .i64 2, .int .i64 0, .string labA, .int .i64 1, .int .i64 0, .string ⟨#[98]⟩, .int .i64 1, .int .i64 0, .string labA, .int .i64 1, .int .i64 0, .string ⟨#[97]⟩] 47) = w3 from hw3]
 have hb : Below w2.heap.size w2 w3 := by rw [← hw3]; exact allocs_below _ _
 have HE : Hid (w3.heap[c3]? = some (.cells #[.int .i64 2, .int .i64 0, .string labA, .int .i64 1, .int .i64 0, .string ⟨#[98]⟩, .int .i64 1, .int .i64 0, .string labA, .int .i64 1, .int .i64 0, .string ⟨#[97]⟩] 47 (0, 0))) := Lib.hid (by have := allocs_get [.cells #[.int .i64 2, .int .i64 0, .string labA, .int .i64 1, .int .i64 0, .string ⟨#[98]⟩, .int .i64 1, .int .i64 0, .string labA, .int .i64 1, .int .i64 0, .string ⟨#[97]⟩] 47] w2 0 _ rfl; rw [hw3, hc3] at this; exact this)
 have Sc3 : Hid (w2.heap.size = c3) := Lib.hid hc3
 replace HC := Lib.hid (HC.out.push hb)
 clear hb hw3 hc3
 refine (of_reg14 [atV 2 tB, atV 1 tA] (some ⟨c3, 0, none⟩) 2 2 _ (cells_row HE.out) rfl (by omega) (k_lab _ (by simp [atV]))).mono ?_
 rintro e w4 ⟨t, ce, rfl, ht, hb, _, hP⟩
 replace HC := Lib.hid (HC.out.push hb)
 clear hb
 have T4 := Lib.hid ht
 obtain ⟨rfl, hr⟩ : ce = 0 ∧ Reg [atV 1 tA, atV 2 tB] t := by
   rcases hP with ⟨_, h1, h2⟩ | ⟨h, _⟩
   · rw [k_sortx] at h2; exact ⟨h1, h2⟩
   · rw [k_mayx tA (by decide)] at h; cases h
 have R4 := Lib.hid hr
 clear hP hr ht
 go_upto_region 2 with (fail)
 obtain ⟨c5, hc5⟩ : ∃ c, w4.heap.size = c := ⟨_, rfl⟩
 try rw [hc5]
 obtain ⟨w5, hw5⟩ : ∃ X, allocs w4 [.cells #[.pointer (pa t)] 27] = X := ⟨_, rfl⟩
 rw [show w4.alloc (.cells #[.pointer (pa t)] 27) = w5 from hw5]
 have hb : Below w4.heap.size w4 w5 := by rw [← hw5]; exact allocs_below _ _
 have HM : Hid (w5.heap[c5]? = some (.cells #[.pointer (pa t)] 27 (0, 0))) := Lib.hid (by have := allocs_get [.cells #[.pointer (pa t)] 27] w4 0 _ rfl; rw [hw5, hc5] at this; exact this)
 have Sc5 : Hid (w4.heap.size = c5) := Lib.hid hc5
 replace HC := Lib.hid (HC.out.push hb)
 clear hb hw5 hc5
 have kM0 := cell_of_one HM.out
 go_wp2_with fail
 refine (at_reg 1 _ (T4.out.below (HC.out.to w4 (by simp)) rfl) R4.out (by simp) (by omega) (by omega)).mono ?_
 rintro e w6 ⟨x, rfl, rfl, hb⟩
 clear kM0
 replace HC := Lib.hid (HC.out.push hb)
 clear hb
 rw [show atE [atV 1 tA, atV 2 tB] 1 = (atV 2 tB, true) from rfl]
 simp only [atV, tB]
 go_upto_region 3 with (fail)
 obtain ⟨c7, hc7⟩ : ∃ c, w6.heap.size = c := ⟨_, rfl⟩
 try rw [hc7]
 obtain ⟨w7, hw7⟩ : ∃ X, allocs w6 [.cells #[.int .i64 2, .int .i64 0, .string labA, .int .i64 1, .int .i64 0, .string ⟨#[98]⟩] 47] = X := ⟨_, rfl⟩
 rw [show w6.alloc (.cells #[.int .i64 2, .int .i64 0, .string labA, .int .i64 1, .int .i64 0, .string ⟨#[98]⟩] 47) = w7 from hw7]
 have hb : Below w6.heap.size w6 w7 := by rw [← hw7]; exact allocs_below _ _
 have HX : Hid (w7.heap[c7]? = some (.cells #[.int .i64 2, .int .i64 0, .string labA, .int .i64 1, .int .i64 0, .string ⟨#[98]⟩] 47 (0, 0))) := Lib.hid (by have := allocs_get [.cells #[.int .i64 2, .int .i64 0, .string labA, .int .i64 1, .int .i64 0, .string ⟨#[98]⟩] 47] w6 0 _ rfl; rw [hw7, hc7] at this; exact this)
 have Sc7 : Hid (w6.heap.size = c7) := Lib.hid hc7
 replace HC := Lib.hid (HC.out.push hb)
 clear hb hw7 hc7
 have kM0 := cell_of_one (boxStays HM.out (HC.out.to w5 (by simp)))
 go_wp2_with fail
 refine (at_reg 2 _ (T4.out.below (HC.out.to w4 (by simp)) rfl) R4.out (by simp) (by omega) (by omega)).mono ?_
 rintro e u6 ⟨x2, rfl, rfl, hb⟩
 clear kM0
 replace HC := Lib.hid (HC.out.push hb)
 clear hb
 rw [show atE [atV 1 tA, atV 2 tB] 2 = (zeroE, false) from rfl]
 simp only [zeroE]
 go_upto_region 4 with (fail)
 obtain ⟨d7, hd7⟩ : ∃ c, u6.heap.size = c := ⟨_, rfl⟩
 try rw [hd7]
 obtain ⟨u7, hu7⟩ : ∃ X, allocs u6 [.cells #[.int .i64 0, .int .i64 0, .string ⟨#[]⟩, .int .i64 0, .int .i64 0, .string ⟨#[]⟩] 47] = X := ⟨_, rfl⟩
 rw [show u6.alloc (.cells #[.int .i64 0, .int .i64 0, .string ⟨#[]⟩, .int .i64 0, .int .i64 0, .string ⟨#[]⟩] 47) = u7 from hu7]
 have hb : Below u6.heap.size u6 u7 := by rw [← hu7]; exact allocs_below _ _
 have Sd7 : Hid (u6.heap.size = d7) := Lib.hid hd7
 replace HC := Lib.hid (HC.out.push hb)
 clear hb hu7 hd7
 have M7 := Lib.hid (boxStays HM.out (HC.out.to w5 (by simp)))
 have T7 := Lib.hid (T4.out.below (HC.out.to w4 (by simp)) rfl)
 refine relG_start (slots := [35, 36, 37, 38, 34, 39, 40, 7, 8]) (so := [8]) (by kernel_rfl) (by kernel_rfl) (by rfl) ?_
 refine relG_pure (i := 0) (o := ⟨some 35, _, _, _, _, _⟩) (v := ?v1) [] [1] rfl rfl (by kernel_rfl) (by kernel_rfl) (fun t w1 hB hf hbf => ?y1) ?n1
 case y1 =>
   simp only [BasF] at hbf
   clear hf
   obtain ⟨⟨b1, k1⟩, _⟩ := hbf
   have m0 := cell_of_one (boxStays M7.out hB)
   refine Or.inl ⟨wanted_none rfl, ?_⟩
   rintro _ rfl
   go_simp <;> with_reducible rfl
 refine relG_call (i := 1) (o := ⟨some 36, _, _, _, _, _⟩) ((fun v _ => v = .agg #[.int .i64 1, .int .i64 0, .string labA, .int .i64 1, .int .i64 0, .string ⟨#[]⟩])) [] [] rfl rfl (by kernel_rfl) (by kernel_rfl) ((fun _ _ _ h _ => h)) ?_ ?_
 · intro t w1 hB hf hbf K hK
   clear hf
   clear hbf
   have m0 := cell_of_one (boxStays M7.out hB)
   refine ⟨wanted_none rfl, ?_⟩
   go_simp
   refine (at_14 1 ⟨#[]⟩ w1).mono ?_
   rintro e w2 ⟨rfl, hb⟩
   exact hK.out _ w2 (rfl) hb
 refine relG_pure (i := 2) (o := ⟨some 37, _, _, _, _, _⟩) (v := ?v2) [(1, 36, 0)] [] rfl rfl (by kernel_rfl) (by kernel_rfl) (fun t w1 hB hf hbf => ?y2) ?n2
 case y2 =>
   simp only [DepF, List.getD_cons_zero] at hf
   obtain ⟨⟨_, ⟨e36, i36⟩, rfl⟩, _⟩ := hf
   clear hbf
   have m0 := cell_of_one (boxStays M7.out hB)
   have fd := fld_st 1 0 1 0 labA ⟨#[]⟩
   refine Or.inl ⟨wanted_none rfl, ?_⟩
   rintro _ rfl
   go_simp <;> with_reducible rfl
 refine relG_call (i := 3) (o := ⟨some 38, _, _, _, _, _⟩) ((fun v w' => v = .tuple #[.agg #[.pointer none], .int .i64 2])) [(0, 35, 2), (2, 37, 0)] [] rfl rfl (by kernel_rfl) (by kernel_rfl) ((fun v w' w'' h hb => h)) ?_ ?_
 · intro t w1 hB hf hbf K hK
   simp only [DepF, List.getD_cons_zero, List.getD_cons_succ] at hf
   obtain ⟨⟨_, ⟨e35, i35⟩, rfl⟩, ⟨_, ⟨e37, i37⟩, rfl⟩, _⟩ := hf
   clear hbf
   have m0 := cell_of_one (boxStays M7.out hB)
   refine ⟨wanted_none rfl, ?_⟩
   go_simp
   refine (put_reg14 (atV 1 ⟨#[]⟩).1 tC w1 (T7.out.below hB rfl) R4.out (by simp) (by decide)).mono ?_
   rintro e w2 ⟨m, ce, rfl, hm, hb, hP⟩
   exact hK.out _ w2 ((by rcases hP with ⟨h, _⟩ | ⟨_, h1, h2⟩; rw [k_beh] at h; simp at h; rw [h1, h2]; rfl)) hb
 refine relG_pure (i := 4) (o := ⟨some 34, _, _, _, _, _⟩) (v := ?v3) [(3, 38, 0)] [] rfl rfl (by kernel_rfl) (by kernel_rfl) (fun t w1 hB hf hbf => ?y3) ?n3
 case y3 =>
   simp only [DepF, List.getD_cons_zero] at hf
   obtain ⟨⟨_, ⟨e38, i38⟩, rfl⟩, _⟩ := hf
   clear hbf
   have m0 := cell_of_one (boxStays M7.out hB)
   refine Or.inl ⟨wanted_none rfl, ?_⟩
   rintro _ rfl
   go_simp <;> with_reducible rfl
 refine relG_pure (i := 5) (o := ⟨some 39, _, _, _, _, _⟩) (v := ?v4) [(4, 34, 0)] [] rfl rfl (by kernel_rfl) (by kernel_rfl) (fun t w1 hB hf hbf => ?y4) ?n4
 case y4 =>
   simp only [DepF, List.getD_cons_zero] at hf
   obtain ⟨⟨_, ⟨e34, i34⟩, rfl⟩, _⟩ := hf
   clear hbf
   have m0 := cell_of_one (boxStays M7.out hB)
   refine Or.inl ⟨wanted_none rfl, ?_⟩
   rintro _ rfl
   go_simp <;> with_reducible rfl
 refine relG_pure (i := 6) (o := ⟨some 40, _, _, _, _, _⟩) (v := ?v5) [(4, 34, 1)] [] rfl rfl (by kernel_rfl) (by kernel_rfl) (fun t w1 hB hf hbf => ?y5) ?n5
 case y5 =>
   simp only [DepF, List.getD_cons_zero, List.getD_cons_succ] at hf
   obtain ⟨⟨_, ⟨e34, i34⟩, rfl⟩, _⟩ := hf
   clear hbf
   have m0 := cell_of_one (boxStays M7.out hB)
   refine Or.inl ⟨wanted_none rfl, ?_⟩
   rintro _ rfl
   go_simp <;> with_reducible rfl
 refine relG_call (i := 7) (o := ⟨some 7, _, _, _, _, _⟩) ((fun v w' => ∃ b, v = .pointer (some ⟨b, 0, none⟩) ∧ u7.heap.size ≤ b ∧ w'.heap[b]? = some (.cells #[.pointer none] 27 (0, 0)))) [] [] rfl rfl (by kernel_rfl) (by kernel_rfl) ((fun v w' w'' h hb => by obtain ⟨b, e1, e2, e3⟩ := h; exact ⟨b, e1, e2, boxStays e3 hb⟩)) ?_ ?_
 · intro t w1 hB hf hbf K hK
   clear hf
   clear hbf
   have m0 := cell_of_one (boxStays M7.out hB)
   refine ⟨wanted_none rfl, ?_⟩
   go_simp
   exact hK.out _ _ (⟨_, rfl, hB.size, heap_alloc_new _ _⟩) (below_new _ _)
 refine relG_skip 8 rfl (by rfl) ?_ (by kernel_rfl)
 refine relG_pure (i := 9) (o := ⟨some 8, _, _, _, _, _⟩) (v := ?v6) [(6, 40, 2)] [] rfl rfl (by kernel_rfl) (by kernel_rfl) (fun t w1 hB hf hbf => ?y6) ?n6
 case y6 =>
   simp only [DepF, List.getD_cons_zero, List.getD_cons_succ] at hf
   obtain ⟨⟨_, ⟨e40, i40⟩, rfl⟩, _⟩ := hf
   clear hbf
   have m0 := cell_of_one (boxStays M7.out hB)
   refine Or.inl ⟨wanted_none rfl, ?_⟩
   rintro _ rfl
   go_simp <;> with_reducible rfl
 refine relG_own 8 7 7 39 5 [(0, 35, 9), (1, 36, 8), (2, 37, 7), (3, 38, 6), (4, 34, 5), (5, 39, 4), (6, 40, 3), (7, 7, 2), (9, 8, 0)] [(0, 35, 9), (1, 36, 8), (2, 37, 7), (3, 38, 6), (4, 34, 5), (5, 39, 4), (7, 7, 2)] (by kernel_rfl) rfl (by kernel_rfl) (by kernel_rfl) (by kernel_rfl) (by kernel_rfl) ?_ (fun f wE hB hf => ?_)
 · intro f w1 hB hf K hK
   simp only [FinF, List.getD_cons_zero, List.getD_cons_succ] at hf
   obtain ⟨⟨_, e35, rfl⟩, ⟨_, e36, rfl⟩, ⟨_, e37, rfl⟩, ⟨_, e38, rfl⟩, ⟨_, e34, rfl⟩, ⟨_, e39, rfl⟩, ⟨_, e7, ⟨b1, rfl, hbb, hbr⟩⟩, _⟩ := hf
   have m0 := cell_of_one (boxStays M7.out hB)
   refine sto_own (i := 8) 27 7 39 b1 (#[.pointer none]) _ _ rfl rfl rfl rfl (by rfl) (by rfl) e7 (by rfl) (by rfl) e39 (hbr) (by kernel_rfl) rfl (mp_one _) hK
 simp only [FinF, List.getD_cons_zero, List.getD_cons_succ] at hf
 obtain ⟨⟨_, e35, rfl⟩, ⟨_, e36, rfl⟩, ⟨_, e37, rfl⟩, ⟨_, e38, rfl⟩, ⟨_, e34, rfl⟩, ⟨_, e39, rfl⟩, ⟨_, e40, rfl⟩, ⟨_, e7, ⟨b1, rfl, hbb, hbr⟩⟩, ⟨_, e8, rfl⟩, _⟩ := hf
 simp only [blkOf, Value.cells, regT, List.foldl_cons, List.foldl_nil, List.setIfInBounds_toArray, List.set_cons_zero, List.set_cons_succ, e35, e36, e37, e38, e34, e39, e40, e7, e8]
 clear e35 e36 e37 e38 e34 e39 e40 e7 e8
 rw [setRow_one hbr]
 have hb8 := hB.setCell (p := ⟨b1, 0, none⟩) hbb (.pointer none)
 have QDb1 := Lib.hid hb8
 clear hb8 hB hbb hbr
 generalize wE.setCell ⟨b1, 0, none⟩ (.pointer none) = w8 at *
 have hb := QDb1.out
 replace HC := Lib.hid (HC.out.push hb)
 clear hb
 go_upto_region 5 with (fail)
 have M8 := Lib.hid (boxStays HM.out (HC.out.to w5 (by simp)))
 have T8 := Lib.hid (T4.out.below (HC.out.to w4 (by simp)) rfl)
 refine relG_start (slots := [42, 43, 44, 45, 41, 46, 47, 9, 10]) (so := [8]) (by kernel_rfl) (by kernel_rfl) (by rfl) ?_
 refine relG_pure (i := 0) (o := ⟨some 42, _, _, _, _, _⟩) (v := ?v7) [] [1] rfl rfl (by kernel_rfl) (by kernel_rfl) (fun t w1 hB hf hbf => ?y7) ?n7
 case y7 =>
   simp only [BasF] at hbf
   clear hf
   obtain ⟨⟨b1, k1⟩, _⟩ := hbf
   have m0 := cell_of_one (boxStays M8.out hB)
   refine Or.inl ⟨wanted_none rfl, ?_⟩
   rintro _ rfl
   go_simp <;> with_reducible rfl
 refine relG_call (i := 1) (o := ⟨some 43, _, _, _, _, _⟩) ((fun v _ => v = .agg #[.int .i64 3, .int .i64 0, .string labA, .int .i64 1, .int .i64 0, .string ⟨#[]⟩])) [] [] rfl rfl (by kernel_rfl) (by kernel_rfl) ((fun _ _ _ h _ => h)) ?_ ?_
 · intro t w1 hB hf hbf K hK
   clear hf
   clear hbf
   have m0 := cell_of_one (boxStays M8.out hB)
   refine ⟨wanted_none rfl, ?_⟩
   go_simp
   refine (at_14 3 ⟨#[]⟩ w1).mono ?_
   rintro e w2 ⟨rfl, hb⟩
   exact hK.out _ w2 (rfl) hb
 refine relG_pure (i := 2) (o := ⟨some 44, _, _, _, _, _⟩) (v := ?v8) [(1, 43, 0)] [] rfl rfl (by kernel_rfl) (by kernel_rfl) (fun t w1 hB hf hbf => ?y8) ?n8
 case y8 =>
   simp only [DepF, List.getD_cons_zero] at hf
   obtain ⟨⟨_, ⟨e43, i43⟩, rfl⟩, _⟩ := hf
   clear hbf
   have m0 := cell_of_one (boxStays M8.out hB)
   have fd := fld_st 3 0 1 0 labA ⟨#[]⟩
   refine Or.inl ⟨wanted_none rfl, ?_⟩
   rintro _ rfl
   go_simp <;> with_reducible rfl
 refine relG_call (i := 3) (o := ⟨some 45, _, _, _, _, _⟩) ((fun v w' => ∃ m : Tr ByteArray, v = .tuple #[.agg #[.pointer (pa m)], .int .i64 0] ∧ AtS w' m ∧ Reg [atV 1 tA, atV 2 tB, ((atV 3 ⟨#[]⟩).1, tC)] m)) [(0, 42, 2), (2, 44, 0)] [] rfl rfl (by kernel_rfl) (by kernel_rfl) ((fun v w' w'' h hb => by obtain ⟨m, e1, e2, e3⟩ := h; exact ⟨m, e1, e2.below hb rfl, e3⟩)) ?_ ?_
 · intro t w1 hB hf hbf K hK
   simp only [DepF, List.getD_cons_zero, List.getD_cons_succ] at hf
   obtain ⟨⟨_, ⟨e42, i42⟩, rfl⟩, ⟨_, ⟨e44, i44⟩, rfl⟩, _⟩ := hf
   clear hbf
   have m0 := cell_of_one (boxStays M8.out hB)
   refine ⟨wanted_none rfl, ?_⟩
   go_simp
   refine (put_reg14 (atV 3 ⟨#[]⟩).1 tC w1 (T8.out.below hB rfl) R4.out (by simp) (by decide)).mono ?_
   rintro e w2 ⟨m, ce, rfl, hm, hb, hP⟩
   exact hK.out _ w2 ((by rcases hP with ⟨_, rfl, h3, _⟩ | ⟨h, _⟩; exact ⟨m, rfl, hm, h3⟩; rw [k_beh, k_fit 3 (by omega) (by omega)] at h; simp at h)) hb
 refine relG_call (i := 4) (o := ⟨some 41, _, _, _, _, _⟩) ((fun v w' => ∃ m : Tr ByteArray, v = .tuple #[.agg #[.pointer (pa m)], .int .i64 0] ∧ AtS w' m ∧ Reg [atV 1 tA, atV 2 tB, ((atV 3 ⟨#[]⟩).1, tC)] m)) [(3, 45, 0)] [] rfl rfl (by kernel_rfl) (by kernel_rfl) ((fun v w' w'' h hb => by obtain ⟨m, e1, e2, e3⟩ := h; exact ⟨m, e1, e2.below hb rfl, e3⟩)) ?_ ?_
 · intro t w1 hB hf hbf K hK
   simp only [DepF, List.getD_cons_zero] at hf
   obtain ⟨⟨_, ⟨e45, i45⟩, ⟨m, rfl, hm, hmr⟩⟩, _⟩ := hf
   clear hbf
   have m0 := cell_of_one (boxStays M8.out hB)
   refine ⟨wanted_none rfl, ?_⟩
   go_simp
   exact hK.out _ _ (⟨m, rfl, hm, hmr⟩) (Below.refl _ _)
 refine relG_call (i := 5) (o := ⟨some 46, _, _, _, _, _⟩) ((fun v w' => ∃ m : Tr ByteArray, v = .agg #[.pointer (pa m)] ∧ AtS w' m ∧ Reg [atV 1 tA, atV 2 tB, ((atV 3 ⟨#[]⟩).1, tC)] m)) [(4, 41, 0)] [] rfl rfl (by kernel_rfl) (by kernel_rfl) ((fun v w' w'' h hb => by obtain ⟨m, e1, e2, e3⟩ := h; exact ⟨m, e1, e2.below hb rfl, e3⟩)) ?_ ?_
 · intro t w1 hB hf hbf K hK
   simp only [DepF, List.getD_cons_zero] at hf
   obtain ⟨⟨_, ⟨e41, i41⟩, ⟨m, rfl, hm, hmr⟩⟩, _⟩ := hf
   clear hbf
   have m0 := cell_of_one (boxStays M8.out hB)
   refine ⟨wanted_none rfl, ?_⟩
   go_simp
   exact hK.out _ _ (⟨m, rfl, hm, hmr⟩) (Below.refl _ _)
 refine relG_pure (i := 6) (o := ⟨some 47, _, _, _, _, _⟩) (v := ?v9) [(4, 41, 1)] [] rfl rfl (by kernel_rfl) (by kernel_rfl) (fun t w1 hB hf hbf => ?y9) ?n9
 case y9 =>
   simp only [DepF, List.getD_cons_zero, List.getD_cons_succ] at hf
   obtain ⟨⟨_, ⟨e41, i41⟩, ⟨m, rfl, hm, hmr⟩⟩, _⟩ := hf
   clear hbf
   have m0 := cell_of_one (boxStays M8.out hB)
   refine Or.inl ⟨wanted_none rfl, ?_⟩
   rintro _ rfl
   go_simp <;> with_reducible rfl
 refine relG_call (i := 7) (o := ⟨some 9, _, _, _, _, _⟩) ((fun v w' => ∃ b, v = .pointer (some ⟨b, 0, none⟩) ∧ w8.heap.size ≤ b ∧ w'.heap[b]? = some (.cells #[.pointer none] 27 (0, 0)))) [] [] rfl rfl (by kernel_rfl) (by kernel_rfl) ((fun v w' w'' h hb => by obtain ⟨b, e1, e2, e3⟩ := h; exact ⟨b, e1, e2, boxStays e3 hb⟩)) ?_ ?_
 · intro t w1 hB hf hbf K hK
   clear hf
   clear hbf
   have m0 := cell_of_one (boxStays M8.out hB)
   refine ⟨wanted_none rfl, ?_⟩
   go_simp
   exact hK.out _ _ (⟨_, rfl, hB.size, heap_alloc_new _ _⟩) (below_new _ _)
 refine relG_skip 8 rfl (by rfl) ?_ (by kernel_rfl)
 refine relG_pure (i := 9) (o := ⟨some 10, _, _, _, _, _⟩) (v := ?v10) [(6, 47, 2)] [] rfl rfl (by kernel_rfl) (by kernel_rfl) (fun t w1 hB hf hbf => ?y10) ?n10
 case y10 =>
   simp only [DepF, List.getD_cons_zero, List.getD_cons_succ] at hf
   obtain ⟨⟨_, ⟨e47, i47⟩, rfl⟩, _⟩ := hf
   clear hbf
   have m0 := cell_of_one (boxStays M8.out hB)
   refine Or.inl ⟨wanted_none rfl, ?_⟩
   rintro _ rfl
   go_simp <;> with_reducible rfl
 refine relG_own 8 9 7 46 5 [(0, 42, 9), (1, 43, 8), (2, 44, 7), (3, 45, 6), (4, 41, 5), (5, 46, 4), (6, 47, 3), (7, 9, 2), (9, 10, 0)] [(0, 42, 9), (1, 43, 8), (2, 44, 7), (3, 45, 6), (4, 41, 5), (5, 46, 4), (7, 9, 2)] (by kernel_rfl) rfl (by kernel_rfl) (by kernel_rfl) (by kernel_rfl) (by kernel_rfl) ?_ (fun f wE hB hf => ?_)
 · intro f w1 hB hf K hK
   simp only [FinF, List.getD_cons_zero, List.getD_cons_succ] at hf
   obtain ⟨⟨_, e42, rfl⟩, ⟨_, e43, rfl⟩, ⟨_, e44, rfl⟩, ⟨_, e45, ⟨m, rfl, hm, hmr⟩⟩, ⟨_, e41, ⟨m, rfl, hm, hmr⟩⟩, ⟨_, e46, ⟨n, rfl, hn, hnr⟩⟩, ⟨_, e9, ⟨bb, rfl, hbb, hbr⟩⟩, _⟩ := hf
   have m0 := cell_of_one (boxStays M8.out hB)
   refine sto_own (i := 8) 27 9 46 bb (#[.pointer (pa n)]) _ _ rfl rfl rfl rfl (by rfl) (by rfl) e9 (by rfl) (by rfl) e46 (hbr) (by kernel_rfl) rfl (mp_one _) hK
 simp only [FinF, List.getD_cons_zero, List.getD_cons_succ] at hf
 obtain ⟨⟨_, e42, rfl⟩, ⟨_, e43, rfl⟩, ⟨_, e44, rfl⟩, ⟨_, e45, ⟨m, rfl, hm, hmr⟩⟩, ⟨_, e41, ⟨m, rfl, hm, hmr⟩⟩, ⟨_, e46, ⟨n, rfl, hn, hnr⟩⟩, ⟨_, e47, rfl⟩, ⟨_, e9, ⟨bb, rfl, hbb, hbr⟩⟩, ⟨_, e10, rfl⟩, _⟩ := hf
 simp only [blkOf, Value.cells, regT, List.foldl_cons, List.foldl_nil, List.setIfInBounds_toArray, List.set_cons_zero, List.set_cons_succ, e42, e43, e44, e45, e41, e46, e47, e9, e10]
 clear e42 e43 e44 e45 e41 e46 e47 e9 e10
 rw [setRow_one hbr]
 have N7 := Lib.hid hnr
 have hn8 := hn.setBox hbr (by decide) 0 (.pointer (pa n))
 have hN8 := Boxed.set (t := 27) (.pointer (pa n)) hbr
 have hb8 := hB.setCell (p := ⟨bb, 0, none⟩) hbb (.pointer (pa n))
 have QA := Lib.hid hn8
 have QB := Lib.hid hN8
 have QC := Lib.hid hb8
 clear hn8 hN8 hb8 hB hn hnr hm hmr hbb hbr
 generalize wE.setCell ⟨bb, 0, none⟩ (.pointer (pa n)) = w9 at *
 have hb := QC.out
 have HN : Hid (w9.heap[bb]? = some (.cells #[.pointer (pa n)] 27 (0, 0))) := Lib.hid QB.out
 replace HC := Lib.hid (HC.out.push hb)
 clear hb
 have kN0 := cell_of_one HN.out
 go_wp2_with fail
 refine (txt_reg14 _ QA.out N7.out (by simp)).mono ?_
 rintro e w12 ⟨vt, rfl, hb, hown⟩
 clear kN0
 replace HC := Lib.hid (HC.out.push hb)
 clear hb
 obtain ⟨at6, ct6, rfl, _⟩ := own_slice hown
 have X6 : Hid (CellsAt w12 at6 (txV [tA, tB, tC])) := Lib.hid (CellsAt.ownN hown)
 clear hown
 try simp only [List.length_cons, List.length_nil, Nat.zero_add, Nat.reduceAdd]
 go_upto_region 7 with (fail)
 have M14 := Lib.hid (boxStays HM.out (HC.out.to w5 (by simp)))
 have T14 := Lib.hid (T4.out.below (HC.out.to w4 (by simp)) rfl)
 refine relG_start (slots := [54, 55, 56, 57, 53, 58, 59, 13, 14]) (so := [8]) (by kernel_rfl) (by kernel_rfl) (by rfl) ?_
 refine relG_pure (i := 0) (o := ⟨some 54, _, _, _, _, _⟩) (v := ?v11) [] [1] rfl rfl (by kernel_rfl) (by kernel_rfl) (fun t w1 hB hf hbf => ?y11) ?n11
 case y11 =>
   simp only [BasF] at hbf
   clear hf
   obtain ⟨⟨b1, k1⟩, _⟩ := hbf
   have m0 := cell_of_one (boxStays M14.out hB)
   refine Or.inl ⟨wanted_none rfl, ?_⟩
   rintro _ rfl
   go_simp <;> with_reducible rfl
 refine relG_call (i := 1) (o := ⟨some 55, _, _, _, _, _⟩) ((fun v _ => v = .agg #[.int .i64 2, .int .i64 0, .string labA, .int .i64 1, .int .i64 0, .string ⟨#[]⟩])) [] [] rfl rfl (by kernel_rfl) (by kernel_rfl) ((fun _ _ _ h _ => h)) ?_ ?_
 · intro t w1 hB hf hbf K hK
   clear hf
   clear hbf
   have m0 := cell_of_one (boxStays M14.out hB)
   refine ⟨wanted_none rfl, ?_⟩
   go_simp
   refine (at_14 2 ⟨#[]⟩ w1).mono ?_
   rintro e w2 ⟨rfl, hb⟩
   exact hK.out _ w2 (rfl) hb
 refine relG_pure (i := 2) (o := ⟨some 56, _, _, _, _, _⟩) (v := ?v12) [(1, 55, 0)] [] rfl rfl (by kernel_rfl) (by kernel_rfl) (fun t w1 hB hf hbf => ?y12) ?n12
 case y12 =>
   simp only [DepF, List.getD_cons_zero] at hf
   obtain ⟨⟨_, ⟨e55, i55⟩, rfl⟩, _⟩ := hf
   clear hbf
   have m0 := cell_of_one (boxStays M14.out hB)
   have fd := fld_st 2 0 1 0 labA ⟨#[]⟩
   refine Or.inl ⟨wanted_none rfl, ?_⟩
   rintro _ rfl
   go_simp <;> with_reducible rfl
 refine relG_call (i := 3) (o := ⟨some 57, _, _, _, _, _⟩) ((fun v w' => v = .tuple #[.agg #[.pointer none], .int .i64 2])) [(0, 54, 2), (2, 56, 0)] [] rfl rfl (by kernel_rfl) (by kernel_rfl) ((fun v w' w'' h hb => h)) ?_ ?_
 · intro t w1 hB hf hbf K hK
   simp only [DepF, List.getD_cons_zero, List.getD_cons_succ] at hf
   obtain ⟨⟨_, ⟨e54, i54⟩, rfl⟩, ⟨_, ⟨e56, i56⟩, rfl⟩, _⟩ := hf
   clear hbf
   have m0 := cell_of_one (boxStays M14.out hB)
   refine ⟨wanted_none rfl, ?_⟩
   go_simp
   refine (put_reg14 (atV 2 ⟨#[]⟩).1 tC w1 (T14.out.below hB rfl) R4.out (by simp) (by decide)).mono ?_
   rintro e w2 ⟨m, ce, rfl, hm, hb, hP⟩
   exact hK.out _ w2 ((by rcases hP with ⟨h, _⟩ | ⟨_, h1, h2⟩; rw [k_beh] at h; simp at h; rw [h1, h2]; rfl)) hb
 refine relG_pure (i := 4) (o := ⟨some 53, _, _, _, _, _⟩) (v := ?v13) [(3, 57, 0)] [] rfl rfl (by kernel_rfl) (by kernel_rfl) (fun t w1 hB hf hbf => ?y13) ?n13
 case y13 =>
   simp only [DepF, List.getD_cons_zero] at hf
   obtain ⟨⟨_, ⟨e57, i57⟩, rfl⟩, _⟩ := hf
   clear hbf
   have m0 := cell_of_one (boxStays M14.out hB)
   refine Or.inl ⟨wanted_none rfl, ?_⟩
   rintro _ rfl
   go_simp <;> with_reducible rfl
 refine relG_pure (i := 5) (o := ⟨some 58, _, _, _, _, _⟩) (v := ?v14) [(4, 53, 0)] [] rfl rfl (by kernel_rfl) (by kernel_rfl) (fun t w1 hB hf hbf => ?y14) ?n14
 case y14 =>
   simp only [DepF, List.getD_cons_zero] at hf
   obtain ⟨⟨_, ⟨e53, i53⟩, rfl⟩, _⟩ := hf
   clear hbf
   have m0 := cell_of_one (boxStays M14.out hB)
   refine Or.inl ⟨wanted_none rfl, ?_⟩
   rintro _ rfl
   go_simp <;> with_reducible rfl
 refine relG_pure (i := 6) (o := ⟨some 59, _, _, _, _, _⟩) (v := ?v15) [(4, 53, 1)] [] rfl rfl (by kernel_rfl) (by kernel_rfl) (fun t w1 hB hf hbf => ?y15) ?n15
 case y15 =>
   simp only [DepF, List.getD_cons_zero, List.getD_cons_succ] at hf
   obtain ⟨⟨_, ⟨e53, i53⟩, rfl⟩, _⟩ := hf
   clear hbf
   have m0 := cell_of_one (boxStays M14.out hB)
   refine Or.inl ⟨wanted_none rfl, ?_⟩
   rintro _ rfl
   go_simp <;> with_reducible rfl
 refine relG_call (i := 7) (o := ⟨some 13, _, _, _, _, _⟩) ((fun v w' => ∃ b, v = .pointer (some ⟨b, 0, none⟩) ∧ w12.heap.size ≤ b ∧ w'.heap[b]? = some (.cells #[.pointer none] 27 (0, 0)))) [] [] rfl rfl (by kernel_rfl) (by kernel_rfl) ((fun v w' w'' h hb => by obtain ⟨b, e1, e2, e3⟩ := h; exact ⟨b, e1, e2, boxStays e3 hb⟩)) ?_ ?_
 · intro t w1 hB hf hbf K hK
   clear hf
   clear hbf
   have m0 := cell_of_one (boxStays M14.out hB)
   refine ⟨wanted_none rfl, ?_⟩
   go_simp
   exact hK.out _ _ (⟨_, rfl, hB.size, heap_alloc_new _ _⟩) (below_new _ _)
 refine relG_skip 8 rfl (by rfl) ?_ (by kernel_rfl)
 refine relG_pure (i := 9) (o := ⟨some 14, _, _, _, _, _⟩) (v := ?v16) [(6, 59, 2)] [] rfl rfl (by kernel_rfl) (by kernel_rfl) (fun t w1 hB hf hbf => ?y16) ?n16
 case y16 =>
   simp only [DepF, List.getD_cons_zero, List.getD_cons_succ] at hf
   obtain ⟨⟨_, ⟨e59, i59⟩, rfl⟩, _⟩ := hf
   clear hbf
   have m0 := cell_of_one (boxStays M14.out hB)
   refine Or.inl ⟨wanted_none rfl, ?_⟩
   rintro _ rfl
   go_simp <;> with_reducible rfl
 refine relG_own 8 13 7 58 5 [(0, 54, 9), (1, 55, 8), (2, 56, 7), (3, 57, 6), (4, 53, 5), (5, 58, 4), (6, 59, 3), (7, 13, 2), (9, 14, 0)] [(0, 54, 9), (1, 55, 8), (2, 56, 7), (3, 57, 6), (4, 53, 5), (5, 58, 4), (7, 13, 2)] (by kernel_rfl) rfl (by kernel_rfl) (by kernel_rfl) (by kernel_rfl) (by kernel_rfl) ?_ (fun f wE hB hf => ?_)
 · intro f w1 hB hf K hK
   simp only [FinF, List.getD_cons_zero, List.getD_cons_succ] at hf
   obtain ⟨⟨_, e54, rfl⟩, ⟨_, e55, rfl⟩, ⟨_, e56, rfl⟩, ⟨_, e57, rfl⟩, ⟨_, e53, rfl⟩, ⟨_, e58, rfl⟩, ⟨_, e13, ⟨b2, rfl, hbb, hbr⟩⟩, _⟩ := hf
   have m0 := cell_of_one (boxStays M14.out hB)
   refine sto_own (i := 8) 27 13 58 b2 (#[.pointer none]) _ _ rfl rfl rfl rfl (by rfl) (by rfl) e13 (by rfl) (by rfl) e58 (hbr) (by kernel_rfl) rfl (mp_one _) hK
 simp only [FinF, List.getD_cons_zero, List.getD_cons_succ] at hf
 obtain ⟨⟨_, e54, rfl⟩, ⟨_, e55, rfl⟩, ⟨_, e56, rfl⟩, ⟨_, e57, rfl⟩, ⟨_, e53, rfl⟩, ⟨_, e58, rfl⟩, ⟨_, e59, rfl⟩, ⟨_, e13, ⟨b2, rfl, hbb, hbr⟩⟩, ⟨_, e14, rfl⟩, _⟩ := hf
 simp only [blkOf, Value.cells, regT, List.foldl_cons, List.foldl_nil, List.setIfInBounds_toArray, List.set_cons_zero, List.set_cons_succ, e54, e55, e56, e57, e53, e58, e59, e13, e14]
 clear e54 e55 e56 e57 e53 e58 e59 e13 e14
 rw [setRow_one hbr]
 have hb8 := hB.setCell (p := ⟨b2, 0, none⟩) hbb (.pointer none)
 have QDb2 := Lib.hid hb8
 clear hb8 hB hbb hbr
 generalize wE.setCell ⟨b2, 0, none⟩ (.pointer none) = w15 at *
 have hb := QDb2.out
 replace HC := Lib.hid (HC.out.push hb)
 clear hb
 go_wp2_with fail
 refine (at_14 2 ⟨#[98]⟩ _).mono ?_
 rintro e y1 ⟨rfl, hb⟩
 replace HC := Lib.hid (HC.out.push hb)
 clear hb
 go_wp2_with fail
 refine (at_14 1 ⟨#[122]⟩ _).mono ?_
 rintro e y2 ⟨rfl, hb⟩
 replace HC := Lib.hid (HC.out.push hb)
 clear hb
 go_wp2_with fail
 obtain ⟨e3, he3⟩ : ∃ c, y2.heap.size = c := ⟨_, rfl⟩
 try rw [he3]
 obtain ⟨y3, hy3⟩ : ∃ X, allocs y2 [.cells #[.int .i64 2, .int .i64 0, .string labA, .int .i64 1, .int .i64 0, .string ⟨#[98]⟩, .int .i64 1, .int .i64 0, .string labA, .int .i64 1, .int .i64 0, .string ⟨#[122]⟩] 47] = X := ⟨_, rfl⟩
 rw [show y2.alloc (.cells #[.int .i64 2, .int .i64 0, .string labA, .int .i64 1, .int .i64 0, .string ⟨#[98]⟩, .int .i64 1, .int .i64 0, .string labA, .int .i64 1, .int .i64 0, .string ⟨#[122]⟩] 47) = y3 from hy3]
 have hb : Below y2.heap.size y2 y3 := by rw [← hy3]; exact allocs_below _ _
 have HE2 : Hid (y3.heap[e3]? = some (.cells #[.int .i64 2, .int .i64 0, .string labA, .int .i64 1, .int .i64 0, .string ⟨#[98]⟩, .int .i64 1, .int .i64 0, .string labA, .int .i64 1, .int .i64 0, .string ⟨#[122]⟩] 47 (0, 0))) := Lib.hid (by have := allocs_get [.cells #[.int .i64 2, .int .i64 0, .string labA, .int .i64 1, .int .i64 0, .string ⟨#[98]⟩, .int .i64 1, .int .i64 0, .string labA, .int .i64 1, .int .i64 0, .string ⟨#[122]⟩] 47] y2 0 _ rfl; rw [hy3, he3] at this; exact this)
 have Se3 : Hid (y2.heap.size = e3) := Lib.hid he3
 replace HC := Lib.hid (HC.out.push hb)
 clear hb hy3 he3
 refine (of_reg14 [atV 2 tB, atV 1 tZ] (some ⟨e3, 0, none⟩) 2 2 _ (cells_row HE2.out) rfl (by omega) (k_lab _ (by simp [atV]))).mono ?_
 rintro e y4 ⟨tq, ce, rfl, ht, hb, _, hP⟩
 replace HC := Lib.hid (HC.out.push hb)
 clear hb
 have TO := Lib.hid ht
 obtain ⟨rfl, hr⟩ : ce = 0 ∧ Reg [atV 1 tZ, atV 2 tB] tq := by
   rcases hP with ⟨_, h1, h2⟩ | ⟨h, _⟩
   · rw [k_sortx] at h2; exact ⟨h1, h2⟩
   · rw [k_mayx tZ (by decide)] at h; cases h
 have RO := Lib.hid hr
 clear hP hr ht
 go_upto_region 9 with (fail)
 obtain ⟨e5, he5⟩ : ∃ c, y4.heap.size = c := ⟨_, rfl⟩
 try rw [he5]
 obtain ⟨y5, hy5⟩ : ∃ X, allocs y4 [.cells #[.pointer (pa tq)] 27] = X := ⟨_, rfl⟩
 rw [show y4.alloc (.cells #[.pointer (pa tq)] 27) = y5 from hy5]
 have hb : Below y4.heap.size y4 y5 := by rw [← hy5]; exact allocs_below _ _
 have HO : Hid (y5.heap[e5]? = some (.cells #[.pointer (pa tq)] 27 (0, 0))) := Lib.hid (by have := allocs_get [.cells #[.pointer (pa tq)] 27] y4 0 _ rfl; rw [hy5, he5] at this; exact this)
 have Se5 : Hid (y4.heap.size = e5) := Lib.hid he5
 replace HC := Lib.hid (HC.out.push hb)
 clear hb hy5 he5
 have M9 := Lib.hid (boxStays HM.out (HC.out.to w5 (by simp)))
 have O9 := HO
 have T9 := Lib.hid (T4.out.below (HC.out.to w4 (by simp)) rfl)
 have TO9 := Lib.hid (TO.out.below (HC.out.to y4 (by simp)) rfl)
 have N9 := Lib.hid (boxStays HN.out (HC.out.to w9 (by simp)))
 have TN9 := Lib.hid (QA.out.below (HC.out.to w9 (by simp)) rfl)
 have X9 := Lib.hid (boxStays HX.out (HC.out.to w7 (by simp)))
 have TX9 := Lib.hid (X6.out.below (HC.out.to w12 (by simp)) rfl)
 obtain ⟨tr, rfl⟩ : ∃ x : Tr ByteArray, x = t := ⟨_, rfl⟩
 have PT1 : Hid (∀ W, AtS W tq → AtS W tr → Calls Try.prog 33 #[.agg #[.pointer (pa tq)], .agg #[.pointer (pa tr)]] W fun e w' => e = .returned (.bool false) ∧ Below W.heap.size W w') := Lib.hid (fun W a1 a2 => part_k W a1 a2 RO.out R4.out (by simp) (by simp) (by simp [partV, hasEv, atV, tA, tB, tC, tZ]))
 have PT2 : Hid (∀ W, AtS W tr → AtS W n → Calls Try.prog 33 #[.agg #[.pointer (pa tr)], .agg #[.pointer (pa n)]] W fun e w' => e = .returned (.bool true) ∧ Below W.heap.size W w') := Lib.hid (fun W a1 a2 => part_k W a1 a2 R4.out N7.out (by simp) (by simp) (by simp [partV, hasEv, atV, tA, tB, tC, tZ]))
 have PT3 : Hid (∀ W, AtS W n → AtS W tr → Calls Try.prog 33 #[.agg #[.pointer (pa n)], .agg #[.pointer (pa tr)]] W fun e w' => e = .returned (.bool false) ∧ Below W.heap.size W w') := Lib.hid (fun W a1 a2 => part_k W a1 a2 N7.out R4.out (by simp) (by simp) (by simp [partV, hasEv, atV, tA, tB, tC, tZ]))
 have SN : Hid (sinceT tr (atV 1 ⟨#[]⟩).1 = [atV 2 tB]) := Lib.hid (by rw [since_reg R4.out]; exact k_since)
 refine relG_start (slots := [67, 68, 69, 70, 71, 72, 73, 74, 75, 76, 77, 78, 79, 80, 81, 82, 83, 84, 85, 86, 87, 88, 89]) (so := []) (by kernel_rfl) (by kernel_rfl) (by rfl) ?_
 refine relG_pure (i := 0) (o := ⟨some 67, _, _, _, _, _⟩) (v := ?v17) [] [14] rfl rfl (by kernel_rfl) (by kernel_rfl) (fun t w1 hB hf hbf => ?y17) ?n17
 case y17 =>
   simp only [BasF] at hbf
   clear hf
   obtain ⟨⟨b14, k14⟩, _⟩ := hbf
   have m0 := cell_of_one (boxStays M9.out hB)
   have o0 := cell_of_one (boxStays O9.out hB)
   refine Or.inl ⟨wanted_none rfl, ?_⟩
   rintro _ rfl
   go_simp <;> with_reducible rfl
 refine relG_call (i := 1) (o := ⟨some 68, _, _, _, _, _⟩) ((fun v _ => v = .int .i64 2)) [(0, 67, 0)] [] rfl rfl (by kernel_rfl) (by kernel_rfl) ((fun _ _ _ h _ => h)) ?_ ?_
 · intro t w1 hB hf hbf K hK
   simp only [DepF, List.getD_cons_zero] at hf
   obtain ⟨⟨_, ⟨e67, i67⟩, rfl⟩, _⟩ := hf
   clear hbf
   have m0 := cell_of_one (boxStays M9.out hB)
   have o0 := cell_of_one (boxStays O9.out hB)
   refine ⟨wanted_none rfl, ?_⟩
   go_simp
   refine (num_14b 2 w1).mono ?_
   rintro e w2 ⟨rfl, hb⟩
   exact hK.out _ w2 (rfl) hb
 refine relG_pure (i := 2) (o := ⟨some 69, _, _, _, _, _⟩) (v := ?v18) [(1, 68, 0)] [] rfl rfl (by kernel_rfl) (by kernel_rfl) (fun t w1 hB hf hbf => ?y18) ?n18
 case y18 =>
   simp only [DepF, List.getD_cons_zero] at hf
   obtain ⟨⟨_, ⟨e68, i68⟩, rfl⟩, _⟩ := hf
   clear hbf
   have m0 := cell_of_one (boxStays M9.out hB)
   have o0 := cell_of_one (boxStays O9.out hB)
   refine Or.inl ⟨wanted_none rfl, ?_⟩
   rintro _ rfl
   go_simp <;> with_reducible rfl
 refine relG_pure (i := 3) (o := ⟨some 70, _, _, _, _, _⟩) (v := ?v19) [(2, 69, 0)] [] rfl rfl (by kernel_rfl) (by kernel_rfl) (fun t w1 hB hf hbf => ?y19) ?n19
 case y19 =>
   simp only [DepF, List.getD_cons_zero] at hf
   obtain ⟨⟨_, ⟨e69, i69⟩, rfl⟩, _⟩ := hf
   clear hbf
   have m0 := cell_of_one (boxStays M9.out hB)
   have o0 := cell_of_one (boxStays O9.out hB)
   refine Or.inl ⟨wanted_none rfl, ?_⟩
   rintro _ rfl
   go_simp <;> with_reducible rfl
 refine relG_pure (i := 4) (o := ⟨some 71, _, _, _, _, _⟩) (v := ?v20) [(3, 70, 0)] [16] rfl rfl (by kernel_rfl) (by kernel_rfl) (fun t w1 hB hf hbf => ?y20) ?n20
 case y20 =>
   simp only [DepF, List.getD_cons_zero] at hf
   simp only [BasF] at hbf
   obtain ⟨⟨_, ⟨e70, i70⟩, rfl⟩, _⟩ := hf
   obtain ⟨⟨b16, k16⟩, _⟩ := hbf
   have m0 := cell_of_one (boxStays M9.out hB)
   have o0 := cell_of_one (boxStays O9.out hB)
   refine Or.inl ⟨(by have hg := getD_some i70; simp [Region.wanted, yielded, hg]), ?_⟩
   rintro _ rfl
   go_simp <;> with_reducible rfl
 refine relG_call (i := 5) (o := ⟨some 72, _, _, _, _, _⟩) ((fun v _ => v = .int .i64 0)) [(4, 71, 0), (3, 70, 1)] [] rfl rfl (by kernel_rfl) (by kernel_rfl) ((fun _ _ _ h _ => h)) ?_ ?_
 · intro t w1 hB hf hbf K hK
   simp only [DepF, List.getD_cons_zero, List.getD_cons_succ] at hf
   obtain ⟨⟨_, ⟨e71, i71⟩, rfl⟩, ⟨_, ⟨e70, i70⟩, rfl⟩, _⟩ := hf
   clear hbf
   have m0 := cell_of_one (boxStays M9.out hB)
   have o0 := cell_of_one (boxStays O9.out hB)
   refine ⟨(by have hg := getD_some i70; simp [Region.wanted, yielded, hg]), ?_⟩
   go_simp
   refine (num_14b 0 w1).mono ?_
   rintro e w2 ⟨rfl, hb⟩
   exact hK.out _ w2 (rfl) hb
 refine relG_pure (i := 6) (o := ⟨some 73, _, _, _, _, _⟩) (v := ?v21) [(5, 72, 0), (3, 70, 2)] [] rfl rfl (by kernel_rfl) (by kernel_rfl) (fun t w1 hB hf hbf => ?y21) ?n21
 case y21 =>
   simp only [DepF, List.getD_cons_zero, List.getD_cons_succ] at hf
   obtain ⟨⟨_, ⟨e72, i72⟩, rfl⟩, ⟨_, ⟨e70, i70⟩, rfl⟩, _⟩ := hf
   clear hbf
   have m0 := cell_of_one (boxStays M9.out hB)
   have o0 := cell_of_one (boxStays O9.out hB)
   refine Or.inl ⟨(by have hg := getD_some i70; simp [Region.wanted, yielded, hg]), ?_⟩
   rintro _ rfl
   go_simp <;> with_reducible rfl
 refine relG_pure (i := 7) (o := ⟨some 74, _, _, _, _, _⟩) (v := ?v22) [(3, 70, 3), (6, 73, 0)] [] rfl rfl (by kernel_rfl) (by kernel_rfl) (fun t w1 hB hf hbf => ?y22) ?n22
 case y22 =>
   simp only [DepF, List.getD_cons_zero, List.getD_cons_succ] at hf
   obtain ⟨⟨_, ⟨e70, i70⟩, rfl⟩, ⟨_, ⟨e73, i73⟩, rfl⟩, _⟩ := hf
   clear hbf
   have m0 := cell_of_one (boxStays M9.out hB)
   have o0 := cell_of_one (boxStays O9.out hB)
   refine Or.inl ⟨wanted_none rfl, ?_⟩
   rintro _ rfl
   go_simp <;> with_reducible rfl
 refine relG_pure (i := 8) (o := ⟨some 75, _, _, _, _, _⟩) (v := ?v23) [(7, 74, 0)] [] rfl rfl (by kernel_rfl) (by kernel_rfl) (fun t w1 hB hf hbf => ?y23) ?n23
 case y23 =>
   simp only [DepF, List.getD_cons_zero] at hf
   obtain ⟨⟨_, ⟨e74, i74⟩, rfl⟩, _⟩ := hf
   clear hbf
   have m0 := cell_of_one (boxStays M9.out hB)
   have o0 := cell_of_one (boxStays O9.out hB)
   refine Or.inl ⟨wanted_none rfl, ?_⟩
   rintro _ rfl
   go_simp <;> with_reducible rfl
 refine relG_pure (i := 9) (o := ⟨some 76, _, _, _, _, _⟩) (v := ?v24) [(8, 75, 0)] [15] rfl rfl (by kernel_rfl) (by kernel_rfl) (fun t w1 hB hf hbf => ?y24) ?n24
 case y24 =>
   simp only [DepF, List.getD_cons_zero] at hf
   simp only [BasF] at hbf
   obtain ⟨⟨_, ⟨e75, i75⟩, rfl⟩, _⟩ := hf
   obtain ⟨⟨b15, k15⟩, _⟩ := hbf
   have m0 := cell_of_one (boxStays M9.out hB)
   have o0 := cell_of_one (boxStays O9.out hB)
   refine Or.inl ⟨(by have hg := getD_some i75; simp [Region.wanted, yielded, hg]), ?_⟩
   rintro _ rfl
   go_simp <;> with_reducible rfl
 refine relG_pure (i := 10) (o := ⟨some 77, _, _, _, _, _⟩) (v := ?v25) [(8, 75, 1)] [1] rfl rfl (by kernel_rfl) (by kernel_rfl) (fun t w1 hB hf hbf => ?y25) ?n25
 case y25 =>
   simp only [DepF, List.getD_cons_zero, List.getD_cons_succ] at hf
   simp only [BasF] at hbf
   obtain ⟨⟨_, ⟨e75, i75⟩, rfl⟩, _⟩ := hf
   obtain ⟨⟨b1, k1⟩, _⟩ := hbf
   have m0 := cell_of_one (boxStays M9.out hB)
   have o0 := cell_of_one (boxStays O9.out hB)
   refine Or.inl ⟨(by have hg := getD_some i75; simp [Region.wanted, yielded, hg]), ?_⟩
   rintro _ rfl
   go_simp <;> with_reducible rfl
 refine relG_call (i := 11) (o := ⟨some 78, _, _, _, _, _⟩) ((fun v _ => v = .bool false)) [(9, 76, 1), (10, 77, 0), (8, 75, 2)] [] rfl rfl (by kernel_rfl) (by kernel_rfl) ((fun _ _ _ h _ => h)) ?_ ?_
 · intro t w1 hB hf hbf K hK
   simp only [DepF, List.getD_cons_zero, List.getD_cons_succ] at hf
   obtain ⟨⟨_, ⟨e76, i76⟩, rfl⟩, ⟨_, ⟨e77, i77⟩, rfl⟩, ⟨_, ⟨e75, i75⟩, rfl⟩, _⟩ := hf
   clear hbf
   have m0 := cell_of_one (boxStays M9.out hB)
   have o0 := cell_of_one (boxStays O9.out hB)
   refine ⟨(by have hg := getD_some i75; simp [Region.wanted, yielded, hg]), ?_⟩
   go_simp
   refine (PT1.out w1 (TO9.out.below hB rfl) (T9.out.below hB rfl)).mono ?_
   rintro e w2 ⟨rfl, hb⟩
   exact hK.out _ w2 (rfl) hb
 refine relG_pure (i := 12) (o := ⟨some 79, _, _, _, _, _⟩) (v := ?v26) [(8, 75, 3), (11, 78, 0)] [] rfl rfl (by kernel_rfl) (by kernel_rfl) (fun t w1 hB hf hbf => ?y26) ?n26
 case y26 =>
   simp only [DepF, List.getD_cons_zero, List.getD_cons_succ] at hf
   obtain ⟨⟨_, ⟨e75, i75⟩, rfl⟩, ⟨_, ⟨e78, i78⟩, rfl⟩, _⟩ := hf
   clear hbf
   have m0 := cell_of_one (boxStays M9.out hB)
   have o0 := cell_of_one (boxStays O9.out hB)
   refine Or.inl ⟨wanted_none rfl, ?_⟩
   rintro _ rfl
   go_simp <;> with_reducible rfl
 refine relG_pure (i := 13) (o := ⟨some 80, _, _, _, _, _⟩) (v := ?v27) [(12, 79, 0)] [] rfl rfl (by kernel_rfl) (by kernel_rfl) (fun t w1 hB hf hbf => ?y27) ?n27
 case y27 =>
   simp only [DepF, List.getD_cons_zero] at hf
   obtain ⟨⟨_, ⟨e79, i79⟩, rfl⟩, _⟩ := hf
   clear hbf
   have m0 := cell_of_one (boxStays M9.out hB)
   have o0 := cell_of_one (boxStays O9.out hB)
   refine Or.inl ⟨wanted_none rfl, ?_⟩
   rintro _ rfl
   go_simp <;> with_reducible rfl
 refine relG_pure (i := 14) (o := ⟨some 81, _, _, _, _, _⟩) (v := ?v28) [(13, 80, 0)] [1] rfl rfl (by kernel_rfl) (by kernel_rfl) (fun t w1 hB hf hbf => ?y28) ?n28
 case y28 =>
   simp only [DepF, List.getD_cons_zero] at hf
   simp only [BasF] at hbf
   obtain ⟨⟨_, ⟨e80, i80⟩, rfl⟩, _⟩ := hf
   obtain ⟨⟨b1, k1⟩, _⟩ := hbf
   have m0 := cell_of_one (boxStays M9.out hB)
   have o0 := cell_of_one (boxStays O9.out hB)
   refine Or.inl ⟨(by have hg := getD_some i80; simp [Region.wanted, yielded, hg]), ?_⟩
   rintro _ rfl
   go_simp <;> with_reducible rfl
 refine relG_call (i := 15) (o := ⟨some 82, _, _, _, _, _⟩) ((fun v _ => v = .agg #[.int .i64 1, .int .i64 0, .string labA, .int .i64 1, .int .i64 0, .string ⟨#[]⟩])) [(13, 80, 1)] [] rfl rfl (by kernel_rfl) (by kernel_rfl) ((fun _ _ _ h _ => h)) ?_ ?_
 · intro t w1 hB hf hbf K hK
   simp only [DepF, List.getD_cons_zero, List.getD_cons_succ] at hf
   obtain ⟨⟨_, ⟨e80, i80⟩, rfl⟩, _⟩ := hf
   clear hbf
   have m0 := cell_of_one (boxStays M9.out hB)
   have o0 := cell_of_one (boxStays O9.out hB)
   refine ⟨(by have hg := getD_some i80; simp [Region.wanted, yielded, hg]), ?_⟩
   go_simp
   refine (at_14 1 ⟨#[]⟩ w1).mono ?_
   rintro e w2 ⟨rfl, hb⟩
   exact hK.out _ w2 (rfl) hb
 refine relG_pure (i := 16) (o := ⟨some 83, _, _, _, _, _⟩) (v := ?v29) [(15, 82, 0), (13, 80, 2)] [] rfl rfl (by kernel_rfl) (by kernel_rfl) (fun t w1 hB hf hbf => ?y29) ?n29
 case y29 =>
   simp only [DepF, List.getD_cons_zero, List.getD_cons_succ] at hf
   obtain ⟨⟨_, ⟨e82, i82⟩, rfl⟩, ⟨_, ⟨e80, i80⟩, rfl⟩, _⟩ := hf
   clear hbf
   have m0 := cell_of_one (boxStays M9.out hB)
   have o0 := cell_of_one (boxStays O9.out hB)
   have fd := fld_st 1 0 1 0 labA ⟨#[]⟩
   refine Or.inl ⟨(by have hg := getD_some i80; simp [Region.wanted, yielded, hg]), ?_⟩
   rintro _ rfl
   go_simp <;> with_reducible rfl
 refine relG_call (i := 17) (o := ⟨some 84, _, _, _, _, _⟩) ((fun v w' => ∃ sb mb, v = .func (.func 115) #[] #[.pointer (some ⟨sb, 0, none⟩), .pointer (some ⟨mb, 0, none⟩)] ∧ Boxed w' mb 27 (.pointer (pa tr)) ∧ w'.heap[sb]? = some (.cells #[.int .i64 1, .int .i64 0, .string labA, .int .i64 1, .int .i64 0] 41 (0, 0)))) [(14, 81, 2), (16, 83, 0), (13, 80, 3)] [] rfl rfl (by kernel_rfl) (by kernel_rfl) ((fun v w' w'' h hb => by obtain ⟨sb, mb, e1, e2, e3⟩ := h; exact ⟨sb, mb, e1, boxStays e2 hb, boxStays e3 hb⟩)) ?_ ?_
 · intro t w1 hB hf hbf K hK
   simp only [DepF, List.getD_cons_zero, List.getD_cons_succ] at hf
   obtain ⟨⟨_, ⟨e81, i81⟩, rfl⟩, ⟨_, ⟨e83, i83⟩, rfl⟩, ⟨_, ⟨e80, i80⟩, rfl⟩, _⟩ := hf
   clear hbf
   have m0 := cell_of_one (boxStays M9.out hB)
   have o0 := cell_of_one (boxStays O9.out hB)
   refine ⟨(by have hg := getD_some i80; simp [Region.wanted, yielded, hg]), ?_⟩
   go_simp
   refine (since_14 tr (atV 1 ⟨#[]⟩).1 w1).mono ?_
   rintro e w2 ⟨sb, mb, rfl, _, _, hm2, hs2, hb⟩
   exact hK.out _ w2 (⟨sb, mb, rfl, hm2, hs2⟩) hb
 refine relG_call (i := 18) (o := ⟨some 85, _, _, _, _, _⟩) ((fun v _ => v = .agg #[.int .i64 2, .int .i64 0, .string labA, .int .i64 1, .int .i64 0, .string ⟨#[98]⟩])) [(13, 80, 4)] [] rfl rfl (by kernel_rfl) (by kernel_rfl) ((fun _ _ _ h _ => h)) ?_ ?_
 · intro t w1 hB hf hbf K hK
   simp only [DepF, List.getD_cons_zero, List.getD_cons_succ] at hf
   obtain ⟨⟨_, ⟨e80, i80⟩, rfl⟩, _⟩ := hf
   clear hbf
   have m0 := cell_of_one (boxStays M9.out hB)
   have o0 := cell_of_one (boxStays O9.out hB)
   refine ⟨(by have hg := getD_some i80; simp [Region.wanted, yielded, hg]), ?_⟩
   go_simp
   refine (at_14 2 ⟨#[98]⟩ w1).mono ?_
   rintro e w2 ⟨rfl, hb⟩
   exact hK.out _ w2 (rfl) hb
 refine relG_call (i := 19) (o := ⟨some 86, _, _, _, _, _⟩) ((fun v w' => ∃ b, v = .slice (some ⟨b, 0, none⟩) 1 1 ∧ CellsAt w' (some ⟨b, 0, none⟩) (elsV [atV 2 tB]))) [(18, 85, 0), (13, 80, 5)] [] rfl rfl (by kernel_rfl) (by kernel_rfl) ((fun v w' w'' h hb => by obtain ⟨b, e1, e2⟩ := h; exact ⟨b, e1, e2.below hb rfl⟩)) ?_ ?_
 · intro t w1 hB hf hbf K hK
   simp only [DepF, List.getD_cons_zero, List.getD_cons_succ] at hf
   obtain ⟨⟨_, ⟨e85, i85⟩, rfl⟩, ⟨_, ⟨e80, i80⟩, rfl⟩, _⟩ := hf
   clear hbf
   have m0 := cell_of_one (boxStays M9.out hB)
   have o0 := cell_of_one (boxStays O9.out hB)
   refine ⟨(by have hg := getD_some i80; simp [Region.wanted, yielded, hg]), ?_⟩
   go_simp
   exact hK.out _ _ (⟨_, rfl, CellsAt.new _ _ _ (elsV [atV 2 tB])⟩) (below_new _ _)
 refine relG_call (i := 20) (o := ⟨some 87, _, _, _, _, _⟩) ((fun v _ => v = .bool true)) [(17, 84, 2), (19, 86, 0), (13, 80, 6)] [] rfl rfl (by kernel_rfl) (by kernel_rfl) ((fun _ _ _ h _ => h)) ?_ ?_
 · intro t w1 hB hf hbf K hK
   simp only [DepF, List.getD_cons_zero, List.getD_cons_succ] at hf
   obtain ⟨⟨_, ⟨e84, i84⟩, ⟨sb, mb, rfl, hmb, hsb⟩⟩, ⟨_, ⟨e86, i86⟩, ⟨b19, rfl, hc19⟩⟩, ⟨_, ⟨e80, i80⟩, rfl⟩, _⟩ := hf
   clear hbf
   have m0 := cell_of_one (boxStays M9.out hB)
   have o0 := cell_of_one (boxStays O9.out hB)
   refine ⟨(by have hg := getD_some i80; simp [Region.wanted, yielded, hg]), ?_⟩
   go_simp
   refine (goes_since tr (atV 1 ⟨#[]⟩).1 sb mb [atV 2 tB] (some ⟨b19, 0, none⟩) 1 1 0 w1 hsb hmb (T9.out.below hB rfl) (by rw [R4.out.len]; simp) R4.out.keys (by decide) SN.out hc19 rfl (by omega)).mono ?_
   rintro e w2 ⟨rfl, hb⟩
   exact hK.out _ w2 (rfl) hb
 refine relG_pure (i := 21) (o := ⟨some 88, _, _, _, _, _⟩) (v := ?v30) [(20, 87, 0), (13, 80, 7)] [] rfl rfl (by kernel_rfl) (by kernel_rfl) (fun t w1 hB hf hbf => ?y30) ?n30
 case y30 =>
   simp only [DepF, List.getD_cons_zero, List.getD_cons_succ] at hf
   obtain ⟨⟨_, ⟨e87, i87⟩, rfl⟩, ⟨_, ⟨e80, i80⟩, rfl⟩, _⟩ := hf
   clear hbf
   have m0 := cell_of_one (boxStays M9.out hB)
   have o0 := cell_of_one (boxStays O9.out hB)
   refine Or.inl ⟨(by have hg := getD_some i80; simp [Region.wanted, yielded, hg]), ?_⟩
   rintro _ rfl
   go_simp <;> with_reducible rfl
 refine relG_pure (i := 22) (o := ⟨some 89, _, _, _, _, _⟩) (v := ?v31) [(13, 80, 8), (21, 88, 0)] [] rfl rfl (by kernel_rfl) (by kernel_rfl) (fun t w1 hB hf hbf => ?y31) ?n31
 case y31 =>
   simp only [DepF, List.getD_cons_zero, List.getD_cons_succ] at hf
   obtain ⟨⟨_, ⟨e80, i80⟩, rfl⟩, ⟨_, ⟨e88, i88⟩, rfl⟩, _⟩ := hf
   clear hbf
   have m0 := cell_of_one (boxStays M9.out hB)
   have o0 := cell_of_one (boxStays O9.out hB)
   refine Or.inl ⟨wanted_none rfl, ?_⟩
   rintro _ rfl
   go_simp <;> with_reducible rfl
 refine relG_done [(0, 67, 22), (1, 68, 21), (2, 69, 20), (3, 70, 19), (4, 71, 18), (5, 72, 17), (6, 73, 16), (7, 74, 15), (8, 75, 14), (9, 76, 13), (10, 77, 12), (11, 78, 11), (12, 79, 10), (13, 80, 9), (14, 81, 8), (15, 82, 7), (16, 83, 6), (17, 84, 5), (18, 85, 4), (19, 86, 3), (20, 87, 2), (21, 88, 1), (22, 89, 0)] (by kernel_rfl) rfl (by kernel_rfl) (fun f wE hB hf => ?_)
 simp only [FinF, List.getD_cons_zero, List.getD_cons_succ] at hf
 obtain ⟨⟨_, e67, rfl⟩, ⟨_, e68, rfl⟩, ⟨_, e69, rfl⟩, ⟨_, e70, rfl⟩, ⟨_, e71, rfl⟩, ⟨_, e72, rfl⟩, ⟨_, e73, rfl⟩, ⟨_, e74, rfl⟩, ⟨_, e75, rfl⟩, ⟨_, e76, rfl⟩, ⟨_, e77, rfl⟩, ⟨_, e78, rfl⟩, ⟨_, e79, rfl⟩, ⟨_, e80, rfl⟩, ⟨_, e81, rfl⟩, ⟨_, e82, rfl⟩, ⟨_, e83, rfl⟩, ⟨_, e84, ⟨sb, mb, rfl, hmb, hsb⟩⟩, ⟨_, e85, rfl⟩, ⟨_, e86, ⟨b19, rfl, hc19⟩⟩, ⟨_, e87, rfl⟩, ⟨_, e88, rfl⟩, ⟨_, e89, rfl⟩, _⟩ := hf
 simp only [regT, List.foldl_cons, List.foldl_nil, List.setIfInBounds_toArray, List.set_cons_zero, List.set_cons_succ, e67, e68, e69, e70, e71, e72, e73, e74, e75, e76, e77, e78, e79, e80, e81, e82, e83, e84, e85, e86, e87, e88, e89]
 clear e67 e68 e69 e70 e71 e72 e73 e74 e75 e76 e77 e78 e79 e80 e81 e82 e83 e84 e85 e86 e87 e88 e89
 have hb := hB
 clear hB
 replace HC := Lib.hid (HC.out.push hb)
 clear hb
 go_upto_region 11 with (fail)
 try simp only [List.append]
 have X15 := Lib.hid (boxStays HX.out (HC.out.to w7 (by simp)))
 have TX15 := Lib.hid (X6.out.below (HC.out.to w12 (by simp)) rfl)
 have M15 := Lib.hid (boxStays HM.out (HC.out.to w5 (by simp)))
 have T15 := Lib.hid (T4.out.below (HC.out.to w4 (by simp)) rfl)
 have N15 := Lib.hid (boxStays HN.out (HC.out.to w9 (by simp)))
 have TN15 := Lib.hid (QA.out.below (HC.out.to w9 (by simp)) rfl)
 have EQ : Hid (∀ W, (binOp .eql 47 (.agg #[.int .i64 2, .int .i64 0, .string labA, .int .i64 1, .int .i64 0, .string ⟨#[98]⟩]) (.agg #[.int .i64 2, .int .i64 0, .string labA, .int .i64 1, .int .i64 0, .string ⟨#[98]⟩])).run Try.prog W = .ok (.bool true) W) := Lib.hid (fun W => (ev_eql (atV 2 ⟨#[98]⟩) (atV 2 ⟨#[98]⟩) W).trans (by simp))
 refine relG_start (slots := [90, 91, 92, 93, 94, 95, 96, 97, 98, 99, 100, 101, 102, 103, 104, 105, 106, 107, 108, 109, 110, 111, 112, 113, 114, 115, 116, 117, 118, 119, 120, 121, 122, 123, 124, 125, 126, 127, 128, 129, 130, 131, 0]) (so := []) (by kernel_rfl) (by kernel_rfl) (by rfl) ?_
 refine relG_pure (i := 0) (o := ⟨some 90, _, _, _, _, _⟩) (v := ?v32) [] [2] rfl rfl (by kernel_rfl) (by kernel_rfl) (fun t w1 hB hf hbf => ?y32) ?n32
 case y32 =>
   simp only [BasF] at hbf
   clear hf
   obtain ⟨⟨b2, k2⟩, _⟩ := hbf
   skip
   refine Or.inl ⟨wanted_none rfl, ?_⟩
   rintro _ rfl
   go_simp <;> with_reducible rfl
 refine relG_call (i := 1) (o := ⟨some 91, _, _, _, _, _⟩) ((fun v _ => v = .int .i64 0)) [(0, 90, 0)] [] rfl rfl (by kernel_rfl) (by kernel_rfl) ((fun _ _ _ h _ => h)) ?_ ?_
 · intro t w1 hB hf hbf K hK
   simp only [DepF, List.getD_cons_zero] at hf
   obtain ⟨⟨_, ⟨e90, i90⟩, rfl⟩, _⟩ := hf
   clear hbf
   skip
   refine ⟨wanted_none rfl, ?_⟩
   go_simp
   refine (num_14b 0 w1).mono ?_
   rintro e w2 ⟨rfl, hb⟩
   exact hK.out _ w2 (rfl) hb
 refine relG_pure (i := 2) (o := ⟨some 92, _, _, _, _, _⟩) (v := ?v33) [] [10] rfl rfl (by kernel_rfl) (by kernel_rfl) (fun t w1 hB hf hbf => ?y33) ?n33
 case y33 =>
   simp only [BasF] at hbf
   clear hf
   obtain ⟨⟨b10, k10⟩, _⟩ := hbf
   skip
   refine Or.inl ⟨wanted_none rfl, ?_⟩
   rintro _ rfl
   go_simp <;> with_reducible rfl
 refine relG_call (i := 3) (o := ⟨some 93, _, _, _, _, _⟩) ((fun v _ => v = .int .i64 0)) [(2, 92, 0)] [] rfl rfl (by kernel_rfl) (by kernel_rfl) ((fun _ _ _ h _ => h)) ?_ ?_
 · intro t w1 hB hf hbf K hK
   simp only [DepF, List.getD_cons_zero] at hf
   obtain ⟨⟨_, ⟨e92, i92⟩, rfl⟩, _⟩ := hf
   clear hbf
   skip
   refine ⟨wanted_none rfl, ?_⟩
   go_simp
   refine (num_14b 0 w1).mono ?_
   rintro e w2 ⟨rfl, hb⟩
   exact hK.out _ w2 (rfl) hb
 refine relG_pure (i := 4) (o := ⟨some 94, _, _, _, _, _⟩) (v := .int .i64 0) [(1, 91, 2), (3, 93, 0)] [] rfl rfl (by kernel_rfl) (by kernel_rfl) (fun t w1 hB hf hbf => ?y34) ?n34
 case y34 =>
   simp only [DepF, List.getD_cons_zero, List.getD_cons_succ] at hf
   obtain ⟨⟨_, ⟨e91, i91⟩, rfl⟩, ⟨_, ⟨e93, i93⟩, rfl⟩, _⟩ := hf
   clear hbf
   skip
   have wz : IntKind.i64.wrap 0 = 0 := by decide
   refine Or.inl ⟨wanted_none rfl, ?_⟩
   rintro _ rfl
   go_simp <;> with_reducible rfl
 refine relG_pure (i := 5) (o := ⟨some 95, _, _, _, _, _⟩) (v := ?v35) [] [12] rfl rfl (by kernel_rfl) (by kernel_rfl) (fun t w1 hB hf hbf => ?y35) ?n35
 case y35 =>
   simp only [BasF] at hbf
   clear hf
   obtain ⟨⟨b12, k12⟩, _⟩ := hbf
   skip
   refine Or.inl ⟨wanted_none rfl, ?_⟩
   rintro _ rfl
   go_simp <;> with_reducible rfl
 refine relG_call (i := 6) (o := ⟨some 96, _, _, _, _, _⟩) ((fun v _ => v = .int .i64 0)) [(5, 95, 0)] [] rfl rfl (by kernel_rfl) (by kernel_rfl) ((fun _ _ _ h _ => h)) ?_ ?_
 · intro t w1 hB hf hbf K hK
   simp only [DepF, List.getD_cons_zero] at hf
   obtain ⟨⟨_, ⟨e95, i95⟩, rfl⟩, _⟩ := hf
   clear hbf
   skip
   refine ⟨wanted_none rfl, ?_⟩
   go_simp
   refine (num_14b 0 w1).mono ?_
   rintro e w2 ⟨rfl, hb⟩
   exact hK.out _ w2 (rfl) hb
 refine relG_pure (i := 7) (o := ⟨some 97, _, _, _, _, _⟩) (v := .int .i64 0) [(4, 94, 2), (6, 96, 0)] [] rfl rfl (by kernel_rfl) (by kernel_rfl) (fun t w1 hB hf hbf => ?y36) ?n36
 case y36 =>
   simp only [DepF, List.getD_cons_zero, List.getD_cons_succ] at hf
   obtain ⟨⟨_, ⟨e94, i94⟩, rfl⟩, ⟨_, ⟨e96, i96⟩, rfl⟩, _⟩ := hf
   clear hbf
   skip
   have wz : IntKind.i64.wrap 0 = 0 := by decide
   refine Or.inl ⟨wanted_none rfl, ?_⟩
   rintro _ rfl
   go_simp <;> with_reducible rfl
 refine relG_pure (i := 8) (o := ⟨some 98, _, _, _, _, _⟩) (v := ?v37) [(7, 97, 0)] [] rfl rfl (by kernel_rfl) (by kernel_rfl) (fun t w1 hB hf hbf => ?y37) ?n37
 case y37 =>
   simp only [DepF, List.getD_cons_zero] at hf
   obtain ⟨⟨_, ⟨e97, i97⟩, rfl⟩, _⟩ := hf
   clear hbf
   skip
   refine Or.inl ⟨wanted_none rfl, ?_⟩
   rintro _ rfl
   go_simp <;> with_reducible rfl
 refine relG_pure (i := 9) (o := ⟨some 99, _, _, _, _, _⟩) (v := ?v38) [(8, 98, 0)] [] rfl rfl (by kernel_rfl) (by kernel_rfl) (fun t w1 hB hf hbf => ?y38) ?n38
 case y38 =>
   simp only [DepF, List.getD_cons_zero] at hf
   obtain ⟨⟨_, ⟨e98, i98⟩, rfl⟩, _⟩ := hf
   clear hbf
   skip
   refine Or.inl ⟨wanted_none rfl, ?_⟩
   rintro _ rfl
   go_simp <;> with_reducible rfl
 refine relG_pure (i := 10) (o := ⟨some 100, _, _, _, _, _⟩) (v := ?v39) [(9, 99, 0)] [3] rfl rfl (by kernel_rfl) (by kernel_rfl) (fun t w1 hB hf hbf => ?y39) ?n39
 case y39 =>
   simp only [DepF, List.getD_cons_zero] at hf
   simp only [BasF] at hbf
   obtain ⟨⟨_, ⟨e99, i99⟩, rfl⟩, _⟩ := hf
   obtain ⟨⟨b3, k3⟩, _⟩ := hbf
   skip
   have hx := boxStays X15.out hB
   have x0 := cell_of_row _ c7 0 _ _ _ hx
   have x1 := cell_of_row _ c7 1 _ _ _ hx
   have x2 := cell_of_row _ c7 2 _ _ _ hx
   have x3 := cell_of_row _ c7 3 _ _ _ hx
   have x4 := cell_of_row _ c7 4 _ _ _ hx
   have x5 := cell_of_row _ c7 5 _ _ _ hx
   refine Or.inl ⟨(by have hg := getD_some i99; simp [Region.wanted, yielded, hg]), ?_⟩
   rintro _ rfl
   go_simp <;> with_reducible rfl
 refine relG_call (i := 11) (o := ⟨some 101, _, _, _, _, _⟩) ((fun v _ => v = .agg #[.int .i64 2, .int .i64 0, .string labA, .int .i64 1, .int .i64 0, .string ⟨#[98]⟩])) [(9, 99, 1)] [] rfl rfl (by kernel_rfl) (by kernel_rfl) ((fun _ _ _ h _ => h)) ?_ ?_
 · intro t w1 hB hf hbf K hK
   simp only [DepF, List.getD_cons_zero, List.getD_cons_succ] at hf
   obtain ⟨⟨_, ⟨e99, i99⟩, rfl⟩, _⟩ := hf
   clear hbf
   skip
   refine ⟨(by have hg := getD_some i99; simp [Region.wanted, yielded, hg]), ?_⟩
   go_simp
   refine (at_14 2 ⟨#[98]⟩ w1).mono ?_
   rintro e w2 ⟨rfl, hb⟩
   exact hK.out _ w2 (rfl) hb
 refine relG_pure (i := 12) (o := ⟨some 102, _, _, _, _, _⟩) (v := ?v40) [(10, 100, 1), (11, 101, 0), (9, 99, 2)] [] rfl rfl (by kernel_rfl) (by kernel_rfl) (fun t w1 hB hf hbf => ?y40) ?n40
 case y40 =>
   simp only [DepF, List.getD_cons_zero, List.getD_cons_succ] at hf
   obtain ⟨⟨_, ⟨e100, i100⟩, rfl⟩, ⟨_, ⟨e101, i101⟩, rfl⟩, ⟨_, ⟨e99, i99⟩, rfl⟩, _⟩ := hf
   clear hbf
   skip
   have eq := EQ.out
   refine Or.inl ⟨(by have hg := getD_some i99; simp [Region.wanted, yielded, hg]), ?_⟩
   rintro _ rfl
   go_simp <;> with_reducible rfl
 refine relG_pure (i := 13) (o := ⟨some 103, _, _, _, _, _⟩) (v := ?v41) [(9, 99, 3), (12, 102, 0)] [] rfl rfl (by kernel_rfl) (by kernel_rfl) (fun t w1 hB hf hbf => ?y41) ?n41
 case y41 =>
   simp only [DepF, List.getD_cons_zero, List.getD_cons_succ] at hf
   obtain ⟨⟨_, ⟨e99, i99⟩, rfl⟩, ⟨_, ⟨e102, i102⟩, rfl⟩, _⟩ := hf
   clear hbf
   skip
   refine Or.inl ⟨wanted_none rfl, ?_⟩
   rintro _ rfl
   go_simp <;> with_reducible rfl
 refine relG_pure (i := 14) (o := ⟨some 104, _, _, _, _, _⟩) (v := ?v42) [(13, 103, 0)] [] rfl rfl (by kernel_rfl) (by kernel_rfl) (fun t w1 hB hf hbf => ?y42) ?n42
 case y42 =>
   simp only [DepF, List.getD_cons_zero] at hf
   obtain ⟨⟨_, ⟨e103, i103⟩, rfl⟩, _⟩ := hf
   clear hbf
   skip
   refine Or.inl ⟨wanted_none rfl, ?_⟩
   rintro _ rfl
   go_simp <;> with_reducible rfl
 refine relG_pure (i := 15) (o := ⟨some 105, _, _, _, _, _⟩) (v := ?v43) [(14, 104, 0)] [4] rfl rfl (by kernel_rfl) (by kernel_rfl) (fun t w1 hB hf hbf => ?y43) ?n43
 case y43 =>
   simp only [DepF, List.getD_cons_zero] at hf
   simp only [BasF] at hbf
   obtain ⟨⟨_, ⟨e104, i104⟩, rfl⟩, _⟩ := hf
   obtain ⟨⟨b4, k4⟩, _⟩ := hbf
   skip
   refine Or.inl ⟨(by have hg := getD_some i104; simp [Region.wanted, yielded, hg]), ?_⟩
   rintro _ rfl
   go_simp <;> with_reducible rfl
 refine relG_pure (i := 16) (o := ⟨some 106, _, _, _, _, _⟩) (v := ?v44) [(14, 104, 1), (15, 105, 0)] [] rfl rfl (by kernel_rfl) (by kernel_rfl) (fun t w1 hB hf hbf => ?y44) ?n44
 case y44 =>
   simp only [DepF, List.getD_cons_zero, List.getD_cons_succ] at hf
   obtain ⟨⟨_, ⟨e104, i104⟩, rfl⟩, ⟨_, ⟨e105, i105⟩, rfl⟩, _⟩ := hf
   clear hbf
   skip
   refine Or.inl ⟨wanted_none rfl, ?_⟩
   rintro _ rfl
   go_simp <;> with_reducible rfl
 refine relG_pure (i := 17) (o := ⟨some 107, _, _, _, _, _⟩) (v := ?v45) [(16, 106, 0)] [] rfl rfl (by kernel_rfl) (by kernel_rfl) (fun t w1 hB hf hbf => ?y45) ?n45
 case y45 =>
   simp only [DepF, List.getD_cons_zero] at hf
   obtain ⟨⟨_, ⟨e106, i106⟩, rfl⟩, _⟩ := hf
   clear hbf
   skip
   refine Or.inl ⟨wanted_none rfl, ?_⟩
   rintro _ rfl
   go_simp <;> with_reducible rfl
 refine relG_pure (i := 18) (o := ⟨some 108, _, _, _, _, _⟩) (v := ?v46) [(17, 107, 0)] [6] rfl rfl (by kernel_rfl) (by kernel_rfl) (fun t w1 hB hf hbf => ?y46) ?n46
 case y46 =>
   simp only [DepF, List.getD_cons_zero] at hf
   simp only [BasF] at hbf
   obtain ⟨⟨_, ⟨e107, i107⟩, rfl⟩, _⟩ := hf
   obtain ⟨⟨b6, k6⟩, _⟩ := hbf
   skip
   refine Or.inl ⟨(by have hg := getD_some i107; simp [Region.wanted, yielded, hg]), ?_⟩
   rintro _ rfl
   go_simp <;> with_reducible rfl
 refine relG_pure (i := 19) (o := ⟨some 109, _, _, _, _, _⟩) (v := ?v47) [(18, 108, 0), (17, 107, 1)] [] rfl rfl (by kernel_rfl) (by kernel_rfl) (fun t w1 hB hf hbf => ?y47) ?n47
 case y47 =>
   simp only [DepF, List.getD_cons_zero, List.getD_cons_succ] at hf
   obtain ⟨⟨_, ⟨e108, i108⟩, rfl⟩, ⟨_, ⟨e107, i107⟩, rfl⟩, _⟩ := hf
   clear hbf
   skip
   refine Or.inl ⟨(by have hg := getD_some i107; simp [Region.wanted, yielded, hg]), ?_⟩
   rintro _ rfl
   go_simp <;> with_reducible rfl
 refine relG_pure (i := 20) (o := ⟨some 110, _, _, _, _, _⟩) (v := ?v48) [(17, 107, 2), (19, 109, 0)] [] rfl rfl (by kernel_rfl) (by kernel_rfl) (fun t w1 hB hf hbf => ?y48) ?n48
 case y48 =>
   simp only [DepF, List.getD_cons_zero, List.getD_cons_succ] at hf
   obtain ⟨⟨_, ⟨e107, i107⟩, rfl⟩, ⟨_, ⟨e109, i109⟩, rfl⟩, _⟩ := hf
   clear hbf
   skip
   refine Or.inl ⟨wanted_none rfl, ?_⟩
   rintro _ rfl
   go_simp <;> with_reducible rfl
 refine relG_pure (i := 21) (o := ⟨some 111, _, _, _, _, _⟩) (v := ?v49) [(20, 110, 0)] [] rfl rfl (by kernel_rfl) (by kernel_rfl) (fun t w1 hB hf hbf => ?y49) ?n49
 case y49 =>
   simp only [DepF, List.getD_cons_zero] at hf
   obtain ⟨⟨_, ⟨e110, i110⟩, rfl⟩, _⟩ := hf
   clear hbf
   skip
   refine Or.inl ⟨wanted_none rfl, ?_⟩
   rintro _ rfl
   go_simp <;> with_reducible rfl
 refine relG_pure (i := 22) (o := ⟨some 112, _, _, _, _, _⟩) (v := ?v50) [(21, 111, 0)] [8] rfl rfl (by kernel_rfl) (by kernel_rfl) (fun t w1 hB hf hbf => ?y50) ?n50
 case y50 =>
   simp only [DepF, List.getD_cons_zero] at hf
   simp only [BasF] at hbf
   obtain ⟨⟨_, ⟨e111, i111⟩, rfl⟩, _⟩ := hf
   obtain ⟨⟨b8, k8⟩, _⟩ := hbf
   skip
   refine Or.inl ⟨(by have hg := getD_some i111; simp [Region.wanted, yielded, hg]), ?_⟩
   rintro _ rfl
   go_simp <;> with_reducible rfl
 refine relG_call (i := 23) (o := ⟨some 113, _, _, _, _, _⟩) ((fun v _ => v = .int .i64 2)) [(22, 112, 0), (21, 111, 1)] [] rfl rfl (by kernel_rfl) (by kernel_rfl) ((fun _ _ _ h _ => h)) ?_ ?_
 · intro t w1 hB hf hbf K hK
   simp only [DepF, List.getD_cons_zero, List.getD_cons_succ] at hf
   obtain ⟨⟨_, ⟨e112, i112⟩, rfl⟩, ⟨_, ⟨e111, i111⟩, rfl⟩, _⟩ := hf
   clear hbf
   skip
   refine ⟨(by have hg := getD_some i111; simp [Region.wanted, yielded, hg]), ?_⟩
   go_simp
   refine (num_14b 2 w1).mono ?_
   rintro e w2 ⟨rfl, hb⟩
   exact hK.out _ w2 (rfl) hb
 refine relG_pure (i := 24) (o := ⟨some 114, _, _, _, _, _⟩) (v := ?v51) [(23, 113, 0), (21, 111, 2)] [] rfl rfl (by kernel_rfl) (by kernel_rfl) (fun t w1 hB hf hbf => ?y51) ?n51
 case y51 =>
   simp only [DepF, List.getD_cons_zero, List.getD_cons_succ] at hf
   obtain ⟨⟨_, ⟨e113, i113⟩, rfl⟩, ⟨_, ⟨e111, i111⟩, rfl⟩, _⟩ := hf
   clear hbf
   skip
   refine Or.inl ⟨(by have hg := getD_some i111; simp [Region.wanted, yielded, hg]), ?_⟩
   rintro _ rfl
   go_simp <;> with_reducible rfl
 refine relG_pure (i := 25) (o := ⟨some 115, _, _, _, _, _⟩) (v := ?v52) [(21, 111, 3), (24, 114, 0)] [] rfl rfl (by kernel_rfl) (by kernel_rfl) (fun t w1 hB hf hbf => ?y52) ?n52
 case y52 =>
   simp only [DepF, List.getD_cons_zero, List.getD_cons_succ] at hf
   obtain ⟨⟨_, ⟨e111, i111⟩, rfl⟩, ⟨_, ⟨e114, i114⟩, rfl⟩, _⟩ := hf
   clear hbf
   skip
   refine Or.inl ⟨wanted_none rfl, ?_⟩
   rintro _ rfl
   go_simp <;> with_reducible rfl
 refine relG_pure (i := 26) (o := ⟨some 116, _, _, _, _, _⟩) (v := ?v53) [(25, 115, 0)] [] rfl rfl (by kernel_rfl) (by kernel_rfl) (fun t w1 hB hf hbf => ?y53) ?n53
 case y53 =>
   simp only [DepF, List.getD_cons_zero] at hf
   obtain ⟨⟨_, ⟨e115, i115⟩, rfl⟩, _⟩ := hf
   clear hbf
   skip
   refine Or.inl ⟨wanted_none rfl, ?_⟩
   rintro _ rfl
   go_simp <;> with_reducible rfl
 refine relG_pure (i := 27) (o := ⟨some 117, _, _, _, _, _⟩) (v := ?v54) [(26, 116, 0)] [11] rfl rfl (by kernel_rfl) (by kernel_rfl) (fun t w1 hB hf hbf => ?y54) ?n54
 case y54 =>
   simp only [DepF, List.getD_cons_zero] at hf
   simp only [BasF] at hbf
   obtain ⟨⟨_, ⟨e116, i116⟩, rfl⟩, _⟩ := hf
   obtain ⟨⟨b11, k11⟩, _⟩ := hbf
   skip
   refine Or.inl ⟨(by have hg := getD_some i116; simp [Region.wanted, yielded, hg]), ?_⟩
   rintro _ rfl
   go_simp <;> with_reducible rfl
 refine relG_call (i := 28) (o := ⟨some 118, _, _, _, _, _⟩) ((fun v w' => ∃ b, v = .slice (some ⟨b, 0, none⟩) 3 3 ∧ CellsAt w' (some ⟨b, 0, none⟩) (txV [tA, tB, tC]))) [(26, 116, 1)] [] rfl rfl (by kernel_rfl) (by kernel_rfl) ((fun v w' w'' h hb => by obtain ⟨b, e1, e2⟩ := h; exact ⟨b, e1, e2.below hb rfl⟩)) ?_ ?_
 · intro t w1 hB hf hbf K hK
   simp only [DepF, List.getD_cons_zero, List.getD_cons_succ] at hf
   obtain ⟨⟨_, ⟨e116, i116⟩, rfl⟩, _⟩ := hf
   clear hbf
   skip
   refine ⟨(by have hg := getD_some i116; simp [Region.wanted, yielded, hg]), ?_⟩
   go_simp
   exact hK.out _ _ (⟨_, rfl, CellsAt.new _ _ _ [.string tA, .string tB, .string tC]⟩) (below_new _ _)
 refine relG_call (i := 29) (o := ⟨some 119, _, _, _, _, _⟩) ((fun v _ => v = .bool true)) [(27, 117, 1), (28, 118, 0), (26, 116, 2)] [] rfl rfl (by kernel_rfl) (by kernel_rfl) ((fun _ _ _ h _ => h)) ?_ ?_
 · intro t w1 hB hf hbf K hK
   simp only [DepF, List.getD_cons_zero, List.getD_cons_succ] at hf
   obtain ⟨⟨_, ⟨e117, i117⟩, rfl⟩, ⟨_, ⟨e118, i118⟩, ⟨b28, rfl, hc28⟩⟩, ⟨_, ⟨e116, i116⟩, rfl⟩, _⟩ := hf
   clear hbf
   skip
   refine ⟨(by have hg := getD_some i116; simp [Region.wanted, yielded, hg]), ?_⟩
   go_simp
   refine (ref9_SameTexts [tA, tB, tC] [tA, tB, tC] at6 (some ⟨b28, 0, none⟩) 3 3 ct6 3 w1 (TX15.out.below hB rfl) hc28 rfl rfl (by omega)).mono ?_
   rintro e w2 ⟨rfl, hb⟩
   exact hK.out _ w2 (by rw [decide_eq_true rfl]) hb
 refine relG_pure (i := 30) (o := ⟨some 120, _, _, _, _, _⟩) (v := ?v55) [(26, 116, 3), (29, 119, 0)] [] rfl rfl (by kernel_rfl) (by kernel_rfl) (fun t w1 hB hf hbf => ?y55) ?n55
 case y55 =>
   simp only [DepF, List.getD_cons_zero, List.getD_cons_succ] at hf
   obtain ⟨⟨_, ⟨e116, i116⟩, rfl⟩, ⟨_, ⟨e119, i119⟩, rfl⟩, _⟩ := hf
   clear hbf
   skip
   refine Or.inl ⟨wanted_none rfl, ?_⟩
   rintro _ rfl
   go_simp <;> with_reducible rfl
 refine relG_pure (i := 31) (o := ⟨some 121, _, _, _, _, _⟩) (v := ?v56) [(30, 120, 0)] [] rfl rfl (by kernel_rfl) (by kernel_rfl) (fun t w1 hB hf hbf => ?y56) ?n56
 case y56 =>
   simp only [DepF, List.getD_cons_zero] at hf
   obtain ⟨⟨_, ⟨e120, i120⟩, rfl⟩, _⟩ := hf
   clear hbf
   skip
   refine Or.inl ⟨wanted_none rfl, ?_⟩
   rintro _ rfl
   go_simp <;> with_reducible rfl
 refine relG_pure (i := 32) (o := ⟨some 122, _, _, _, _, _⟩) (v := ?v57) [(31, 121, 0)] [1] rfl rfl (by kernel_rfl) (by kernel_rfl) (fun t w1 hB hf hbf => ?y57) ?n57
 case y57 =>
   simp only [DepF, List.getD_cons_zero] at hf
   simp only [BasF] at hbf
   obtain ⟨⟨_, ⟨e121, i121⟩, rfl⟩, _⟩ := hf
   obtain ⟨⟨b1, k1⟩, _⟩ := hbf
   skip
   have m0 := cell_of_one (boxStays M15.out hB)
   refine Or.inl ⟨(by have hg := getD_some i121; simp [Region.wanted, yielded, hg]), ?_⟩
   rintro _ rfl
   go_simp <;> with_reducible rfl
 refine relG_pure (i := 33) (o := ⟨some 123, _, _, _, _, _⟩) (v := ?v58) [(31, 121, 1)] [9] rfl rfl (by kernel_rfl) (by kernel_rfl) (fun t w1 hB hf hbf => ?y58) ?n58
 case y58 =>
   simp only [DepF, List.getD_cons_zero, List.getD_cons_succ] at hf
   simp only [BasF] at hbf
   obtain ⟨⟨_, ⟨e121, i121⟩, rfl⟩, _⟩ := hf
   obtain ⟨⟨b9, k9⟩, _⟩ := hbf
   skip
   have n0 := cell_of_one (boxStays N15.out hB)
   refine Or.inl ⟨(by have hg := getD_some i121; simp [Region.wanted, yielded, hg]), ?_⟩
   rintro _ rfl
   go_simp <;> with_reducible rfl
 refine relG_call (i := 34) (o := ⟨some 124, _, _, _, _, _⟩) ((fun v _ => v = .bool true)) [(32, 122, 1), (33, 123, 0), (31, 121, 2)] [] rfl rfl (by kernel_rfl) (by kernel_rfl) ((fun _ _ _ h _ => h)) ?_ ?_
 · intro t w1 hB hf hbf K hK
   simp only [DepF, List.getD_cons_zero, List.getD_cons_succ] at hf
   obtain ⟨⟨_, ⟨e122, i122⟩, rfl⟩, ⟨_, ⟨e123, i123⟩, rfl⟩, ⟨_, ⟨e121, i121⟩, rfl⟩, _⟩ := hf
   clear hbf
   skip
   refine ⟨(by have hg := getD_some i121; simp [Region.wanted, yielded, hg]), ?_⟩
   go_simp
   refine (PT2.out w1 (T15.out.below hB rfl) (TN15.out.below hB rfl)).mono ?_
   rintro e w2 ⟨rfl, hb⟩
   exact hK.out _ w2 (rfl) hb
 refine relG_pure (i := 35) (o := ⟨some 125, _, _, _, _, _⟩) (v := ?v59) [(31, 121, 3), (34, 124, 0)] [] rfl rfl (by kernel_rfl) (by kernel_rfl) (fun t w1 hB hf hbf => ?y59) ?n59
 case y59 =>
   simp only [DepF, List.getD_cons_zero, List.getD_cons_succ] at hf
   obtain ⟨⟨_, ⟨e121, i121⟩, rfl⟩, ⟨_, ⟨e124, i124⟩, rfl⟩, _⟩ := hf
   clear hbf
   skip
   refine Or.inl ⟨wanted_none rfl, ?_⟩
   rintro _ rfl
   go_simp <;> with_reducible rfl
 refine relG_pure (i := 36) (o := ⟨some 126, _, _, _, _, _⟩) (v := ?v60) [(35, 125, 0)] [] rfl rfl (by kernel_rfl) (by kernel_rfl) (fun t w1 hB hf hbf => ?y60) ?n60
 case y60 =>
   simp only [DepF, List.getD_cons_zero] at hf
   obtain ⟨⟨_, ⟨e125, i125⟩, rfl⟩, _⟩ := hf
   clear hbf
   skip
   refine Or.inl ⟨wanted_none rfl, ?_⟩
   rintro _ rfl
   go_simp <;> with_reducible rfl
 refine relG_pure (i := 37) (o := ⟨some 127, _, _, _, _, _⟩) (v := ?v61) [(36, 126, 0)] [9] rfl rfl (by kernel_rfl) (by kernel_rfl) (fun t w1 hB hf hbf => ?y61) ?n61
 case y61 =>
   simp only [DepF, List.getD_cons_zero] at hf
   simp only [BasF] at hbf
   obtain ⟨⟨_, ⟨e126, i126⟩, rfl⟩, _⟩ := hf
   obtain ⟨⟨b9, k9⟩, _⟩ := hbf
   skip
   have n0 := cell_of_one (boxStays N15.out hB)
   refine Or.inl ⟨(by have hg := getD_some i126; simp [Region.wanted, yielded, hg]), ?_⟩
   rintro _ rfl
   go_simp <;> with_reducible rfl
 refine relG_pure (i := 38) (o := ⟨some 128, _, _, _, _, _⟩) (v := ?v62) [(36, 126, 1)] [1] rfl rfl (by kernel_rfl) (by kernel_rfl) (fun t w1 hB hf hbf => ?y62) ?n62
 case y62 =>
   simp only [DepF, List.getD_cons_zero, List.getD_cons_succ] at hf
   simp only [BasF] at hbf
   obtain ⟨⟨_, ⟨e126, i126⟩, rfl⟩, _⟩ := hf
   obtain ⟨⟨b1, k1⟩, _⟩ := hbf
   skip
   have m0 := cell_of_one (boxStays M15.out hB)
   refine Or.inl ⟨(by have hg := getD_some i126; simp [Region.wanted, yielded, hg]), ?_⟩
   rintro _ rfl
   go_simp <;> with_reducible rfl
 refine relG_call (i := 39) (o := ⟨some 129, _, _, _, _, _⟩) ((fun v _ => v = .bool false)) [(37, 127, 1), (38, 128, 0), (36, 126, 2)] [] rfl rfl (by kernel_rfl) (by kernel_rfl) ((fun _ _ _ h _ => h)) ?_ ?_
 · intro t w1 hB hf hbf K hK
   simp only [DepF, List.getD_cons_zero, List.getD_cons_succ] at hf
   obtain ⟨⟨_, ⟨e127, i127⟩, rfl⟩, ⟨_, ⟨e128, i128⟩, rfl⟩, ⟨_, ⟨e126, i126⟩, rfl⟩, _⟩ := hf
   clear hbf
   skip
   refine ⟨(by have hg := getD_some i126; simp [Region.wanted, yielded, hg]), ?_⟩
   go_simp
   refine (PT3.out w1 (TN15.out.below hB rfl) (T15.out.below hB rfl)).mono ?_
   rintro e w2 ⟨rfl, hb⟩
   exact hK.out _ w2 (rfl) hb
 refine relG_pure (i := 40) (o := ⟨some 130, _, _, _, _, _⟩) (v := ?v63) [(39, 129, 0), (36, 126, 3)] [] rfl rfl (by kernel_rfl) (by kernel_rfl) (fun t w1 hB hf hbf => ?y63) ?n63
 case y63 =>
   simp only [DepF, List.getD_cons_zero, List.getD_cons_succ] at hf
   obtain ⟨⟨_, ⟨e129, i129⟩, rfl⟩, ⟨_, ⟨e126, i126⟩, rfl⟩, _⟩ := hf
   clear hbf
   skip
   refine Or.inl ⟨(by have hg := getD_some i126; simp [Region.wanted, yielded, hg]), ?_⟩
   rintro _ rfl
   go_simp <;> with_reducible rfl
 refine relG_pure (i := 41) (o := ⟨some 131, _, _, _, _, _⟩) (v := ?v64) [(36, 126, 4), (40, 130, 0)] [] rfl rfl (by kernel_rfl) (by kernel_rfl) (fun t w1 hB hf hbf => ?y64) ?n64
 case y64 =>
   simp only [DepF, List.getD_cons_zero, List.getD_cons_succ] at hf
   obtain ⟨⟨_, ⟨e126, i126⟩, rfl⟩, ⟨_, ⟨e130, i130⟩, rfl⟩, _⟩ := hf
   clear hbf
   skip
   refine Or.inl ⟨wanted_none rfl, ?_⟩
   rintro _ rfl
   go_simp <;> with_reducible rfl
 refine relG_pure (i := 42) (o := ⟨some 0, _, _, _, _, _⟩) (v := ?v65) [(41, 131, 0)] [] rfl rfl (by kernel_rfl) (by kernel_rfl) (fun t w1 hB hf hbf => ?y65) ?n65
 case y65 =>
   simp only [DepF, List.getD_cons_zero] at hf
   obtain ⟨⟨_, ⟨e131, i131⟩, rfl⟩, _⟩ := hf
   clear hbf
   skip
   refine Or.inl ⟨wanted_none rfl, ?_⟩
   rintro _ rfl
   go_simp <;> with_reducible rfl
 refine relG_done [(0, 90, 42), (1, 91, 41), (2, 92, 40), (3, 93, 39), (4, 94, 38), (5, 95, 37), (6, 96, 36), (7, 97, 35), (8, 98, 34), (9, 99, 33), (10, 100, 32), (11, 101, 31), (12, 102, 30), (13, 103, 29), (14, 104, 28), (15, 105, 27), (16, 106, 26), (17, 107, 25), (18, 108, 24), (19, 109, 23), (20, 110, 22), (21, 111, 21), (22, 112, 20), (23, 113, 19), (24, 114, 18), (25, 115, 17), (26, 116, 16), (27, 117, 15), (28, 118, 14), (29, 119, 13), (30, 120, 12), (31, 121, 11), (32, 122, 10), (33, 123, 9), (34, 124, 8), (35, 125, 7), (36, 126, 6), (37, 127, 5), (38, 128, 4), (39, 129, 3), (40, 130, 2), (41, 131, 1), (42, 0, 0)] (by kernel_rfl) rfl (by kernel_rfl) (fun f wE hB hf => ?_)
 simp only [FinF, List.getD_cons_zero, List.getD_cons_succ] at hf
 obtain ⟨⟨_, e90, rfl⟩, ⟨_, e91, rfl⟩, ⟨_, e92, rfl⟩, ⟨_, e93, rfl⟩, ⟨_, e94, rfl⟩, ⟨_, e95, rfl⟩, ⟨_, e96, rfl⟩, ⟨_, e97, rfl⟩, ⟨_, e98, rfl⟩, ⟨_, e99, rfl⟩, ⟨_, e100, rfl⟩, ⟨_, e101, rfl⟩, ⟨_, e102, rfl⟩, ⟨_, e103, rfl⟩, ⟨_, e104, rfl⟩, ⟨_, e105, rfl⟩, ⟨_, e106, rfl⟩, ⟨_, e107, rfl⟩, ⟨_, e108, rfl⟩, ⟨_, e109, rfl⟩, ⟨_, e110, rfl⟩, ⟨_, e111, rfl⟩, ⟨_, e112, rfl⟩, ⟨_, e113, rfl⟩, ⟨_, e114, rfl⟩, ⟨_, e115, rfl⟩, ⟨_, e116, rfl⟩, ⟨_, e117, rfl⟩, ⟨_, e118, ⟨b28, rfl, hc28⟩⟩, ⟨_, e119, rfl⟩, ⟨_, e120, rfl⟩, ⟨_, e121, rfl⟩, ⟨_, e122, rfl⟩, ⟨_, e123, rfl⟩, ⟨_, e124, rfl⟩, ⟨_, e125, rfl⟩, ⟨_, e126, rfl⟩, ⟨_, e127, rfl⟩, ⟨_, e128, rfl⟩, ⟨_, e129, rfl⟩, ⟨_, e130, rfl⟩, ⟨_, e131, rfl⟩, ⟨_, e0, rfl⟩, _⟩ := hf
 simp only [regT, List.foldl_cons, List.foldl_nil, List.setIfInBounds_toArray, List.set_cons_zero, List.set_cons_succ, e90, e91, e92, e93, e94, e95, e96, e97, e98, e99, e100, e101, e102, e103, e104, e105, e106, e107, e108, e109, e110, e111, e112, e113, e114, e115, e116, e117, e118, e119, e120, e121, e122, e123, e124, e125, e126, e127, e128, e129, e130, e131, e0]
 clear e90 e91 e92 e93 e94 e95 e96 e97 e98 e99 e100 e101 e102 e103 e104 e105 e106 e107 e108 e109 e110 e111 e112 e113 e114 e115 e116 e117 e118 e119 e120 e121 e122 e123 e124 e125 e126 e127 e128 e129 e130 e131 e0
 have hb := hB
 clear hB
 replace HC := Lib.hid (HC.out.push hb)
 clear hb
 go_wp2_with fail
 go_ret
 exact ⟨rfl, (HC.out.to w (by simp))⟩
end Go.Proofs.Ytnpiepimajippaa
namespace Go.Proofs.Ytnpiepimajippaa
open Go.RowKit St Pm
theorem has_next {l : List Ev} {x : Ev} {k : Nat} (hk : k < l.length) (h0 : hasEv (l.take k) x = false) (h : l[k] ≠ x) : hasEv (l.take (k + 1)) x = false := by
 unfold hasEv at h0 ⊢
 rw [List.take_succ_eq_append_getElem hk, List.any_append, h0]
 simp [h]
set_option maxRecDepth 100000 in
set_option maxHeartbeats 2000000 in
theorem has_14 (l : List Ev) (x : Ev) (a : Option Addr) (n c : Nat) (w : World) (hl : CellsAt w a (elsV l)) (hn : n = l.length) (hb : n ≤ 1000000) :
   Calls Try.prog 76 #[.slice a n c, .agg #[.int .i64 x.1.g, .int .i64 x.1.r, .string x.1.l, .int .i64 x.1.n, .int .i64 x.1.i, .string x.2]] w fun e w' => e = .returned (.bool (hasEv l x)) ∧ Below w.heap.size w w' := by
 have HL := Lib.hid hl
 have HN := Lib.hid hn
 have FND : Hid (∀ k (h : k < l.length), l[k] = x → hasEv l x = true) := Lib.hid (fun k h e => hasEv_iff.2 (by rw [← e]; exact List.getElem_mem h))
 have END : Hid (hasEv (l.take n) x = false → hasEv l x = false) := Lib.hid (fun h => by rw [hn, List.take_length] at h; exact h)
 have NXT : Hid (∀ k (h : k < l.length), hasEv (l.take k) x = false → l[k] ≠ x → hasEv (l.take (k + 1)) x = false) := Lib.hid (fun k h h0 h1 => has_next h h0 h1)
 have Z0 : Hid (hasEv (l.take 0) x = false) := Lib.hid (by simp [hasEv])
 generalize hasEv l x = res at *
 clear hl hn
 have HC : Hid (Chain [w] w) := Lib.hid (Chain.one w)
 go_enter Try.func76, Try.ntmps76
 go_upto_region 1 with (fail)
 obtain ⟨c1, hc1⟩ : ∃ c, w.heap.size = c := ⟨_, rfl⟩
 try rw [hc1]
 obtain ⟨w1, hw1⟩ : ∃ X, allocs w [.cells #[.int .i64 x.1.g, .int .i64 x.1.r, .string x.1.l, .int .i64 x.1.n, .int .i64 x.1.i, .string x.2] 47] = X := ⟨_, rfl⟩
 rw [show w.alloc (.cells #[.int .i64 x.1.g, .int .i64 x.1.r, .string x.1.l, .int .i64 x.1.n, .int .i64 x.1.i, .string x.2] 47) = w1 from hw1]
 have hb : Below w.heap.size w w1 := by rw [← hw1]; exact allocs_below _ _
 have HX : Hid (w1.heap[c1]? = some (.cells #[.int .i64 x.1.g, .int .i64 x.1.r, .string x.1.l, .int .i64 x.1.n, .int .i64 x.1.i, .string x.2] 47 (0, 0))) := Lib.hid (by have := allocs_get [.cells #[.int .i64 x.1.g, .int .i64 x.1.r, .string x.1.l, .int .i64 x.1.n, .int .i64 x.1.i, .string x.2] 47] w 0 _ rfl; rw [hw1, hc1] at this; exact this)
 have Sc1 : Hid (w.heap.size = c1) := Lib.hid hc1
 replace HC := Lib.hid (HC.out.push hb)
 clear hb hw1 hc1
 have HL1 := Lib.hid (HL.out.below (HC.out.to w (by simp)) rfl)
 have B1 := Lib.hid (HC.out.to w (by simp))
 clear HC
 go_wp2_with fail
 go_loopw [5] (fun i wr => ∃ k : Nat, k ≤ n ∧ i = .int .i64 (k : Int) ∧ Hid (hasEv (l.take k) x = false) ∧ Hid (Below w1.heap.size w1 wr)) (fun i _ => n - (intOf i).toNat)
 case atStart => exact ⟨0, Nat.zero_le _, rfl, Z0, Lib.hid (Below.refl _ _)⟩
 case round =>
   obtain ⟨k, hk, rfl, HT, HB⟩ := hrel
   by_cases hlt : k < n
   · have hk1 : k < l.length := by have := HN.out; omega
     obtain ⟨ba, oa, rfl, ca⟩ := els_get (HL1.out.below HB.out rfl) k hk1
     have FK := Lib.hid (FND.out k hk1)
     have NK := Lib.hid (NXT.out k hk1 HT.out)
     generalize l[k] = y at *
     obtain ⟨p0, p1, p2, p3, p4, p5⟩ := ca
     have hx := boxStays HX.out HB.out
     have x0 := cell_of_row _ c1 0 _ _ _ hx
     have x1 := cell_of_row _ c1 1 _ _ _ hx
     have x2 := cell_of_row _ c1 2 _ _ _ hx
     have x3 := cell_of_row _ c1 3 _ _ _ hx
     have x4 := cell_of_row _ c1 4 _ _ _ hx
     have x5 := cell_of_row _ c1 5 _ _ _ hx
     clear hx
     have hki : (k : Int) < (n : Int) := by omega
     obtain ⟨eb, heb⟩ : ∃ q, decide (y = x) = q := ⟨_, rfl⟩
     have EN : ∀ W, (binOp .eql 47 (.agg #[.int .i64 y.1.g, .int .i64 y.1.r, .string y.1.l, .int .i64 y.1.n, .int .i64 y.1.i, .string y.2]) (.agg #[.int .i64 x.1.g, .int .i64 x.1.r, .string x.1.l, .int .i64 x.1.n, .int .i64 x.1.i, .string x.2])).run Try.prog W = .ok (.bool eb) W := fun W => by rw [ev_eql y x W, heb]
     have HE := Lib.hid heb
     clear heb
     cases eb with
     | true =>
       have hr := Lib.hid (FK.out (of_decide_eq_true HE.out))
       go_wp2_with fail
       go_quiet (fail)
       go_wp2_with fail
       go_ret
       rw [hr.out]
       exact ⟨rfl, B1.out.trans ((below_drews HB.out _).mono B1.out.size)⟩
     | false =>
       have hr := Lib.hid (NK.out (of_decide_eq_false HE.out))
       go_wp2_with fail
       go_quiet (fail)
       go_wp2_with fail
       refine ⟨⟨k + 1, by omega, by go_num, hr, Lib.hid (below_drews HB.out _)⟩, by simp [intOf]; omega⟩
   · obtain rfl : k = n := by omega
     have hr := Lib.hid (END.out HT.out)
     go_wp2_with fail
     go_ret
     rw [hr.out]
     exact ⟨rfl, B1.out.trans (HB.out.mono B1.out.size)⟩
set_option maxRecDepth 100000 in
set_option maxHeartbeats 2000000 in
theorem part_14 (l m : List Ev) (a b : Option Addr) (n n2 c c2 : Nat) (w : World) (hl : CellsAt w a (elsV l)) (hn : n = l.length) (hb : n ≤ 1000000) (hl2 : CellsAt w b (elsV m)) (hn2 : n2 = m.length) (hb2 : n2 ≤ 1000000) :
   Calls Try.prog 72 #[.slice a n c, .slice b n2 c2] w fun e w' => e = .returned (.bool (partV l m)) ∧ Below w.heap.size w w' := by
 have HL := Lib.hid hl
 have HM := Lib.hid hl2
 have HN := Lib.hid hn
 have HN2 := Lib.hid hn2
 have HB2 := Lib.hid hb2
 have FND : Hid (∀ k (h : k < l.length), hasEv m l[k] = false → partV l m = false) := Lib.hid (fun k h e => by
   cases hp : partV l m with
   | false => rfl
   | true =>
     have := List.all_eq_true.1 hp _ (List.getElem_mem h)
     rw [e] at this; cases this)
 have END : Hid (partV (l.take n) m = true → partV l m = true) := Lib.hid (fun h => by rw [hn, List.take_length] at h; exact h)
 have NXT : Hid (∀ k (h : k < l.length), partV (l.take k) m = true → hasEv m l[k] = true → partV (l.take (k + 1)) m = true) := Lib.hid (fun k h h0 h1 => by
   unfold partV at h0 ⊢
   rw [List.take_succ_eq_append_getElem h, List.all_append, h0]
   simp [h1])
 have Z0 : Hid (partV (l.take 0) m = true) := Lib.hid (by simp [partV])
 generalize partV l m = res at *
 clear hl hn hl2 hn2 hb2
 go_enter Try.func72, Try.ntmps72
 go_wp2_with fail
 go_loopw [5] (fun i wr => ∃ k : Nat, k ≤ n ∧ i = .int .i64 (k : Int) ∧ Hid (partV (l.take k) m = true) ∧ Hid (Below w.heap.size w wr)) (fun i _ => n - (intOf i).toNat)
 case atStart => exact ⟨0, Nat.zero_le _, rfl, Z0, Lib.hid (Below.refl _ _)⟩
 case round =>
   obtain ⟨k, hk, rfl, HT, HB⟩ := hrel
   by_cases hlt : k < n
   · have hk1 : k < l.length := by have := HN.out; omega
     obtain ⟨ba, oa, rfl, ca⟩ := els_get (HL.out.below HB.out rfl) k hk1
     have FK := Lib.hid (FND.out k hk1)
     have NK := Lib.hid (NXT.out k hk1 HT.out)
     generalize l[k] = y at *
     obtain ⟨p0, p1, p2, p3, p4, p5⟩ := ca
     have hki : (k : Int) < (n : Int) := by omega
     go_wp2_with fail
     refine (has_14 m y b n2 c2 _ (HM.out.below HB.out rfl) HN2.out HB2.out).mono ?_
     rintro e w1 ⟨rfl, hbb⟩
     have H1 := Lib.hid (HB.out.trans (hbb.mono HB.out.size))
     clear hbb p0 p1 p2 p3 p4 p5
     obtain ⟨eb, heb⟩ : ∃ q, hasEv m y = q := ⟨_, rfl⟩
     rw [heb] at FK NK ⊢
     clear heb
     cases eb with
     | false =>
       have hr := Lib.hid (FK.out rfl)
       go_wp2_with fail
       go_ret
       rw [hr.out]
       exact ⟨rfl, H1.out⟩
     | true =>
       have hr := Lib.hid (NK.out rfl)
       go_wp2_with fail
       refine ⟨⟨k + 1, by omega, by go_num, hr, H1⟩, by simp [intOf]; omega⟩
   · obtain rfl : k = n := by omega
     have hr := Lib.hid (END.out HT.out)
     go_wp2_with fail
     go_ret
     rw [hr.out]
     exact ⟨rfl, HB.out⟩
def sinE (m : List Ev) (x : Ev) : Bool := m.all fun y => !(decide (x.1 = y.1) && !decide (x.2 = y.2))
def sinV (l m : List Ev) : Bool := l.all (sinE m)
set_option maxRecDepth 100000 in
set_option maxHeartbeats 2000000 in
theorem single_14 (l m : List Ev) (a b : Option Addr) (n n2 c c2 : Nat) (w : World) (hl : CellsAt w a (elsV l)) (hn : n = l.length) (hb : n ≤ 1000000) (hl2 : CellsAt w b (elsV m)) (hn2 : n2 = m.length) (hb2 : n2 ≤ 1000000) :
   Calls Try.prog 73 #[.slice a n c, .slice b n2 c2] w fun e w' => e = .returned (.bool (sinV l m)) ∧ Below w.heap.size w w' := by
 have HL := Lib.hid hl
 have HM := Lib.hid hl2
 have HN := Lib.hid hn
 have HN2 := Lib.hid hn2
 have FND : Hid (∀ k (h : k < l.length), sinE m l[k] = false → sinV l m = false) := Lib.hid (fun k h e => by
   cases hp : sinV l m with
   | false => rfl
   | true =>
     have := List.all_eq_true.1 hp _ (List.getElem_mem h)
     rw [e] at this; cases this)
 have END : Hid (sinV (l.take n) m = true → sinV l m = true) := Lib.hid (fun h => by rw [hn, List.take_length] at h; exact h)
 have NXT : Hid (∀ k (h : k < l.length), sinV (l.take k) m = true → sinE m l[k] = true → sinV (l.take (k + 1)) m = true) := Lib.hid (fun k h h0 h1 => by
   unfold sinV at h0 ⊢
   rw [List.take_succ_eq_append_getElem h, List.all_append, h0]
   simp [h1])
 have Z0 : Hid (sinV (l.take 0) m = true) := Lib.hid (by simp [sinV])
 generalize sinV l m = res at *
 clear hl hn hl2
 go_enter Try.func73, Try.ntmps73
 go_wp2_with fail
 go_loopw [5] (fun i wr => ∃ k : Nat, k ≤ n ∧ i = .int .i64 (k : Int) ∧ Hid (sinV (l.take k) m = true) ∧ Hid (Below w.heap.size w wr)) (fun i _ => n - (intOf i).toNat)
 case atStart => exact ⟨0, Nat.zero_le _, rfl, Z0, Lib.hid (Below.refl _ _)⟩
 case round =>
   obtain ⟨k, hk, rfl, HT, HB⟩ := hrel
   by_cases hlt : k < n
   · have hk1 : k < l.length := by have := HN.out; omega
     obtain ⟨ba, oa, rfl, ca⟩ := els_get (HL.out.below HB.out rfl) k hk1
     have FK := Lib.hid (FND.out k hk1)
     have NK := Lib.hid (NXT.out k hk1 HT.out)
     generalize l[k] = x at *
     have CA := Lib.hid ca
     clear ca
     have hki : (k : Int) < (n : Int) := by omega
     have FN2 : Hid (∀ j (h : j < m.length), x.1 = m[j].1 → x.2 ≠ m[j].2 → sinE m x = false) := Lib.hid (fun j h e1 e2 => by
       cases hp : sinE m x with
       | false => rfl
       | true =>
         have := List.all_eq_true.1 hp _ (List.getElem_mem h)
         simp [e1, e2] at this)
     have EN2 : Hid (sinE (m.take n2) x = true → sinE m x = true) := Lib.hid (fun h => by rw [hn2, List.take_length] at h; exact h)
     have NX2 : Hid (∀ j (h : j < m.length), sinE (m.take j) x = true → (x.1 = m[j].1 → x.2 = m[j].2) → sinE (m.take (j + 1)) x = true) := Lib.hid (fun j h h0 h1 => by
       unfold sinE at h0 ⊢
       rw [List.take_succ_eq_append_getElem h, List.all_append, h0]
       by_cases e : x.1 = m[j].1
       · simp [h1 e]
       · simp [e])
     have Z2 : Hid (sinE (m.take 0) x = true) := Lib.hid (by simp [sinE])
     generalize sinE m x = rs2 at *
     obtain ⟨wo, rfl⟩ : ∃ X : World, X = wr := ⟨_, rfl⟩
     go_wp2_with fail
     go_loopw [6] (fun i wr => ∃ j : Nat, j ≤ n2 ∧ i = .int .i64 (j : Int) ∧ Hid (sinE (m.take j) x = true) ∧ Hid (Below wo.heap.size wo wr)) (fun i _ => n2 - (intOf i).toNat)
     case atStart => exact ⟨0, Nat.zero_le _, rfl, Z2, Lib.hid (Below.refl _ _)⟩
     case round =>
       obtain ⟨j, hj, rfl, HT2, HB2⟩ := hrel
       by_cases hlt2 : j < n2
       · have hj1 : j < m.length := by have := HN2.out; omega
         obtain ⟨bb, ob, rfl, cb⟩ := els_get ((HM.out.below HB.out rfl).below HB2.out rfl) j hj1
         have FJ := Lib.hid (FN2.out j hj1)
         have NJ := Lib.hid (NX2.out j hj1 HT2.out)
         generalize m[j] = y at *
         obtain ⟨q0, q1, q2, q3, q4, q5⟩ := cb
         obtain ⟨p0, p1, p2, p3, p4, p5⟩ := CA.out.below HB2.out
         have hji : (j : Int) < (n2 : Int) := by omega
         have HW := Lib.hid (HB.out.trans (HB2.out.mono HB.out.size))
         obtain ⟨eb, heb⟩ : ∃ q, decide (x.1 = y.1) = q := ⟨_, rfl⟩
         have EN : ∀ W, (binOp .eql 41 (.agg #[.int .i64 x.1.g, .int .i64 x.1.r, .string x.1.l, .int .i64 x.1.n, .int .i64 x.1.i]) (.agg #[.int .i64 y.1.g, .int .i64 y.1.r, .string y.1.l, .int .i64 y.1.n, .int .i64 y.1.i])).run Try.prog W = .ok (.bool eb) W := fun W => by rw [sv_eql x.1 y.1 W, heb]
         have HE := Lib.hid heb
         clear heb
         cases eb with
         | false =>
           have hr := Lib.hid (NJ.out (fun e => absurd e (of_decide_eq_false HE.out)))
           go_wp2_with fail
           go_quiet (fail)
           go_wp2_with fail
           refine ⟨⟨j + 1, by omega, by go_num, hr, Lib.hid (below_drews HB2.out _)⟩, by simp [intOf]; omega⟩
         | true =>
           by_cases hxy : x.2 = y.2
           · have hd : (x.2.toList == y.2.toList) = true := by rw [Pm.eq_iff]; simpa using hxy
             have hr := Lib.hid (NJ.out (fun _ => hxy))
             clear hxy
             go_wp2_with fail
             go_quiet (fail)
             go_wp2_with fail
             refine ⟨⟨j + 1, by omega, by go_num, hr, Lib.hid (below_drews HB2.out _)⟩, by simp [intOf]; omega⟩
           · have hd : (x.2.toList == y.2.toList) = false := by rw [Pm.eq_iff]; simpa using hxy
             have hr := Lib.hid (FK.out (FJ.out (of_decide_eq_true HE.out) hxy))
             clear hxy
             go_wp2_with fail
             go_quiet (fail)
             go_wp2_with fail
             go_ret
             rw [hr.out]
             exact ⟨rfl, below_drews HW.out _⟩
       · obtain rfl : j = n2 := by omega
         have hr := Lib.hid (NK.out (EN2.out HT2.out))
         have HW := Lib.hid (HB.out.trans (HB2.out.mono HB.out.size))
         go_wp2_with fail
         refine ⟨⟨k + 1, by omega, by go_num, hr, HW⟩, by simp [intOf]; omega⟩
   · obtain rfl : k = n := by omega
     have hr := Lib.hid (END.out HT.out)
     go_wp2_with fail
     go_ret
     rw [hr.out]
     exact ⟨rfl, HB.out⟩
end Go.Proofs.Ytnpiepimajippaa
