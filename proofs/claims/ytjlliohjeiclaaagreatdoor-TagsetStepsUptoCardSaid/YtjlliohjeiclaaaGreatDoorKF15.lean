/- Words, contracts and walks that the proof stands on (TgW TgG Tail PmPS WkAS WkXS WkCS WkDS TgH TgS TgZ TgZt). -/
import Derived.Deep.CutBlock
import Derived.Deep.DeepCutAuto
import Derived.Deep.RegionHeld3
import Derived.MapKept
import Derived.Maps.Own
import Derived.RangeFuncKeeps
import Derived.RangeFuncWrites
import Derived.Test.YtjlliohjeiclaaaGreatDoorKF1
import Derived.Test.YtjlliohjeiclaaaGreatDoorKF11
import Derived.Test.YtjlliohjeiclaaaGreatDoorKF12
import Derived.Test.YtjlliohjeiclaaaGreatDoorKF13
import Derived.Test.YtjlliohjeiclaaaGreatDoorKF14
import Derived.Test.YtjlliohjeiclaaaGreatDoorKF4
import Derived.Test.YtjlliohjeiclaaaGreatDoorKF5
import Derived.Test.YtjlliohjeiclaaaGreatDoorKF6
import Derived.Test.YtjlliohjeiclaaaGreatDoorKF7
import Derived.Test.YtjlliohjeiclaaaGreatDoorKF9
namespace Go.Proofs.YtjlliohjeiclaaaGreatDoor
open Go.RowKit St Pm
theorem fld_st11 (g r n i : Int) (l x : ByteArray) (w : World) : (Instr.field 53 (.agg #[.int .i64 g, .int .i64 r, .string l, .int .i64 n, .int .i64 i, .string x]) 0).run Tryz.prog w = .ok (.agg #[.int .i64 g, .int .i64 r, .string l, .int .i64 n, .int .i64 i]) w := by
 kernel_rfl
theorem mp_oneT (p : Option Addr) : (#[.pointer p] : Array Value).all (·.oneCell') = true := by simp [Value.oneCell']
theorem k_labT (L : List Ev) (h : ∀ x ∈ L, x.1.l = labA) : ∀ e ∈ L, e.1.l.size ≤ 9223372036854775807 := fun e he => by rw [h e he]; decide
set_option maxRecDepth 100000 in
set_option maxHeartbeats 4000000 in
theorem known_11 (w : World) (hG : Glob w) : Calls Tryz.prog 8 #[] w fun e w' => e = .returned (.bool true) ∧ Below w.heap.size w w' := by
 have HG := Lib.hid hG
 clear hG
 have HC : Hid (Chain [w] w) := Lib.hid (Chain.one w)
 go_enter Tryz.func8, Tryz.ntmps8
 go_wp2_with fail
 refine (at_11 2 ⟨#[120]⟩ _).mono ?_
 rintro e w1 ⟨rfl, hb⟩
 replace HC := Lib.hid (HC.out.push hb)
 clear hb
 go_wp2_with fail
 refine (at_11 1 ⟨#[121]⟩ _).mono ?_
 rintro e w2 ⟨rfl, hb⟩
 replace HC := Lib.hid (HC.out.push hb)
 clear hb
 go_wp2_with fail
 obtain ⟨c3, hc3⟩ : ∃ c, w2.heap.size = c := ⟨_, rfl⟩
 try rw [hc3]
 obtain ⟨w3, hw3⟩ : ∃ X, allocs w2 [.cells #[.int .i64 2, .int .i64 0, .string labA, .int .i64 1, .int .i64 0, .string ⟨#[120]⟩, .int .i64 1, .int .i64 0, .string labA, .int .i64 1, .int .i64 0, .string ⟨#[121]⟩] 53] = X := ⟨_, rfl⟩
 rw [show w2.alloc (.cells #[.int .i64 2, .int .i64 0, .string labA, .int .i64 1, .int .i64 0, .string ⟨#[120]⟩, .int .i64 1, .int .i64 0, .string labA, .int .i64 1, .int .i64 0, .string ⟨#[121]⟩] 53) = w3 from hw3]
 have hb : Below w2.heap.size w2 w3 := by rw [← hw3]; exact allocs_below _ _
 have HE : Hid (w3.heap[c3]? = some (.cells #[.int .i64 2, .int .i64 0, .string labA, .int .i64 1, .int .i64 0, .string ⟨#[120]⟩, .int .i64 1, .int .i64 0, .string labA, .int .i64 1, .int .i64 0, .string ⟨#[121]⟩] 53 (0, 0))) := Lib.hid (by have := allocs_get [.cells #[.int .i64 2, .int .i64 0, .string labA, .int .i64 1, .int .i64 0, .string ⟨#[120]⟩, .int .i64 1, .int .i64 0, .string labA, .int .i64 1, .int .i64 0, .string ⟨#[121]⟩] 53] w2 0 _ rfl; rw [hw3, hc3] at this; exact this)
 have Sc3 : Hid (w2.heap.size = c3) := Lib.hid hc3
 replace HC := Lib.hid (HC.out.push hb)
 clear hb hw3 hc3
 refine (of_tag [atV 2 tX, atV 1 tY] (some ⟨c3, 0, none⟩) 2 2 _ (cells_rowT HE.out) rfl (by omega) (k_labT _ (by simp [atV])) (HG.out.below (HC.out.to w (by simp)))).mono ?_
 rintro e w4 ⟨t, ce, rfl, ht, hb, hP⟩
 replace HC := Lib.hid (HC.out.push hb)
 clear hb
 have T4 := Lib.hid ht
 obtain ⟨rfl, hr⟩ : ce = 0 ∧ Tag [atV 2 tX, atV 1 tY] t := by
  rcases hP with ⟨_, h1, h2⟩ | ⟨h, _⟩
  · rw [k_set] at h2; exact ⟨h1, h2⟩
  · rw [k_may] at h; cases h
 have R4 := Lib.hid hr
 clear hP hr ht
 go_upto_region 2 with (fail)
 obtain ⟨c5, hc5⟩ : ∃ c, w4.heap.size = c := ⟨_, rfl⟩
 try rw [hc5]
 obtain ⟨w5, hw5⟩ : ∃ X, allocs w4 [.cells #[.pointer (pa t)] 27] = X := ⟨_, rfl⟩
 rw [show w4.alloc (.cells #[.pointer (pa t)] 27) = w5 from hw5]
 have hb : Below w4.heap.size w4 w5 := by rw [← hw5]; exact allocs_below _ _
 have HM : Hid (w5.heap[c5]? = some (.cells #[.pointer (pa t)] 27 (0, 0))) := Lib.hid (by have := allocs_get [.cells #[.pointer (pa t)] 27] w4 0 _ rfl; rw [hw5, hc5] at this; exact this)
 have Sc5 : Hid (w4.heap.size = c5) := Lib.hid hc5
 replace HC := Lib.hid (HC.out.push hb)
 clear hb hw5 hc5
 go_wp2_with fail
 refine (at_11 1 ⟨#[120]⟩ _).mono ?_
 rintro e w6 ⟨rfl, hb⟩
 replace HC := Lib.hid (HC.out.push hb)
 clear hb
 go_wp2_with fail
 refine (at_11 1 ⟨#[121]⟩ _).mono ?_
 rintro e w7 ⟨rfl, hb⟩
 replace HC := Lib.hid (HC.out.push hb)
 clear hb
 go_wp2_with fail
 obtain ⟨c8, hc8⟩ : ∃ c, w7.heap.size = c := ⟨_, rfl⟩
 try rw [hc8]
 obtain ⟨w8, hw8⟩ : ∃ X, allocs w7 [.cells #[.int .i64 1, .int .i64 0, .string labA, .int .i64 1, .int .i64 0, .string ⟨#[120]⟩, .int .i64 1, .int .i64 0, .string labA, .int .i64 1, .int .i64 0, .string ⟨#[121]⟩] 53] = X := ⟨_, rfl⟩
 rw [show w7.alloc (.cells #[.int .i64 1, .int .i64 0, .string labA, .int .i64 1, .int .i64 0, .string ⟨#[120]⟩, .int .i64 1, .int .i64 0, .string labA, .int .i64 1, .int .i64 0, .string ⟨#[121]⟩] 53) = w8 from hw8]
 have hb : Below w7.heap.size w7 w8 := by rw [← hw8]; exact allocs_below _ _
 have HF : Hid (w8.heap[c8]? = some (.cells #[.int .i64 1, .int .i64 0, .string labA, .int .i64 1, .int .i64 0, .string ⟨#[120]⟩, .int .i64 1, .int .i64 0, .string labA, .int .i64 1, .int .i64 0, .string ⟨#[121]⟩] 53 (0, 0))) := Lib.hid (by have := allocs_get [.cells #[.int .i64 1, .int .i64 0, .string labA, .int .i64 1, .int .i64 0, .string ⟨#[120]⟩, .int .i64 1, .int .i64 0, .string labA, .int .i64 1, .int .i64 0, .string ⟨#[121]⟩] 53] w7 0 _ rfl; rw [hw8, hc8] at this; exact this)
 have Sc8 : Hid (w7.heap.size = c8) := Lib.hid hc8
 replace HC := Lib.hid (HC.out.push hb)
 clear hb hw8 hc8
 refine (of_tag [atV 1 tX, atV 1 tY] (some ⟨c8, 0, none⟩) 2 2 _ (cells_rowT HF.out) rfl (by omega) (k_labT _ (by simp [atV])) (HG.out.below (HC.out.to w (by simp)))).mono ?_
 rintro e w9 ⟨t2, ce, rfl, _, hb, hP⟩
 replace HC := Lib.hid (HC.out.push hb)
 clear hb
 obtain ⟨rfl, rfl⟩ : ce = 2 ∧ t2 = .nil := by
  rcases hP with ⟨h, _⟩ | ⟨_, h1, h2⟩
  · rw [k_not] at h; cases h
  · exact ⟨h1, h2⟩
 clear hP
 rw [show pa (Tr.nil : Tr ByteArray) = none from rfl]
 go_upto_region 3 with (fail)
 obtain ⟨c10, hc10⟩ : ∃ c, w9.heap.size = c := ⟨_, rfl⟩
 try rw [hc10]
 obtain ⟨w10, hw10⟩ : ∃ X, allocs w9 [.cells #[.pointer none] 27] = X := ⟨_, rfl⟩
 rw [show w9.alloc (.cells #[.pointer none] 27) = w10 from hw10]
 have hb : Below w9.heap.size w9 w10 := by rw [← hw10]; exact allocs_below _ _
 have Sc10 : Hid (w9.heap.size = c10) := Lib.hid hc10
 replace HC := Lib.hid (HC.out.push hb)
 clear hb hw10 hc10
 have M10 := Lib.hid (boxStays HM.out (HC.out.to w5 (by simp)))
 have T10 := Lib.hid (T4.out.below (HC.out.to w4 (by simp)) rfl)
 have G10 := Lib.hid (HG.out.below (HC.out.to w (by simp)))
 have INS : Hid (∀ w1, Below w10.heap.size w10 w1 → Calls Tryz.prog 21 #[.agg #[.pointer (pa t)], .agg #[.int .i64 3, .int .i64 0, .string labA, .int .i64 1, .int .i64 0], .string ⟨#[120]⟩] w1 fun e w' => ∃ m : Tr ByteArray, e = .returned (.tuple #[.agg #[.pointer (pa m)], .int .i64 0]) ∧ AtS w' m ∧ Tag [atV 2 tX, atV 3 tX, atV 1 tY] m ∧ Below w1.heap.size w1 w') := Lib.hid (fun w1 hB => by
  have h := ins_tag t (atV 3 tX).1 tX w1 (T10.out.below hB rfl) R4.out (by simp) (at_ok 3 tX (by omega) (by omega) (by decide)) (G10.out.below hB)
  have e1 : ((atV 3 tX).1, tX) = atV 3 tX := rfl
  rw [e1, k_ins] at h
  exact h)
 clear T10 G10
 refine relG_start (slots := [29, 30, 31, 32, 28, 33, 34, 5, 6]) (so := [8]) (by kernel_rfl) (by kernel_rfl) (by rfl) ?_
 refine relG_pure (i := 0) (o := ⟨some 29, _, _, _, _, _⟩) (v := ?v1) [] [1] rfl rfl (by kernel_rfl) (by kernel_rfl) (fun t w1 hB hf hbf => ?y1) ?n1
 case y1 =>
  simp only [BasF] at hbf
  clear hf
  obtain ⟨⟨b1, k1⟩, _⟩ := hbf
  have m0 := cell_of_one (boxStays M10.out hB)
  refine Or.inl ⟨wanted_none rfl, ?_⟩
  rintro _ rfl
  go_simp <;> with_reducible rfl
 refine relG_call (i := 1) (o := ⟨some 30, _, _, _, _, _⟩) ((fun v _ => v = .agg #[.int .i64 3, .int .i64 0, .string labA, .int .i64 1, .int .i64 0, .string ⟨#[]⟩])) [] [] rfl rfl (by kernel_rfl) (by kernel_rfl) ((fun _ _ _ h _ => h)) ?_ ?_
 · intro t w1 hB hf hbf K hK
   clear hf
   clear hbf
   have m0 := cell_of_one (boxStays M10.out hB)
   refine ⟨wanted_none rfl, ?_⟩
   go_simp
   refine (at_11 3 ⟨#[]⟩ w1).mono ?_
   rintro e w2 ⟨rfl, hb⟩
   exact hK.out _ w2 (rfl) hb
 refine relG_pure (i := 2) (o := ⟨some 31, _, _, _, _, _⟩) (v := ?v2) [(1, 30, 0)] [] rfl rfl (by kernel_rfl) (by kernel_rfl) (fun t w1 hB hf hbf => ?y2) ?n2
 case y2 =>
  simp only [DepF, List.getD_cons_zero] at hf
  obtain ⟨⟨_, ⟨e30, i30⟩, rfl⟩, _⟩ := hf
  clear hbf
  have m0 := cell_of_one (boxStays M10.out hB)
  have fd := fld_st11 3 0 1 0 labA ⟨#[]⟩
  refine Or.inl ⟨wanted_none rfl, ?_⟩
  rintro _ rfl
  go_simp <;> with_reducible rfl
 refine relG_call (i := 3) (o := ⟨some 32, _, _, _, _, _⟩) ((fun v w' => ∃ m : Tr ByteArray, v = .tuple #[.agg #[.pointer (pa m)], .int .i64 0] ∧ AtS w' m ∧ Tag [atV 2 tX, atV 3 tX, atV 1 tY] m)) [(0, 29, 2), (2, 31, 0)] [] rfl rfl (by kernel_rfl) (by kernel_rfl) ((fun v w' w'' h hb => by obtain ⟨m, e1, e2, e3⟩ := h; exact ⟨m, e1, e2.below hb rfl, e3⟩)) ?_ ?_
 · intro t w1 hB hf hbf K hK
   simp only [DepF, List.getD_cons_zero, List.getD_cons_succ] at hf
   obtain ⟨⟨_, ⟨e29, i29⟩, rfl⟩, ⟨_, ⟨e31, i31⟩, rfl⟩, _⟩ := hf
   clear hbf
   have m0 := cell_of_one (boxStays M10.out hB)
   refine ⟨wanted_none rfl, ?_⟩
   go_simp
   refine (INS.out w1 hB).mono ?_
   rintro e w2 ⟨m, rfl, hm, hP, hb⟩
   exact hK.out _ w2 ((⟨m, rfl, hm, hP⟩)) hb
 refine relG_call (i := 4) (o := ⟨some 28, _, _, _, _, _⟩) ((fun v w' => ∃ m : Tr ByteArray, v = .tuple #[.agg #[.pointer (pa m)], .int .i64 0] ∧ AtS w' m ∧ Tag [atV 2 tX, atV 3 tX, atV 1 tY] m)) [(3, 32, 0)] [] rfl rfl (by kernel_rfl) (by kernel_rfl) ((fun v w' w'' h hb => by obtain ⟨m, e1, e2, e3⟩ := h; exact ⟨m, e1, e2.below hb rfl, e3⟩)) ?_ ?_
 · intro t w1 hB hf hbf K hK
   simp only [DepF, List.getD_cons_zero] at hf
   obtain ⟨⟨_, ⟨e32, i32⟩, ⟨m, rfl, hm, hmr⟩⟩, _⟩ := hf
   clear hbf
   have m0 := cell_of_one (boxStays M10.out hB)
   refine ⟨wanted_none rfl, ?_⟩
   go_simp
   exact hK.out _ _ (⟨m, rfl, hm, hmr⟩) (Below.refl _ _)
 refine relG_call (i := 5) (o := ⟨some 33, _, _, _, _, _⟩) ((fun v w' => ∃ m : Tr ByteArray, v = .agg #[.pointer (pa m)] ∧ AtS w' m ∧ Tag [atV 2 tX, atV 3 tX, atV 1 tY] m)) [(4, 28, 0)] [] rfl rfl (by kernel_rfl) (by kernel_rfl) ((fun v w' w'' h hb => by obtain ⟨m, e1, e2, e3⟩ := h; exact ⟨m, e1, e2.below hb rfl, e3⟩)) ?_ ?_
 · intro t w1 hB hf hbf K hK
   simp only [DepF, List.getD_cons_zero] at hf
   obtain ⟨⟨_, ⟨e28, i28⟩, ⟨m, rfl, hm, hmr⟩⟩, _⟩ := hf
   clear hbf
   have m0 := cell_of_one (boxStays M10.out hB)
   refine ⟨wanted_none rfl, ?_⟩
   go_simp
   exact hK.out _ _ (⟨m, rfl, hm, hmr⟩) (Below.refl _ _)
 refine relG_pure (i := 6) (o := ⟨some 34, _, _, _, _, _⟩) (v := ?v3) [(4, 28, 1)] [] rfl rfl (by kernel_rfl) (by kernel_rfl) (fun t w1 hB hf hbf => ?y3) ?n3
 case y3 =>
  simp only [DepF, List.getD_cons_zero, List.getD_cons_succ] at hf
  obtain ⟨⟨_, ⟨e28, i28⟩, ⟨m, rfl, hm, hmr⟩⟩, _⟩ := hf
  clear hbf
  have m0 := cell_of_one (boxStays M10.out hB)
  refine Or.inl ⟨wanted_none rfl, ?_⟩
  rintro _ rfl
  go_simp <;> with_reducible rfl
 refine relG_call (i := 7) (o := ⟨some 5, _, _, _, _, _⟩) ((fun v w' => ∃ b, v = .pointer (some ⟨b, 0, none⟩) ∧ w10.heap.size ≤ b ∧ w'.heap[b]? = some (.cells #[.pointer none] 27 (0, 0)))) [] [] rfl rfl (by kernel_rfl) (by kernel_rfl) ((fun v w' w'' h hb => by obtain ⟨b, e1, e2, e3⟩ := h; exact ⟨b, e1, e2, boxStays e3 hb⟩)) ?_ ?_
 · intro t w1 hB hf hbf K hK
   clear hf
   clear hbf
   have m0 := cell_of_one (boxStays M10.out hB)
   refine ⟨wanted_none rfl, ?_⟩
   go_simp
   exact hK.out _ _ (⟨_, rfl, hB.size, heap_alloc_new _ _⟩) (below_new _ _)
 refine relG_skip 8 rfl (by rfl) ?_ (by kernel_rfl)
 refine relG_pure (i := 9) (o := ⟨some 6, _, _, _, _, _⟩) (v := ?v4) [(6, 34, 2)] [] rfl rfl (by kernel_rfl) (by kernel_rfl) (fun t w1 hB hf hbf => ?y4) ?n4
 case y4 =>
  simp only [DepF, List.getD_cons_zero, List.getD_cons_succ] at hf
  obtain ⟨⟨_, ⟨e34, i34⟩, rfl⟩, _⟩ := hf
  clear hbf
  have m0 := cell_of_one (boxStays M10.out hB)
  refine Or.inl ⟨wanted_none rfl, ?_⟩
  rintro _ rfl
  go_simp <;> with_reducible rfl
 refine relG_own 8 5 7 33 5 [(0, 29, 9), (1, 30, 8), (2, 31, 7), (3, 32, 6), (4, 28, 5), (5, 33, 4), (6, 34, 3), (7, 5, 2), (9, 6, 0)] [(0, 29, 9), (1, 30, 8), (2, 31, 7), (3, 32, 6), (4, 28, 5), (5, 33, 4), (7, 5, 2)] (by kernel_rfl) rfl (by kernel_rfl) (by kernel_rfl) (by kernel_rfl) (by kernel_rfl) ?_ (fun f wE hB hf => ?_)
 · intro f w1 hB hf K hK
   simp only [FinF, List.getD_cons_zero, List.getD_cons_succ] at hf
   obtain ⟨⟨_, e29, rfl⟩, ⟨_, e30, rfl⟩, ⟨_, e31, rfl⟩, ⟨_, e32, ⟨m, rfl, hm, hmr⟩⟩, ⟨_, e28, ⟨m, rfl, hm, hmr⟩⟩, ⟨_, e33, ⟨n, rfl, hn, hnr⟩⟩, ⟨_, e5, ⟨bb, rfl, hbb, hbr⟩⟩, _⟩ := hf
   have m0 := cell_of_one (boxStays M10.out hB)
   refine sto_own (i := 8) 27 5 33 bb (#[.pointer (pa n)]) _ _ rfl rfl rfl rfl (by rfl) (by rfl) e5 (by rfl) (by rfl) e33 (hbr) (by kernel_rfl) rfl (mp_oneT _) hK
 simp only [FinF, List.getD_cons_zero, List.getD_cons_succ] at hf
 obtain ⟨⟨_, e29, rfl⟩, ⟨_, e30, rfl⟩, ⟨_, e31, rfl⟩, ⟨_, e32, ⟨m, rfl, hm, hmr⟩⟩, ⟨_, e28, ⟨m, rfl, hm, hmr⟩⟩, ⟨_, e33, ⟨n, rfl, hn, hnr⟩⟩, ⟨_, e34, rfl⟩, ⟨_, e5, ⟨bb, rfl, hbb, hbr⟩⟩, ⟨_, e6, rfl⟩, _⟩ := hf
 simp only [blkOf, Value.cells, regT, List.foldl_cons, List.foldl_nil, List.setIfInBounds_toArray, List.set_cons_zero, List.set_cons_succ, e29, e30, e31, e32, e28, e33, e34, e5, e6]
 clear e29 e30 e31 e32 e28 e33 e34 e5 e6
 rw [setRow_one hbr]
 have N7 := Lib.hid hnr
 have hn8 := hn.setBox hbr (by decide) 0 (.pointer (pa n))
 have hN8 := Boxed.set (t := 27) (.pointer (pa n)) hbr
 have hb8 := hB.setCell (p := ⟨bb, 0, none⟩) hbb (.pointer (pa n))
 have QA := Lib.hid hn8
 have QB := Lib.hid hN8
 have QC := Lib.hid hb8
 clear hn8 hN8 hb8 hB hn hnr hm hmr hbb hbr
 go_upto_region 4 with (fail)
 generalize wE.setCell ⟨bb, 0, none⟩ (.pointer (pa n)) = w11 at *
 have hb := QC.out
 have HN : Hid (w11.heap[bb]? = some (.cells #[.pointer (pa n)] 27 (0, 0))) := Lib.hid QB.out
 replace HC := Lib.hid (HC.out.push hb)
 clear hb
 have kN0 := cell_of_one HN.out
 go_wp2_with fail
 refine (rem_tag n tX _ QA.out N7.out (by simp) (by decide) (HG.out.below (HC.out.to w (by simp)))).mono ?_
 rintro e w12 ⟨o, rfl, ho, hor, _, hb⟩
 clear kN0
 replace HC := Lib.hid (HC.out.push hb)
 clear hb
 rw [k_fx]
 rw [k_nx] at hor
 have T12 := Lib.hid ho
 have R12 := Lib.hid hor
 clear ho hor
 try simp only [List.length_cons, List.length_nil, Nat.zero_add, Nat.reduceAdd]
 go_upto_region 5 with (fail)
 obtain ⟨c13, hc13⟩ : ∃ c, w12.heap.size = c := ⟨_, rfl⟩
 try rw [hc13]
 obtain ⟨w13, hw13⟩ : ∃ X, allocs w12 [.cells #[.pointer (pa o)] 27] = X := ⟨_, rfl⟩
 rw [show w12.alloc (.cells #[.pointer (pa o)] 27) = w13 from hw13]
 have hb : Below w12.heap.size w12 w13 := by rw [← hw13]; exact allocs_below _ _
 have HO : Hid (w13.heap[c13]? = some (.cells #[.pointer (pa o)] 27 (0, 0))) := Lib.hid (by have := allocs_get [.cells #[.pointer (pa o)] 27] w12 0 _ rfl; rw [hw13, hc13] at this; exact this)
 have Sc13 : Hid (w12.heap.size = c13) := Lib.hid hc13
 replace HC := Lib.hid (HC.out.push hb)
 clear hb hw13 hc13
 have kO0 := cell_of_one HO.out
 go_wp2_with fail
 refine (txt_tag o _ (T12.out.below (HC.out.to w12 (by simp)) rfl) R12.out (by simp)).mono ?_
 rintro e w14 ⟨vt, rfl, hb, hown⟩
 clear kO0
 replace HC := Lib.hid (HC.out.push hb)
 clear hb
 rw [k_g1] at hown
 have hl1 : (grpT [atV 1 tY]).length = 1 := by have := congrArg List.length k_g1; simpa using this
 rw [hl1] at hown
 obtain ⟨at14, ct14, rfl, _⟩ := own_slice hown
 have X14 : Hid (CellsAt w14 at14 (txV [tY])) := Lib.hid (CellsAt.ownN hown)
 clear hown hl1
 go_upto_region 6 with (fail)
 have kM0 := cell_of_one (boxStays HM.out (HC.out.to w5 (by simp)))
 go_wp2_with fail
 refine (txt_tag t _ (T4.out.below (HC.out.to w4 (by simp)) rfl) R4.out (by simp)).mono ?_
 rintro e w15 ⟨vt, rfl, hb, hown⟩
 clear kM0
 replace HC := Lib.hid (HC.out.push hb)
 clear hb
 rw [k_g2] at hown
 have hl2 : (grpT [atV 2 tX, atV 1 tY]).length = 2 := by have := congrArg List.length k_g2; simpa using this
 rw [hl2] at hown
 obtain ⟨at15, ct15, rfl, _⟩ := own_slice hown
 have X15 : Hid (CellsAt w15 at15 (txV [tX, tY])) := Lib.hid (CellsAt.ownN hown)
 clear hown hl2
 go_wp2_with fail
 refine (num_11 0 _).mono ?_
 rintro e _ ⟨rfl, rfl⟩
 go_wp2_with fail
 refine (num_11 0 _).mono ?_
 rintro e _ ⟨rfl, rfl⟩
 go_wp2_with fail
 refine (num_11 0 _).mono ?_
 rintro e _ ⟨rfl, rfl⟩
 go_wp2_with fail
 refine (num_11 0 _).mono ?_
 rintro e _ ⟨rfl, rfl⟩
 go_wp2_with fail
 refine (num_11 0 _).mono ?_
 rintro e _ ⟨rfl, rfl⟩
 go_wp2_with fail
 refine (num_11 2 _).mono ?_
 rintro e _ ⟨rfl, rfl⟩
 have kN0 := cell_of_one (boxStays HN.out (HC.out.to w11 (by simp)))
 go_wp2_with fail
 refine (tags_tag n tX _ (QA.out.below (HC.out.to w11 (by simp)) rfl) N7.out (by simp) (by decide) (HG.out.below (HC.out.to w (by simp)))).mono ?_
 rintro e w16 ⟨vt, rfl, hb, hown⟩
 clear kN0
 replace HC := Lib.hid (HC.out.push hb)
 clear hb
 rw [k_fx] at hown
 obtain ⟨a16, c16, rfl, _⟩ := own_slice hown
 clear hown
 try simp only [List.length_cons, List.length_nil, Nat.zero_add, Nat.reduceAdd]
 have kM0 := cell_of_one (boxStays HM.out (HC.out.to w5 (by simp)))
 go_wp2_with fail
 refine (has_tag t tZ _ (T4.out.below (HC.out.to w4 (by simp)) rfl) R4.out (by simp) (by decide) (HG.out.below (HC.out.to w (by simp)))).mono ?_
 rintro e w17 ⟨rfl, hb⟩
 clear kM0
 replace HC := Lib.hid (HC.out.push hb)
 clear hb
 rw [k_fz]
 have hd0 : decide (0 < ([] : List Ev).length) = false := rfl
 rw [hd0]
 go_wp2_with fail
 obtain ⟨c18, hc18⟩ : ∃ c, w17.heap.size = c := ⟨_, rfl⟩
 try rw [hc18]
 obtain ⟨w18, hw18⟩ : ∃ X, allocs w17 [.cells #[.string ⟨#[121]⟩] 9] = X := ⟨_, rfl⟩
 rw [show w17.alloc (.cells #[.string ⟨#[121]⟩] 9) = w18 from hw18]
 have hb : Below w17.heap.size w17 w18 := by rw [← hw18]; exact allocs_below _ _
 have HX : Hid (w18.heap[c18]? = some (.cells #[.string ⟨#[121]⟩] 9 (0, 0))) := Lib.hid (by have := allocs_get [.cells #[.string ⟨#[121]⟩] 9] w17 0 _ rfl; rw [hw18, hc18] at this; exact this)
 have Sc18 : Hid (w17.heap.size = c18) := Lib.hid hc18
 replace HC := Lib.hid (HC.out.push hb)
 clear hb hw18 hc18
 refine (ref9_SameTexts [tY] [tY] at14 (some ⟨c18, 0, none⟩) 1 1 ct14 1 _ (X14.out.below (HC.out.to w14 (by simp)) rfl) (cells_rowT HX.out) rfl rfl (by omega)).mono ?_
 rintro e w19 ⟨rfl, hb⟩
 replace HC := Lib.hid (HC.out.push hb)
 clear hb
 rw [decide_eq_true rfl]
 go_wp2_with fail
 obtain ⟨c20, hc20⟩ : ∃ c, w19.heap.size = c := ⟨_, rfl⟩
 try rw [hc20]
 obtain ⟨w20, hw20⟩ : ∃ X, allocs w19 [.cells #[.string ⟨#[120]⟩, .string ⟨#[121]⟩] 9] = X := ⟨_, rfl⟩
 rw [show w19.alloc (.cells #[.string ⟨#[120]⟩, .string ⟨#[121]⟩] 9) = w20 from hw20]
 have hb : Below w19.heap.size w19 w20 := by rw [← hw20]; exact allocs_below _ _
 have HY : Hid (w20.heap[c20]? = some (.cells #[.string ⟨#[120]⟩, .string ⟨#[121]⟩] 9 (0, 0))) := Lib.hid (by have := allocs_get [.cells #[.string ⟨#[120]⟩, .string ⟨#[121]⟩] 9] w19 0 _ rfl; rw [hw20, hc20] at this; exact this)
 have Sc20 : Hid (w19.heap.size = c20) := Lib.hid hc20
 replace HC := Lib.hid (HC.out.push hb)
 clear hb hw20 hc20
 refine (ref9_SameTexts [tX, tY] [tX, tY] at15 (some ⟨c20, 0, none⟩) 2 2 ct15 2 _ (X15.out.below (HC.out.to w15 (by simp)) rfl) (cells_rowT HY.out) rfl rfl (by omega)).mono ?_
 rintro e w21 ⟨rfl, hb⟩
 replace HC := Lib.hid (HC.out.push hb)
 clear hb
 rw [decide_eq_true rfl]
 go_wp2_with fail
 go_ret
 exact ⟨rfl, (HC.out.to w (by simp))⟩
end Go.Proofs.YtjlliohjeiclaaaGreatDoor
namespace Go.Proofs.YtjlliohjeiclaaaGreatDoor
open Go.RowKit Go.Sort St Pm Kn
attribute [local go_sem] Oper.semAt_some
theorem Tag.stb {l : List Ev} {t : Tr ByteArray} (h : Tag l t) : Stb l := by
 have h1 : l.Pairwise fun e f => klt e.2 f.2 = true ∨ (e.2 = f.2 ∧ e.1.st.lt f.1.st = true) := by
  have hs := h.srt
  rw [h.it] at hs
  have h2 := List.pairwise_map.1 hs
  refine List.Pairwise.imp_of_mem (fun {e f} he hf hk => ?_) h2
  have h3 := tag_lt (a := e) (b := f) (okV_iff.1 (h.ok e he)).1 (okV_iff.1 (h.ok f hf)).1
  have h4 : klt (tagK e) (tagK f) = true := hk
  rw [h3] at h4
  simpa using h4
 refine ⟨List.Pairwise.imp_of_mem (fun {e f} he hf hk e0 => ?_) h1, h1.imp fun {e f} hk => ?_⟩
 · subst e0
   rcases hk with hk | ⟨_, hk⟩
   · rw [klt_irrefl] at hk; cases hk
   · rw [lt_irrefl (Sv.ok_st (okV_iff.1 (h.ok e he)).1).1] at hk; cases hk
 · unfold evC RE elC firstC
   by_cases h0 : svC f.1 e.1 = 0
   · rw [if_pos h0, h0]
     have h5 : ¬ txtC f.2 e.2 < 0 := by
      unfold txtC
      rcases hk with hk | ⟨hk, _⟩
      · rw [klt_asymm hk]; simp [hk]
      · rw [hk, klt_irrefl]; simp
     simp [h5]
   · rw [if_neg h0]
theorem ins_none (a : Option Addr) (c : Nat) (fv : Value) (w : World) : Calls Tryz.prog 138 #[.slice a 0 c, .int .i64 0, .int .i64 0, fv] w fun e w' => e = .returned (.tuple #[]) ∧ w = w' := by
 go_enter Tryz.func138, Tryz.ntmps138
 go_wp2_with fail
 go_loopw [8] (fun i wr => i = .int .i64 1 ∧ w = wr) (fun _ _ => 0)
 case atStart => exact ⟨rfl, rfl⟩
 case round =>
  obtain ⟨rfl, rfl⟩ := hrel
  go_wp2_with fail
  go_end0
  exact ⟨rfl, rfl⟩
theorem stable_none (a : Option Addr) (c : Nat) (fv : Value) (w : World) : Calls Tryz.prog 105 #[.slice a 0 c, .int .i64 0, fv] w fun e w' => e = .returned (.tuple #[]) ∧ w = w' := by
 go_enter Tryz.func105, Tryz.ntmps105
 go_wp2_with fail
 go_loopw [7, 8] (fun i j wr => i = .int .i64 0 ∧ j = .int .i64 20 ∧ w = wr) (fun _ _ _ => 0)
 case atStart => exact ⟨rfl, rfl, rfl⟩
 case round =>
  obtain ⟨rfl, rfl, rfl⟩ := hrel
  go_wp2_with fail
  refine (ins_none a c fv w).mono ?_
  rintro e _ ⟨rfl, rfl⟩
  go_wp2_with fail
  go_loopw [6] (fun i wr => i = .int .i64 20 ∧ w = wr) (fun _ _ => 0)
  case atStart => exact ⟨rfl, rfl⟩
  case round =>
   obtain ⟨rfl, rfl⟩ := hrel
   go_wp2_with fail
   go_end0
   exact ⟨rfl, rfl⟩
theorem sl_SortStableNil (a : Option Addr) (c : Nat) (fv : Value) (w : World) : Calls Tryz.prog 61 #[.slice a 0 c, fv] w fun e w' => e = .returned (.tuple #[]) ∧ w = w' := by
 go_enter Tryz.func61, Tryz.ntmps61
 go_wp2_with fail
 refine (stable_none a c fv w).mono ?_
 rintro e _ ⟨rfl, rfl⟩
 go_wp2_with fail
 go_end0
 exact ⟨rfl, rfl⟩
theorem sort_any (l : List Ev) (a : Option Addr) (c base : Nat) (e0 : TypeId) (w : World) (hb : l.length ≤ 1000000) (hL : Stb l) (hown : w.ownsRow base e0 6 (.slice a l.length c) l.length (elsV l)) (hbase : base ≤ w.heap.size) :
 Calls Tryz.prog 61 #[.slice a l.length c, .func (.func 62) #[] #[]] w fun e w' => e = .returned (.tuple #[]) ∧ CellsAt w' a (elsV (sortV l)) ∧ Below base w w' := by
 by_cases h0 : l.length = 0
 · obtain rfl : l = [] := List.length_eq_zero_iff.1 h0
   refine (sl_SortStableNil a c _ w).mono ?_
   rintro e _ ⟨rfl, rfl⟩
   exact ⟨rfl, CellsAt.nil _ _, Below.refl _ _⟩
 · obtain ⟨g, cap, hv, hg, hgs, _, _⟩ := own_form hown (by omega)
   cases hv
   refine (sl_SortStable l g l.length c base e0 w rfl hb hL hown).mono ?_
   rintro e w' ⟨rfl, h1, h2⟩
   refine ⟨rfl, h1, h2.os, h2.tape, h2.output, h2.size, fun k hk => h2.block k (by omega) (fun e => ?_)⟩
   cases e
   omega
theorem el_tag {l : List Ev} (tr : Tr ByteArray) (w : World) (h : AtS w tr) (hT : Tag l tr) (hz : l.length ≤ 100000) :
 Calls Tryz.prog 20 #[.agg #[.pointer (pa tr)]] w fun e w' => ∃ (a : Option Addr) (c : Nat), e = .returned (.tuple #[.slice a l.length c, .int .i64 0]) ∧ Below w.heap.size w w' ∧ CellsAt w' a (elsV (sortV l)) := by
 have b1 := below_new w (.cells #[.pointer (pa tr)] 27)
 have C := Lib.hid (ts_ownB tr _ (h.below b1 rfl) (by rw [hT.len]; exact hz) hT.keysT)
 have B1 := Lib.hid b1
 have SRT : Hid (∀ (a : Option Addr) (c base : Nat) (W : World), W.ownsRow base 53 6 (.slice a l.length c) l.length (elsV l) → base ≤ W.heap.size → Calls Tryz.prog 61 #[.slice a l.length c, .func (.func 62) #[] #[]] W fun e w' => e = .returned (.tuple #[]) ∧ CellsAt w' a (elsV (sortV l)) ∧ Below base W w') := Lib.hid (fun a c base W h1 h2 => sort_any l a c base _ W (by omega) hT.stb h1 h2)
 have e1 : (items tr).length = l.length := by rw [hT.it, List.length_map]
 rw [hT.good, hT.dec, e1] at C
 clear h b1 e1 hT hz
 generalize l.length = n at *
 generalize sortV l = m at *
 go_enter Tryz.func20, Tryz.ntmps20
 go_wp2_with fail
 refine C.out.mono ?_
 rintro e w2 ⟨v, rfl, hb, h1, _⟩
 have hown := h1 (by first | rfl | trivial)
 obtain ⟨a, c, rfl, _⟩ := own_slice hown
 have OW := Lib.hid hown
 have HB := Lib.hid (B1.out.trans (hb.mono B1.out.size))
 have HS := Lib.hid hb.size
 clear h1 hb hown C
 go_wp2_with fail
 refine (SRT.out a c _ w2 OW.out HS.out).mono ?_
 rintro e w3 ⟨rfl, hc, hb⟩
 have HC := Lib.hid hc
 have HB3 := Lib.hid (HB.out.trans (hb.mono B1.out.size))
 clear hc hb
 go_wp2_with fail
 go_ret2
 exact ⟨a, c, rfl, HB3.out, HC.out⟩
end Go.Proofs.YtjlliohjeiclaaaGreatDoor
namespace Go.Proofs.YtjlliohjeiclaaaGreatDoor
open Go.RowKit
section
variable {P : Program} {md : Region.Mode} {ops : Array Oper} {Q : Exit → Act → World → Prop} {S : World → Prop} {T : List Nat}
def doneB (ops : Array Oper) (T : List Nat) (listed : Array Bool) : Bool := (List.range ops.size).all fun k => T.contains k || listed.getD k false
def anyT (P : Program) (md : Region.Mode) (ops : Array Oper) (Q : Exit → Act → World → Prop) (T : List Nat) (S : World → Prop) : Nat → Array Bool → Act → World → Prop
 | 0, listed, a, w => wpAny P md ops Q 0 listed a w
 | fuel + 1, listed, a, w => if doneB ops T listed = true then wpAny P md ops Q (fuel + 1) listed a w
  else (Region.ready md ops listed = [] → Q .normal a w) ∧ ∀ i ∈ Region.ready md ops listed, wpOp P ops Q i (fun a' w' => S w' ∧ anyT P md ops Q T S fuel (listed.setIfInBounds i true) a' w') a w
def AllReadyT (P : Program) (md : Region.Mode) (ops : Array Oper) (Q : Exit → Act → World → Prop) (T : List Nat) (S : World → Prop) (fuel : Nat) (listed : Array Bool) (a : Act) (w : World) (rs : List Nat) : Prop :=
 ∀ i ∈ rs, wpOp P ops Q i (fun a' w' => S w' ∧ anyT P md ops Q T S fuel (listed.setIfInBounds i true) a' w') a w
theorem AllReadyT.nil {fuel : Nat} {listed : Array Bool} {a : Act} {w : World} : AllReadyT P md ops Q T S fuel listed a w [] := fun _ h => by cases h
theorem AllReadyT.cons {fuel : Nat} {listed : Array Bool} {a : Act} {w : World} {i : Nat} {o : Oper} {rs : List Nat} (ho : ops[i]? = some o) (hw : Region.wanted o (yielded ops a.tmps) = true)
 (h : ∀ K' : Act → World → Prop, Shut (∀ a w, S w → (S w → anyT P md ops Q T S fuel (listed.setIfInBounds i true) a w) → K' a w) → Oper.wp P o a w K' Q)
 (hs : AllReadyT P md ops Q T S fuel listed a w rs) : AllReadyT P md ops Q T S fuel listed a w (i :: rs) := fun j hj => by
 rcases List.mem_cons.1 hj with rfl | hj
 · unfold wpOp
   simp only [ho]
   rw [if_pos hw]
   exact .inl (h _ (fun a w hS hW => ⟨hS, hW hS⟩))
 · exact hs j hj
end
end Go.Proofs.YtjlliohjeiclaaaGreatDoor
namespace Go.Proofs.YtjlliohjeiclaaaGreatDoor
open Go.RowKit Pm
def NodeMapS (W : World) (B : Nat) (ps : List Nat) : Prop :=
 ∃ (es : Array MapEntry) (clock : Nat), W.heap[B]? = some (.map es clock) ∧ es.toList.map (fun e => (e.key, e.val)) = ps.map fun b => (Value.pointer (some ⟨b, 0, none⟩), Value.bool true)
end Go.Proofs.YtjlliohjeiclaaaGreatDoor
namespace Go.Proofs.YtjlliohjeiclaaaGreatDoor
open Go.RowKit Pm
def prtVS (p : ByteArray × Bool) : Value := .agg #[.string p.1, .bool p.2]
end Go.Proofs.YtjlliohjeiclaaaGreatDoor
namespace Go.Proofs.YtjlliohjeiclaaaGreatDoor
open Go.RowKit Pm
theorem AtS.keepX {Ex : Nat → TypeId → Prop} {w w' : World} {t : Tr ByteArray} (h : AtS w t) (hk : KeepX Ex w w') (hn : ∀ k, ¬ Ex k 111) : AtS w' t := by
 induction t with
 | nil => trivial
 | node b l k v r ih1 ih2 =>
  obtain ⟨h1, h2, h3⟩ := h
  exact ⟨hk.row h1 (hn _), ih1 h2, ih2 h3⟩
end Go.Proofs.YtjlliohjeiclaaaGreatDoor
namespace Go.Proofs.YtjlliohjeiclaaaGreatDoor
open Go.RowKit Pm
def onlyCS (cb : Nat) (k : Nat) (t : TypeId) : Prop := k = cb ∧ t = 126
def ownXS (B : Nat) (k : Nat) (t : TypeId) : Prop := B ≤ k ∧ (t = 126 ∨ t = 27)
structure RuleOKS (Ex : Nat → TypeId → Prop) (rf : Nat) (env : Array Value) (R B0 A0 O0 : ByteArray → ByteArray × Bool) (B : Nat) (I : List ByteArray → World → Prop) : Prop where
 own : ∀ xs W W', I xs W → KeepX (ownXS B) W W' → I xs W'
 call : ∀ key xs W, I xs W → xs.length ≤ 2147483648 → ((A0 key).2 = true ∨ (O0 key).2 = true) → Calls Tryz.prog rf (#[.string key, prtVS (B0 key), prtVS (A0 key), prtVS (O0 key)] ++ env) W fun e W' =>
  e = .returned (.tuple #[.string (R key).1, .bool (R key).2]) ∧ I (xs ++ [key]) W' ∧ KeepX Ex W W'
 enters : ∀ args w, (callFunc rf args).run Tryz.prog w = .ok (.enter rf args) w
 nNode : ∀ k, ¬ Ex k 111
 nCount : ∀ k, ¬ Ex k 126
 nMap : ∀ k, ¬ Ex k 27
 nGo : ∀ k, ¬ Ex k 198
 nRule : ∀ k, ¬ Ex k 169
structure EnvWS (rf : Nat) (env : Array Value) (cb gb rb : Nat) (s a o : Tr ByteArray) (W : World) : Prop where
 g : Boxed W gb 198 (.func (.func 145) #[] #[.pointer (some ⟨cb, 0, none⟩), .pointer (some ⟨gb, 0, none⟩), .pointer (some ⟨rb, 0, none⟩)])
 r : Boxed W rb 169 (.func (.func rf) #[] env)
 s : AtS W s
 a : AtS W a
 o : AtS W o
def CntAtS (cb rd ru : Nat) (W : World) : Prop := W.heap[cb]? = some (.cells #[.int .i64 (rd : Int), .int .i64 (ru : Int), .int .i64 0] 126 (0, 0))
theorem EnvWS.keep {Ex : Nat → TypeId → Prop} {rf cb gb rb : Nat} {env : Array Value} {s a o : Tr ByteArray} {W W' : World} (h : EnvWS rf env cb gb rb s a o W) (hk : KeepX Ex W W')
 (h1 : ∀ k, ¬ Ex k 111) (h2 : ∀ k, ¬ Ex k 198) (h3 : ∀ k, ¬ Ex k 169) : EnvWS rf env cb gb rb s a o W' :=
 ⟨hk.row h.g (h2 _), hk.row h.r (h3 _), h.s.keepX hk h1, h.a.keepX hk h1, h.o.keepX hk h1⟩
theorem nOnlyS (cb : Nat) : (∀ k, ¬ onlyCS cb k 111) ∧ (∀ k, ¬ onlyCS cb k 27) ∧ (∀ k, ¬ onlyCS cb k 198) ∧ (∀ k, ¬ onlyCS cb k 169) :=
 ⟨fun _ h => absurd h.2 (by decide), fun _ h => absurd h.2 (by decide), fun _ h => absurd h.2 (by decide), fun _ h => absurd h.2 (by decide)⟩
theorem CntAtS.below {cb rd ru : Nat} {W W' : World} (h : CntAtS cb rd ru W) (hb : Below W.heap.size W W') : CntAtS cb rd ru W' := boxStays h hb
structure GoFS (rf : Nat) (env : Array Value) (cb gb rb : Nat) (I : List ByteArray → World → Prop) (z : Nat) (s a o : Tr ByteArray) (xs : List ByteArray) (rd ru : Nat) (W : World) : Prop where
 x0 : Boxed W z 27 (.pointer (pa s))
 x1 : Boxed W (z + 1) 27 (.pointer (pa a))
 x2 : Boxed W (z + 1 + 1) 27 (.pointer (pa o))
 x3 : Boxed W (z + 1 + 1 + 1) 27 (.pointer none)
 e : EnvWS rf env cb gb rb s a o W
 c : CntAtS cb rd ru W
 i : I xs W
section
variable {Ex : Nat → TypeId → Prop} {rf : Nat} {env : Array Value} {R B0 A0 O0 : ByteArray → ByteArray × Bool} {B cb gb rb z : Nat} {I : List ByteArray → World → Prop} {s a o : Tr ByteArray} {xs : List ByteArray} {rd ru : Nat} {W W' : World}
theorem GoFS.below (h : GoFS rf env cb gb rb I z s a o xs rd ru W) (hR : RuleOKS Ex rf env R B0 A0 O0 B I) (hb : Below W.heap.size W W') : GoFS rf env cb gb rb I z s a o xs rd ru W' :=
 ⟨boxStays h.x0 hb, boxStays h.x1 hb, boxStays h.x2 hb, boxStays h.x3 hb, h.e.keep (Ex := onlyCS cb) (KeepX.ofBelow hb) (nOnlyS cb).1 (nOnlyS cb).2.2.1 (nOnlyS cb).2.2.2, h.c.below hb, hR.own _ _ _ h.i (KeepX.ofBelow hb)⟩
theorem keep_cntS {i : Nat} {v : Value} (h : CntAtS cb rd ru W) : KeepX (onlyCS cb) W (W.setCell ⟨cb, i, none⟩ v) := KeepX.setRow (KeepX.refl _) h ⟨rfl, rfl⟩ i v
theorem GoFS.count {i rd' ru' : Nat} {v : Value} (h : GoFS rf env cb gb rb I z s a o xs rd ru W) (hR : RuleOKS Ex rf env R B0 A0 O0 B I) (hB : B ≤ cb) (hc : CntAtS cb rd' ru' (W.setCell ⟨cb, i, none⟩ v)) :
 GoFS rf env cb gb rb I z s a o xs rd' ru' (W.setCell ⟨cb, i, none⟩ v) := by
 have hk := keep_cntS (i := i) (v := v) h.c
 obtain ⟨n1, n2, n3, n4⟩ := nOnlyS cb
 exact ⟨hk.row h.x0 (n2 _), hk.row h.x1 (n2 _), hk.row h.x2 (n2 _), hk.row h.x3 (n2 _), h.e.keep hk n1 n3 n4, hc, hR.own _ _ _ h.i (hk.monoX fun k t ht => by obtain ⟨rfl, rfl⟩ := ht; exact ⟨hB, .inl rfl⟩)⟩
end
theorem CntAtS.box {cb rd ru X : Nat} {W : World} (h : CntAtS cb rd ru W) {u : Value} (hx : W.heap[X]? = some (.cells #[u] 27 (0, 0))) (v : Value) : CntAtS cb rd ru (W.setCell ⟨X, 0, none⟩ v) := by
 unfold CntAtS at h ⊢
 refine (Below.heap_setCell _ _ _ _ ?_).trans h
 show cb ≠ X
 rintro rfl
 rw [hx] at h
 simp at h
end Go.Proofs.YtjlliohjeiclaaaGreatDoor
namespace Go.Proofs.YtjlliohjeiclaaaGreatDoor
open Go.RowKit Pm
attribute [local go_sem] Oper.semAt_some
def oldMS (s a o : Tr ByteArray) (B : Nat) (W : World) : Prop := ∃ ps, NodeMapS W B ps ∧ ∀ b ∈ ps, b ∈ blocks s ∨ b ∈ blocks a ∨ b ∈ blocks o
theorem oldMS.below {s a o : Tr ByteArray} {B : Nat} {W W' : World} (h : oldMS s a o B W) (hb : Below W.heap.size W W') : oldMS s a o B W' := by
 obtain ⟨ps, ⟨es, c, h1, h2⟩, h3⟩ := h
 exact ⟨ps, ⟨es, c, boxStays h1 hb, h2⟩, h3⟩
end Go.Proofs.YtjlliohjeiclaaaGreatDoor
namespace Go.Proofs.YtjlliohjeiclaaaGreatDoor
open Go.RowKit St Pm Kn
theorem may_nodup {l : List Ev} (h : mayV l = true) : l.Nodup := by
 have h1 := (mayV_iff.1 h).2
 rw [List.nodup_iff_pairwise_ne, List.pairwise_map] at h1
 exact h1.imp fun {a b} hab e => hab (by rw [e])
theorem sortV_same {l m : List Ev} (hl : l.Nodup) (hm : m.Nodup) (h : ∀ x, x ∈ l ↔ x ∈ m) : sortV l = sortV m :=
 sortV_uniq hm (sortV_up hl) fun x => by rw [sortV_mem, h x]
theorem insT_has {x : Ev} (hx : okV x = true) : ∀ {l : List Ev}, (∀ y ∈ l, okV y = true) → ∀ y, y ∈ insT x l ↔ y = x ∨ y ∈ l
 | [], _, y => by simp [insT]
 | z :: l, h, y => by
  have hz := h z List.mem_cons_self
  have ih := insT_has hx (l := l) (fun u hu => h u (List.mem_cons_of_mem _ hu)) y
  unfold insT
  by_cases h1 : ltT x z = true
  · rw [if_pos h1]; simp
  · rw [if_neg h1]
    by_cases h2 : ltT z x = true
    · rw [if_pos h2, List.mem_cons, ih, List.mem_cons]
      constructor
      · rintro (h | h | h) <;> simp [h]
      · rintro (h | h | h) <;> simp [h]
    · rw [if_neg h2]
      have e : z = x := by
       refine tag_inj hz hx ?_
       rw [← ltT_key hx hz] at h1
       rw [← ltT_key hz hx] at h2
       exact klt_tri (by simpa using h2) (by simpa using h1)
      subst e
      simp
theorem setT_mem {l : List Ev} (h : ∀ y ∈ l, okV y = true) (x : Ev) : x ∈ setT l ↔ x ∈ l := by
 have : ∀ (l o : List Ev), (∀ y ∈ l, okV y = true) → (∀ y ∈ o, okV y = true) → (x ∈ l.foldl (fun l x => insT x l) o ↔ x ∈ l ∨ x ∈ o) := by
  intro l
  induction l with
  | nil => intro o _ _; simp
  | cons y l ih =>
   intro o hl ho
   have hy := hl y List.mem_cons_self
   rw [List.foldl_cons, ih _ (fun z hz => hl z (List.mem_cons_of_mem _ hz)) (fun z hz => ((insT_has hy ho z).1 hz).elim (fun e => by rw [e]; exact hy) (ho z)), insT_has hy ho, List.mem_cons]
   constructor
   · rintro (h | h | h) <;> simp [h]
   · rintro ((h | h) | h) <;> simp [h]
 have := this l [] h (fun y hy => by cases hy)
 unfold setT
 simpa using this
theorem tag_setT {l : List Ev} {t : Tr ByteArray} (hm : mayV l = true) (h : Tag (setT l) t) : sortV (setT l) = sortV l :=
 sortV_same h.stb.nd (may_nodup hm) (setT_mem (mayV_iff.1 hm).1)
end Go.Proofs.YtjlliohjeiclaaaGreatDoor
namespace Go.Proofs.YtjlliohjeiclaaaGreatDoor
open Go.RowKit St Pm Kn
def insW (t : ByteArray) : List ByteArray → List ByteArray
 | [] => [t]
 | x :: r => if klt x t = true then x :: insW t r else if x = t then x :: r else t :: x :: r
def setW (l : List ByteArray) : List ByteArray := l.foldl (fun acc t => insW t acc) []
def SrtW (l : List ByteArray) : Prop := l.Pairwise fun a b => klt a b = true
theorem mem_insW (t : ByteArray) : ∀ (l : List ByteArray) (x : ByteArray), x ∈ insW t l ↔ x = t ∨ x ∈ l
 | [], x => by simp [insW]
 | y :: r, x => by
  unfold insW
  split
  · rw [List.mem_cons, mem_insW t r x, List.mem_cons]
    constructor
    · rintro (h | h | h)
      · exact .inr (.inl h)
      · exact .inl h
      · exact .inr (.inr h)
    · rintro (h | h | h)
      · exact .inr (.inl h)
      · exact .inl h
      · exact .inr (.inr h)
  · split
    · rename_i h
      subst h
      rw [List.mem_cons]
      constructor
      · rintro (h | h)
        · exact .inl h
        · exact .inr (.inr h)
      · rintro (h | h | h)
        · exact .inl h
        · exact .inl h
        · exact .inr h
    · simp only [List.mem_cons]
theorem srt_insW (t : ByteArray) : ∀ (l : List ByteArray), SrtW l → SrtW (insW t l)
 | [], _ => by unfold insW; exact List.pairwise_singleton _ _
 | y :: r, h => by
  obtain ⟨h1, h2⟩ := List.pairwise_cons.1 h
  unfold insW
  split
  · rename_i hy
    refine List.pairwise_cons.2 ⟨fun x hx => ?_, srt_insW t r h2⟩
    rcases (mem_insW t r x).1 hx with rfl | hx
    · exact hy
    · exact h1 x hx
  · split
    · exact h
    · rename_i hn he
      have hk : klt t y = true := by
       cases hty : klt t y with
       | true => rfl
       | false => exact absurd (Pm.klt_tri (by simpa using hn) hty) he
      refine List.pairwise_cons.2 ⟨fun x hx => ?_, h⟩
      rcases List.mem_cons.1 hx with rfl | hx
      · exact hk
      · exact klt_trans hk (h1 x hx)
theorem setW_go : ∀ (l acc : List ByteArray), SrtW acc → SrtW (l.foldl (fun acc t => insW t acc) acc) ∧ ∀ x, x ∈ l.foldl (fun acc t => insW t acc) acc ↔ x ∈ acc ∨ x ∈ l
 | [], acc, h => ⟨h, fun x => by simp⟩
 | t :: l, acc, h => by
  obtain ⟨h1, h2⟩ := setW_go l (insW t acc) (srt_insW t acc h)
  refine ⟨h1, fun x => (h2 x).trans ?_⟩
  rw [mem_insW, List.mem_cons]
  constructor
  · rintro ((h | h) | h)
    · exact .inr (.inl h)
    · exact .inl h
    · exact .inr (.inr h)
  · rintro (h | h | h)
    · exact .inl (.inr h)
    · exact .inl (.inl h)
    · exact .inr h
theorem setW_srt (l : List ByteArray) : SrtW (setW l) := (setW_go l [] List.Pairwise.nil).1
theorem setW_mem (l : List ByteArray) (x : ByteArray) : x ∈ setW l ↔ x ∈ l := by
 have := (setW_go l [] List.Pairwise.nil).2 x
 unfold setW
 rw [this]
 simp
theorem setW_snoc (l : List ByteArray) (t : ByteArray) : setW (l ++ [t]) = insW t (setW l) := by unfold setW; rw [List.foldl_append]; rfl
theorem srtW_ext : ∀ (l m : List ByteArray), SrtW l → SrtW m → (∀ x, x ∈ l ↔ x ∈ m) → l = m
 | [], [], _, _, _ => rfl
 | [], y :: m, _, _, h => by have := (h y).2 List.mem_cons_self; cases this
 | x :: l, [], _, _, h => by have := (h x).1 List.mem_cons_self; cases this
 | x :: l, y :: m, hl, hm, h => by
  obtain ⟨l1, l2⟩ := List.pairwise_cons.1 hl
  obtain ⟨m1, m2⟩ := List.pairwise_cons.1 hm
  have ir : ∀ z, ¬ klt z z = true := fun z hz => by rw [klt_irrefl] at hz; cases hz
  have e : x = y := by
   rcases List.mem_cons.1 ((h x).1 List.mem_cons_self) with e | hx
   · exact e
   · rcases List.mem_cons.1 ((h y).2 List.mem_cons_self) with e | hy
     · exact e.symm
     · exact absurd (klt_trans (l1 _ hy) (m1 _ hx)) (ir _)
  subst e
  congr 1
  refine srtW_ext l m l2 m2 fun z => ⟨fun hz => ?_, fun hz => ?_⟩
  · rcases List.mem_cons.1 ((h z).1 (List.mem_cons_of_mem _ hz)) with rfl | h2
    · exact absurd (l1 _ hz) (ir _)
    · exact h2
  · rcases List.mem_cons.1 ((h z).2 (List.mem_cons_of_mem _ hz)) with rfl | h2
    · exact absurd (m1 _ hz) (ir _)
    · exact h2
theorem setW_len (l : List ByteArray) : (setW l).length ≤ l.length := by
 have : ∀ (l acc : List ByteArray), (l.foldl (fun acc t => insW t acc) acc).length ≤ acc.length + l.length := by
  intro l
  induction l with
  | nil => intro acc; simp
  | cons t l ih =>
   intro acc
   have h1 := ih (insW t acc)
   have h2 : ∀ m : List ByteArray, (insW t m).length ≤ m.length + 1 := by
    intro m
    induction m with
    | nil => simp [insW]
    | cons y r ih2 =>
     unfold insW
     split
     · simp; omega
     · split <;> simp
   have h3 := h2 acc
   simp only [List.foldl_cons, List.length_cons]
   omega
 simpa [setW] using this l []
theorem insW_old (t : ByteArray) : ∀ (out : List ByteArray) (p : Nat) (hp : p < out.length), (∀ y ∈ out.take p, klt y t = true) → out[p] = t → insW t out = out
 | [], p, hp, _, _ => by simp at hp
 | x :: r, 0, _, _, he => by
  have he : x = t := he
  subst he
  unfold insW
  rw [if_neg (by rw [klt_irrefl]; simp), if_pos rfl]
 | x :: r, p + 1, hp, h, he => by
  have h1 : klt x t = true := h x (by simp)
  unfold insW
  rw [if_pos h1, insW_old t r p (by simpa using hp) (fun y hy => h y (by simp [hy])) (by simpa using he)]
theorem insW_new (t : ByteArray) : ∀ (out : List ByteArray) (p : Nat), p ≤ out.length → (∀ y ∈ out.take p, klt y t = true) → (∀ hp : p < out.length, klt out[p] t = false ∧ out[p] ≠ t) → insW t out = out.take p ++ t :: out.drop p
 | [], p, hp, _, _ => by
  have : p = 0 := by simpa using hp
  subst this; rfl
 | x :: r, 0, _, _, he => by
  obtain ⟨h1, h2⟩ := he (by simp)
  have h1 : klt x t = false := h1
  have h2 : x ≠ t := h2
  unfold insW
  rw [if_neg (by rw [h1]; simp), if_neg h2]
  rfl
 | x :: r, p + 1, hp, h, he => by
  have h1 : klt x t = true := h x (by simp)
  unfold insW
  rw [if_pos h1, insW_new t r p (by simpa using hp) (fun y hy => h y (by simp [hy])) (fun hp' => (show klt r[p] t = false ∧ r[p] ≠ t from he (by simpa using hp')))]
  rfl
theorem drop_gt {x : Ev} : ∀ {l : List Ev}, (∀ y ∈ l, klt y.2 x.2 = false) → l.Pairwise (fun e f => klt f.2 e.2 = false) → ∀ y ∈ l.dropWhile (sameT x), klt x.2 y.2 = true
 | [], _, _, y, hy => by cases hy
 | z :: l, h, hp, y, hy => by
  obtain ⟨h1, h2⟩ := List.pairwise_cons.1 hp
  rw [List.dropWhile_cons] at hy
  by_cases hz : sameT x z = true
  · rw [if_pos hz] at hy
    exact drop_gt (fun u hu => h u (List.mem_cons_of_mem _ hu)) h2 y hy
  · rw [if_neg hz] at hy
    have hzx : klt x.2 z.2 = true := by
     cases e : klt x.2 z.2 with
     | true => rfl
     | false =>
      have := klt_tri e (h z List.mem_cons_self)
      exact absurd (decide_eq_true this.symm) hz
    rcases List.mem_cons.1 hy with rfl | hy
    · exact hzx
    · have h3 := h1 y hy
      cases e : klt x.2 y.2 with
      | true => rfl
      | false =>
       cases e2 : klt y.2 x.2 with
       | true =>
        have h4 := klt_trans e2 hzx
        rw [h3] at h4; cases h4
       | false =>
        have h5 := klt_tri e e2
        rw [← h5, hzx] at h3; cases h3
theorem take_same (x : Ev) (l : List Ev) : ∀ y ∈ l.takeWhile (sameT x), y.2 = x.2 := fun y hy => by
 have h := List.all_eq_true.1 (List.all_takeWhile (l := l) (p := sameT x)) y hy
 exact of_decide_eq_true h
theorem grp_text : ∀ (n : Nat) (l : List Ev), l.length ≤ n → l.Pairwise (fun e f => klt f.2 e.2 = false) →
 (∀ t, t ∈ (grpT l).map (·.1) ↔ t ∈ l.map (·.2)) ∧ SrtW ((grpT l).map (·.1)) ∧ ∀ p ∈ grpT l, p.2 = (l.filter (ofX p.1)).map (·.1)
 | _, [], _, _ => by
  rw [grpT]
  exact ⟨fun t => by simp, List.Pairwise.nil, fun p hp => by cases hp⟩
 | 0, _ :: _, h, _ => by simp at h
 | n + 1, x :: l, h, hp => by
  obtain ⟨h1, h2⟩ := List.pairwise_cons.1 hp
  have hsub := List.dropWhile_sublist (l := l) (sameT x)
  obtain ⟨i1, i2, i3⟩ := grp_text n (l.dropWhile (sameT x)) (by have := hsub.length_le; simp at h; omega) (h2.sublist hsub)
  have hgt := drop_gt (x := x) h1 h2
  have hts := take_same x l
  have hcat := List.takeWhile_append_dropWhile (p := sameT x) (l := l)
  rw [grpT]
  refine ⟨fun t => ?_, ?_, fun p hp => ?_⟩
  · rw [List.map_cons, List.mem_cons, i1 t, List.map_cons, List.mem_cons]
    constructor
    · rintro (rfl | h)
      · exact .inl rfl
      · obtain ⟨e, he, rfl⟩ := List.mem_map.1 h
        exact .inr (List.mem_map.2 ⟨e, hsub.subset he, rfl⟩)
    · rintro (rfl | h)
      · exact .inl rfl
      · obtain ⟨e, he, rfl⟩ := List.mem_map.1 h
        rw [← hcat] at he
        rcases List.mem_append.1 he with he | he
        · exact .inl (hts e he)
        · exact .inr (List.mem_map.2 ⟨e, he, rfl⟩)
  · rw [List.map_cons]
    refine List.pairwise_cons.2 ⟨fun t ht => ?_, i2⟩
    obtain ⟨e, he, rfl⟩ := List.mem_map.1 ((i1 t).1 ht)
    exact hgt e he
  · have hfd : ∀ t, klt x.2 t = false → (l.dropWhile (sameT x)).filter (ofX t) = [] ∨ t ≠ x.2 := fun t _ => by
     by_cases e : t = x.2
     · subst e
       refine .inl (List.filter_eq_nil_iff.2 fun y hy => ?_)
       have := hgt y hy
       unfold ofX
       intro h
       rw [of_decide_eq_true h, klt_irrefl] at this
       cases this
     · exact .inr e
    rcases List.mem_cons.1 hp with rfl | hp
    · show x.1 :: _ = _
      have e1 : l.filter (ofX x.2) = l.takeWhile (sameT x) := by
       conv => lhs; rw [← hcat]
       rw [List.filter_append]
       have e2 : (l.takeWhile (sameT x)).filter (ofX x.2) = l.takeWhile (sameT x) := List.filter_eq_self.2 fun y hy => decide_eq_true (hts y hy)
       have e3 := (hfd x.2 (klt_irrefl _)).resolve_right (fun h => h rfl)
       rw [e2, e3, List.append_nil]
      rw [List.filter_cons, if_pos (show ofX x.2 x = true from decide_eq_true rfl), List.map_cons, e1]
    · have hgx : klt x.2 p.1 = true := by
       obtain ⟨e, he, h5⟩ := List.mem_map.1 ((i1 p.1).1 (List.mem_map.2 ⟨p, hp, rfl⟩))
       have h6 : e.2 = p.1 := h5
       rw [← h6]
       exact hgt e he
      have hne : ∀ y, y.2 = x.2 → ofX p.1 y = false := fun y hy => by
       refine decide_eq_false fun e => ?_
       rw [← e, hy, klt_irrefl] at hgx
       cases hgx
      rw [i3 p hp, List.filter_cons, if_neg (by rw [hne x rfl]; simp)]
      conv => rhs; rw [← hcat]
      rw [List.filter_append]
      have e2 : (l.takeWhile (sameT x)).filter (ofX p.1) = [] := List.filter_eq_nil_iff.2 fun y hy => by rw [hne y (hts y hy)]; simp
      rw [e2, List.nil_append]
theorem Tag.ord {l : List Ev} {t : Tr ByteArray} (h : Tag l t) : l.Pairwise fun e f => klt e.2 f.2 = true ∨ (e.2 = f.2 ∧ e.1.st.lt f.1.st = true) := by
 have hs := h.srt
 rw [h.it] at hs
 have h2 := List.pairwise_map.1 hs
 refine List.Pairwise.imp_of_mem (fun {e f} he hf hk => ?_) h2
 have h3 := tag_lt (a := e) (b := f) (okV_iff.1 (h.ok e he)).1 (okV_iff.1 (h.ok f hf)).1
 have h4 : klt (tagK e) (tagK f) = true := hk
 rw [h3] at h4
 simpa using h4
theorem Tag.txo {l : List Ev} {t : Tr ByteArray} (h : Tag l t) : l.Pairwise fun e f => klt f.2 e.2 = false := by
 refine h.ord.imp fun {e f} hk => ?_
 rcases hk with hk | ⟨hk, _⟩
 · exact klt_asymm hk
 · rw [hk]; exact klt_irrefl _
theorem Tag.texts {l : List Ev} {t : Tr ByteArray} (h : Tag l t) : (grpT l).map (·.1) = setW ((sortV l).map (·.2)) := by
 obtain ⟨h1, h2, _⟩ := grp_text _ l (Nat.le_refl _) h.txo
 refine srtW_ext _ _ h2 (setW_srt _) fun x => ?_
 rw [h1 x, setW_mem, List.mem_map, List.mem_map]
 exact ⟨fun ⟨e, he, h⟩ => ⟨e, sortV_mem.2 he, h⟩, fun ⟨e, he, h⟩ => ⟨e, sortV_mem.1 he, h⟩⟩
theorem sort_filter {l : List Ev} (h : l.Nodup) (p : Ev → Bool) : (sortV l).filter p = sortV (l.filter p) :=
 sortV_uniq (h.sublist List.filter_sublist) ((sortV_up h).sublist List.filter_sublist) fun x => by rw [List.mem_filter, List.mem_filter, sortV_mem]
theorem Tag.of_up {l : List Ev} {t : Tr ByteArray} (h : Tag l t) (x : ByteArray) : Up (l.filter (ofX x)) := by
 have h1 := h.ord.sublist (List.filter_sublist (p := ofX x))
 refine List.Pairwise.imp_of_mem (fun {e f} he hf hk => ?_) h1
 obtain ⟨ge, oe⟩ := List.mem_filter.1 he
 obtain ⟨gf, of⟩ := List.mem_filter.1 hf
 have e1 : e.2 = x := of_decide_eq_true oe
 have e2 : f.2 = x := of_decide_eq_true of
 rcases hk with hk | ⟨_, hk⟩
 · rw [e1, e2, klt_irrefl] at hk; cases hk
 · have h2 := svC_lt (s := e.1) (t := f.1) (okV_iff.1 (h.ok e ge)).1 (okV_iff.1 (h.ok f gf)).1
   rw [hk] at h2
   have h3 : svC e.1 f.1 < 0 := of_decide_eq_true h2
   unfold RE elC firstC
   rw [if_neg (by omega)]
   exact h3
def stsX (x : ByteArray) (l : List Ev) : List Sv := (l.filter (ofX x)).map (·.1)
theorem Tag.stsX {l : List Ev} {t : Tr ByteArray} (h : Tag l t) (x : ByteArray) : Go.Proofs.YtjlliohjeiclaaaGreatDoor.stsX x (sortV l) = Go.Proofs.YtjlliohjeiclaaaGreatDoor.stsX x l := by
 unfold Go.Proofs.YtjlliohjeiclaaaGreatDoor.stsX
 rw [sort_filter h.stb.nd, sortV_done (h.of_up x)]
theorem Tag.grp_sts {l : List Ev} {t : Tr ByteArray} (h : Tag l t) : ∀ p ∈ grpT l, p.2 = Go.Proofs.YtjlliohjeiclaaaGreatDoor.stsX p.1 (sortV l) := fun p hp => by
 obtain ⟨_, _, h3⟩ := grp_text _ l (Nat.le_refl _) h.txo
 rw [h3 p hp, h.stsX]
 rfl
theorem tag_ins {l : List Ev} {t : Tr ByteArray} {x : Ev} (hl : ∀ y ∈ l, okV y = true) (hn : l.Nodup) (hx : okV x = true) (h : Tag (insT x l) t) :
 sortV (insT x l) = sortV ((sortV l).filter (fun y => !decide (y = x)) ++ [x]) := by
 refine sortV_same h.stb.nd (List.nodup_append.2 ⟨(up_nodup (sortV_up hn)).sublist List.filter_sublist, by simp, fun a ha b hb e => ?_⟩) fun y => ?_
 · have h1 := (List.mem_filter.1 ha).2
   rw [List.mem_singleton.1 hb] at e
   simp [e] at h1
 · rw [insT_has hx hl, List.mem_append, List.mem_filter, sortV_mem, List.mem_singleton]
   by_cases e : y = x <;> simp [e]
theorem tag_drop {l : List Ev} (hn : l.Nodup) (x : ByteArray) : sortV (l.filter fun e => !ofX x e) = (sortV l).filter (fun e => !ofX x e) := (sort_filter hn _).symm
theorem filter_len {α : Type} (p : α → Bool) (l : List α) : (l.filter p).length + (l.filter fun x => !p x).length = l.length := by
 induction l with
 | nil => rfl
 | cons x l ih =>
  rw [List.filter_cons, List.filter_cons, List.length_cons]
  cases p x <;> simp <;> omega
end Go.Proofs.YtjlliohjeiclaaaGreatDoor
namespace Go.Proofs.YtjlliohjeiclaaaGreatDoor
open Go.RowKit St Pm Kn
structure StCell (w : World) (b o : Nat) (s : Sv) : Prop where
 c0 : w.cell? ⟨b, o, none⟩ = some (.int .i64 s.g)
 c1 : w.cell? ⟨b, o + 1, none⟩ = some (.int .i64 s.r)
 c2 : w.cell? ⟨b, o + 2, none⟩ = some (.string s.l)
 c3 : w.cell? ⟨b, o + 3, none⟩ = some (.int .i64 s.n)
 c4 : w.cell? ⟨b, o + 4, none⟩ = some (.int .i64 s.i)
theorem stsV_get : ∀ (l : List Sv) (k r : Nat) (hk : k < l.length), r < 5 → (stsV l)[k * 5 + r]? = (stL l[k])[r]?
 | [], _, _, hk, _ => by simp at hk
 | t :: l, 0, r, _, hr => by
  rw [stsV, List.flatMap_cons, Nat.zero_mul, Nat.zero_add, List.getElem?_append_left (by simpa [stL] using hr)]
  rfl
 | t :: l, k + 1, r, hk, hr => by
  rw [stsV, List.flatMap_cons, List.getElem?_append_right (by simp [stL]; omega)]
  rw [show (k + 1) * 5 + r - (stL t).length = k * 5 + r by simp [stL]; omega]
  exact stsV_get l k r (by simpa using hk) hr
theorem sts_get {w : World} {a : Option Addr} {l : List Sv} (h : CellsAt w a (stsV l)) (k : Nat) (hk : k < l.length) : ∃ b off, a = some ⟨b, off, none⟩ ∧ StCell w b (off + k * 5) l[k] := by
 have g : ∀ j v, j < 5 → (stL l[k])[j]? = some v → ∃ b off, a = some ⟨b, off, none⟩ ∧ w.cell? ⟨b, off + (k * 5 + j), none⟩ = some v := fun j v hj hv => h.get _ v (by rw [stsV_get l k j hk hj, hv])
 obtain ⟨b, off, rfl, q0⟩ := g 0 _ (by omega) rfl
 have g2 : ∀ j v, j < 5 → (stL l[k])[j]? = some v → w.cell? ⟨b, off + k * 5 + j, none⟩ = some v := fun j v hj hv => by
  obtain ⟨_, _, e, q⟩ := g j v hj hv
  cases e
  rw [Nat.add_assoc]
  exact q
 exact ⟨b, off, rfl, g2 0 _ (by omega) rfl, g2 1 _ (by omega) rfl, g2 2 _ (by omega) rfl, g2 3 _ (by omega) rfl, g2 4 _ (by omega) rfl⟩
set_option maxRecDepth 100000 in
set_option maxHeartbeats 2000000 in
theorem ref11_SameStamps (l m : List Sv) (a b : Option Addr) (n1 n2 c1 c2 : Nat) (w : World) (hl : CellsAt w a (stsV l)) (hm : CellsAt w b (stsV m)) (hn1 : n1 = l.length) (hn2 : n2 = m.length) (hb : n1 ≤ 9223372036854775807) :
 Calls Tryz.prog 53 #[.slice a n1 c1, .slice b n2 c2] w fun e w' => e = .returned (.bool (decide (l = m))) ∧ Below w.heap.size w w' := by
 have HL := Lib.hid hl
 have HM := Lib.hid hm
 clear hl hm
 have EN := sv_neq
 go_enter Tryz.func53, Tryz.ntmps53
 by_cases hlen : n1 = n2
 · subst hlen
   have hN : Hid (l.length = m.length) := Lib.hid (by omega)
   have E : Hid (l.take n1 = m.take n1 → decide (l = m) = true) := Lib.hid (fun h => eq_all hN.out (by rw [← hn1]; exact h))
   have F : Hid (∀ k (h1 : k < l.length) (h2 : k < m.length), l[k] ≠ m[k] → decide (l = m) = false) := Lib.hid (fun k h1 h2 h => ne_at h1 h2 h)
   generalize decide (l = m) = res at *
   go_wp2_with fail
   go_loopw [5] (fun i wr => ∃ k : Nat, k ≤ n1 ∧ i = .int .i64 (k : Int) ∧ Hid (l.take k = m.take k) ∧ Hid (Below w.heap.size w wr)) (fun i _ => n1 - (intOf i).toNat)
   case atStart => exact ⟨0, Nat.zero_le _, rfl, Lib.hid rfl, Lib.hid (Below.refl _ _)⟩
   case round =>
    obtain ⟨k, hk, rfl, HT, HB⟩ := hrel
    by_cases hlt : k < n1
    · have hk1 : k < l.length := by omega
      have hk2 : k < m.length := by omega
      obtain ⟨ba, oa, rfl, ca⟩ := sts_get (HL.out.below HB.out rfl) k hk1
      obtain ⟨bb, ob, rfl, cb⟩ := sts_get (HM.out.below HB.out rfl) k hk2
      obtain ⟨p0, p1, p2, p3, p4⟩ := ca
      obtain ⟨q0, q1, q2, q3, q4⟩ := cb
      have G1 : Hid (l[k] ≠ m[k] → res = false) := Lib.hid (F.out k hk1 hk2)
      have G2 : Hid (l[k] = m[k] → l.take (k + 1) = m.take (k + 1)) := Lib.hid (take_eq hk1 hk2 HT.out)
      generalize l[k] = x at *
      generalize m[k] = y at *
      have hki : (k : Int) < (n1 : Int) := by omega
      by_cases hxy : x = y
      · have H := Lib.hid (G2.out hxy)
        have hd : decide (x = y) = true := decide_eq_true hxy
        clear hxy
        go_wp2_with fail
        go_quiet (fail)
        go_wp2_with fail
        refine ⟨⟨k + 1, by omega, by go_num, H, Lib.hid (below_drews HB.out _)⟩, by simp [intOf]; omega⟩
      · have hr := Lib.hid (G1.out hxy)
        have hd : decide (x = y) = false := decide_eq_false hxy
        clear hxy
        go_wp2_with fail
        go_quiet (fail)
        go_wp2_with fail
        go_ret
        rw [hr.out]
        exact ⟨rfl, below_drews HB.out _⟩
    · obtain rfl : k = n1 := by omega
      have hr := Lib.hid (E.out HT.out)
      go_wp2_with fail
      go_ret
      rw [hr.out]
      exact ⟨rfl, HB.out⟩
 · have hr : Hid (decide (l = m) = false) := Lib.hid (by rw [decide_eq_false_iff_not]; rintro rfl; omega)
   have hne : ((n1 : Int) == (n2 : Int)) = false := by simp; omega
   have hne' : ¬ (n1 : Int) = (n2 : Int) := by omega
   generalize decide (l = m) = res at *
   go_wp2_with fail
   go_ret
   rw [hr.out]
   exact ⟨rfl, Below.refl _ _⟩
theorem stsX_next {x : ByteArray} {l : List Ev} {k : Nat} (hk : k < l.length) : (l[k].2 = x → stsX x (l.take (k + 1)) = stsX x (l.take k) ++ [l[k].1]) ∧ (l[k].2 ≠ x → stsX x (l.take (k + 1)) = stsX x (l.take k)) := by
 unfold stsX
 rw [List.take_succ_eq_append_getElem hk, List.filter_append, List.map_append]
 constructor
 · intro h
   rw [List.filter_cons, if_pos (show ofX x l[k] = true from decide_eq_true h)]
   rfl
 · intro h
   rw [List.filter_cons, if_neg (show ¬ ofX x l[k] = true from by rw [show ofX x l[k] = false from decide_eq_false h]; simp)]
   simp
theorem stsX_len (x : ByteArray) (l : List Ev) : (stsX x l).length ≤ l.length := by
 unfold stsX
 rw [List.length_map]
 exact List.length_filter_le _ _
set_option maxRecDepth 100000 in
set_option maxHeartbeats 4000000 in
theorem ref11_Tags (l : List Ev) (x : ByteArray) (a : Option Addr) (n c : Nat) (w : World) (hl : CellsAt w a (elsV l)) (hn : n = l.length) (hb : n ≤ 100000) :
 Calls Tryz.prog 54 #[.slice a n c, .string x] w fun e w' => ∃ v, e = .returned v ∧ w'.ownsRow w.heap.size 43 5 v (stsX x l).length (stsV (stsX x l)) ∧ Below w.heap.size w w' := by
 have HL := Lib.hid hl
 have HN := Lib.hid hn
 have ST := Lib.hid stT
 clear hl hn
 go_enter Tryz.func54, Tryz.ntmps54
 go_wp2_with fail
 go_loopw [5, 6] (fun ov i wr => ∃ (k : Nat) (wq : World) (av : Option Addr) (an ac : Nat), wq = wr ∧ i = .int .i64 (k : Int) ∧ k ≤ n ∧ ov = .slice av an ac ∧ Hid (an = (stsX x (l.take k)).length) ∧ Hid (wq.ownsRow w.heap.size 43 5 (.slice av an ac) an (stsV (stsX x (l.take k)))) ∧ Hid (Below w.heap.size w wq)) (fun _ i _ => n - (intOf i).toNat)
 case atStart => exact ⟨0, _, none, 0, 0, rfl, rfl, Nat.zero_le _, rfl, Lib.hid rfl, Lib.hid ⟨rfl, Or.inl ⟨rfl, rfl⟩⟩, Lib.hid (Below.refl _ _)⟩
 case round =>
  obtain ⟨k, wq, av, an, ac, rfl, rfl, hk, rfl, HAN, HO, HB⟩ := hrel
  by_cases hlt : k < n
  · have hki : (k : Int) < (n : Int) := by omega
    have hk1 : k < l.length := by have := HN.out; omega
    obtain ⟨ba, oa, ha, ca⟩ := els_get (HL.out.below HB.out rfl) k hk1
    subst ha
    have AN : Hid (an ≤ 100000) := Lib.hid (by rw [HAN.out]; have h1 := stsX_len x (l.take k); have h2 := List.length_take (i := k) (l := l); omega)
    have S1 := Lib.hid (stsX_next (x := x) hk1).1
    have S2 := Lib.hid (stsX_next (x := x) hk1).2
    obtain ⟨p0, p1, p2, p3, p4, p5⟩ := ca
    generalize l[k] = y at *
    obtain ⟨out, hout⟩ : ∃ o, stsX x (l.take k) = o := ⟨_, rfl⟩
    rw [hout] at HAN HO S1 S2
    clear hout
    by_cases hy : y.2 = x
    · have hey : (y.2.toList == x.toList) = true := by rw [Pm.eq_iff]; exact decide_eq_true hy
      have SN := Lib.hid (S1.out hy)
      have BB := Lib.hid HB.out.size
      clear hy S1 S2
      go_wp2_with (at_builtin; go_must (refine wpList_app rfl _ _ 71 71 rfl w.heap.size 43 _ 5 48 ST.out (.slice av an ac) an (stsV out) rfl (HO.out.alloc _) _ 1 (stL y.1) rfl ((CellsAt.new wq 43 (0, 0) (stL y.1)).srcN (size := 5) (n := 1) rfl (by simp [stL, Value.oneCell']) Tryz.underlying71 1 (by decide)) (by have := AN.out; omega) (by have := AN.out; omega) (by have := BB.out; simp; omega) ?_); go_must (intro v10 w10 hown hgr10 hbel hor); go_must (obtain ⟨a10, c10, rfl, _⟩ := own_slice hown); have OW10 := Lib.hid hown; have B10 : Hid (Below w.heap.size w w10) := Lib.hid (HB.out.trans (((below_new wq (.cells #[.int .i64 y.1.g, .int .i64 y.1.r, .string y.1.l, .int .i64 y.1.n, .int .i64 y.1.i] 43)).mono HB.out.size).trans hbel)); clear hown hgr10 hbel hor p0 p1 p2 p3 p4 p5)
      go_roundw
      case rel => exact ⟨k + 1, _, a10, an + 1, c10, rfl, by go_num, by omega, rfl, Lib.hid (by rw [SN.out, List.length_append, ← HAN.out]; rfl), Lib.hid (by rw [SN.out, stsV_append]; simpa [stsV] using OW10.out), B10⟩
      case measure => simp [intOf]; omega
    · have hey : (y.2.toList == x.toList) = false := by rw [Pm.eq_iff]; exact decide_eq_false hy
      have SN := Lib.hid (S2.out hy)
      clear hy S1 S2
      go_wp2_with fail
      go_roundw
      case rel => exact ⟨k + 1, _, av, an, ac, rfl, by go_num, by omega, rfl, by rw [SN.out]; exact HAN, by rw [SN.out]; exact HO, HB⟩
      case measure => simp [intOf]; omega
  · obtain rfl : k = n := by omega
    have hki : ¬ (k : Int) < (k : Int) := by omega
    have e : l.take k = l := List.take_of_length_le (by rw [HN.out]; exact Nat.le_refl _)
    rw [e] at HAN HO
    clear e
    go_wp2_with fail
    go_ret
    refine ⟨_, rfl, ?_, HB.out⟩
    rw [← HAN.out]
    exact HO.out
end Go.Proofs.YtjlliohjeiclaaaGreatDoor
namespace Go.Proofs.YtjlliohjeiclaaaGreatDoor
open Go.RowKit St Pm Kn
def txR (l : List Ev) : List ByteArray := setW (l.map (·.2))
theorem txR_next {l : List Ev} {q : Nat} (h : q < l.length) : txR (l.take (q + 1)) = insW l[q].2 (txR (l.take q)) := by
 unfold txR
 rw [List.take_succ_eq_append_getElem h, List.map_append, List.map_cons, List.map_nil, setW_snoc]
theorem txR_len (l : List Ev) : (txR l).length ≤ l.length := by
 unfold txR
 have := setW_len (l.map (·.2))
 rwa [List.length_map] at this
theorem txV_oneR (l : List ByteArray) : ∀ u ∈ txV l, u.oneCell' = true := fun u hu => by
 obtain ⟨x, _, rfl⟩ := List.mem_map.1 hu
 rfl
theorem txNR : ElemT Tryz.prog 63 9 (.string ⟨#[]⟩) 1 16 := ElemT.mk Tryz.underlying63 (by kernel_rfl) (by simp [Value.cells])
set_option maxRecDepth 100000 in
set_option maxHeartbeats 8000000 in
theorem ref11_Texts (l : List Ev) (a : Option Addr) (n c : Nat) (w : World) (hl : CellsAt w a (elsV l)) (hn : n = l.length) (hb : n ≤ 100000) :
 Calls Tryz.prog 52 #[.slice a n c] w fun e w' => ∃ v, e = .returned v ∧ w'.ownsRow w.heap.size 9 1 v (txR l).length (txV (txR l)) ∧ Below w.heap.size w w' := by
 have HL := Lib.hid hl
 have HN := Lib.hid hn
 have ST := Lib.hid txNR
 clear hl hn
 go_enter Tryz.func52, Tryz.ntmps52
 go_wp2_with fail
 go_loopw [3, 4] (fun v i wr => ∃ (q : Nat) (av : Option Addr) (an ac : Nat), i = .int .i64 (q : Int) ∧ q ≤ n ∧ v = .slice av an ac ∧ Hid (an = (txR (l.take q)).length) ∧ Hid (wr.ownsRow w.heap.size 9 1 (.slice av an ac) an (txV (txR (l.take q)))) ∧ Hid (Below w.heap.size w wr)) (fun _ i _ => n - (intOf i).toNat)
 case atStart => exact ⟨0, none, 0, 0, rfl, Nat.zero_le _, rfl, Lib.hid rfl, Lib.hid ⟨rfl, Or.inl ⟨rfl, rfl⟩⟩, Lib.hid (Below.refl _ _)⟩
 case round =>
  obtain ⟨q, av, an, ac, rfl, hq, rfl, HAN, HO, HB⟩ := hrel
  have BAN : an ≤ 100000 := by
   have h1 := HAN.out
   have h2 := txR_len (l.take q)
   rw [List.length_take] at h2
   omega
  by_cases hlt : q < n
  · have hqi : (q : Int) < (n : Int) := by omega
    have hql : q < l.length := by have := HN.out; omega
    obtain ⟨ba, oa, ha, _⟩ := els_get (HL.out.below HB.out rfl) q hql
    subst ha
    have HG : Hid (∀ wx, Below w.heap.size w wx → ∃ t, t = l[q].2 ∧ wx.cell? ⟨ba, oa + q * 6 + 5, none⟩ = some (.string t)) := Lib.hid (fun wx hw => by
     obtain ⟨_, _, e, cx⟩ := els_get (HL.out.below hw rfl) q hql
     cases e
     exact ⟨_, rfl, cx.c5⟩)
    have SN := Lib.hid (txR_next hql)
    obtain ⟨t, ht⟩ : ∃ t, l[q].2 = t := ⟨_, rfl⟩
    have HP : Hid (∀ wx, Below w.heap.size w wx → wx.cell? ⟨ba, oa + q * 6 + 5, none⟩ = some (.string t)) := Lib.hid (fun wx hw => by
     obtain ⟨t', e, h⟩ := HG.out wx hw
     rw [h, e, ht])
    rw [ht] at SN
    clear ht HG
    obtain ⟨out, hout⟩ : ∃ o, txR (l.take q) = o := ⟨_, rfl⟩
    rw [hout] at HAN HO SN
    clear hout
    go_upto_block 2 with (fail)
    go_cut [5] (fun u5 wx => ∃ p : Nat, u5 = .int .i64 (p : Int) ∧ p ≤ an ∧ Hid (∀ y ∈ out.take p, klt y t = true) ∧ Hid (∀ hp : p < out.length, klt out[p] t = false) ∧ Hid (wx.ownsRow w.heap.size 9 1 (.slice av an ac) an (txV out)) ∧ Hid (Below w.heap.size w wx))
    case first =>
     go_wp2_with fail
     go_loopw [5] (fun u5 wr => ∃ p : Nat, u5 = .int .i64 (p : Int) ∧ p ≤ an ∧ Hid (∀ y ∈ out.take p, klt y t = true) ∧ Hid (wr.ownsRow w.heap.size 9 1 (.slice av an ac) an (txV out)) ∧ Hid (Below w.heap.size w wr)) (fun u5 _ => an - (intOf u5).toNat)
     case atStart => exact ⟨0, rfl, Nat.zero_le _, Lib.hid (fun y hy => (by cases hy)), HO, HB⟩
     clear HO HB
     case round =>
      obtain ⟨p, rfl, hp, HT, HO, HB⟩ := hrel
      have p5 := HP.out wr HB.out
      by_cases hlt2 : p < an
      · have hpi : (p : Int) < (an : Int) := by omega
        have hpd : decide ((p : Int) < (an : Int)) = true := decide_eq_true hpi
        have hpo : p < out.length := by have := HAN.out; omega
        obtain ⟨bb, ob, hab, py⟩ := tx_get (CellsAt.ownN HO.out) p hpo
        subst hab
        have TS : Hid (klt out[p] t = true → ∀ y ∈ out.take (p + 1), klt y t = true) := Lib.hid (fun h y hy => by
         rw [List.take_succ_eq_append_getElem hpo] at hy
         rcases List.mem_append.1 hy with h1 | h1
         · exact HT.out y h1
         · rw [show y = out[p] by simpa using h1]; exact h)
        obtain ⟨y, hy⟩ : ∃ y, out[p] = y := ⟨_, rfl⟩
        rw [hy] at py TS
        have TF : Hid (klt y t = false → ∀ hp : p < out.length, klt out[p] t = false) := Lib.hid (fun h hp => by rw [hy]; exact h)
        clear hy
        by_cases hkl : klt y t = true
        · have hd : Go.Op.bytesLess y.toList t.toList = true := hkl
          have H := Lib.hid (TS.out hkl)
          clear hkl
          go_wp2_with fail
          go_quiet (fail)
          go_wp2_with fail
          go_roundw
          case rel => exact ⟨p + 1, by go_num, by omega, H, Lib.hid (own_later HO.out (below_drews (Below.refl _ _) _) (Nat.le_refl _)), Lib.hid (below_drews HB.out _)⟩
          case measure => simp [intOf]; omega
        · have hkl' : klt y t = false := by simpa using hkl
          have hd : Go.Op.bytesLess y.toList t.toList = false := hkl'
          have H := Lib.hid (TF.out hkl')
          clear hkl hkl'
          go_wp2_with fail
          go_quiet (fail)
          go_wp2_with fail
          go_meet
          exact ⟨p, rfl, hp, HT, H, Lib.hid (own_later HO.out (below_drews (Below.refl _ _) _) (Nat.le_refl _)), Lib.hid (below_drews HB.out _)⟩
      · have hpi : ¬ (p : Int) < (an : Int) := by omega
        have hpd : decide ((p : Int) < (an : Int)) = false := decide_eq_false hpi
        have H : Hid (∀ hp : p < out.length, klt out[p] t = false) := Lib.hid (fun hp' => by have := HAN.out; omega)
        go_wp2_with fail
        go_quiet (fail)
        go_wp2_with fail
        go_meet
        exact ⟨p, rfl, hp, HT, H, Lib.hid (own_later HO.out (below_drews (Below.refl _ _) _) (Nat.le_refl _)), Lib.hid (below_drews HB.out _)⟩
    case rest =>
     clear HO HB
     obtain ⟨p, rfl, hp, HT, HF, HO, HB⟩ := hcut
     obtain ⟨w7, rfl⟩ : ∃ x : World, x = wc := ⟨_, rfl⟩
     obtain ⟨bw, HBW⟩ : ∃ b : Bool, Hid (b = false ↔ ∃ hpo : p < out.length, out[p] = t) := by
      by_cases hold : ∃ hpo : p < out.length, out[p] = t
      · exact ⟨false, Lib.hid ⟨fun _ => hold, fun _ => rfl⟩⟩
      · exact ⟨true, Lib.hid ⟨fun h => (by cases h), fun h => absurd h hold⟩⟩
     go_upto_region 8 with (fail)
     go_cut [45] (fun u45 wx => u45 = .bool bw ∧ Hid (wx.ownsRow w.heap.size 9 1 (.slice av an ac) an (txV out)) ∧ Hid (Below w.heap.size w wx))
     case first =>
      have p5 := HP.out w7 HB.out
      by_cases hpa : p = an
      · obtain rfl : bw = true := by
         cases bw with
         | true => rfl
         | false => obtain ⟨h1, _⟩ := HBW.out.1 rfl; have := HAN.out; omega
        clear HBW
        subst hpa
        have hpe : ((p : Int) == (p : Int)) = true := by simp
        go_wp2_with fail
        go_quiet (fail)
        go_wp2_with fail
        go_meet
        exact ⟨rfl, Lib.hid (own_later HO.out (below_drews (Below.refl _ _) _) (Nat.le_refl _)), Lib.hid (below_drews HB.out _)⟩
      · have hpn : p < an := by omega
        have hpi : (p : Int) < (an : Int) := by omega
        have hpe : ((p : Int) == (an : Int)) = false := by simp; omega
        have hpo : p < out.length := by have := HAN.out; omega
        obtain ⟨bb, ob, hab, py⟩ := tx_get (CellsAt.ownN HO.out) p hpo
        subst hab
        have HBY : Hid (bw = false ↔ out[p] = t) := Lib.hid ⟨fun h => (HBW.out.1 h).2, fun h => HBW.out.2 ⟨hpo, h⟩⟩
        obtain ⟨y, hy⟩ : ∃ y, out[p] = y := ⟨_, rfl⟩
        rw [hy] at py HBY
        clear hy HBW hpa
        by_cases he : y = t
        · obtain rfl : bw = false := HBY.out.2 he
          have hnc : (y.toList == t.toList) = true := by rw [Pm.eq_iff]; simpa using he
          have hnb : (y.toList != t.toList) = false := by simp [bne, hnc]
          clear he HBY
          go_wp2_with fail
          go_quiet (fail)
          go_wp2_with fail
          go_meet
          exact ⟨rfl, Lib.hid (own_later HO.out (below_drews (Below.refl _ _) _) (Nat.le_refl _)), Lib.hid (below_drews HB.out _)⟩
        · obtain rfl : bw = true := by
           cases bw with
           | true => rfl
           | false => exact absurd (HBY.out.1 rfl) he
          have hnc : (y.toList == t.toList) = false := by rw [Pm.eq_iff]; simpa using he
          have hnb : (y.toList != t.toList) = true := by simp [bne, hnc]
          clear he HBY
          go_wp2_with fail
          go_quiet (fail)
          go_wp2_with fail
          go_meet
          exact ⟨rfl, Lib.hid (own_later HO.out (below_drews (Below.refl _ _) _) (Nat.le_refl _)), Lib.hid (below_drews HB.out _)⟩
     case rest =>
     clear HO HB
     obtain ⟨rfl, HO, HB⟩ := hcut
     obtain ⟨w8, rfl⟩ : ∃ x : World, x = wc := ⟨_, rfl⟩
     cases bw
     case false =>
      have SN2 : Hid (txR (l.take (q + 1)) = out) := Lib.hid (by
       obtain ⟨hpo, he⟩ := HBW.out.1 rfl
       rw [SN.out, insW_old t out p hpo HT.out he])
      clear HBW SN
      go_wp2_with fail
      go_roundw
      case rel => exact ⟨q + 1, _, an, ac, by go_num, by omega, rfl, by rw [SN2.out]; exact HAN, by rw [SN2.out]; exact HO, HB⟩
      case measure => simp [intOf]; omega
     case true =>
      have SN2 : Hid (txR (l.take (q + 1)) = out.take p ++ t :: out.drop p) := Lib.hid (by rw [SN.out, insW_new t out p (by have := HAN.out; omega) HT.out (fun hp' => ⟨HF.out hp', fun e => by have := HBW.out.2 ⟨hp', e⟩; cases this⟩)])
      clear HBW SN
      have hso : av = none ∨ ∃ g, av = some ⟨g, 0, none⟩ := by
       rcases HO.out.2 with ⟨e, _⟩ | ⟨g, _, _, e, _⟩
       · cases e; exact .inl rfl
       · cases e; exact .inr ⟨g, rfl⟩
      have hle : an ≤ ac := by
       rcases HO.out.2 with ⟨e, h0⟩ | ⟨g, _, _, e, _, _, h1, _⟩
       · cases e; omega
       · cases e; exact h1
      have HC6 := CellsAt.ownN HO.out
      have HTK : Hid (CellsAt w8 av (txV (out.take p))) := Lib.hid (by have := HC6.take p; rwa [show (txV out).take p = txV (out.take p) by simp [txV]] at this)
      have HDK : Hid (CellsAt w8 (subN av ac p 1) (txV (out.drop p))) := Lib.hid (by
       have := HC6.subN ac p 1 (fun e => by rw [show (txV out).length = out.length by simp [txV], ← HAN.out]; omega)
       rwa [show (txV out).drop (p * 1) = txV (out.drop p) by simp [txV]] at this)
      have hlt1 : (txV (out.take p)).length = p * 1 := by have := HAN.out; simp [txV]; omega
      have hlt2 : (txV (out.drop p)).length = (an - p) * 1 := by have := HAN.out; simp [txV]; omega
      have T1 := Lib.hid (fun w' => run_to (P := Tryz.prog) w' 63 9 Tryz.underlying63 1 (fun w => by kernel_rfl) av hso an ac p (p : Int) rfl (by omega))
      have T2 := Lib.hid (fun w' => run_from (P := Tryz.prog) w' 63 9 Tryz.underlying63 1 (fun w => by kernel_rfl) av an ac p (p : Int) rfl hp)
      clear HC6 hso
      generalize hsub : subN av ac p 1 = sb at *
      clear hsub
      have HPW : Hid (∀ wx, Below w8.heap.size w8 wx → wx.cell? ⟨ba, oa + q * 6 + 5, none⟩ = some (.string t)) := Lib.hid (fun wx hw => HP.out wx (HB.out.trans (hw.mono HB.out.size)))
      have HC : Hid (Chain [w8] w8) := Lib.hid (Chain.one w8)
      go_upto_region 9 with (fail)
      refine wp_region_noPanic ?_
      refine wp_region_held_drew (S := fun w' => Below w8.heap.size w8 w') (by kernel_rfl) (Below.refl _ _).drew (fun hS => ?_)
      refine tk (i := 0) (oi := ⟨some 46, _, _, _, _, _⟩) (v := ?_) rfl (Or.inl ⟨by rfl, ?_⟩) hS ?_
      rotate_left 1
      · intro w' hB; have s1 := T1.out w'; have s2 := T2.out w'; have p5 := HPW.out w' hB; (go_simp <;> with_reducible rfl)
      try simp only [Act.put, zA, zB, zC]
      refine tk (i := 1) (oi := ⟨some 47, _, _, _, _, _⟩) (v := ?_) rfl (Or.inl ⟨by rfl, ?_⟩) hS ?_
      rotate_left 1
      · intro w' hB; have s1 := T1.out w'; have s2 := T2.out w'; have p5 := HPW.out w' hB; (go_simp <;> with_reducible rfl)
      try simp only [Act.put, zA, zB, zC]
      refine tk (i := 2) (oi := ⟨some 48, _, _, _, _, _⟩) (v := ?_) rfl (Or.inl ⟨by rfl, ?_⟩) hS ?_
      rotate_left 1
      · intro w' hB; have s1 := T1.out w'; have s2 := T2.out w'; have p5 := HPW.out w' hB; (go_simp <;> with_reducible rfl)
      try simp only [Act.put, zA, zB, zC]
      refine tk (i := 4) (oi := ⟨some 50, _, _, _, _, _⟩) (v := ?_) rfl (Or.inl ⟨by rfl, ?_⟩) hS ?_
      rotate_left 1
      · intro w' hB; have s1 := T1.out w'; have s2 := T2.out w'; have p5 := HPW.out w' hB; (go_simp <;> with_reducible rfl)
      try simp only [Act.put, zA, zB, zC]
      refine tk (i := 5) (oi := ⟨some 51, _, _, _, _, _⟩) (v := ?_) rfl (Or.inl ⟨by rfl, ?_⟩) hS ?_
      rotate_left 1
      · intro w' hB; have s1 := T1.out w'; have s2 := T2.out w'; have p5 := HPW.out w' hB; (go_simp <;> with_reducible rfl)
      try simp only [Act.put, zA, zB, zC]
      refine tk (i := 6) (oi := ⟨some 52, _, _, _, _, _⟩) (v := ?_) rfl (Or.inl ⟨by rfl, ?_⟩) hS ?_
      rotate_left 1
      · intro w' hB; have s1 := T1.out w'; have s2 := T2.out w'; have p5 := HPW.out w' hB; (go_simp <;> with_reducible rfl)
      try simp only [Act.put, zA, zB, zC]
      refine tk (i := 7) (oi := ⟨some 53, _, _, _, _, _⟩) (v := ?_) rfl (Or.inl ⟨by rfl, ?_⟩) hS ?_
      rotate_left 1
      · intro w' hB; have s1 := T1.out w'; have s2 := T2.out w'; have p5 := HPW.out w' hB; (go_simp <;> with_reducible rfl)
      try simp only [Act.put, zA, zB, zC]
      refine tk (i := 8) (oi := ⟨some 54, _, _, _, _, _⟩) (v := ?_) rfl (Or.inl ⟨by rfl, ?_⟩) hS ?_
      rotate_left 1
      · intro w' hB; have s1 := T1.out w'; have s2 := T2.out w'; have p5 := HPW.out w' hB; (go_simp <;> with_reducible rfl)
      try simp only [Act.put, zA, zB, zC]
      refine tk (i := 11) (oi := ⟨some 57, _, _, _, _, _⟩) (v := ?_) rfl (Or.inl ⟨by rfl, ?_⟩) hS ?_
      rotate_left 1
      · intro w' hB; have s1 := T1.out w'; have s2 := T2.out w'; have p5 := HPW.out w' hB; (go_simp <;> with_reducible rfl)
      try simp only [Act.put, zA, zB, zC]
      refine tk (i := 12) (oi := ⟨some 58, _, _, _, _, _⟩) (v := ?_) rfl (Or.inl ⟨by rfl, ?_⟩) hS ?_
      rotate_left 1
      · intro w' hB; have s1 := T1.out w'; have s2 := T2.out w'; have p5 := HPW.out w' hB; (go_simp <;> with_reducible rfl)
      try simp only [Act.put, zA, zB, zC]
      refine tk (i := 13) (oi := ⟨some 59, _, _, _, _, _⟩) (v := ?_) rfl (Or.inl ⟨by rfl, ?_⟩) hS ?_
      rotate_left 1
      · intro w' hB; have s1 := T1.out w'; have s2 := T2.out w'; have p5 := HPW.out w' hB; (go_simp <;> with_reducible rfl)
      try simp only [Act.put, zA, zB, zC]
      refine wpAnyH_ready (rs := [3, 9]) (by kernel_rfl) (by simp) (AllReadyH.cons (o := ⟨some 49, _, _, _, _, _⟩) rfl (fun K hK => ?way2) (AllReadyH.cons (o := ⟨some 55, _, _, _, _, _⟩) rfl (fun K hK => ?way1) AllReadyH.nil))
      case' way2 =>
       refine step_app rfl _ _ _ _ rfl w8.heap.size 9 _ 1 16 ST.out (.slice none 0 0) 0 [] rfl ⟨rfl, Or.inl ⟨rfl, rfl⟩⟩ _ p (txV (out.take p)) rfl ((HTK.out.below hS rfl).srcN hlt1 (txV_oneR _) Tryz.underlying63 ac (by decide)) (by unfold maxLen; omega) (by omega) hS.size ?_
       intro v3 w3 hown hgr hb hor
       refine hK.out _ _ (hS.trans hb) (fun _ => ?_)
       clear hK K
       replace hS := hS.trans hb
       have H3 : Hid (World.ownsRow _ w8.heap.size 9 1 v3 p (txV (out.take p))) := Lib.hid (by simpa using hown)
       (try (replace H8 := Lib.hid (H8.out.below (grown_none hgr) rfl)))
       clear hb hgr hor
       try simp only [Act.put, zA, zB, zC]
       refine wpAnyH_ready (rs := [9]) (by kernel_rfl) (by simp) (AllReadyH.cons (o := ⟨some 55, _, _, _, _, _⟩) rfl (fun K hK => ?_) AllReadyH.nil)
       go_simp
       refine hK.out _ _ (hS.alloc hS.size _) (fun _ => ?_)
       clear hK K
       refine wpAnyH_madeK hS hS.size ?_
       have hS0 := hS
       clear hS
       rintro w9 hw hS
       (try (replace H3 := Lib.hid (show World.ownsRow w9 w8.heap.size 9 1 v3 p (txV (out.take p)) from by rw [hw]; exact H3.out.alloc _)))
       have H8 := Lib.hid (cellsAt_made (vs := [.string t]) hw)
       clear hw hS0
       try simp only [Act.put, zA, zB, zC]
       refine wpAnyH_ready (rs := [10]) (by kernel_rfl) (by simp) (AllReadyH.cons (o := ⟨some 56, _, _, _, _, _⟩) rfl (fun K hK => ?_) AllReadyH.nil)
       refine step_app rfl _ _ _ _ rfl w8.heap.size 9 _ 1 16 ST.out v3 p (txV (out.take p)) rfl H3.out _ 1 [.string t] rfl (H8.out.srcN rfl (fun u hu => by simp at hu; subst hu; rfl) Tryz.underlying63 1 (by decide)) (by unfold maxLen; omega) (by omega) hS.size ?_
       intro v9 w10 hown hgr hb hor
       refine hK.out _ _ (hS.trans hb) (fun _ => ?_)
       clear hK K
       replace hS := hS.trans hb
       have H9 := Lib.hid hown
       clear hb hgr hor
       try simp only [Act.put, zA, zB, zC]
       refine wpAnyH_ready (rs := [14]) (by kernel_rfl) (by simp) (AllReadyH.cons (o := ⟨some 60, _, _, _, _, _⟩) rfl (fun K hK => ?_) AllReadyH.nil)
       refine step_app rfl _ _ _ _ rfl w8.heap.size 9 _ 1 16 ST.out v9 (p + 1) (txV (out.take p) ++ [.string t]) rfl H9.out _ (an - p) (txV (out.drop p)) rfl ((HDK.out.below hS rfl).srcN hlt2 (txV_oneR _) Tryz.underlying63 (ac - p) (by decide)) (by unfold maxLen; omega) (by omega) hS.size ?_
       intro v13 w13 hown hgr hb hor
       refine hK.out _ _ (hS.trans hb) (fun _ => ?_)
       clear hK K
       replace hS := hS.trans hb
       have H13 := hown
       obtain ⟨a13, n13, e13, _⟩ := own_slice H13
       subst e13
       have O13 := Lib.hid H13
       clear H13
       clear hb hgr hor
       try simp only [Act.put, zA, zB, zC]
       refine tk (i := 15) (oi := ⟨some 3, _, _, _, _, _⟩) (v := ?_) rfl (Or.inl ⟨by rfl, ?_⟩) hS ?_
       rotate_left 1
       · intro w' hB; have s1 := T1.out w'; have s2 := T2.out w'; have p5 := HPW.out w' hB; (go_simp <;> with_reducible rfl)
       try simp only [Act.put, zA, zB, zC]
       refine wpAnyH_done (by kernel_rfl) (NoPanic.normal ?_) _
      case' way1 =>
       go_simp
       refine hK.out _ _ (hS.alloc hS.size _) (fun _ => ?_)
       clear hK K
       refine wpAnyH_madeK hS hS.size ?_
       have hS0 := hS
       clear hS
       rintro w9 hw hS
       (try (replace H3 := Lib.hid (show World.ownsRow w9 w8.heap.size 9 1 v3 p (txV (out.take p)) from by rw [hw]; exact H3.out.alloc _)))
       have H8 := Lib.hid (cellsAt_made (vs := [.string t]) hw)
       clear hw hS0
       try simp only [Act.put, zA, zB, zC]
       refine wpAnyH_ready (rs := [3]) (by kernel_rfl) (by simp) (AllReadyH.cons (o := ⟨some 49, _, _, _, _, _⟩) rfl (fun K hK => ?_) AllReadyH.nil)
       refine step_app rfl _ _ _ _ rfl w8.heap.size 9 _ 1 16 ST.out (.slice none 0 0) 0 [] rfl ⟨rfl, Or.inl ⟨rfl, rfl⟩⟩ _ p (txV (out.take p)) rfl ((HTK.out.below hS rfl).srcN hlt1 (txV_oneR _) Tryz.underlying63 ac (by decide)) (by unfold maxLen; omega) (by omega) hS.size ?_
       intro v3 w3 hown hgr hb hor
       refine hK.out _ _ (hS.trans hb) (fun _ => ?_)
       clear hK K
       replace hS := hS.trans hb
       have H3 : Hid (World.ownsRow _ w8.heap.size 9 1 v3 p (txV (out.take p))) := Lib.hid (by simpa using hown)
       (try (replace H8 := Lib.hid (H8.out.below (grown_none hgr) rfl)))
       clear hb hgr hor
       try simp only [Act.put, zA, zB, zC]
       refine wpAnyH_ready (rs := [10]) (by kernel_rfl) (by simp) (AllReadyH.cons (o := ⟨some 56, _, _, _, _, _⟩) rfl (fun K hK => ?_) AllReadyH.nil)
       refine step_app rfl _ _ _ _ rfl w8.heap.size 9 _ 1 16 ST.out v3 p (txV (out.take p)) rfl H3.out _ 1 [.string t] rfl (H8.out.srcN rfl (fun u hu => by simp at hu; subst hu; rfl) Tryz.underlying63 1 (by decide)) (by unfold maxLen; omega) (by omega) hS.size ?_
       intro v9 w10 hown hgr hb hor
       refine hK.out _ _ (hS.trans hb) (fun _ => ?_)
       clear hK K
       replace hS := hS.trans hb
       have H9 := Lib.hid hown
       clear hb hgr hor
       try simp only [Act.put, zA, zB, zC]
       refine wpAnyH_ready (rs := [14]) (by kernel_rfl) (by simp) (AllReadyH.cons (o := ⟨some 60, _, _, _, _, _⟩) rfl (fun K hK => ?_) AllReadyH.nil)
       refine step_app rfl _ _ _ _ rfl w8.heap.size 9 _ 1 16 ST.out v9 (p + 1) (txV (out.take p) ++ [.string t]) rfl H9.out _ (an - p) (txV (out.drop p)) rfl ((HDK.out.below hS rfl).srcN hlt2 (txV_oneR _) Tryz.underlying63 (ac - p) (by decide)) (by unfold maxLen; omega) (by omega) hS.size ?_
       intro v13 w13 hown hgr hb hor
       refine hK.out _ _ (hS.trans hb) (fun _ => ?_)
       clear hK K
       replace hS := hS.trans hb
       have H13 := hown
       obtain ⟨a13, n13, e13, _⟩ := own_slice H13
       subst e13
       have O13 := Lib.hid H13
       clear H13
       clear hb hgr hor
       try simp only [Act.put, zA, zB, zC]
       refine tk (i := 15) (oi := ⟨some 3, _, _, _, _, _⟩) (v := ?_) rfl (Or.inl ⟨by rfl, ?_⟩) hS ?_
       rotate_left 1
       · intro w' hB; have s1 := T1.out w'; have s2 := T2.out w'; have p5 := HPW.out w' hB; (go_simp <;> with_reducible rfl)
       try simp only [Act.put, zA, zB, zC]
       refine wpAnyH_done (by kernel_rfl) (NoPanic.normal ?_) _
      all_goals
       have HBn := Lib.hid (HB.out.trans (hS.mono HB.out.size))
       have HOn : Hid (w13.ownsRow w.heap.size 9 1 (.slice a13 (an + 1) n13) (an + 1) (txV (out.take p ++ t :: out.drop p))) := Lib.hid (by
        have h13 := own_mono O13.out HB.out.size
        rw [show txV (out.take p) ++ [.string t] ++ txV (out.drop p) = txV (out.take p ++ t :: out.drop p) by simp [txV]] at h13
        rwa [show p + 1 + (an - p) = an + 1 by omega] at h13)
       have e17 : p + 1 + (an - p) = an + 1 := by omega
       clear hS O13 H9 H3 H8
       try rw [e17]
       clear e17
       go_wp2_with fail
       go_roundw
      all_goals
       first
        | exact ⟨q + 1, a13, an + 1, n13, by go_num, by omega, rfl, Lib.hid (by rw [SN2.out, List.length_append, List.length_cons, List.length_take, List.length_drop]; have := HAN.out; omega), by rw [SN2.out]; exact HOn, HBn⟩
        | (simp [intOf]; omega)
  · obtain rfl : q = n := by omega
    have hqi : ¬ (q : Int) < (q : Int) := by omega
    go_wp2_with fail
    go_ret
    have e : l.take q = l := List.take_of_length_le (by rw [HN.out]; exact Nat.le_refl _)
    have h1 := HO.out
    have h2 := HAN.out
    rw [e] at h1 h2
    rw [← h2]
    exact ⟨_, rfl, h1, HB.out⟩
end Go.Proofs.YtjlliohjeiclaaaGreatDoor
