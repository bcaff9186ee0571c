/- Words, contracts and walks that the proof stands on (TgW TgG Tail PmPS PmSS WkAS WkBS WkXS). -/
import Derived.Deep.RegionHeld3
import Derived.MapKept
import Derived.Maps.Own
import Derived.RangeFuncKeeps
import Derived.RangeFuncWrites
import Derived.Test.YtjlliohjeiclaaaGreatDoorKE1
import Derived.Test.YtjlliohjeiclaaaGreatDoorKE13
import Derived.Test.YtjlliohjeiclaaaGreatDoorKE14
import Derived.Test.YtjlliohjeiclaaaGreatDoorKE15
import Derived.Test.YtjlliohjeiclaaaGreatDoorKE16
import Derived.Test.YtjlliohjeiclaaaGreatDoorKE4
import Derived.Test.YtjlliohjeiclaaaGreatDoorKE5
import Derived.Test.YtjlliohjeiclaaaGreatDoorKE6
import Derived.Test.YtjlliohjeiclaaaGreatDoorKE7
namespace Go.Proofs.YtjlliohjeiclaaaGreatDoor
open Go.RowKit St Pm
theorem fld_st11 (g r n i : Int) (l x : ByteArray) (w : World) : (Instr.field 53 (.agg #[.int .i64 g, .int .i64 r, .string l, .int .i64 n, .int .i64 i, .string x]) 0).run Tryz.prog w = .ok (.agg #[.int .i64 g, .int .i64 r, .string l, .int .i64 n, .int .i64 i]) w := by
 kernel_rfl
theorem mp_oneT (p : Option Addr) : (#[.pointer p] : Array Value).all (·.oneCell') = true := by simp [Value.oneCell']
theorem k_labT (L : List Ev) (h : ∀ x ∈ L, x.1.l = labA) : ∀ e ∈ L, e.1.l.size ≤ 9223372036854775807 := fun e he => by rw [h e he]; decide
set_option maxRecDepth 100000 in
set_option maxHeartbeats 4000000 in
theorem known_11 (w : World) (hG : Glob w) : Calls Tryz.prog 8 #[] w fun e w' => e = .returned (.bool true) ∧ Below w.heap.size w w' := by
 have HG := Lib.hid hG
 clear hG
 have HC : Hid (Chain [w] w) := Lib.hid (Chain.one w)
 go_enter Tryz.func8, Tryz.ntmps8
 go_wp2_with fail
 refine (at_11 2 ⟨#[120]⟩ _).mono ?_
 rintro e w1 ⟨rfl, hb⟩
 replace HC := Lib.hid (HC.out.push hb)
 clear hb
 go_wp2_with fail
 refine (at_11 1 ⟨#[121]⟩ _).mono ?_
 rintro e w2 ⟨rfl, hb⟩
 replace HC := Lib.hid (HC.out.push hb)
 clear hb
 go_wp2_with fail
 obtain ⟨c3, hc3⟩ : ∃ c, w2.heap.size = c := ⟨_, rfl⟩
 try rw [hc3]
 obtain ⟨w3, hw3⟩ : ∃ X, allocs w2 [.cells #[.int .i64 2, .int .i64 0, .string labA, .int .i64 1, .int .i64 0, .string ⟨#[120]⟩, .int .i64 1, .int .i64 0, .string labA, .int .i64 1, .int .i64 0, .string ⟨#[121]⟩] 53] = X := ⟨_, rfl⟩
 rw [show w2.alloc (.cells #[.int .i64 2, .int .i64 0, .string labA, .int .i64 1, .int .i64 0, .string ⟨#[120]⟩, .int .i64 1, .int .i64 0, .string labA, .int .i64 1, .int .i64 0, .string ⟨#[121]⟩] 53) = w3 from hw3]
 have hb : Below w2.heap.size w2 w3 := by rw [← hw3]; exact allocs_below _ _
 have HE : Hid (w3.heap[c3]? = some (.cells #[.int .i64 2, .int .i64 0, .string labA, .int .i64 1, .int .i64 0, .string ⟨#[120]⟩, .int .i64 1, .int .i64 0, .string labA, .int .i64 1, .int .i64 0, .string ⟨#[121]⟩] 53 (0, 0))) := Lib.hid (by have := allocs_get [.cells #[.int .i64 2, .int .i64 0, .string labA, .int .i64 1, .int .i64 0, .string ⟨#[120]⟩, .int .i64 1, .int .i64 0, .string labA, .int .i64 1, .int .i64 0, .string ⟨#[121]⟩] 53] w2 0 _ rfl; rw [hw3, hc3] at this; exact this)
 have Sc3 : Hid (w2.heap.size = c3) := Lib.hid hc3
 replace HC := Lib.hid (HC.out.push hb)
 clear hb hw3 hc3
 refine (of_tag [atV 2 tX, atV 1 tY] (some ⟨c3, 0, none⟩) 2 2 _ (cells_rowT HE.out) rfl (by omega) (k_labT _ (by simp [atV])) (HG.out.below (HC.out.to w (by simp)))).mono ?_
 rintro e w4 ⟨t, ce, rfl, ht, hb, hP⟩
 replace HC := Lib.hid (HC.out.push hb)
 clear hb
 have T4 := Lib.hid ht
 obtain ⟨rfl, hr⟩ : ce = 0 ∧ Tag [atV 2 tX, atV 1 tY] t := by
  rcases hP with ⟨_, h1, h2⟩ | ⟨h, _⟩
  · rw [k_set] at h2; exact ⟨h1, h2⟩
  · rw [k_may] at h; cases h
 have R4 := Lib.hid hr
 clear hP hr ht
 go_upto_region 2 with (fail)
 obtain ⟨c5, hc5⟩ : ∃ c, w4.heap.size = c := ⟨_, rfl⟩
 try rw [hc5]
 obtain ⟨w5, hw5⟩ : ∃ X, allocs w4 [.cells #[.pointer (pa t)] 27] = X := ⟨_, rfl⟩
 rw [show w4.alloc (.cells #[.pointer (pa t)] 27) = w5 from hw5]
 have hb : Below w4.heap.size w4 w5 := by rw [← hw5]; exact allocs_below _ _
 have HM : Hid (w5.heap[c5]? = some (.cells #[.pointer (pa t)] 27 (0, 0))) := Lib.hid (by have := allocs_get [.cells #[.pointer (pa t)] 27] w4 0 _ rfl; rw [hw5, hc5] at this; exact this)
 have Sc5 : Hid (w4.heap.size = c5) := Lib.hid hc5
 replace HC := Lib.hid (HC.out.push hb)
 clear hb hw5 hc5
 go_wp2_with fail
 refine (at_11 1 ⟨#[120]⟩ _).mono ?_
 rintro e w6 ⟨rfl, hb⟩
 replace HC := Lib.hid (HC.out.push hb)
 clear hb
 go_wp2_with fail
 refine (at_11 1 ⟨#[121]⟩ _).mono ?_
 rintro e w7 ⟨rfl, hb⟩
 replace HC := Lib.hid (HC.out.push hb)
 clear hb
 go_wp2_with fail
 obtain ⟨c8, hc8⟩ : ∃ c, w7.heap.size = c := ⟨_, rfl⟩
 try rw [hc8]
 obtain ⟨w8, hw8⟩ : ∃ X, allocs w7 [.cells #[.int .i64 1, .int .i64 0, .string labA, .int .i64 1, .int .i64 0, .string ⟨#[120]⟩, .int .i64 1, .int .i64 0, .string labA, .int .i64 1, .int .i64 0, .string ⟨#[121]⟩] 53] = X := ⟨_, rfl⟩
 rw [show w7.alloc (.cells #[.int .i64 1, .int .i64 0, .string labA, .int .i64 1, .int .i64 0, .string ⟨#[120]⟩, .int .i64 1, .int .i64 0, .string labA, .int .i64 1, .int .i64 0, .string ⟨#[121]⟩] 53) = w8 from hw8]
 have hb : Below w7.heap.size w7 w8 := by rw [← hw8]; exact allocs_below _ _
 have HF : Hid (w8.heap[c8]? = some (.cells #[.int .i64 1, .int .i64 0, .string labA, .int .i64 1, .int .i64 0, .string ⟨#[120]⟩, .int .i64 1, .int .i64 0, .string labA, .int .i64 1, .int .i64 0, .string ⟨#[121]⟩] 53 (0, 0))) := Lib.hid (by have := allocs_get [.cells #[.int .i64 1, .int .i64 0, .string labA, .int .i64 1, .int .i64 0, .string ⟨#[120]⟩, .int .i64 1, .int .i64 0, .string labA, .int .i64 1, .int .i64 0, .string ⟨#[121]⟩] 53] w7 0 _ rfl; rw [hw8, hc8] at this; exact this)
 have Sc8 : Hid (w7.heap.size = c8) := Lib.hid hc8
 replace HC := Lib.hid (HC.out.push hb)
 clear hb hw8 hc8
 refine (of_tag [atV 1 tX, atV 1 tY] (some ⟨c8, 0, none⟩) 2 2 _ (cells_rowT HF.out) rfl (by omega) (k_labT _ (by simp [atV])) (HG.out.below (HC.out.to w (by simp)))).mono ?_
 rintro e w9 ⟨t2, ce, rfl, _, hb, hP⟩
 replace HC := Lib.hid (HC.out.push hb)
 clear hb
 obtain ⟨rfl, rfl⟩ : ce = 2 ∧ t2 = .nil := by
  rcases hP with ⟨h, _⟩ | ⟨_, h1, h2⟩
  · rw [k_not] at h; cases h
  · exact ⟨h1, h2⟩
 clear hP
 rw [show pa (Tr.nil : Tr ByteArray) = none from rfl]
 go_upto_region 3 with (fail)
 obtain ⟨c10, hc10⟩ : ∃ c, w9.heap.size = c := ⟨_, rfl⟩
 try rw [hc10]
 obtain ⟨w10, hw10⟩ : ∃ X, allocs w9 [.cells #[.pointer none] 27] = X := ⟨_, rfl⟩
 rw [show w9.alloc (.cells #[.pointer none] 27) = w10 from hw10]
 have hb : Below w9.heap.size w9 w10 := by rw [← hw10]; exact allocs_below _ _
 have Sc10 : Hid (w9.heap.size = c10) := Lib.hid hc10
 replace HC := Lib.hid (HC.out.push hb)
 clear hb hw10 hc10
 have M10 := Lib.hid (boxStays HM.out (HC.out.to w5 (by simp)))
 have T10 := Lib.hid (T4.out.below (HC.out.to w4 (by simp)) rfl)
 have G10 := Lib.hid (HG.out.below (HC.out.to w (by simp)))
 have INS : Hid (∀ w1, Below w10.heap.size w10 w1 → Calls Tryz.prog 21 #[.agg #[.pointer (pa t)], .agg #[.int .i64 3, .int .i64 0, .string labA, .int .i64 1, .int .i64 0], .string ⟨#[120]⟩] w1 fun e w' => ∃ m : Tr ByteArray, e = .returned (.tuple #[.agg #[.pointer (pa m)], .int .i64 0]) ∧ AtS w' m ∧ Tag [atV 2 tX, atV 3 tX, atV 1 tY] m ∧ Below w1.heap.size w1 w') := Lib.hid (fun w1 hB => by
  have h := ins_tag t (atV 3 tX).1 tX w1 (T10.out.below hB rfl) R4.out (by simp) (at_ok 3 tX (by omega) (by omega) (by decide)) (G10.out.below hB)
  have e1 : ((atV 3 tX).1, tX) = atV 3 tX := rfl
  rw [e1, k_ins] at h
  exact h)
 clear T10 G10
 refine relG_start (slots := [29, 30, 31, 32, 28, 33, 34, 5, 6]) (so := [8]) (by kernel_rfl) (by kernel_rfl) (by rfl) ?_
 refine relG_pure (i := 0) (o := ⟨some 29, _, _, _, _, _⟩) (v := ?v1) [] [1] rfl rfl (by kernel_rfl) (by kernel_rfl) (fun t w1 hB hf hbf => ?y1) ?n1
 case y1 =>
  simp only [BasF] at hbf
  clear hf
  obtain ⟨⟨b1, k1⟩, _⟩ := hbf
  have m0 := cell_of_one (boxStays M10.out hB)
  refine Or.inl ⟨wanted_none rfl, ?_⟩
  rintro _ rfl
  go_simp <;> with_reducible rfl
 refine relG_call (i := 1) (o := ⟨some 30, _, _, _, _, _⟩) ((fun v _ => v = .agg #[.int .i64 3, .int .i64 0, .string labA, .int .i64 1, .int .i64 0, .string ⟨#[]⟩])) [] [] rfl rfl (by kernel_rfl) (by kernel_rfl) ((fun _ _ _ h _ => h)) ?_ ?_
 · intro t w1 hB hf hbf K hK
   clear hf
   clear hbf
   have m0 := cell_of_one (boxStays M10.out hB)
   refine ⟨wanted_none rfl, ?_⟩
   go_simp
   refine (at_11 3 ⟨#[]⟩ w1).mono ?_
   rintro e w2 ⟨rfl, hb⟩
   exact hK.out _ w2 (rfl) hb
 refine relG_pure (i := 2) (o := ⟨some 31, _, _, _, _, _⟩) (v := ?v2) [(1, 30, 0)] [] rfl rfl (by kernel_rfl) (by kernel_rfl) (fun t w1 hB hf hbf => ?y2) ?n2
 case y2 =>
  simp only [DepF, List.getD_cons_zero] at hf
  obtain ⟨⟨_, ⟨e30, i30⟩, rfl⟩, _⟩ := hf
  clear hbf
  have m0 := cell_of_one (boxStays M10.out hB)
  have fd := fld_st11 3 0 1 0 labA ⟨#[]⟩
  refine Or.inl ⟨wanted_none rfl, ?_⟩
  rintro _ rfl
  go_simp <;> with_reducible rfl
 refine relG_call (i := 3) (o := ⟨some 32, _, _, _, _, _⟩) ((fun v w' => ∃ m : Tr ByteArray, v = .tuple #[.agg #[.pointer (pa m)], .int .i64 0] ∧ AtS w' m ∧ Tag [atV 2 tX, atV 3 tX, atV 1 tY] m)) [(0, 29, 2), (2, 31, 0)] [] rfl rfl (by kernel_rfl) (by kernel_rfl) ((fun v w' w'' h hb => by obtain ⟨m, e1, e2, e3⟩ := h; exact ⟨m, e1, e2.below hb rfl, e3⟩)) ?_ ?_
 · intro t w1 hB hf hbf K hK
   simp only [DepF, List.getD_cons_zero, List.getD_cons_succ] at hf
   obtain ⟨⟨_, ⟨e29, i29⟩, rfl⟩, ⟨_, ⟨e31, i31⟩, rfl⟩, _⟩ := hf
   clear hbf
   have m0 := cell_of_one (boxStays M10.out hB)
   refine ⟨wanted_none rfl, ?_⟩
   go_simp
   refine (INS.out w1 hB).mono ?_
   rintro e w2 ⟨m, rfl, hm, hP, hb⟩
   exact hK.out _ w2 ((⟨m, rfl, hm, hP⟩)) hb
 refine relG_call (i := 4) (o := ⟨some 28, _, _, _, _, _⟩) ((fun v w' => ∃ m : Tr ByteArray, v = .tuple #[.agg #[.pointer (pa m)], .int .i64 0] ∧ AtS w' m ∧ Tag [atV 2 tX, atV 3 tX, atV 1 tY] m)) [(3, 32, 0)] [] rfl rfl (by kernel_rfl) (by kernel_rfl) ((fun v w' w'' h hb => by obtain ⟨m, e1, e2, e3⟩ := h; exact ⟨m, e1, e2.below hb rfl, e3⟩)) ?_ ?_
 · intro t w1 hB hf hbf K hK
   simp only [DepF, List.getD_cons_zero] at hf
   obtain ⟨⟨_, ⟨e32, i32⟩, ⟨m, rfl, hm, hmr⟩⟩, _⟩ := hf
   clear hbf
   have m0 := cell_of_one (boxStays M10.out hB)
   refine ⟨wanted_none rfl, ?_⟩
   go_simp
   exact hK.out _ _ (⟨m, rfl, hm, hmr⟩) (Below.refl _ _)
 refine relG_call (i := 5) (o := ⟨some 33, _, _, _, _, _⟩) ((fun v w' => ∃ m : Tr ByteArray, v = .agg #[.pointer (pa m)] ∧ AtS w' m ∧ Tag [atV 2 tX, atV 3 tX, atV 1 tY] m)) [(4, 28, 0)] [] rfl rfl (by kernel_rfl) (by kernel_rfl) ((fun v w' w'' h hb => by obtain ⟨m, e1, e2, e3⟩ := h; exact ⟨m, e1, e2.below hb rfl, e3⟩)) ?_ ?_
 · intro t w1 hB hf hbf K hK
   simp only [DepF, List.getD_cons_zero] at hf
   obtain ⟨⟨_, ⟨e28, i28⟩, ⟨m, rfl, hm, hmr⟩⟩, _⟩ := hf
   clear hbf
   have m0 := cell_of_one (boxStays M10.out hB)
   refine ⟨wanted_none rfl, ?_⟩
   go_simp
   exact hK.out _ _ (⟨m, rfl, hm, hmr⟩) (Below.refl _ _)
 refine relG_pure (i := 6) (o := ⟨some 34, _, _, _, _, _⟩) (v := ?v3) [(4, 28, 1)] [] rfl rfl (by kernel_rfl) (by kernel_rfl) (fun t w1 hB hf hbf => ?y3) ?n3
 case y3 =>
  simp only [DepF, List.getD_cons_zero, List.getD_cons_succ] at hf
  obtain ⟨⟨_, ⟨e28, i28⟩, ⟨m, rfl, hm, hmr⟩⟩, _⟩ := hf
  clear hbf
  have m0 := cell_of_one (boxStays M10.out hB)
  refine Or.inl ⟨wanted_none rfl, ?_⟩
  rintro _ rfl
  go_simp <;> with_reducible rfl
 refine relG_call (i := 7) (o := ⟨some 5, _, _, _, _, _⟩) ((fun v w' => ∃ b, v = .pointer (some ⟨b, 0, none⟩) ∧ w10.heap.size ≤ b ∧ w'.heap[b]? = some (.cells #[.pointer none] 27 (0, 0)))) [] [] rfl rfl (by kernel_rfl) (by kernel_rfl) ((fun v w' w'' h hb => by obtain ⟨b, e1, e2, e3⟩ := h; exact ⟨b, e1, e2, boxStays e3 hb⟩)) ?_ ?_
 · intro t w1 hB hf hbf K hK
   clear hf
   clear hbf
   have m0 := cell_of_one (boxStays M10.out hB)
   refine ⟨wanted_none rfl, ?_⟩
   go_simp
   exact hK.out _ _ (⟨_, rfl, hB.size, heap_alloc_new _ _⟩) (below_new _ _)
 refine relG_skip 8 rfl (by rfl) ?_ (by kernel_rfl)
 refine relG_pure (i := 9) (o := ⟨some 6, _, _, _, _, _⟩) (v := ?v4) [(6, 34, 2)] [] rfl rfl (by kernel_rfl) (by kernel_rfl) (fun t w1 hB hf hbf => ?y4) ?n4
 case y4 =>
  simp only [DepF, List.getD_cons_zero, List.getD_cons_succ] at hf
  obtain ⟨⟨_, ⟨e34, i34⟩, rfl⟩, _⟩ := hf
  clear hbf
  have m0 := cell_of_one (boxStays M10.out hB)
  refine Or.inl ⟨wanted_none rfl, ?_⟩
  rintro _ rfl
  go_simp <;> with_reducible rfl
 refine relG_own 8 5 7 33 5 [(0, 29, 9), (1, 30, 8), (2, 31, 7), (3, 32, 6), (4, 28, 5), (5, 33, 4), (6, 34, 3), (7, 5, 2), (9, 6, 0)] [(0, 29, 9), (1, 30, 8), (2, 31, 7), (3, 32, 6), (4, 28, 5), (5, 33, 4), (7, 5, 2)] (by kernel_rfl) rfl (by kernel_rfl) (by kernel_rfl) (by kernel_rfl) (by kernel_rfl) ?_ (fun f wE hB hf => ?_)
 · intro f w1 hB hf K hK
   simp only [FinF, List.getD_cons_zero, List.getD_cons_succ] at hf
   obtain ⟨⟨_, e29, rfl⟩, ⟨_, e30, rfl⟩, ⟨_, e31, rfl⟩, ⟨_, e32, ⟨m, rfl, hm, hmr⟩⟩, ⟨_, e28, ⟨m, rfl, hm, hmr⟩⟩, ⟨_, e33, ⟨n, rfl, hn, hnr⟩⟩, ⟨_, e5, ⟨bb, rfl, hbb, hbr⟩⟩, _⟩ := hf
   have m0 := cell_of_one (boxStays M10.out hB)
   refine sto_own (i := 8) 27 5 33 bb (#[.pointer (pa n)]) _ _ rfl rfl rfl rfl (by rfl) (by rfl) e5 (by rfl) (by rfl) e33 (hbr) (by kernel_rfl) rfl (mp_oneT _) hK
 simp only [FinF, List.getD_cons_zero, List.getD_cons_succ] at hf
 obtain ⟨⟨_, e29, rfl⟩, ⟨_, e30, rfl⟩, ⟨_, e31, rfl⟩, ⟨_, e32, ⟨m, rfl, hm, hmr⟩⟩, ⟨_, e28, ⟨m, rfl, hm, hmr⟩⟩, ⟨_, e33, ⟨n, rfl, hn, hnr⟩⟩, ⟨_, e34, rfl⟩, ⟨_, e5, ⟨bb, rfl, hbb, hbr⟩⟩, ⟨_, e6, rfl⟩, _⟩ := hf
 simp only [blkOf, Value.cells, regT, List.foldl_cons, List.foldl_nil, List.setIfInBounds_toArray, List.set_cons_zero, List.set_cons_succ, e29, e30, e31, e32, e28, e33, e34, e5, e6]
 clear e29 e30 e31 e32 e28 e33 e34 e5 e6
 rw [setRow_one hbr]
 have N7 := Lib.hid hnr
 have hn8 := hn.setBox hbr (by decide) 0 (.pointer (pa n))
 have hN8 := Boxed.set (t := 27) (.pointer (pa n)) hbr
 have hb8 := hB.setCell (p := ⟨bb, 0, none⟩) hbb (.pointer (pa n))
 have QA := Lib.hid hn8
 have QB := Lib.hid hN8
 have QC := Lib.hid hb8
 clear hn8 hN8 hb8 hB hn hnr hm hmr hbb hbr
 go_upto_region 4 with (fail)
 generalize wE.setCell ⟨bb, 0, none⟩ (.pointer (pa n)) = w11 at *
 have hb := QC.out
 have HN : Hid (w11.heap[bb]? = some (.cells #[.pointer (pa n)] 27 (0, 0))) := Lib.hid QB.out
 replace HC := Lib.hid (HC.out.push hb)
 clear hb
 have kN0 := cell_of_one HN.out
 go_wp2_with fail
 refine (rem_tag n tX _ QA.out N7.out (by simp) (by decide) (HG.out.below (HC.out.to w (by simp)))).mono ?_
 rintro e w12 ⟨o, rfl, ho, hor, _, hb⟩
 clear kN0
 replace HC := Lib.hid (HC.out.push hb)
 clear hb
 rw [k_fx]
 rw [k_nx] at hor
 have T12 := Lib.hid ho
 have R12 := Lib.hid hor
 clear ho hor
 try simp only [List.length_cons, List.length_nil, Nat.zero_add, Nat.reduceAdd]
 go_upto_region 5 with (fail)
 obtain ⟨c13, hc13⟩ : ∃ c, w12.heap.size = c := ⟨_, rfl⟩
 try rw [hc13]
 obtain ⟨w13, hw13⟩ : ∃ X, allocs w12 [.cells #[.pointer (pa o)] 27] = X := ⟨_, rfl⟩
 rw [show w12.alloc (.cells #[.pointer (pa o)] 27) = w13 from hw13]
 have hb : Below w12.heap.size w12 w13 := by rw [← hw13]; exact allocs_below _ _
 have HO : Hid (w13.heap[c13]? = some (.cells #[.pointer (pa o)] 27 (0, 0))) := Lib.hid (by have := allocs_get [.cells #[.pointer (pa o)] 27] w12 0 _ rfl; rw [hw13, hc13] at this; exact this)
 have Sc13 : Hid (w12.heap.size = c13) := Lib.hid hc13
 replace HC := Lib.hid (HC.out.push hb)
 clear hb hw13 hc13
 have kO0 := cell_of_one HO.out
 go_wp2_with fail
 refine (txt_tag o _ (T12.out.below (HC.out.to w12 (by simp)) rfl) R12.out (by simp)).mono ?_
 rintro e w14 ⟨vt, rfl, hb, hown⟩
 clear kO0
 replace HC := Lib.hid (HC.out.push hb)
 clear hb
 rw [k_g1] at hown
 have hl1 : (grpT [atV 1 tY]).length = 1 := by have := congrArg List.length k_g1; simpa using this
 rw [hl1] at hown
 obtain ⟨at14, ct14, rfl, _⟩ := own_slice hown
 have X14 : Hid (CellsAt w14 at14 (txV [tY])) := Lib.hid (CellsAt.ownN hown)
 clear hown hl1
 go_upto_region 6 with (fail)
 have kM0 := cell_of_one (boxStays HM.out (HC.out.to w5 (by simp)))
 go_wp2_with fail
 refine (txt_tag t _ (T4.out.below (HC.out.to w4 (by simp)) rfl) R4.out (by simp)).mono ?_
 rintro e w15 ⟨vt, rfl, hb, hown⟩
 clear kM0
 replace HC := Lib.hid (HC.out.push hb)
 clear hb
 rw [k_g2] at hown
 have hl2 : (grpT [atV 2 tX, atV 1 tY]).length = 2 := by have := congrArg List.length k_g2; simpa using this
 rw [hl2] at hown
 obtain ⟨at15, ct15, rfl, _⟩ := own_slice hown
 have X15 : Hid (CellsAt w15 at15 (txV [tX, tY])) := Lib.hid (CellsAt.ownN hown)
 clear hown hl2
 go_wp2_with fail
 refine (num_11 0 _).mono ?_
 rintro e _ ⟨rfl, rfl⟩
 go_wp2_with fail
 refine (num_11 0 _).mono ?_
 rintro e _ ⟨rfl, rfl⟩
 go_wp2_with fail
 refine (num_11 0 _).mono ?_
 rintro e _ ⟨rfl, rfl⟩
 go_wp2_with fail
 refine (num_11 0 _).mono ?_
 rintro e _ ⟨rfl, rfl⟩
 go_wp2_with fail
 refine (num_11 0 _).mono ?_
 rintro e _ ⟨rfl, rfl⟩
 go_wp2_with fail
 refine (num_11 2 _).mono ?_
 rintro e _ ⟨rfl, rfl⟩
 have kN0 := cell_of_one (boxStays HN.out (HC.out.to w11 (by simp)))
 go_wp2_with fail
 refine (tags_tag n tX _ (QA.out.below (HC.out.to w11 (by simp)) rfl) N7.out (by simp) (by decide) (HG.out.below (HC.out.to w (by simp)))).mono ?_
 rintro e w16 ⟨vt, rfl, hb, hown⟩
 clear kN0
 replace HC := Lib.hid (HC.out.push hb)
 clear hb
 rw [k_fx] at hown
 obtain ⟨a16, c16, rfl, _⟩ := own_slice hown
 clear hown
 try simp only [List.length_cons, List.length_nil, Nat.zero_add, Nat.reduceAdd]
 have kM0 := cell_of_one (boxStays HM.out (HC.out.to w5 (by simp)))
 go_wp2_with fail
 refine (has_tag t tZ _ (T4.out.below (HC.out.to w4 (by simp)) rfl) R4.out (by simp) (by decide) (HG.out.below (HC.out.to w (by simp)))).mono ?_
 rintro e w17 ⟨rfl, hb⟩
 clear kM0
 replace HC := Lib.hid (HC.out.push hb)
 clear hb
 rw [k_fz]
 have hd0 : decide (0 < ([] : List Ev).length) = false := rfl
 rw [hd0]
 go_wp2_with fail
 obtain ⟨c18, hc18⟩ : ∃ c, w17.heap.size = c := ⟨_, rfl⟩
 try rw [hc18]
 obtain ⟨w18, hw18⟩ : ∃ X, allocs w17 [.cells #[.string ⟨#[121]⟩] 9] = X := ⟨_, rfl⟩
 rw [show w17.alloc (.cells #[.string ⟨#[121]⟩] 9) = w18 from hw18]
 have hb : Below w17.heap.size w17 w18 := by rw [← hw18]; exact allocs_below _ _
 have HX : Hid (w18.heap[c18]? = some (.cells #[.string ⟨#[121]⟩] 9 (0, 0))) := Lib.hid (by have := allocs_get [.cells #[.string ⟨#[121]⟩] 9] w17 0 _ rfl; rw [hw18, hc18] at this; exact this)
 have Sc18 : Hid (w17.heap.size = c18) := Lib.hid hc18
 replace HC := Lib.hid (HC.out.push hb)
 clear hb hw18 hc18
 refine (ref9_SameTexts [tY] [tY] at14 (some ⟨c18, 0, none⟩) 1 1 ct14 1 _ (X14.out.below (HC.out.to w14 (by simp)) rfl) (cells_rowT HX.out) rfl rfl (by omega)).mono ?_
 rintro e w19 ⟨rfl, hb⟩
 replace HC := Lib.hid (HC.out.push hb)
 clear hb
 rw [decide_eq_true rfl]
 go_wp2_with fail
 obtain ⟨c20, hc20⟩ : ∃ c, w19.heap.size = c := ⟨_, rfl⟩
 try rw [hc20]
 obtain ⟨w20, hw20⟩ : ∃ X, allocs w19 [.cells #[.string ⟨#[120]⟩, .string ⟨#[121]⟩] 9] = X := ⟨_, rfl⟩
 rw [show w19.alloc (.cells #[.string ⟨#[120]⟩, .string ⟨#[121]⟩] 9) = w20 from hw20]
 have hb : Below w19.heap.size w19 w20 := by rw [← hw20]; exact allocs_below _ _
 have HY : Hid (w20.heap[c20]? = some (.cells #[.string ⟨#[120]⟩, .string ⟨#[121]⟩] 9 (0, 0))) := Lib.hid (by have := allocs_get [.cells #[.string ⟨#[120]⟩, .string ⟨#[121]⟩] 9] w19 0 _ rfl; rw [hw20, hc20] at this; exact this)
 have Sc20 : Hid (w19.heap.size = c20) := Lib.hid hc20
 replace HC := Lib.hid (HC.out.push hb)
 clear hb hw20 hc20
 refine (ref9_SameTexts [tX, tY] [tX, tY] at15 (some ⟨c20, 0, none⟩) 2 2 ct15 2 _ (X15.out.below (HC.out.to w15 (by simp)) rfl) (cells_rowT HY.out) rfl rfl (by omega)).mono ?_
 rintro e w21 ⟨rfl, hb⟩
 replace HC := Lib.hid (HC.out.push hb)
 clear hb
 rw [decide_eq_true rfl]
 go_wp2_with fail
 go_ret
 exact ⟨rfl, (HC.out.to w (by simp))⟩
end Go.Proofs.YtjlliohjeiclaaaGreatDoor
namespace Go.Proofs.YtjlliohjeiclaaaGreatDoor
open Go.RowKit Go.Sort St Pm Kn
attribute [local go_sem] Oper.semAt_some
theorem Tag.stb {l : List Ev} {t : Tr ByteArray} (h : Tag l t) : Stb l := by
 have h1 : l.Pairwise fun e f => klt e.2 f.2 = true ∨ (e.2 = f.2 ∧ e.1.st.lt f.1.st = true) := by
  have hs := h.srt
  rw [h.it] at hs
  have h2 := List.pairwise_map.1 hs
  refine List.Pairwise.imp_of_mem (fun {e f} he hf hk => ?_) h2
  have h3 := tag_lt (a := e) (b := f) (okV_iff.1 (h.ok e he)).1 (okV_iff.1 (h.ok f hf)).1
  have h4 : klt (tagK e) (tagK f) = true := hk
  rw [h3] at h4
  simpa using h4
 refine ⟨List.Pairwise.imp_of_mem (fun {e f} he hf hk e0 => ?_) h1, h1.imp fun {e f} hk => ?_⟩
 · subst e0
   rcases hk with hk | ⟨_, hk⟩
   · rw [klt_irrefl] at hk; cases hk
   · rw [lt_irrefl (Sv.ok_st (okV_iff.1 (h.ok e he)).1).1] at hk; cases hk
 · unfold evC RE elC firstC
   by_cases h0 : svC f.1 e.1 = 0
   · rw [if_pos h0, h0]
     have h5 : ¬ txtC f.2 e.2 < 0 := by
      unfold txtC
      rcases hk with hk | ⟨hk, _⟩
      · rw [klt_asymm hk]; simp [hk]
      · rw [hk, klt_irrefl]; simp
     simp [h5]
   · rw [if_neg h0]
theorem ins_none (a : Option Addr) (c : Nat) (fv : Value) (w : World) : Calls Tryz.prog 138 #[.slice a 0 c, .int .i64 0, .int .i64 0, fv] w fun e w' => e = .returned (.tuple #[]) ∧ w = w' := by
 go_enter Tryz.func138, Tryz.ntmps138
 go_wp2_with fail
 go_loopw [8] (fun i wr => i = .int .i64 1 ∧ w = wr) (fun _ _ => 0)
 case atStart => exact ⟨rfl, rfl⟩
 case round =>
  obtain ⟨rfl, rfl⟩ := hrel
  go_wp2_with fail
  go_end0
  exact ⟨rfl, rfl⟩
theorem stable_none (a : Option Addr) (c : Nat) (fv : Value) (w : World) : Calls Tryz.prog 105 #[.slice a 0 c, .int .i64 0, fv] w fun e w' => e = .returned (.tuple #[]) ∧ w = w' := by
 go_enter Tryz.func105, Tryz.ntmps105
 go_wp2_with fail
 go_loopw [7, 8] (fun i j wr => i = .int .i64 0 ∧ j = .int .i64 20 ∧ w = wr) (fun _ _ _ => 0)
 case atStart => exact ⟨rfl, rfl, rfl⟩
 case round =>
  obtain ⟨rfl, rfl, rfl⟩ := hrel
  go_wp2_with fail
  refine (ins_none a c fv w).mono ?_
  rintro e _ ⟨rfl, rfl⟩
  go_wp2_with fail
  go_loopw [6] (fun i wr => i = .int .i64 20 ∧ w = wr) (fun _ _ => 0)
  case atStart => exact ⟨rfl, rfl⟩
  case round =>
   obtain ⟨rfl, rfl⟩ := hrel
   go_wp2_with fail
   go_end0
   exact ⟨rfl, rfl⟩
theorem sl_SortStableNil (a : Option Addr) (c : Nat) (fv : Value) (w : World) : Calls Tryz.prog 61 #[.slice a 0 c, fv] w fun e w' => e = .returned (.tuple #[]) ∧ w = w' := by
 go_enter Tryz.func61, Tryz.ntmps61
 go_wp2_with fail
 refine (stable_none a c fv w).mono ?_
 rintro e _ ⟨rfl, rfl⟩
 go_wp2_with fail
 go_end0
 exact ⟨rfl, rfl⟩
theorem sort_any (l : List Ev) (a : Option Addr) (c base : Nat) (e0 : TypeId) (w : World) (hb : l.length ≤ 1000000) (hL : Stb l) (hown : w.ownsRow base e0 6 (.slice a l.length c) l.length (elsV l)) (hbase : base ≤ w.heap.size) :
 Calls Tryz.prog 61 #[.slice a l.length c, .func (.func 62) #[] #[]] w fun e w' => e = .returned (.tuple #[]) ∧ CellsAt w' a (elsV (sortV l)) ∧ Below base w w' := by
 by_cases h0 : l.length = 0
 · obtain rfl : l = [] := List.length_eq_zero_iff.1 h0
   refine (sl_SortStableNil a c _ w).mono ?_
   rintro e _ ⟨rfl, rfl⟩
   exact ⟨rfl, CellsAt.nil _ _, Below.refl _ _⟩
 · obtain ⟨g, cap, hv, hg, hgs, _, _⟩ := own_form hown (by omega)
   cases hv
   refine (sl_SortStable l g l.length c base e0 w rfl hb hL hown).mono ?_
   rintro e w' ⟨rfl, h1, h2⟩
   refine ⟨rfl, h1, h2.os, h2.tape, h2.output, h2.size, fun k hk => h2.block k (by omega) (fun e => ?_)⟩
   cases e
   omega
theorem el_tag {l : List Ev} (tr : Tr ByteArray) (w : World) (h : AtS w tr) (hT : Tag l tr) (hz : l.length ≤ 100000) :
 Calls Tryz.prog 20 #[.agg #[.pointer (pa tr)]] w fun e w' => ∃ (a : Option Addr) (c : Nat), e = .returned (.tuple #[.slice a l.length c, .int .i64 0]) ∧ Below w.heap.size w w' ∧ CellsAt w' a (elsV (sortV l)) := by
 have b1 := below_new w (.cells #[.pointer (pa tr)] 27)
 have C := Lib.hid (ts_ownB tr _ (h.below b1 rfl) (by rw [hT.len]; exact hz) hT.keysT)
 have B1 := Lib.hid b1
 have SRT : Hid (∀ (a : Option Addr) (c base : Nat) (W : World), W.ownsRow base 53 6 (.slice a l.length c) l.length (elsV l) → base ≤ W.heap.size → Calls Tryz.prog 61 #[.slice a l.length c, .func (.func 62) #[] #[]] W fun e w' => e = .returned (.tuple #[]) ∧ CellsAt w' a (elsV (sortV l)) ∧ Below base W w') := Lib.hid (fun a c base W h1 h2 => sort_any l a c base _ W (by omega) hT.stb h1 h2)
 have e1 : (items tr).length = l.length := by rw [hT.it, List.length_map]
 rw [hT.good, hT.dec, e1] at C
 clear h b1 e1 hT hz
 generalize l.length = n at *
 generalize sortV l = m at *
 go_enter Tryz.func20, Tryz.ntmps20
 go_wp2_with fail
 refine C.out.mono ?_
 rintro e w2 ⟨v, rfl, hb, h1, _⟩
 have hown := h1 (by first | rfl | trivial)
 obtain ⟨a, c, rfl, _⟩ := own_slice hown
 have OW := Lib.hid hown
 have HB := Lib.hid (B1.out.trans (hb.mono B1.out.size))
 have HS := Lib.hid hb.size
 clear h1 hb hown C
 go_wp2_with fail
 refine (SRT.out a c _ w2 OW.out HS.out).mono ?_
 rintro e w3 ⟨rfl, hc, hb⟩
 have HC := Lib.hid hc
 have HB3 := Lib.hid (HB.out.trans (hb.mono B1.out.size))
 clear hc hb
 go_wp2_with fail
 go_ret2
 exact ⟨a, c, rfl, HB3.out, HC.out⟩
end Go.Proofs.YtjlliohjeiclaaaGreatDoor
namespace Go.Proofs.YtjlliohjeiclaaaGreatDoor
open Go.RowKit
section
variable {P : Program} {md : Region.Mode} {ops : Array Oper} {Q : Exit → Act → World → Prop} {S : World → Prop} {T : List Nat}
def doneB (ops : Array Oper) (T : List Nat) (listed : Array Bool) : Bool := (List.range ops.size).all fun k => T.contains k || listed.getD k false
def anyT (P : Program) (md : Region.Mode) (ops : Array Oper) (Q : Exit → Act → World → Prop) (T : List Nat) (S : World → Prop) : Nat → Array Bool → Act → World → Prop
 | 0, listed, a, w => wpAny P md ops Q 0 listed a w
 | fuel + 1, listed, a, w => if doneB ops T listed = true then wpAny P md ops Q (fuel + 1) listed a w
  else (Region.ready md ops listed = [] → Q .normal a w) ∧ ∀ i ∈ Region.ready md ops listed, wpOp P ops Q i (fun a' w' => S w' ∧ anyT P md ops Q T S fuel (listed.setIfInBounds i true) a' w') a w
def AllReadyT (P : Program) (md : Region.Mode) (ops : Array Oper) (Q : Exit → Act → World → Prop) (T : List Nat) (S : World → Prop) (fuel : Nat) (listed : Array Bool) (a : Act) (w : World) (rs : List Nat) : Prop :=
 ∀ i ∈ rs, wpOp P ops Q i (fun a' w' => S w' ∧ anyT P md ops Q T S fuel (listed.setIfInBounds i true) a' w') a w
theorem AllReadyT.nil {fuel : Nat} {listed : Array Bool} {a : Act} {w : World} : AllReadyT P md ops Q T S fuel listed a w [] := fun _ h => by cases h
theorem AllReadyT.cons {fuel : Nat} {listed : Array Bool} {a : Act} {w : World} {i : Nat} {o : Oper} {rs : List Nat} (ho : ops[i]? = some o) (hw : Region.wanted o (yielded ops a.tmps) = true)
 (h : ∀ K' : Act → World → Prop, Shut (∀ a w, S w → (S w → anyT P md ops Q T S fuel (listed.setIfInBounds i true) a w) → K' a w) → Oper.wp P o a w K' Q)
 (hs : AllReadyT P md ops Q T S fuel listed a w rs) : AllReadyT P md ops Q T S fuel listed a w (i :: rs) := fun j hj => by
 rcases List.mem_cons.1 hj with rfl | hj
 · unfold wpOp
   simp only [ho]
   rw [if_pos hw]
   exact .inl (h _ (fun a w hS hW => ⟨hS, hW hS⟩))
 · exact hs j hj
end
end Go.Proofs.YtjlliohjeiclaaaGreatDoor
namespace Go.Proofs.YtjlliohjeiclaaaGreatDoor
open Go.RowKit Pm
def NodeMapS (W : World) (B : Nat) (ps : List Nat) : Prop :=
 ∃ (es : Array MapEntry) (clock : Nat), W.heap[B]? = some (.map es clock) ∧ es.toList.map (fun e => (e.key, e.val)) = ps.map fun b => (Value.pointer (some ⟨b, 0, none⟩), Value.bool true)
def NdsS (W : World) (ps : List Nat) : Prop := ∀ b ∈ ps, ∃ cs, W.heap[b]? = some (.cells cs 111 (0, 0))
theorem AtS.nds {w : World} {t : Tr ByteArray} (h : AtS w t) : NdsS w (blocks t) := by
 induction t with
 | nil => intro b hb; simp [blocks] at hb
 | node b l k v r ih1 ih2 =>
  obtain ⟨h1, h2, h3⟩ := h
  intro b' hb
  simp only [blocks, List.mem_append, List.mem_cons] at hb
  rcases hb with hb | rfl | hb
  · exact ih1 h2 b' hb
  · exact ⟨_, h1⟩
  · exact ih2 h3 b' hb
theorem ptr_equalS (w : World) (b b' : Nat) (h : NdsS w [b, b']) : (Op.equal 25 (.pointer (some ⟨b, 0, none⟩)) (.pointer (some ⟨b', 0, none⟩))).run Tryz.prog w = .ok (decide (b = b')) w := by
 have hp := Tryz.underlying25
 obtain ⟨j, hj, hs⟩ : ∃ j, Tryz.prog.info? 111 = some j ∧ j.size = 6 := by
  have h := infoNodeS
  cases hi : Tryz.prog.info? 111 with
  | none => rw [hi] at h; cases h
  | some j => rw [hi] at h; exact ⟨j, rfl, by simpa using h⟩
 obtain ⟨c1, h1⟩ := h b (by simp)
 obtain ⟨c2, h2⟩ := h b' (by simp)
 by_cases e : b = b'
 · subst e
   have h : ∀ d : Nat, (Op.equalIn (d + 1) 25 (.pointer (some ⟨b, 0, none⟩)) (.pointer (some ⟨b, 0, none⟩))).run Tryz.prog w = .ok true w := fun d => by
    simp [Op.equalIn, run_underlying hp, sizeOf, typeInfo, hj, run_sameAddr_same]
   simp [Op.equal, Op.maxDepth, h 9999]
 · have h : ∀ d : Nat, (Op.equalIn (d + 1) 25 (.pointer (some ⟨b, 0, none⟩)) (.pointer (some ⟨b', 0, none⟩))).run Tryz.prog w = .ok false w := fun d => by
    simp [Op.equalIn, run_underlying hp, sizeOf, typeInfo, hj, hs, run_sameAddr_other w (a := ⟨b, 0, none⟩) (b := ⟨b', 0, none⟩) (by simp [e]) h1 h2]
   simp [Op.equal, Op.maxDepth, h 9999, e]
theorem findAskingS (w : World) (b : Nat) : ∀ (es : List MapEntry) (ps : List Nat) (i : Nat), es.map (fun e => (e.key, e.val)) = ps.map (fun b => (Value.pointer (some ⟨b, 0, none⟩), Value.bool true)) → NdsS w (b :: ps) →
 (b ∉ ps ∧ (Instr.findAsking 25 (.pointer (some ⟨b, 0, none⟩)) es i).run Tryz.prog w = .ok none w) ∨ (b ∈ ps ∧ ∃ j, (Instr.findAsking 25 (.pointer (some ⟨b, 0, none⟩)) es i).run Tryz.prog w = .ok (some (j, .bool true)) w)
 | [], ps, i, h, _ => by
  have : ps = [] := by simpa using h.symm
  subst this
  exact .inl ⟨by simp, by simp [Instr.findAsking]⟩
 | e :: es, [], i, h, _ => by simp at h
 | e :: es, p :: ps, i, h, hn => by
  simp only [List.map_cons, List.cons.injEq, Prod.mk.injEq] at h
  obtain ⟨⟨hk, hv⟩, hr⟩ := h
  have he := ptr_equalS w b p (fun x hx => hn x (by simp at hx ⊢; rcases hx with h | h <;> simp [h]))
  by_cases e1 : b = p
  · subst e1
    refine .inr ⟨by simp, i, ?_⟩
    simp only [decide_true] at he
    simp [Instr.findAsking, hk, hv, he]
  · have hd : decide (b = p) = false := by simpa using e1
    rw [hd] at he
    rcases findAskingS w b es ps (i + 1) hr (fun x hx => hn x (by simp at hx ⊢; rcases hx with h | h <;> simp [h])) with ⟨h1, h2⟩ | ⟨h1, j, h2⟩
    · exact .inl ⟨by simp [e1, h1], by simp [Instr.findAsking, hk, he, h2]⟩
    · exact .inr ⟨by simp [h1], j, by simp [Instr.findAsking, hk, he, h2]⟩
theorem findKeyS (w : World) (b : Nat) (es : List MapEntry) (ps : List Nat) (h : es.map (fun e => (e.key, e.val)) = ps.map (fun b => (Value.pointer (some ⟨b, 0, none⟩), Value.bool true))) (hn : NdsS w (b :: ps)) :
 (b ∉ ps ∧ (Instr.findKey 25 (.pointer (some ⟨b, 0, none⟩)) es).run Tryz.prog w = .ok none w) ∨ (b ∈ ps ∧ ∃ j, (Instr.findKey 25 (.pointer (some ⟨b, 0, none⟩)) es).run Tryz.prog w = .ok (some (j, .bool true)) w) := by
 have hp := Tryz.underlying25
 cases es with
 | nil =>
  have : ps = [] := by simpa using h.symm
  subst this
  exact .inl ⟨by simp, by simp [Instr.findKey, run_underlying hp, Instr.findNow]⟩
 | cons e es =>
  have hs : ∀ v, Instr.sameNow (.pointer 111) (.pointer (some ⟨b, 0, none⟩)) v = none := fun v => by simp [Instr.sameNow]
  have hf : Instr.findNow (.pointer 111) (.pointer (some ⟨b, 0, none⟩)) (e :: es) 0 = none := by simp [Instr.findNow, hs]
  have := findAskingS w b (e :: es) ps 0 h hn
  simpa [Instr.findKey, run_underlying hp, hf] using this
theorem checkKeySS (w : World) (em : Bool) (n b : Nat) : (Instr.checkKey em (n + 1) 25 (.pointer (some ⟨b, 0, none⟩))).run Tryz.prog w = .ok () w := by
 have hp := Tryz.underlying25
 simp [Instr.checkKey, run_underlying hp]
theorem checkKeyNS (w : World) (em : Bool) (b : Nat) : (Instr.checkKey em 10000 25 (.pointer (some ⟨b, 0, none⟩))).run Tryz.prog w = .ok () w := checkKeySS w em 9999 b
theorem nodeMap_lookS {w : World} {B : Nat} {ps : List Nat} (h : NodeMapS w B ps) (b : Nat) (hn : NdsS w (b :: ps)) :
 (Instr.lookup 206 (.map (some B)) (.pointer (some ⟨b, 0, none⟩)) false).run Tryz.prog w = .ok (.bool (decide (b ∈ ps))) w := by
 obtain ⟨es, clock, hB, he⟩ := h
 have hm := Tryz.underlying206
 have hz : (zeroValue 4).run Tryz.prog w = .ok (.bool false) w := by kernel_rfl
 have hc := checkKeyNS w es.isEmpty b
 rcases findKeyS w b es.toList ps he hn with ⟨h1, h2⟩ | ⟨h1, j, h2⟩
 · unfold Instr.lookup
   simp [run_underlying hm, Go.MapKept.run_getObj_map hB, hc, h2, hz, h1]
 · unfold Instr.lookup
   simp [run_underlying hm, Go.MapKept.run_getObj_map hB, hc, h2, h1]
theorem nodeMap_putS {w : World} {B : Nat} {ps : List Nat} (h : NodeMapS w B ps) (b : Nat) (hn : NdsS w (b :: ps)) (hb : b ∉ ps) :
 ∃ o, (Instr.mapUpdate 206 (.map (some B)) (.pointer (some ⟨b, 0, none⟩)) (.bool true)).run Tryz.prog w = .ok () (w.putObj B o) ∧ NodeMapS (w.putObj B o) B (ps ++ [b]) := by
 obtain ⟨es, clock, hB, he⟩ := h
 have hm := Tryz.underlying206
 have hc := checkKeyNS w false b
 rcases findKeyS w b es.toList ps he hn with ⟨h1, h2⟩ | ⟨h1, j, h2⟩
 · refine ⟨.map (es.push { key := .pointer (some ⟨b, 0, none⟩), val := .bool true, born := clock }) (clock + 1), ?_, ?_⟩
   · unfold Instr.mapUpdate
     simp [run_underlying hm, Go.MapKept.run_getObj_map hB, Go.MapKept.run_setObj_map _ hB, hc, h2]
     rfl
   · exact ⟨_, _, World.putObj_heap_same (Array.getElem?_eq_some_iff.1 hB).1, by simp [he]⟩
 · exact absurd h1 hb
end Go.Proofs.YtjlliohjeiclaaaGreatDoor
namespace Go.Proofs.YtjlliohjeiclaaaGreatDoor
open Go.RowKit Pm
attribute [local go_sem] Oper.semAt_some
def Pm.blkOfS : Tr ByteArray → Nat
 | .nil => 0
 | .node b _ _ _ _ => b
theorem nodesL_nodeS : ∀ (t : Tr ByteArray) (x : Tr ByteArray), x ∈ nodesLS t → ∃ b l k v r, x = .node b l k v r ∧ b ∈ blocks t
 | .nil, x, h => by simp [nodesLS] at h
 | .node b l k v r, x, h => by
  simp only [nodesLS, List.mem_append, List.mem_singleton] at h
  rcases h with (h | h) | h
  · obtain ⟨b', l', k', v', r', e, hb⟩ := nodesL_nodeS l x h
    exact ⟨b', l', k', v', r', e, by simp [blocks, hb]⟩
  · obtain ⟨b', l', k', v', r', e, hb⟩ := nodesL_nodeS r x h
    exact ⟨b', l', k', v', r', e, by simp [blocks, hb]⟩
  · exact ⟨b, l, k, v, r, h, by simp [blocks]⟩
theorem nodesL_permS : ∀ (t : Tr ByteArray), ((nodesLS t).map blkOfS).Perm (blocks t)
 | .nil => .nil
 | .node b l k v r => by
  simp only [nodesLS, blocks, List.map_append, List.map_cons, List.map_nil]
  have h1 := nodesL_permS l
  have h2 := nodesL_permS r
  have h3 : ((nodesLS r).map blkOfS ++ [b]).Perm (b :: blocks r) := (List.perm_append_comm (l₁ := (nodesLS r).map blkOfS) (l₂ := [b])).trans (h2.cons b)
  rw [List.append_assoc]
  exact h1.append h3
end Go.Proofs.YtjlliohjeiclaaaGreatDoor
namespace Go.Proofs.YtjlliohjeiclaaaGreatDoor
open Go.RowKit Pm
def prtVS (p : ByteArray × Bool) : Value := .agg #[.string p.1, .bool p.2]
def keepFS (p q r : ByteArray × Bool) : ByteArray × Bool := if q.2 && r.2 then (q.1, true) else if q.2 && !p.2 then (q.1, true) else if r.2 && !q.2 && !p.2 then (r.1, true) else ((⟨#[]⟩ : ByteArray), false)
def prtTS (t : Tr ByteArray) (k : ByteArray) : ByteArray × Bool := (valOr (seek k t), isNS (seek k t))
theorem prtT_lkS {t : Tr ByteArray} {k : ByteArray} (hs : Srt (items t)) : prtTS t k = lk (⟨#[]⟩ : ByteArray) (items t) k := by
 unfold prtTS
 cases e : seek k t with
 | nil => rw [lk_none (seek_none hs e)]; rfl
 | node b l k0 v0 r =>
  obtain ⟨rfl, h⟩ := seek_some e
  rw [lk_mem hs h]; rfl
set_option maxRecDepth 100000 in
set_option maxHeartbeats 2000000 in
theorem wk_KeepS (key : ByteArray) (p q r : ByteArray × Bool) (w : World) :
 Calls Tryz.prog 114 #[.string key, prtVS p, prtVS q, prtVS r] w fun e w' => e = .returned (.tuple #[.string (keepFS p q r).1, .bool (keepFS p q r).2]) ∧ Below w.heap.size w w' := by
 obtain ⟨p1, p2⟩ := p
 obtain ⟨q1, q2⟩ := q
 obtain ⟨r1, r2⟩ := r
 unfold prtVS
 have hb : Below w.heap.size w (((w.alloc (.cells #[.string p1, .bool p2] 203)).alloc (.cells #[.string q1, .bool q2] 203)).alloc (.cells #[.string r1, .bool r2] 203)) := (((Below.refl _ w).alloc (Nat.le_refl _) _).alloc (by simp) _).alloc (by simp; omega) _
 have HB := Lib.hid hb
 clear hb
 cases p2 <;> cases q2 <;> cases r2
 all_goals
  go_enter Tryz.func114, Tryz.ntmps114
  go_wp2_with fail
  go_ret2
  exact ⟨by simp [keepFS], HB.out⟩
end Go.Proofs.YtjlliohjeiclaaaGreatDoor
namespace Go.Proofs.YtjlliohjeiclaaaGreatDoor
open Go.RowKit Pm
theorem join_ok_ofS {a r : Tr ByteArray} {k : ByteArray} {v : ByteArray} (h : Srt (items a ++ (k, v) :: items r)) : joinOKS a k r := by
 obtain ⟨_, h2, h3⟩ := srt_append.1 h
 obtain ⟨h4, _⟩ := srt_cons.1 h2
 refine ⟨fun hn => ?_, fun hn => ?_⟩
 · by_cases ha : a = .nil
   · subst ha; cases hn
   · obtain ⟨b, l, k1, v1, r1, e, g⟩ := endR_items a ha
     rw [e]
     exact h3 (k1, v1) (List.mem_of_getElem? g) _ List.mem_cons_self
 · by_cases hr : r = .nil
   · subst hr; cases hn
   · obtain ⟨b, l, k1, v1, r1, e, g⟩ := endL_items r hr
     rw [e]
     exact h4 (k1, v1) (List.mem_of_getElem? g)
theorem del_firstS {k : ByteArray} {v : ByteArray} {l : List (ByteArray × ByteArray)} (h : Srt ((k, v) :: l)) : del k ((k, v) :: l) = l := by
 rw [del_here]
 exact del_none fun x hx e => by
  have := (srt_cons.1 h).1 x hx
  rw [e, klt_irrefl] at this
  cases this
theorem made_at8S {w1 w2 : World} {o : Obj} (hw : w2 = w1.alloc o) : ∃ c, w1.heap.size = c ∧ w2.heap[c]? = some o := ⟨_, rfl, by rw [hw]; exact heap_alloc_new w1 o⟩
set_option maxRecDepth 100000 in
set_option maxHeartbeats 4000000 in
theorem wk_putS (a b : Tr ByteArray) (N : Nat) (w : World) (hN : N ≤ w.heap.size) (ha : AtS w a) (hb : AtS w b) (ba : Bal a) (bb : Bal b) (hs : Srt (items a ++ items b)) (hz : sz a + sz b ≤ 1073741824) :
 Calls Tryz.prog 149 #[.agg #[.pointer (pa a)], .agg #[.pointer (pa b)]] w fun e w' => ∃ m : Tr ByteArray, e = .returned (.agg #[.pointer (pa m)]) ∧ items m = items a ++ items b ∧ Bal m ∧ AtS w' m ∧ Below w.heap.size w w' := by
 obtain ⟨w1, hw1⟩ : ∃ w1, ((w.alloc (.cells #[.pointer (pa a)] 27)).alloc (.cells #[.pointer (pa b)] 27)).alloc (.cells #[.pointer none] 27) = w1 := ⟨_, rfl⟩
 have hb1 : Below w.heap.size w w1 := by rw [← hw1]; exact (((Below.refl _ w).alloc (Nat.le_refl _) _).alloc (by simp) _).alloc (by simp; omega) _
 have x0 : w1.heap[w.heap.size]? = some (.cells #[.pointer (pa a)] 27 (0, 0)) := by rw [← hw1]; exact boxStays (boxStays (heap_alloc_new w _) (below_new _ _)) (below_new _ _)
 have x1 : w1.heap[w.heap.size + 1]? = some (.cells #[.pointer (pa b)] 27 (0, 0)) := by
  rw [← hw1]
  have := heap_alloc_new (w.alloc (.cells #[.pointer (pa a)] 27)) (.cells #[.pointer (pa b)] 27)
  exact boxStays (by simpa using this) (below_new _ _)
 have x2 : w1.heap[w.heap.size + 1 + 1]? = some (.cells #[.pointer none] 27 (0, 0)) := by
  rw [← hw1]
  have := heap_alloc_new ((w.alloc (.cells #[.pointer (pa a)] 27)).alloc (.cells #[.pointer (pa b)] 27)) (.cells #[.pointer none] 27)
  simpa using this
 have X0 := Lib.hid x0
 have X1 := Lib.hid x1
 have X2 := Lib.hid x2
 have HA := Lib.hid (ha.below hb1 rfl)
 have HBt := Lib.hid (hb.below hb1 rfl)
 have HB := Lib.hid hb1
 have HW := Lib.hid hw1
 have BA := Lib.hid ba
 have BB := Lib.hid bb
 have HS := Lib.hid hs
 clear ha hb hb1 hw1 x0 x1 x2 ba bb hs
 have k1 := cell_of_one X1.out
 go_enter Tryz.func149, Tryz.ntmps149
 go_wp2_with fail
 rw [HW.out]
 refine (pm_MFirstS b w1 HBt.out).mono ?_
 rintro e w2 ⟨rfl, hb⟩
 have D2 := Lib.hid (HB.out.trans (hb.mono HB.out.size))
 have A2 := Lib.hid (HA.out.below hb rfl)
 have B2 := Lib.hid (HBt.out.below hb rfl)
 have Y0 := Lib.hid (boxStays X0.out hb)
 have Y1 := Lib.hid (boxStays X1.out hb)
 have Y2 := Lib.hid (boxStays X2.out hb)
 clear hb k1 X0 X1 X2 HA HBt HB HW
 by_cases hbn : b = .nil
 · subst hbn
   have hn : isNS (endL (.nil : Tr ByteArray)) = false := rfl
   rw [hn]
   clear hn
   have k0 := cell_of_one Y0.out
   have k2 := cell_of_one Y2.out
   have f2 := frozen_of_row _ (w.heap.size + 1 + 1) 0 _ _ Y2.out
   go_wp2_with fail
   have k3 := cell_of_one (heap_setCell_same w2 (w.heap.size + 1 + 1) 0 _ _ (.pointer (pa a)) Y2.out)
   refine bodyPost_ret (v := .agg #[.pointer (pa a)]) (by simp [results, Tryz.results149, go_sem, k3]) rfl ?_
   exact ⟨a, rfl, by simp [items], BA.out, A2.out.setBox Y2.out (by decide) 0 _, D2.out.setCell (p := ⟨w.heap.size + 1 + 1, 0, none⟩) (by simp; omega) _⟩
 · obtain ⟨bb', lb, k, v, rb, eb, gb⟩ := endL_items b hbn
   have hrest : ∃ rest, items b = (k, v) :: rest := by
    cases hib : items b with
    | nil => rw [hib] at gb; simp at gb
    | cons y rest => rw [hib] at gb; simp at gb; subst gb; exact ⟨rest, rfl⟩
   obtain ⟨rest, hrest⟩ := hrest
   have HR := Lib.hid hrest
   have HBN := Lib.hid hbn
   have e1 : keyOr (endL b) = k := by rw [eb]; rfl
   have e2 : valOr (endL b) = v := by rw [eb]; rfl
   have e3 : isNS (endL b) = true := by rw [eb]; rfl
   rw [e1, e2, e3]
   clear e1 e2 e3 eb gb hrest hbn
   go_wp2_with fail
   obtain ⟨s6, hs6⟩ : ∃ s, w2.heap.size = s := ⟨_, rfl⟩
   have HZB : Hid (s6 ≤ w2.heap.size) := Lib.hid (Nat.le_of_eq hs6.symm)
   have HS6 := Lib.hid hs6
   clear hs6
   have CT : Hid (∀ W : World, Below s6 w2 W → Calls Tryz.prog 66 #[.agg #[.pointer (pa b)], .string k] W fun e w' => ∃ t', e = .returned (.agg #[.pointer (pa t')]) ∧ (items t' = rest ∧ Bal t' ∧ sz t' ≤ sz b) ∧ AtS w' t' ∧ Below W.heap.size W w') := Lib.hid (fun W h => by
    have h' := h.mono (Nat.le_of_eq HS6.out)
    refine (pm_MTakeS b k N W (Nat.le_trans (Nat.le_trans hN D2.out.size) h'.size) (B2.out.below h' rfl) (by omega)).mono ?_
    rintro e w' ⟨t', hP, rfl, hA, hB⟩
    have hsb : Srt (items b) := (srt_append.1 HS.out).2.1
    have hsk : seek k b ≠ .nil := fun e => seek_none hsb e (k, v) (by rw [HR.out]; exact List.mem_cons_self) rfl
    rcases hP with ⟨h1, _⟩ | ⟨_, h1⟩
    · exact absurd h1 hsk
    · have hi := h1.items hsb
      rw [HR.out] at hi hsb
      rw [del_firstS hsb] at hi
      refine ⟨t', rfl, ⟨hi, (h1.bal BB.out).1, ?_⟩, hA, hB⟩
      rw [← sz_items, ← sz_items b, hi, HR.out]
      simp)
   refine wp_region_noPanic ?_
   refine wp_region_held_drew (S := fun w' => Below s6 w2 w') (by kernel_rfl) (Below.refl _ _).drew (fun hS => ?_)
   refine tk (i := 0) (oi := ⟨some 20, _, _, _, _, _⟩) (v := ?_) rfl (Or.inl ⟨by rfl, ?_⟩) hS ?_
   rotate_left 1
   · intro w' hB; have hr := hB.mono (Nat.le_of_eq HS6.out); have k0 := cell_of_one (boxStays Y0.out hr); have k1 := cell_of_one (boxStays Y1.out hr); clear hr; (go_simp <;> with_reducible rfl)
   try simp only [Act.put, zA, zB, zC]
   refine tk (i := 1) (oi := ⟨some 21, _, _, _, _, _⟩) (v := ?_) rfl (Or.inl ⟨by rfl, ?_⟩) hS ?_
   rotate_left 1
   · intro w' hB; (go_simp <;> with_reducible rfl)
   try simp only [Act.put, zA, zB, zC]
   refine tk (i := 2) (oi := ⟨some 22, _, _, _, _, _⟩) (v := ?_) rfl (Or.inl ⟨by rfl, ?_⟩) hS ?_
   rotate_left 1
   · intro w' hB; (go_simp <;> with_reducible rfl)
   try simp only [Act.put, zA, zB, zC]
   refine tk (i := 3) (oi := ⟨some 23, _, _, _, _, _⟩) (v := ?_) rfl (Or.inl ⟨by rfl, ?_⟩) hS ?_
   rotate_left 1
   · intro w' hB; have hr := hB.mono (Nat.le_of_eq HS6.out); have k0 := cell_of_one (boxStays Y0.out hr); have k1 := cell_of_one (boxStays Y1.out hr); clear hr; (go_simp <;> with_reducible rfl)
   try simp only [Act.put, zA, zB, zC]
   refine tk (i := 4) (oi := ⟨some 24, _, _, _, _, _⟩) (v := ?_) rfl (Or.inl ⟨by rfl, ?_⟩) hS ?_
   rotate_left 1
   · intro w' hB; (go_simp <;> with_reducible rfl)
   try simp only [Act.put, zA, zB, zC]
   refine wpAnyH_ready (rs := [5, 10]) (by kernel_rfl) (by simp) (AllReadyH.cons (o := ⟨some 25, _, _, _, _, _⟩) rfl (fun K hK => ?way2) (AllReadyH.cons (o := ⟨some 8, _, _, _, _, _⟩) rfl (fun K hK => ?way1) AllReadyH.nil))
   case' way2 =>
    go_simp
    refine (CT.out _ hS).mono ?_
    rintro e w7 ⟨t', rfl, hP, hA, hb⟩
    refine hK.out _ _ (hS.trans (hb.mono (Nat.le_trans HZB.out hS.size))) (fun _ => ?_)
    clear hK K
    replace hS := hS.trans (hb.mono (Nat.le_trans HZB.out hS.size))
    have P1 := Lib.hid hP
    have A7 := Lib.hid hA
    clear hP hA
    (try replace XY := Lib.hid (boxStays XY.out hb))
    clear hb
    try simp only [Act.put, zA, zB, zC]
    refine wpAnyH_ready (rs := [6, 10]) (by kernel_rfl) (by simp) (AllReadyH.cons (o := ⟨some 26, _, _, _, _, _⟩) rfl (fun K hK => ?way4) (AllReadyH.cons (o := ⟨some 8, _, _, _, _, _⟩) rfl (fun K hK => ?way3) AllReadyH.nil))
    case' way4 =>
     go_simp
     refine (pm_JoinS a t' k v N _ (Nat.le_trans (Nat.le_trans hN D2.out.size) (hS.mono (Nat.le_of_eq HS6.out)).size) (A2.out.below (hS.mono (Nat.le_of_eq HS6.out)) rfl) A7.out (by have := P1.out.2.2; omega)).mono ?_
     rintro e w8 ⟨m, nn, hJ, rfl, hA, hb⟩
     refine hK.out _ _ (hS.trans (hb.mono (Nat.le_trans HZB.out hS.size))) (fun _ => ?_)
     clear hK K
     replace hS := hS.trans (hb.mono (Nat.le_trans HZB.out hS.size))
     have P2 := Lib.hid hJ
     have A8 := Lib.hid hA
     clear hJ hA
     (try replace XY := Lib.hid (boxStays XY.out hb))
     clear hb
     try simp only [Act.put, zA, zB, zC]
     refine tk (i := 7) (oi := ⟨some 19, _, _, _, _, _⟩) (v := ?_) rfl (Or.inl ⟨by rfl, ?_⟩) hS ?_
     rotate_left 1
     · intro w' hB; (go_simp <;> with_reducible rfl)
     try simp only [Act.put, zA, zB, zC]
     refine tk (i := 8) (oi := ⟨some 27, _, _, _, _, _⟩) (v := ?_) rfl (Or.inl ⟨by rfl, ?_⟩) hS ?_
     rotate_left 1
     · intro w' hB; have hr := hB.mono (Nat.le_of_eq HS6.out); have k0 := cell_of_one (boxStays Y0.out hr); have k1 := cell_of_one (boxStays Y1.out hr); clear hr; (go_simp <;> with_reducible rfl)
     try simp only [Act.put, zA, zB, zC]
     refine tk (i := 9) (oi := ⟨some 28, _, _, _, _, _⟩) (v := ?_) rfl (Or.inl ⟨by rfl, ?_⟩) hS ?_
     rotate_left 1
     · intro w' hB; have hr := hB.mono (Nat.le_of_eq HS6.out); have k0 := cell_of_one (boxStays Y0.out hr); have k1 := cell_of_one (boxStays Y1.out hr); clear hr; (go_simp <;> with_reducible rfl)
     try simp only [Act.put, zA, zB, zC]
     refine wpAnyH_ready (rs := [10]) (by kernel_rfl) (by simp) (AllReadyH.cons (o := ⟨some 8, _, _, _, _, _⟩) rfl (fun K hK => ?_) AllReadyH.nil)
     go_simp
     refine hK.out _ _ (hS.alloc (Nat.le_trans HZB.out hS.size) _) (fun _ => ?_)
     clear hK K
     refine wpAnyH_madeK hS (Nat.le_trans HZB.out hS.size) ?_
     have hS0 := hS
     clear hS
     rintro w9 hw hS
     obtain ⟨c8, hc8, hx8⟩ := made_at8S hw
     have G8 : Hid (s6 ≤ c8) := Lib.hid (by have h2 := hS0.size; have h3 := HZB.out; rw [hc8] at h2; omega)
     (try simp at hc8)
     rw [hc8]
     have XY := Lib.hid hx8
     (try replace A7 := Lib.hid (A7.out.below (show Below _ _ w9 by rw [hw]; exact below_new _ _) rfl))
     (try replace A8 := Lib.hid (A8.out.below (show Below _ _ w9 by rw [hw]; exact below_new _ _) rfl))
     clear hc8 hx8
     clear hw hS0
     try simp only [Act.put, zA, zB, zC]
     refine wpAnyH_ready (rs := [11]) (by kernel_rfl) (by simp) (AllReadyH.cons (o := ⟨none, _, _, _, _, _⟩) rfl (fun K hK => ?_) AllReadyH.nil)
     have k19 := cell_of_one XY.out
     have f19 := frozen_of_row _ c8 0 _ _ XY.out
     replace hS := hS.setCell (p := ⟨c8, 0, none⟩) (by simpa using G8.out) (Value.pointer (pa m))
     go_simp
     refine hK.out _ _ hS (fun _ => ?_)
     clear hK K k19 f19
     try simp only [Act.put, zA, zB, zC]
     refine tk (i := 12) (oi := ⟨some 9, _, _, _, _, _⟩) (v := ?_) rfl (Or.inl ⟨by rfl, ?_⟩) hS ?_
     rotate_left 1
     · intro w' hB; have hr := hB.mono (Nat.le_of_eq HS6.out); have k0 := cell_of_one (boxStays Y0.out hr); have k1 := cell_of_one (boxStays Y1.out hr); clear hr; (go_simp <;> with_reducible rfl)
     try simp only [Act.put, zA, zB, zC]
     refine wpAnyH_done (by kernel_rfl) (NoPanic.normal ?_) _
    case' way3 =>
     go_simp
     refine hK.out _ _ (hS.alloc (Nat.le_trans HZB.out hS.size) _) (fun _ => ?_)
     clear hK K
     refine wpAnyH_madeK hS (Nat.le_trans HZB.out hS.size) ?_
     have hS0 := hS
     clear hS
     rintro w9 hw hS
     obtain ⟨c8, hc8, hx8⟩ := made_at8S hw
     have G8 : Hid (s6 ≤ c8) := Lib.hid (by have h2 := hS0.size; have h3 := HZB.out; rw [hc8] at h2; omega)
     (try simp at hc8)
     rw [hc8]
     have XY := Lib.hid hx8
     (try replace A7 := Lib.hid (A7.out.below (show Below _ _ w9 by rw [hw]; exact below_new _ _) rfl))
     (try replace A8 := Lib.hid (A8.out.below (show Below _ _ w9 by rw [hw]; exact below_new _ _) rfl))
     clear hc8 hx8
     clear hw hS0
     try simp only [Act.put, zA, zB, zC]
     refine wpAnyH_ready (rs := [6]) (by kernel_rfl) (by simp) (AllReadyH.cons (o := ⟨some 26, _, _, _, _, _⟩) rfl (fun K hK => ?_) AllReadyH.nil)
     go_simp
     refine (pm_JoinS a t' k v N _ (Nat.le_trans (Nat.le_trans hN D2.out.size) (hS.mono (Nat.le_of_eq HS6.out)).size) (A2.out.below (hS.mono (Nat.le_of_eq HS6.out)) rfl) A7.out (by have := P1.out.2.2; omega)).mono ?_
     rintro e w8 ⟨m, nn, hJ, rfl, hA, hb⟩
     refine hK.out _ _ (hS.trans (hb.mono (Nat.le_trans HZB.out hS.size))) (fun _ => ?_)
     clear hK K
     replace hS := hS.trans (hb.mono (Nat.le_trans HZB.out hS.size))
     have P2 := Lib.hid hJ
     have A8 := Lib.hid hA
     clear hJ hA
     (try replace XY := Lib.hid (boxStays XY.out hb))
     clear hb
     try simp only [Act.put, zA, zB, zC]
     refine tk (i := 7) (oi := ⟨some 19, _, _, _, _, _⟩) (v := ?_) rfl (Or.inl ⟨by rfl, ?_⟩) hS ?_
     rotate_left 1
     · intro w' hB; (go_simp <;> with_reducible rfl)
     try simp only [Act.put, zA, zB, zC]
     refine tk (i := 8) (oi := ⟨some 27, _, _, _, _, _⟩) (v := ?_) rfl (Or.inl ⟨by rfl, ?_⟩) hS ?_
     rotate_left 1
     · intro w' hB; have hr := hB.mono (Nat.le_of_eq HS6.out); have k0 := cell_of_one (boxStays Y0.out hr); have k1 := cell_of_one (boxStays Y1.out hr); clear hr; (go_simp <;> with_reducible rfl)
     try simp only [Act.put, zA, zB, zC]
     refine tk (i := 9) (oi := ⟨some 28, _, _, _, _, _⟩) (v := ?_) rfl (Or.inl ⟨by rfl, ?_⟩) hS ?_
     rotate_left 1
     · intro w' hB; have hr := hB.mono (Nat.le_of_eq HS6.out); have k0 := cell_of_one (boxStays Y0.out hr); have k1 := cell_of_one (boxStays Y1.out hr); clear hr; (go_simp <;> with_reducible rfl)
     try simp only [Act.put, zA, zB, zC]
     refine wpAnyH_ready (rs := [11]) (by kernel_rfl) (by simp) (AllReadyH.cons (o := ⟨none, _, _, _, _, _⟩) rfl (fun K hK => ?_) AllReadyH.nil)
     have k19 := cell_of_one XY.out
     have f19 := frozen_of_row _ c8 0 _ _ XY.out
     replace hS := hS.setCell (p := ⟨c8, 0, none⟩) (by simpa using G8.out) (Value.pointer (pa m))
     go_simp
     refine hK.out _ _ hS (fun _ => ?_)
     clear hK K k19 f19
     try simp only [Act.put, zA, zB, zC]
     refine tk (i := 12) (oi := ⟨some 9, _, _, _, _, _⟩) (v := ?_) rfl (Or.inl ⟨by rfl, ?_⟩) hS ?_
     rotate_left 1
     · intro w' hB; have hr := hB.mono (Nat.le_of_eq HS6.out); have k0 := cell_of_one (boxStays Y0.out hr); have k1 := cell_of_one (boxStays Y1.out hr); clear hr; (go_simp <;> with_reducible rfl)
     try simp only [Act.put, zA, zB, zC]
     refine wpAnyH_done (by kernel_rfl) (NoPanic.normal ?_) _
   case' way1 =>
    go_simp
    refine hK.out _ _ (hS.alloc (Nat.le_trans HZB.out hS.size) _) (fun _ => ?_)
    clear hK K
    refine wpAnyH_madeK hS (Nat.le_trans HZB.out hS.size) ?_
    have hS0 := hS
    clear hS
    rintro w9 hw hS
    obtain ⟨c8, hc8, hx8⟩ := made_at8S hw
    have G8 : Hid (s6 ≤ c8) := Lib.hid (by have h2 := hS0.size; have h3 := HZB.out; rw [hc8] at h2; omega)
    (try simp at hc8)
    rw [hc8]
    have XY := Lib.hid hx8
    (try replace A7 := Lib.hid (A7.out.below (show Below _ _ w9 by rw [hw]; exact below_new _ _) rfl))
    (try replace A8 := Lib.hid (A8.out.below (show Below _ _ w9 by rw [hw]; exact below_new _ _) rfl))
    clear hc8 hx8
    clear hw hS0
    try simp only [Act.put, zA, zB, zC]
    refine wpAnyH_ready (rs := [5]) (by kernel_rfl) (by simp) (AllReadyH.cons (o := ⟨some 25, _, _, _, _, _⟩) rfl (fun K hK => ?_) AllReadyH.nil)
    go_simp
    refine (CT.out _ hS).mono ?_
    rintro e w7 ⟨t', rfl, hP, hA, hb⟩
    refine hK.out _ _ (hS.trans (hb.mono (Nat.le_trans HZB.out hS.size))) (fun _ => ?_)
    clear hK K
    replace hS := hS.trans (hb.mono (Nat.le_trans HZB.out hS.size))
    have P1 := Lib.hid hP
    have A7 := Lib.hid hA
    clear hP hA
    (try replace XY := Lib.hid (boxStays XY.out hb))
    clear hb
    try simp only [Act.put, zA, zB, zC]
    refine wpAnyH_ready (rs := [6]) (by kernel_rfl) (by simp) (AllReadyH.cons (o := ⟨some 26, _, _, _, _, _⟩) rfl (fun K hK => ?_) AllReadyH.nil)
    go_simp
    refine (pm_JoinS a t' k v N _ (Nat.le_trans (Nat.le_trans hN D2.out.size) (hS.mono (Nat.le_of_eq HS6.out)).size) (A2.out.below (hS.mono (Nat.le_of_eq HS6.out)) rfl) A7.out (by have := P1.out.2.2; omega)).mono ?_
    rintro e w8 ⟨m, nn, hJ, rfl, hA, hb⟩
    refine hK.out _ _ (hS.trans (hb.mono (Nat.le_trans HZB.out hS.size))) (fun _ => ?_)
    clear hK K
    replace hS := hS.trans (hb.mono (Nat.le_trans HZB.out hS.size))
    have P2 := Lib.hid hJ
    have A8 := Lib.hid hA
    clear hJ hA
    (try replace XY := Lib.hid (boxStays XY.out hb))
    clear hb
    try simp only [Act.put, zA, zB, zC]
    refine tk (i := 7) (oi := ⟨some 19, _, _, _, _, _⟩) (v := ?_) rfl (Or.inl ⟨by rfl, ?_⟩) hS ?_
    rotate_left 1
    · intro w' hB; (go_simp <;> with_reducible rfl)
    try simp only [Act.put, zA, zB, zC]
    refine tk (i := 8) (oi := ⟨some 27, _, _, _, _, _⟩) (v := ?_) rfl (Or.inl ⟨by rfl, ?_⟩) hS ?_
    rotate_left 1
    · intro w' hB; have hr := hB.mono (Nat.le_of_eq HS6.out); have k0 := cell_of_one (boxStays Y0.out hr); have k1 := cell_of_one (boxStays Y1.out hr); clear hr; (go_simp <;> with_reducible rfl)
    try simp only [Act.put, zA, zB, zC]
    refine tk (i := 9) (oi := ⟨some 28, _, _, _, _, _⟩) (v := ?_) rfl (Or.inl ⟨by rfl, ?_⟩) hS ?_
    rotate_left 1
    · intro w' hB; have hr := hB.mono (Nat.le_of_eq HS6.out); have k0 := cell_of_one (boxStays Y0.out hr); have k1 := cell_of_one (boxStays Y1.out hr); clear hr; (go_simp <;> with_reducible rfl)
    try simp only [Act.put, zA, zB, zC]
    refine wpAnyH_ready (rs := [11]) (by kernel_rfl) (by simp) (AllReadyH.cons (o := ⟨none, _, _, _, _, _⟩) rfl (fun K hK => ?_) AllReadyH.nil)
    have k19 := cell_of_one XY.out
    have f19 := frozen_of_row _ c8 0 _ _ XY.out
    replace hS := hS.setCell (p := ⟨c8, 0, none⟩) (by simpa using G8.out) (Value.pointer (pa m))
    go_simp
    refine hK.out _ _ hS (fun _ => ?_)
    clear hK K k19 f19
    try simp only [Act.put, zA, zB, zC]
    refine tk (i := 12) (oi := ⟨some 9, _, _, _, _, _⟩) (v := ?_) rfl (Or.inl ⟨by rfl, ?_⟩) hS ?_
    rotate_left 1
    · intro w' hB; have hr := hB.mono (Nat.le_of_eq HS6.out); have k0 := cell_of_one (boxStays Y0.out hr); have k1 := cell_of_one (boxStays Y1.out hr); clear hr; (go_simp <;> with_reducible rfl)
    try simp only [Act.put, zA, zB, zC]
    refine wpAnyH_done (by kernel_rfl) (NoPanic.normal ?_) _
   all_goals
    have hS2 := hS.mono (Nat.le_of_eq HS6.out)
    have JM : Hid (items m = items a ++ items b ∧ Bal m) := Lib.hid (by
     have hsb := HS.out
     rw [HR.out, ← P1.out.1] at hsb
     rcases P2.out with ⟨_, h1, _⟩ | ⟨h1, _⟩
     · exact ⟨by rw [h1.items, HR.out, P1.out.1], (h1.bal BA.out P1.out.2.1).1⟩
     · exact absurd (join_ok_ofS hsb) h1)
    have K8 := Lib.hid (heap_setCell_same _ c8 0 _ _ (.pointer (pa m)) XY.out)
    have M8 := Lib.hid (A8.out.setBox XY.out (by decide) 0 (.pointer (pa m)))
    have Y8 := Lib.hid (boxStays Y2.out hS2)
    have D8 := Lib.hid (D2.out.trans (hS2.mono D2.out.size))
    clear hS hS2 XY A8 A7 CT Y0 Y1 Y2 D2 A2 B2
    have k8 := cell_of_one K8.out
    have k2 := cell_of_one Y8.out
    have f2 := frozen_of_row _ (w.heap.size + 1 + 1) 0 _ _ Y8.out
    go_wp2_with fail
    have k3 := cell_of_one (heap_setCell_same _ (w.heap.size + 1 + 1) 0 _ _ (.pointer (pa m)) Y8.out)
    clear k8 k2 f2
    refine bodyPost_ret (v := .agg #[.pointer (pa m)]) (by simp [results, Tryz.results149, go_sem, k3]) rfl ?_
    exact ⟨m, rfl, JM.out.1, JM.out.2, M8.out.setBox Y8.out (by decide) 0 _, D8.out.setCell (p := ⟨w.heap.size + 1 + 1, 0, none⟩) (by simp; omega) _⟩
end Go.Proofs.YtjlliohjeiclaaaGreatDoor
namespace Go.Proofs.YtjlliohjeiclaaaGreatDoor
open Go.RowKit Pm
theorem AtS.keepX {Ex : Nat → TypeId → Prop} {w w' : World} {t : Tr ByteArray} (h : AtS w t) (hk : KeepX Ex w w') (hn : ∀ k, ¬ Ex k 111) : AtS w' t := by
 induction t with
 | nil => trivial
 | node b l k v r ih1 ih2 =>
  obtain ⟨h1, h2, h3⟩ := h
  exact ⟨hk.row h1 (hn _), ih1 h2, ih2 h3⟩
theorem AtS.uniq {w : World} : ∀ {t t' : Tr ByteArray}, AtS w t → AtS w t' → pa t = pa t' → t = t'
 | .nil, .nil, _, _, _ => rfl
 | .nil, .node .., _, _, h => by simp [pa] at h
 | .node .., .nil, _, _, h => by simp [pa] at h
 | .node b l k v r, .node b' l' k' v' r', h1, h2, h => by
  simp [pa] at h
  subst h
  obtain ⟨e1, l1, r1⟩ := h1
  obtain ⟨e2, l2, r2⟩ := h2
  rw [e1] at e2
  simp only [Option.some.injEq, Obj.cells.injEq, Array.mk.injEq, List.cons.injEq, Value.pointer.injEq, Value.string.injEq, Value.int.injEq, and_true, true_and] at e2
  obtain ⟨e3, e4, e5, e6, _⟩ := e2
  rw [AtS.uniq l1 l2 e3, AtS.uniq r1 r2 e4, e5, e6]
end Go.Proofs.YtjlliohjeiclaaaGreatDoor
