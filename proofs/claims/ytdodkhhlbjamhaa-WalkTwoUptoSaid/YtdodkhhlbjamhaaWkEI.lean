
/- Walks: Elements. -/
import Derived.Test.YtdodkhhlbjamhaaWkDI
namespace Go.Proofs.Ytdodkhhlbjamhaa
open Go.RowKit Pm
theorem keep_ruleI (B0 A0 O0 : ByteArray → Int × Bool) (B : Nat) : RuleOKI (fun _ _ => False) 17 #[] (fun k => keepFI (B0 k) (A0 k) (O0 k)) B0 A0 O0 B (fun _ _ => True) where
  own := fun _ _ _ _ _ => trivial
  call := fun key xs W _ _ _ => (wk_KeepI key (B0 key) (A0 key) (O0 key) W).mono fun e w' h => ⟨h.1, trivial, KeepX.ofBelow h.2⟩
  enters := enters_of Try.func17 (by kernel_rfl) rfl
  nNode := fun _ h => h
  nCount := fun _ h => h
  nMap := fun _ h => h
  nGo := fun _ h => h
  nRule := fun _ h => h
/-- What is written at the end. -/
def endYI (z : Nat) (k : Nat) (t : TypeId) : Prop := (k = z + 1 + 1 + 1 ∧ t = 29) ∨ (k = z + 1 + 1 + 1 + 1 ∧ t = 36)
set_option maxRecDepth 100000 in
set_option maxHeartbeats 4000000 in
theorem wk_ElementsI {B0 A0 O0 : ByteArray → Int × Bool} (s a o : Tr Int) (w : World) (hz : sz a + sz o ≤ 1073741824) (hzs : sz s ≤ 1073741824) (hI : WlkI 0 B0 A0 O0 (fun _ => True) s a o) (hs : AtI w s) (ha : AtI w a) (ho : AtI w o) :
    Calls Try.prog 13 #[.agg #[.pointer (pa s)], .agg #[.pointer (pa a)], .agg #[.pointer (pa o)]] w fun e w' =>
      ∃ (m : Tr Int) (asked : List ByteArray) (made : Nat), e = .returned (.tuple #[.agg #[.pointer (pa m)], .agg #[.int .i64 (asked.length : Int), .int .i64 (asked.length : Int), .int .i64 (made : Int)]]) ∧
        WlkO 0 (fun k => keepFI (B0 k) (A0 k) (O0 k)) B0 A0 O0 (fun _ => True) s a o m asked ∧ AtI w' m ∧ made ≤ sz m ∧ (pa m = pa s ∨ pa m = pa a ∨ pa m = pa o → made = 0) ∧ Below w.heap.size w w' ∧ TopWI s a o m asked := by
  obtain ⟨z, hz0⟩ : ∃ z, w.heap.size = z := ⟨_, rfl⟩
  obtain ⟨L, hL⟩ : ∃ L : List Obj, [.cells #[.pointer (pa s)] 29, .cells #[.pointer (pa a)] 29, .cells #[.pointer (pa o)] 29, .cells #[.pointer none] 29, .cells #[.int .i64 0, .int .i64 0, .int .i64 0] 36] = L := ⟨_, rfl⟩
  obtain ⟨w1, hw1⟩ : ∃ W, allocs w L = W := ⟨_, rfl⟩
  have hb1 : Below w.heap.size w w1 := by rw [← hw1]; exact allocs_below _ _
  have hx : ∀ i ob, L[i]? = some ob → w1.heap[z + i]? = some ob := fun i ob h => by have := allocs_get _ w i ob h; rw [hw1, hz0] at this; exact this
  have x0 : Boxed w1 z 29 (.pointer (pa s)) := hx 0 _ (by rw [← hL]; rfl)
  have x1 : Boxed w1 (z + 1) 29 (.pointer (pa a)) := hx 1 _ (by rw [← hL]; rfl)
  have x2 : Boxed w1 (z + 1 + 1) 29 (.pointer (pa o)) := hx 2 _ (by rw [← hL]; rfl)
  have x3 : Boxed w1 (z + 1 + 1 + 1) 29 (.pointer none) := hx 3 _ (by rw [← hL]; rfl)
  have x4 : w1.heap[z + 1 + 1 + 1 + 1]? = some (.cells #[.int .i64 0, .int .i64 0, .int .i64 0] 36 (0, 0)) := hx 4 _ (by rw [← hL]; rfl)
  have RUN := Lib.hid (wk_RunI (I := fun _ _ => True) s a o w1 (keep_ruleI B0 A0 O0 w1.heap.size) hz hzs hI (hs.below hb1 rfl) (ha.below hb1 rfl) (ho.below hb1 rfl) trivial)
  have k0 := cell_of_one x0
  have k1 := cell_of_one x1
  have k2 := cell_of_one x2
  have X3 := Lib.hid x3
  have X4 := Lib.hid x4
  have B1 : Hid (Below z w w1) := Lib.hid (by rw [← hz0]; exact hb1)
  have hW : ((((w.alloc (.cells #[.pointer (pa s)] 29)).alloc (.cells #[.pointer (pa a)] 29)).alloc (.cells #[.pointer (pa o)] 29)).alloc (.cells #[.pointer none] 29)).alloc (.cells #[.int .i64 0, .int .i64 0, .int .i64 0] 36) = w1 := by rw [← hw1, ← hL]; rfl
  have hz1 : z + 5 ≤ w1.heap.size := by have := (Array.getElem?_eq_some_iff.1 x4).1; omega
  clear hx hL hw1 x0 x1 x2 x3 x4 hs ha ho hI hb1
  go_enter Try.func13, Try.ntmps13
  go_wp2_with fail
  try rw [hW]
  refine RUN.out.mono ?_
  rintro e w2 ⟨m, asked, made, rfl, hO, hM, _, hmd, hmz, hk, htw⟩
  have HTW := Lib.hid htw
  clear htw
  have hb : Below w1.heap.size w1 w2 := hk.toBelow fun _ _ _ h => h
  clear hW k0 k1 k2 hk RUN
  go_upto_region 2 with (fail)
  obtain ⟨n, hn⟩ : ∃ n, asked.length = n := ⟨_, rfl⟩
  rw [hn]
  have HN := Lib.hid hn
  obtain ⟨c, hc⟩ : ∃ c, w2.heap.size = c := ⟨_, rfl⟩
  rw [hc]
  obtain ⟨w3, hw3⟩ : ∃ W, allocs w2 [.cells #[.pointer (pa m)] 29, .cells #[.int .i64 (n : Int), .int .i64 (n : Int), .int .i64 (made : Int)] 36] = W := ⟨_, rfl⟩
  have hb3 : Below w2.heap.size w2 w3 := by rw [← hw3]; exact allocs_below _ _
  have y0 : w3.heap[c]? = some (.cells #[.pointer (pa m)] 29 (0, 0)) := by
    have := allocs_get [.cells #[.pointer (pa m)] 29, .cells #[.int .i64 (n : Int), .int .i64 (n : Int), .int .i64 (made : Int)] 36] w2 0 _ rfl
    rw [hw3, hc] at this; exact this
  have y1 : w3.heap[c + 1]? = some (.cells #[.int .i64 (n : Int), .int .i64 (n : Int), .int .i64 (made : Int)] 36 (0, 0)) := by
    have := allocs_get [.cells #[.pointer (pa m)] 29, .cells #[.int .i64 (n : Int), .int .i64 (n : Int), .int .i64 (made : Int)] 36] w2 1 _ rfl
    rw [hw3, hc] at this; exact this
  have hw : (w2.alloc (.cells #[.pointer (pa m)] 29)).alloc (.cells #[.int .i64 (n : Int), .int .i64 (n : Int), .int .i64 (made : Int)] 36) = w3 := hw3
  rw [hw]
  have hzc : z + 5 ≤ c := by have := hb.size; omega
  have hbb := hb.trans (hb3.mono hb.size)
  have X3' : Hid (Boxed w3 (z + 1 + 1 + 1) 29 (.pointer none)) := Lib.hid (boxStays X3.out hbb)
  have X4' := Lib.hid (boxStays X4.out hbb)
  have B3 : Hid (Below z w w3) := Lib.hid (B1.out.trans (hbb.mono (by omega)))
  have M3 := Lib.hid (hM.below hb3 rfl)
  have OO := Lib.hid hO
  have HMD := Lib.hid hmd
  have HMZ := Lib.hid hmz
  have Y0 := Lib.hid y0
  have Y1 := Lib.hid y1
  clear hw hw3 hbb hb hb3 y0 y1 hM hO hmd hmz X3 X4 B1 hn hc
  refine wp_region_noPanic ?_
  refine wp_region_held_drew (S := fun w' => KeepX (endYI z) w3 w') (by kernel_rfl) (KeepX.refl _).drew (fun hS => ?_)
  refine wpAnyH_take (i := 0) (oi := ⟨some 19, _, _, _, _, _⟩) (v := ?_) rfl (by kernel_rfl) (by kernel_rfl) (by kernel_rfl) (fun _ _ _ h => h) (Or.inl ⟨by rfl, ?_⟩) hS ?_
  rotate_left 1
  · intro w' hB; have g1 := cell_of_one (hB.row Y0.out (fun h => by rcases h with h | h <;> omega)); have hcc := hB.row Y1.out (fun h => by rcases h with h | h <;> omega); have g2 := cell_of_row _ (c + 1) 0 _ _ _ hcc; have g3 := cell_of_row _ (c + 1) 1 _ _ _ hcc; have g4 := cell_of_row _ (c + 1) 2 _ _ _ hcc; clear hcc; (go_simp <;> with_reducible rfl)
  try simp only [Act.put, List.setIfInBounds_toArray, List.set_cons_zero, List.set_cons_succ]
  refine wpAnyH_take (i := 1) (oi := ⟨some 20, _, _, _, _, _⟩) (v := ?_) rfl (by kernel_rfl) (by kernel_rfl) (by kernel_rfl) (fun _ _ _ h => h) (Or.inl ⟨by rfl, ?_⟩) hS ?_
  rotate_left 1
  · intro w' hB; have g1 := cell_of_one (hB.row Y0.out (fun h => by rcases h with h | h <;> omega)); have hcc := hB.row Y1.out (fun h => by rcases h with h | h <;> omega); have g2 := cell_of_row _ (c + 1) 0 _ _ _ hcc; have g3 := cell_of_row _ (c + 1) 1 _ _ _ hcc; have g4 := cell_of_row _ (c + 1) 2 _ _ _ hcc; clear hcc; (go_simp <;> with_reducible rfl)
  try simp only [Act.put, List.setIfInBounds_toArray, List.set_cons_zero, List.set_cons_succ]
  refine wpAnyH_ready (rs := [2]) (by kernel_rfl) (by simp) (AllReadyH.cons (o := ⟨none, _, _, _, _, _⟩) rfl (fun K hK => ?_) AllReadyH.nil)
  have x4 := X3'.out
  have XZ4 := Lib.hid (heap_setCell_same _ (z + 1 + 1 + 1) 0 _ _ (.pointer (pa m)) x4)
  have k4 := cell_of_one x4
  have f4 := frozen_of_row _ (z + 1 + 1 + 1) 0 _ _ x4
  replace hS := hS.setRow x4 (Or.inl ⟨rfl, rfl⟩) 0 (.pointer (pa m))
  go_simp
  refine hK.out _ _ hS (fun _ => ?_)
  clear hK K k4 f4 x4
  try simp only [Act.put, List.setIfInBounds_toArray, List.set_cons_zero, List.set_cons_succ]
  refine wpAnyH_ready (rs := [3]) (by kernel_rfl) (by simp) (AllReadyH.cons (o := ⟨none, _, _, _, _, _⟩) rfl (fun K hK => ?_) AllReadyH.nil)
  have x5 : (w3.setCell ⟨z + 1 + 1 + 1, 0, none⟩ (.pointer (pa m))).heap[z + 1 + 1 + 1 + 1]? = some (.cells #[.int .i64 0, .int .i64 0, .int .i64 0] 36 (0, 0)) := (Below.heap_setCell _ _ _ _ (by simp)).trans X4'.out
  have k5 := cell_of_row _ (z + 1 + 1 + 1 + 1) 0 _ _ _ x5
  have k6 := cell_of_row _ (z + 1 + 1 + 1 + 1) 1 _ _ _ x5
  have k7 := cell_of_row _ (z + 1 + 1 + 1 + 1) 2 _ _ _ x5
  have f5 := frozen_of_row _ (z + 1 + 1 + 1 + 1) 0 _ _ x5
  have f6 := frozen_of_row _ (z + 1 + 1 + 1 + 1) 1 _ _ x5
  have f7 := frozen_of_row _ (z + 1 + 1 + 1 + 1) 2 _ _ x5
  have x6 := heap_setCell_same _ (z + 1 + 1 + 1 + 1) 0 _ _ (.int .i64 (n : Int)) x5
  have x7 := heap_setCell_same _ (z + 1 + 1 + 1 + 1) 1 _ _ (.int .i64 (n : Int)) x6
  replace hS := ((hS.setRow x5 (Or.inr ⟨rfl, rfl⟩) 0 (.int .i64 (n : Int))).setRow x6 (Or.inr ⟨rfl, rfl⟩) 1 (.int .i64 (n : Int))).setRow x7 (Or.inr ⟨rfl, rfl⟩) 2 (.int .i64 (made : Int))
  replace XZ4 := Lib.hid ((Below.heap_setCell _ ⟨z + 1 + 1 + 1 + 1, 2, none⟩ (.int .i64 (made : Int)) _ (by simp)).trans ((Below.heap_setCell _ ⟨z + 1 + 1 + 1 + 1, 1, none⟩ (.int .i64 (n : Int)) _ (by simp)).trans ((Below.heap_setCell _ ⟨z + 1 + 1 + 1 + 1, 0, none⟩ (.int .i64 (n : Int)) _ (by simp)).trans XZ4.out)))
  have X8 := Lib.hid (heap_setCell_same _ (z + 1 + 1 + 1 + 1) 2 _ _ (.int .i64 (made : Int)) x7)
  go_simp
  refine hK.out _ _ hS (fun _ => ?_)
  clear hK K k5 k6 k7 f5 f6 f7 x5 x6 x7
  try simp only [Act.put, List.setIfInBounds_toArray, List.set_cons_zero, List.set_cons_succ]
  refine wpAnyH_done (by kernel_rfl) (NoPanic.normal ?_) _
  have HSE := Lib.hid hS
  clear hS
  go_wp2_with fail
  have h4 := XZ4.out
  have h5 := X8.out
  simp only [List.setIfInBounds_toArray, List.set_cons_zero, List.set_cons_succ] at h4 h5
  have c4 := cell_of_one h4
  have c5 := cell_of_row _ (z + 1 + 1 + 1 + 1) 0 _ _ _ h5
  have c6 := cell_of_row _ (z + 1 + 1 + 1 + 1) 1 _ _ _ h5
  have c7 := cell_of_row _ (z + 1 + 1 + 1 + 1) 2 _ _ _ h5
  refine bodyPost_ret (v := .tuple #[.agg #[.pointer (pa m)], .agg #[.int .i64 (n : Int), .int .i64 (n : Int), .int .i64 (made : Int)]]) (by simp [results, Try.results13, go_sem, c4, c5, c6, c7]) rfl ?_
  refine ⟨m, asked, made, by rw [HN.out], OO.out, M3.out.keepX HSE.out ?_, HMD.out, HMZ.out, ?_, HTW.out⟩
  · rintro k (h | h) <;> exact absurd h.2 (by decide)
  · have h := ((KeepX.ofBelow (Ex := endYI z) (B3.out.mono (Nat.le_of_eq hz0))).trans HSE.out).toBelow (fun k t hk h => by rw [hz0] at hk; rcases h with h | h <;> omega)
    exact h
end Go.Proofs.Ytdodkhhlbjamhaa

