
/- Walks: MapNil. -/
import Derived.Test.YtikdlhbamdefaaaLwI
namespace Go.Proofs.Ytikdlhbamdefaaa
open Go.RowKit Pm
theorem nil_split (W : World) : Calls Try.prog 26 #[.agg #[.pointer none], .string ⟨#[120]⟩] W fun e w' => e = .returned (.tuple #[.agg #[.pointer none], .int .i64 0, .bool false, .agg #[.pointer none]]) ∧ Below W.heap.size W w' := by
  refine (pm_MSplitI .nil kX W.heap.size W (Nat.le_refl _) trivial (by simp [sz])).mono ?_
  rintro e w' ⟨a, x, c, h, rfl, _, _, hb⟩
  cases h
  exact ⟨rfl, hb⟩
theorem nil_take (W : World) : Calls Try.prog 7 #[.agg #[.pointer none], .string ⟨#[120]⟩] W fun e w' => e = .returned (.agg #[.pointer none]) ∧ Below W.heap.size W w' := by
  refine (pm_MTakeI .nil kX W.heap.size W (Nat.le_refl _) trivial (by simp [sz])).mono ?_
  rintro e w' ⟨t', hh, rfl, hA', hb⟩
  rcases hh with ⟨_, rfl⟩ | ⟨h1, _⟩
  · exact ⟨rfl, hb⟩
  · exact absurd rfl h1
theorem nil_key (W : World) : Calls Try.prog 22 #[.pointer none] W fun e w' => e = .returned (.string ⟨#[]⟩) ∧ Below W.heap.size W w' := calls_exact (pm_KeyI .nil W trivial)
theorem nil_val (W : World) : Calls Try.prog 23 #[.pointer none] W fun e w' => e = .returned (.int .i64 0) ∧ Below W.heap.size W w' := calls_exact (pm_ValueI .nil W trivial)
theorem nil_left (W : World) : Calls Try.prog 20 #[.pointer none] W fun e w' => e = .returned (.pointer none) ∧ Below W.heap.size W w' := calls_exact (pm_LeftI .nil W trivial)
theorem nil_right (W : World) : Calls Try.prog 21 #[.pointer none] W fun e w' => e = .returned (.pointer none) ∧ Below W.heap.size W w' := calls_exact (pm_RightI .nil W trivial)
theorem nil_ht (W : World) : Calls Try.prog 28 #[.pointer none] W fun e w' => e = .returned (.int .i64 0) ∧ Below W.heap.size W w' := calls_exact (pm_HeightI .nil W trivial)
theorem nil_len (W : World) : Calls Try.prog 29 #[.pointer none] W fun e w' => e = .returned (.int .i64 0) ∧ Below W.heap.size W w' := calls_exact (pm_LenI .nil W trivial)
theorem nil_tells (W : World) : Calls Try.prog 13 #[.agg #[.pointer none], .slice none 0 0, .int .i64 0, .string ⟨#[]⟩] W fun e w' => e = .returned (.bool true) ∧ Below W.heap.size W w' :=
  lw_tells .nil none 0 0 ⟨#[]⟩ W trivial trivial List.Pairwise.nil (CellsAt.nil _ _) (by simp [sz]) (Nat.le_refl _)
theorem nil_shared (W : World) : Calls Try.prog 27 #[.agg #[.pointer none], .agg #[.pointer none]] W fun e w' => e = .returned (.int .i64 0) ∧ Below W.heap.size W w' :=
  pm_SharedI .nil .nil W trivial trivial List.nodup_nil (by simp [sz])
set_option maxRecDepth 100000 in
set_option maxHeartbeats 8000000 in
theorem lw_MapNil (w : World) : Calls Try.prog 6 #[] w fun e w' => e = .returned (.bool true) ∧ Below w.heap.size w w' := by
  have hb0 := below_new w (.cells #[.pointer none] 26)
  have x0 : (w.alloc (.cells #[.pointer none] 26)).heap[w.heap.size]? = some (.cells #[.pointer none] 26 (0, 0)) := heap_alloc_new w _
  have HB0 := Lib.hid hb0
  have X0 := Lib.hid x0
  clear hb0 x0
  have e2 := cell_of_one X0.out
  go_enter Try.func6, Try.ntmps6
  go_wp2_with fail
  refine (nil_split _).mono ?_
  rintro e w2 ⟨rfl, hb⟩
  have D2 : Hid (Below w.heap.size w w2) := Lib.hid (HB0.out.trans (hb.mono (by simp)))
  have X2 := Lib.hid (boxStays X0.out hb)
  clear hb X0 HB0 e2
  go_wp2_with fail
  obtain ⟨W3, hW3⟩ : ∃ W3, (w2.alloc (.cells #[.pointer none] 26)).alloc (.cells #[.pointer none] 26) = W3 := ⟨_, rfl⟩
  have hb : Below w2.heap.size w2 W3 := by rw [← hW3]; exact (below_new w2 _).trans ((below_new _ _).mono (by simp))
  have Y3 : Hid (W3.heap[w2.heap.size]? = some (.cells #[.pointer none] 26 (0, 0))) := Lib.hid (by rw [← hW3]; exact boxStays (heap_alloc_new w2 _) (below_new _ _))
  have Y6 : Hid (W3.heap[w2.heap.size + 1]? = some (.cells #[.pointer none] 26 (0, 0))) := Lib.hid (by
    rw [← hW3]
    have h := heap_alloc_new (w2.alloc (.cells #[.pointer none] 26)) (.cells #[.pointer none] 26)
    rw [World.size_alloc] at h
    exact h)
  rw [hW3]
  have D3 : Hid (Below w.heap.size w W3) := Lib.hid (D2.out.trans (hb.mono D2.out.size))
  have X3 := Lib.hid (boxStays X2.out hb)
  clear hb hW3 D2 X2
  have S3 : Hid (w.heap.size ≤ W3.heap.size) := Lib.hid D3.out.size
  have HC : Hid (Chain [W3] W3) := Lib.hid (Chain.one W3)
  simp only [List.append]
  refine wp_region_noPanic ?_
  refine wp_region_held_drew (S := fun w' => Below W3.heap.size W3 w') (by kernel_rfl) (Below.refl _ _).drew (fun hS => ?_)
  refine wpAnyH_take (i := 0) (oi := ⟨some 14, _, _, _, _, _⟩) (v := ?_) rfl (by kernel_rfl) (by kernel_rfl) (by kernel_rfl) (fun _ _ _ h => h) (Or.inl ⟨by rfl, ?_⟩) hS ?_
  rotate_left 1
  · intro w' hB; have hd := (HC.out.to W3 (by simp)).trans (hB.mono (HC.out.to W3 (by simp)).size); have e2 := cell_of_one (boxStays X3.out hd); have e3 := cell_of_one (boxStays Y3.out hd); have e6 := cell_of_one (boxStays Y6.out hd); clear hd; (go_simp <;> with_reducible rfl)
  try simp only [Act.put, List.setIfInBounds_toArray, List.set_cons_zero, List.set_cons_succ]
  refine wpAnyH_ready (rs := [1]) (by kernel_rfl) (by simp) (AllReadyH.cons (o := ⟨some 15, _, _, _, _, _⟩) rfl (fun K hK => ?_) AllReadyH.nil)
  go_simp
  refine (nil_key _).mono ?_
  rintro e v1 ⟨rfl, hb⟩
  refine hK.out _ _ (hS.trans (hb.mono hS.size)) (fun _ => ?_)
  clear hK K
  have hB := hS.trans (hb.mono hS.size)
  refine wpAnyH_now hB ?_
  clear hS
  have hS := Below.refl v1.heap.size v1
  replace HC := Lib.hid (HC.out.push hB)
  clear hB hb
  try simp only [Act.put, List.setIfInBounds_toArray, List.set_cons_zero, List.set_cons_succ]
  refine wpAnyH_take (i := 2) (oi := ⟨some 16, _, _, _, _, _⟩) (v := ?_) rfl (by kernel_rfl) (by kernel_rfl) (by kernel_rfl) (fun _ _ _ h => h) (Or.inl ⟨by rfl, ?_⟩) hS ?_
  rotate_left 1
  · intro w' hB; have hd := (HC.out.to W3 (by simp)).trans (hB.mono (HC.out.to W3 (by simp)).size); have e2 := cell_of_one (boxStays X3.out hd); have e3 := cell_of_one (boxStays Y3.out hd); have e6 := cell_of_one (boxStays Y6.out hd); clear hd; (go_simp <;> with_reducible rfl)
  try simp only [Act.put, List.setIfInBounds_toArray, List.set_cons_zero, List.set_cons_succ]
  refine wpAnyH_take (i := 3) (oi := ⟨some 17, _, _, _, _, _⟩) (v := ?_) rfl (by kernel_rfl) (by kernel_rfl) (by kernel_rfl) (fun _ _ _ h => h) (Or.inl ⟨by rfl, ?_⟩) hS ?_
  rotate_left 1
  · intro w' hB; have hd := (HC.out.to W3 (by simp)).trans (hB.mono (HC.out.to W3 (by simp)).size); have e2 := cell_of_one (boxStays X3.out hd); have e3 := cell_of_one (boxStays Y3.out hd); have e6 := cell_of_one (boxStays Y6.out hd); clear hd; (go_simp <;> with_reducible rfl)
  try simp only [Act.put, List.setIfInBounds_toArray, List.set_cons_zero, List.set_cons_succ]
  refine wpAnyH_take (i := 4) (oi := ⟨some 18, _, _, _, _, _⟩) (v := ?_) rfl (by kernel_rfl) (by kernel_rfl) (by kernel_rfl) (fun _ _ _ h => h) (Or.inl ⟨by rfl, ?_⟩) hS ?_
  rotate_left 1
  · intro w' hB; have hd := (HC.out.to W3 (by simp)).trans (hB.mono (HC.out.to W3 (by simp)).size); have e2 := cell_of_one (boxStays X3.out hd); have e3 := cell_of_one (boxStays Y3.out hd); have e6 := cell_of_one (boxStays Y6.out hd); clear hd; (go_simp <;> with_reducible rfl)
  try simp only [Act.put, List.setIfInBounds_toArray, List.set_cons_zero, List.set_cons_succ]
  refine wpAnyH_ready (rs := [5]) (by kernel_rfl) (by simp) (AllReadyH.cons (o := ⟨some 19, _, _, _, _, _⟩) rfl (fun K hK => ?_) AllReadyH.nil)
  go_simp
  refine (nil_val _).mono ?_
  rintro e v2 ⟨rfl, hb⟩
  refine hK.out _ _ (hS.trans (hb.mono hS.size)) (fun _ => ?_)
  clear hK K
  have hB := hS.trans (hb.mono hS.size)
  refine wpAnyH_now hB ?_
  clear hS
  have hS := Below.refl v2.heap.size v2
  replace HC := Lib.hid (HC.out.push hB)
  clear hB hb
  try simp only [Act.put, List.setIfInBounds_toArray, List.set_cons_zero, List.set_cons_succ]
  refine wpAnyH_take (i := 6) (oi := ⟨some 20, _, _, _, _, _⟩) (v := ?_) rfl (by kernel_rfl) (by kernel_rfl) (by kernel_rfl) (fun _ _ _ h => h) (Or.inl ⟨by rfl, ?_⟩) hS ?_
  rotate_left 1
  · intro w' hB; have hd := (HC.out.to W3 (by simp)).trans (hB.mono (HC.out.to W3 (by simp)).size); have e2 := cell_of_one (boxStays X3.out hd); have e3 := cell_of_one (boxStays Y3.out hd); have e6 := cell_of_one (boxStays Y6.out hd); clear hd; (go_simp <;> with_reducible rfl)
  try simp only [Act.put, List.setIfInBounds_toArray, List.set_cons_zero, List.set_cons_succ]
  refine wpAnyH_take (i := 7) (oi := ⟨some 21, _, _, _, _, _⟩) (v := ?_) rfl (by kernel_rfl) (by kernel_rfl) (by kernel_rfl) (fun _ _ _ h => h) (Or.inl ⟨by rfl, ?_⟩) hS ?_
  rotate_left 1
  · intro w' hB; have hd := (HC.out.to W3 (by simp)).trans (hB.mono (HC.out.to W3 (by simp)).size); have e2 := cell_of_one (boxStays X3.out hd); have e3 := cell_of_one (boxStays Y3.out hd); have e6 := cell_of_one (boxStays Y6.out hd); clear hd; (go_simp <;> with_reducible rfl)
  try simp only [Act.put, List.setIfInBounds_toArray, List.set_cons_zero, List.set_cons_succ]
  refine wpAnyH_take (i := 8) (oi := ⟨some 22, _, _, _, _, _⟩) (v := ?_) rfl (by kernel_rfl) (by kernel_rfl) (by kernel_rfl) (fun _ _ _ h => h) (Or.inl ⟨by rfl, ?_⟩) hS ?_
  rotate_left 1
  · intro w' hB; have hd := (HC.out.to W3 (by simp)).trans (hB.mono (HC.out.to W3 (by simp)).size); have e2 := cell_of_one (boxStays X3.out hd); have e3 := cell_of_one (boxStays Y3.out hd); have e6 := cell_of_one (boxStays Y6.out hd); clear hd; (go_simp <;> with_reducible rfl)
  try simp only [Act.put, List.setIfInBounds_toArray, List.set_cons_zero, List.set_cons_succ]
  refine wpAnyH_take (i := 9) (oi := ⟨some 23, _, _, _, _, _⟩) (v := ?_) rfl (by kernel_rfl) (by kernel_rfl) (by kernel_rfl) (fun _ _ _ h => h) (Or.inl ⟨by rfl, ?_⟩) hS ?_
  rotate_left 1
  · intro w' hB; have hd := (HC.out.to W3 (by simp)).trans (hB.mono (HC.out.to W3 (by simp)).size); have e2 := cell_of_one (boxStays X3.out hd); have e3 := cell_of_one (boxStays Y3.out hd); have e6 := cell_of_one (boxStays Y6.out hd); clear hd; (go_simp <;> with_reducible rfl)
  try simp only [Act.put, List.setIfInBounds_toArray, List.set_cons_zero, List.set_cons_succ]
  refine wpAnyH_ready (rs := [10]) (by kernel_rfl) (by simp) (AllReadyH.cons (o := ⟨some 24, _, _, _, _, _⟩) rfl (fun K hK => ?_) AllReadyH.nil)
  go_simp
  refine (nil_left _).mono ?_
  rintro e v3 ⟨rfl, hb⟩
  refine hK.out _ _ (hS.trans (hb.mono hS.size)) (fun _ => ?_)
  clear hK K
  have hB := hS.trans (hb.mono hS.size)
  refine wpAnyH_now hB ?_
  clear hS
  have hS := Below.refl v3.heap.size v3
  replace HC := Lib.hid (HC.out.push hB)
  clear hB hb
  try simp only [Act.put, List.setIfInBounds_toArray, List.set_cons_zero, List.set_cons_succ]
  refine wpAnyH_take (i := 11) (oi := ⟨some 25, _, _, _, _, _⟩) (v := ?_) rfl (by kernel_rfl) (by kernel_rfl) (by kernel_rfl) (fun _ _ _ h => h) (Or.inl ⟨by rfl, ?_⟩) hS ?_
  rotate_left 1
  · intro w' hB; have hd := (HC.out.to W3 (by simp)).trans (hB.mono (HC.out.to W3 (by simp)).size); have e2 := cell_of_one (boxStays X3.out hd); have e3 := cell_of_one (boxStays Y3.out hd); have e6 := cell_of_one (boxStays Y6.out hd); clear hd; (go_simp <;> with_reducible rfl)
  try simp only [Act.put, List.setIfInBounds_toArray, List.set_cons_zero, List.set_cons_succ]
  refine wpAnyH_take (i := 12) (oi := ⟨some 26, _, _, _, _, _⟩) (v := ?_) rfl (by kernel_rfl) (by kernel_rfl) (by kernel_rfl) (fun _ _ _ h => h) (Or.inl ⟨by rfl, ?_⟩) hS ?_
  rotate_left 1
  · intro w' hB; have hd := (HC.out.to W3 (by simp)).trans (hB.mono (HC.out.to W3 (by simp)).size); have e2 := cell_of_one (boxStays X3.out hd); have e3 := cell_of_one (boxStays Y3.out hd); have e6 := cell_of_one (boxStays Y6.out hd); clear hd; (go_simp <;> with_reducible rfl)
  try simp only [Act.put, List.setIfInBounds_toArray, List.set_cons_zero, List.set_cons_succ]
  refine wpAnyH_take (i := 13) (oi := ⟨some 27, _, _, _, _, _⟩) (v := ?_) rfl (by kernel_rfl) (by kernel_rfl) (by kernel_rfl) (fun _ _ _ h => h) (Or.inl ⟨by rfl, ?_⟩) hS ?_
  rotate_left 1
  · intro w' hB; have hd := (HC.out.to W3 (by simp)).trans (hB.mono (HC.out.to W3 (by simp)).size); have e2 := cell_of_one (boxStays X3.out hd); have e3 := cell_of_one (boxStays Y3.out hd); have e6 := cell_of_one (boxStays Y6.out hd); clear hd; (go_simp <;> with_reducible rfl)
  try simp only [Act.put, List.setIfInBounds_toArray, List.set_cons_zero, List.set_cons_succ]
  refine wpAnyH_take (i := 14) (oi := ⟨some 28, _, _, _, _, _⟩) (v := ?_) rfl (by kernel_rfl) (by kernel_rfl) (by kernel_rfl) (fun _ _ _ h => h) (Or.inl ⟨by rfl, ?_⟩) hS ?_
  rotate_left 1
  · intro w' hB; have hd := (HC.out.to W3 (by simp)).trans (hB.mono (HC.out.to W3 (by simp)).size); have e2 := cell_of_one (boxStays X3.out hd); have e3 := cell_of_one (boxStays Y3.out hd); have e6 := cell_of_one (boxStays Y6.out hd); clear hd; (go_simp <;> with_reducible rfl)
  try simp only [Act.put, List.setIfInBounds_toArray, List.set_cons_zero, List.set_cons_succ]
  refine wpAnyH_ready (rs := [15]) (by kernel_rfl) (by simp) (AllReadyH.cons (o := ⟨some 29, _, _, _, _, _⟩) rfl (fun K hK => ?_) AllReadyH.nil)
  go_simp
  refine (nil_right _).mono ?_
  rintro e v4 ⟨rfl, hb⟩
  refine hK.out _ _ (hS.trans (hb.mono hS.size)) (fun _ => ?_)
  clear hK K
  have hB := hS.trans (hb.mono hS.size)
  refine wpAnyH_now hB ?_
  clear hS
  have hS := Below.refl v4.heap.size v4
  replace HC := Lib.hid (HC.out.push hB)
  clear hB hb
  try simp only [Act.put, List.setIfInBounds_toArray, List.set_cons_zero, List.set_cons_succ]
  refine wpAnyH_take (i := 16) (oi := ⟨some 30, _, _, _, _, _⟩) (v := ?_) rfl (by kernel_rfl) (by kernel_rfl) (by kernel_rfl) (fun _ _ _ h => h) (Or.inl ⟨by rfl, ?_⟩) hS ?_
  rotate_left 1
  · intro w' hB; have hd := (HC.out.to W3 (by simp)).trans (hB.mono (HC.out.to W3 (by simp)).size); have e2 := cell_of_one (boxStays X3.out hd); have e3 := cell_of_one (boxStays Y3.out hd); have e6 := cell_of_one (boxStays Y6.out hd); clear hd; (go_simp <;> with_reducible rfl)
  try simp only [Act.put, List.setIfInBounds_toArray, List.set_cons_zero, List.set_cons_succ]
  refine wpAnyH_take (i := 17) (oi := ⟨some 31, _, _, _, _, _⟩) (v := ?_) rfl (by kernel_rfl) (by kernel_rfl) (by kernel_rfl) (fun _ _ _ h => h) (Or.inl ⟨by rfl, ?_⟩) hS ?_
  rotate_left 1
  · intro w' hB; have hd := (HC.out.to W3 (by simp)).trans (hB.mono (HC.out.to W3 (by simp)).size); have e2 := cell_of_one (boxStays X3.out hd); have e3 := cell_of_one (boxStays Y3.out hd); have e6 := cell_of_one (boxStays Y6.out hd); clear hd; (go_simp <;> with_reducible rfl)
  try simp only [Act.put, List.setIfInBounds_toArray, List.set_cons_zero, List.set_cons_succ]
  refine wpAnyH_take (i := 18) (oi := ⟨some 32, _, _, _, _, _⟩) (v := ?_) rfl (by kernel_rfl) (by kernel_rfl) (by kernel_rfl) (fun _ _ _ h => h) (Or.inl ⟨by rfl, ?_⟩) hS ?_
  rotate_left 1
  · intro w' hB; have hd := (HC.out.to W3 (by simp)).trans (hB.mono (HC.out.to W3 (by simp)).size); have e2 := cell_of_one (boxStays X3.out hd); have e3 := cell_of_one (boxStays Y3.out hd); have e6 := cell_of_one (boxStays Y6.out hd); clear hd; (go_simp <;> with_reducible rfl)
  try simp only [Act.put, List.setIfInBounds_toArray, List.set_cons_zero, List.set_cons_succ]
  refine wpAnyH_take (i := 19) (oi := ⟨some 33, _, _, _, _, _⟩) (v := ?_) rfl (by kernel_rfl) (by kernel_rfl) (by kernel_rfl) (fun _ _ _ h => h) (Or.inl ⟨by rfl, ?_⟩) hS ?_
  rotate_left 1
  · intro w' hB; have hd := (HC.out.to W3 (by simp)).trans (hB.mono (HC.out.to W3 (by simp)).size); have e2 := cell_of_one (boxStays X3.out hd); have e3 := cell_of_one (boxStays Y3.out hd); have e6 := cell_of_one (boxStays Y6.out hd); clear hd; (go_simp <;> with_reducible rfl)
  try simp only [Act.put, List.setIfInBounds_toArray, List.set_cons_zero, List.set_cons_succ]
  refine wpAnyH_ready (rs := [20]) (by kernel_rfl) (by simp) (AllReadyH.cons (o := ⟨some 34, _, _, _, _, _⟩) rfl (fun K hK => ?_) AllReadyH.nil)
  go_simp
  refine (nil_ht _).mono ?_
  rintro e v5 ⟨rfl, hb⟩
  refine hK.out _ _ (hS.trans (hb.mono hS.size)) (fun _ => ?_)
  clear hK K
  have hB := hS.trans (hb.mono hS.size)
  refine wpAnyH_now hB ?_
  clear hS
  have hS := Below.refl v5.heap.size v5
  replace HC := Lib.hid (HC.out.push hB)
  clear hB hb
  try simp only [Act.put, List.setIfInBounds_toArray, List.set_cons_zero, List.set_cons_succ]
  refine wpAnyH_take (i := 21) (oi := ⟨some 35, _, _, _, _, _⟩) (v := ?_) rfl (by kernel_rfl) (by kernel_rfl) (by kernel_rfl) (fun _ _ _ h => h) (Or.inl ⟨by rfl, ?_⟩) hS ?_
  rotate_left 1
  · intro w' hB; have hd := (HC.out.to W3 (by simp)).trans (hB.mono (HC.out.to W3 (by simp)).size); have e2 := cell_of_one (boxStays X3.out hd); have e3 := cell_of_one (boxStays Y3.out hd); have e6 := cell_of_one (boxStays Y6.out hd); clear hd; (go_simp <;> with_reducible rfl)
  try simp only [Act.put, List.setIfInBounds_toArray, List.set_cons_zero, List.set_cons_succ]
  refine wpAnyH_take (i := 22) (oi := ⟨some 36, _, _, _, _, _⟩) (v := ?_) rfl (by kernel_rfl) (by kernel_rfl) (by kernel_rfl) (fun _ _ _ h => h) (Or.inl ⟨by rfl, ?_⟩) hS ?_
  rotate_left 1
  · intro w' hB; have hd := (HC.out.to W3 (by simp)).trans (hB.mono (HC.out.to W3 (by simp)).size); have e2 := cell_of_one (boxStays X3.out hd); have e3 := cell_of_one (boxStays Y3.out hd); have e6 := cell_of_one (boxStays Y6.out hd); clear hd; (go_simp <;> with_reducible rfl)
  try simp only [Act.put, List.setIfInBounds_toArray, List.set_cons_zero, List.set_cons_succ]
  refine wpAnyH_take (i := 23) (oi := ⟨some 37, _, _, _, _, _⟩) (v := ?_) rfl (by kernel_rfl) (by kernel_rfl) (by kernel_rfl) (fun _ _ _ h => h) (Or.inl ⟨by rfl, ?_⟩) hS ?_
  rotate_left 1
  · intro w' hB; have hd := (HC.out.to W3 (by simp)).trans (hB.mono (HC.out.to W3 (by simp)).size); have e2 := cell_of_one (boxStays X3.out hd); have e3 := cell_of_one (boxStays Y3.out hd); have e6 := cell_of_one (boxStays Y6.out hd); clear hd; (go_simp <;> with_reducible rfl)
  try simp only [Act.put, List.setIfInBounds_toArray, List.set_cons_zero, List.set_cons_succ]
  refine wpAnyH_take (i := 24) (oi := ⟨some 38, _, _, _, _, _⟩) (v := ?_) rfl (by kernel_rfl) (by kernel_rfl) (by kernel_rfl) (fun _ _ _ h => h) (Or.inl ⟨by rfl, ?_⟩) hS ?_
  rotate_left 1
  · intro w' hB; have hd := (HC.out.to W3 (by simp)).trans (hB.mono (HC.out.to W3 (by simp)).size); have e2 := cell_of_one (boxStays X3.out hd); have e3 := cell_of_one (boxStays Y3.out hd); have e6 := cell_of_one (boxStays Y6.out hd); clear hd; (go_simp <;> with_reducible rfl)
  try simp only [Act.put, List.setIfInBounds_toArray, List.set_cons_zero, List.set_cons_succ]
  refine wpAnyH_ready (rs := [25]) (by kernel_rfl) (by simp) (AllReadyH.cons (o := ⟨some 39, _, _, _, _, _⟩) rfl (fun K hK => ?_) AllReadyH.nil)
  go_simp
  refine (nil_len _).mono ?_
  rintro e v6 ⟨rfl, hb⟩
  refine hK.out _ _ (hS.trans (hb.mono hS.size)) (fun _ => ?_)
  clear hK K
  have hB := hS.trans (hb.mono hS.size)
  refine wpAnyH_now hB ?_
  clear hS
  have hS := Below.refl v6.heap.size v6
  replace HC := Lib.hid (HC.out.push hB)
  clear hB hb
  try simp only [Act.put, List.setIfInBounds_toArray, List.set_cons_zero, List.set_cons_succ]
  refine wpAnyH_take (i := 26) (oi := ⟨some 40, _, _, _, _, _⟩) (v := ?_) rfl (by kernel_rfl) (by kernel_rfl) (by kernel_rfl) (fun _ _ _ h => h) (Or.inl ⟨by rfl, ?_⟩) hS ?_
  rotate_left 1
  · intro w' hB; have hd := (HC.out.to W3 (by simp)).trans (hB.mono (HC.out.to W3 (by simp)).size); have e2 := cell_of_one (boxStays X3.out hd); have e3 := cell_of_one (boxStays Y3.out hd); have e6 := cell_of_one (boxStays Y6.out hd); clear hd; (go_simp <;> with_reducible rfl)
  try simp only [Act.put, List.setIfInBounds_toArray, List.set_cons_zero, List.set_cons_succ]
  refine wpAnyH_take (i := 27) (oi := ⟨some 41, _, _, _, _, _⟩) (v := ?_) rfl (by kernel_rfl) (by kernel_rfl) (by kernel_rfl) (fun _ _ _ h => h) (Or.inl ⟨by rfl, ?_⟩) hS ?_
  rotate_left 1
  · intro w' hB; have hd := (HC.out.to W3 (by simp)).trans (hB.mono (HC.out.to W3 (by simp)).size); have e2 := cell_of_one (boxStays X3.out hd); have e3 := cell_of_one (boxStays Y3.out hd); have e6 := cell_of_one (boxStays Y6.out hd); clear hd; (go_simp <;> with_reducible rfl)
  try simp only [Act.put, List.setIfInBounds_toArray, List.set_cons_zero, List.set_cons_succ]
  refine wpAnyH_take (i := 28) (oi := ⟨some 42, _, _, _, _, _⟩) (v := ?_) rfl (by kernel_rfl) (by kernel_rfl) (by kernel_rfl) (fun _ _ _ h => h) (Or.inl ⟨by rfl, ?_⟩) hS ?_
  rotate_left 1
  · intro w' hB; have hd := (HC.out.to W3 (by simp)).trans (hB.mono (HC.out.to W3 (by simp)).size); have e2 := cell_of_one (boxStays X3.out hd); have e3 := cell_of_one (boxStays Y3.out hd); have e6 := cell_of_one (boxStays Y6.out hd); clear hd; (go_simp <;> with_reducible rfl)
  try simp only [Act.put, List.setIfInBounds_toArray, List.set_cons_zero, List.set_cons_succ]
  refine wpAnyH_take (i := 29) (oi := ⟨some 43, _, _, _, _, _⟩) (v := ?_) rfl (by kernel_rfl) (by kernel_rfl) (by kernel_rfl) (fun _ _ _ h => h) (Or.inl ⟨by rfl, ?_⟩) hS ?_
  rotate_left 1
  · intro w' hB; have hd := (HC.out.to W3 (by simp)).trans (hB.mono (HC.out.to W3 (by simp)).size); have e2 := cell_of_one (boxStays X3.out hd); have e3 := cell_of_one (boxStays Y3.out hd); have e6 := cell_of_one (boxStays Y6.out hd); clear hd; (go_simp <;> with_reducible rfl)
  try simp only [Act.put, List.setIfInBounds_toArray, List.set_cons_zero, List.set_cons_succ]
  refine wpAnyH_take (i := 31) (oi := ⟨some 45, _, _, _, _, _⟩) (v := ?_) rfl (by kernel_rfl) (by kernel_rfl) (by kernel_rfl) (fun _ _ _ h => h) (Or.inl ⟨by rfl, ?_⟩) hS ?_
  rotate_left 1
  · intro w' hB; have hd := (HC.out.to W3 (by simp)).trans (hB.mono (HC.out.to W3 (by simp)).size); have e2 := cell_of_one (boxStays X3.out hd); have e3 := cell_of_one (boxStays Y3.out hd); have e6 := cell_of_one (boxStays Y6.out hd); clear hd; (go_simp <;> with_reducible rfl)
  try simp only [Act.put, List.setIfInBounds_toArray, List.set_cons_zero, List.set_cons_succ]
  refine wpAnyH_ready (rs := [30]) (by kernel_rfl) (by simp) (AllReadyH.cons (o := ⟨some 44, _, _, _, _, _⟩) rfl (fun K hK => ?_) AllReadyH.nil)
  go_simp
  refine (pm_NMapI .nil _).mono ?_
  rintro e v7 ⟨rfl, hb⟩
  refine hK.out _ _ (hS.trans (hb.mono hS.size)) (fun _ => ?_)
  clear hK K
  have hB := hS.trans (hb.mono hS.size)
  refine wpAnyH_now hB ?_
  clear hS
  have hS := Below.refl v7.heap.size v7
  replace HC := Lib.hid (HC.out.push hB)
  clear hB hb
  try simp only [Act.put, List.setIfInBounds_toArray, List.set_cons_zero, List.set_cons_succ]
  refine wpAnyH_ready (rs := [32]) (by kernel_rfl) (by simp) (AllReadyH.cons (o := ⟨some 46, _, _, _, _, _⟩) rfl (fun K hK => ?_) AllReadyH.nil)
  go_simp
  refine (pm_MSameI .nil .nil _ trivial trivial).mono ?_
  rintro e v8 ⟨rfl, hb⟩
  refine hK.out _ _ (hS.trans (hb.mono hS.size)) (fun _ => ?_)
  clear hK K
  have hB := hS.trans (hb.mono hS.size)
  refine wpAnyH_now hB ?_
  clear hS
  have hS := Below.refl v8.heap.size v8
  replace HC := Lib.hid (HC.out.push hB)
  clear hB hb
  try simp only [Act.put, List.setIfInBounds_toArray, List.set_cons_zero, List.set_cons_succ]
  refine wpAnyH_take (i := 33) (oi := ⟨some 47, _, _, _, _, _⟩) (v := ?_) rfl (by kernel_rfl) (by kernel_rfl) (by kernel_rfl) (fun _ _ _ h => h) (Or.inl ⟨by rfl, ?_⟩) hS ?_
  rotate_left 1
  · intro w' hB; have hd := (HC.out.to W3 (by simp)).trans (hB.mono (HC.out.to W3 (by simp)).size); have e2 := cell_of_one (boxStays X3.out hd); have e3 := cell_of_one (boxStays Y3.out hd); have e6 := cell_of_one (boxStays Y6.out hd); clear hd; (go_simp <;> with_reducible rfl)
  try simp only [Act.put, List.setIfInBounds_toArray, List.set_cons_zero, List.set_cons_succ]
  refine wpAnyH_take (i := 34) (oi := ⟨some 48, _, _, _, _, _⟩) (v := ?_) rfl (by kernel_rfl) (by kernel_rfl) (by kernel_rfl) (fun _ _ _ h => h) (Or.inl ⟨by rfl, ?_⟩) hS ?_
  rotate_left 1
  · intro w' hB; have hd := (HC.out.to W3 (by simp)).trans (hB.mono (HC.out.to W3 (by simp)).size); have e2 := cell_of_one (boxStays X3.out hd); have e3 := cell_of_one (boxStays Y3.out hd); have e6 := cell_of_one (boxStays Y6.out hd); clear hd; (go_simp <;> with_reducible rfl)
  try simp only [Act.put, List.setIfInBounds_toArray, List.set_cons_zero, List.set_cons_succ]
  refine wpAnyH_take (i := 35) (oi := ⟨some 49, _, _, _, _, _⟩) (v := ?_) rfl (by kernel_rfl) (by kernel_rfl) (by kernel_rfl) (fun _ _ _ h => h) (Or.inl ⟨by rfl, ?_⟩) hS ?_
  rotate_left 1
  · intro w' hB; have hd := (HC.out.to W3 (by simp)).trans (hB.mono (HC.out.to W3 (by simp)).size); have e2 := cell_of_one (boxStays X3.out hd); have e3 := cell_of_one (boxStays Y3.out hd); have e6 := cell_of_one (boxStays Y6.out hd); clear hd; (go_simp <;> with_reducible rfl)
  try simp only [Act.put, List.setIfInBounds_toArray, List.set_cons_zero, List.set_cons_succ]
  refine wpAnyH_ready (rs := [36]) (by kernel_rfl) (by simp) (AllReadyH.cons (o := ⟨some 50, _, _, _, _, _⟩) rfl (fun K hK => ?_) AllReadyH.nil)
  go_simp
  refine (pm_MRootI .nil _).mono ?_
  rintro e v9 ⟨rfl, hb⟩
  refine hK.out _ _ (hS.trans (hb.mono hS.size)) (fun _ => ?_)
  clear hK K
  have hB := hS.trans (hb.mono hS.size)
  refine wpAnyH_now hB ?_
  clear hS
  have hS := Below.refl v9.heap.size v9
  replace HC := Lib.hid (HC.out.push hB)
  clear hB hb
  try simp only [Act.put, List.setIfInBounds_toArray, List.set_cons_zero, List.set_cons_succ]
  refine wpAnyH_take (i := 37) (oi := ⟨some 51, _, _, _, _, _⟩) (v := ?_) rfl (by kernel_rfl) (by kernel_rfl) (by kernel_rfl) (fun _ _ _ h => h) (Or.inl ⟨by rfl, ?_⟩) hS ?_
  rotate_left 1
  · intro w' hB; have hd := (HC.out.to W3 (by simp)).trans (hB.mono (HC.out.to W3 (by simp)).size); have e2 := cell_of_one (boxStays X3.out hd); have e3 := cell_of_one (boxStays Y3.out hd); have e6 := cell_of_one (boxStays Y6.out hd); clear hd; (go_simp <;> with_reducible rfl)
  try simp only [Act.put, List.setIfInBounds_toArray, List.set_cons_zero, List.set_cons_succ]
  refine wpAnyH_take (i := 38) (oi := ⟨some 52, _, _, _, _, _⟩) (v := ?_) rfl (by kernel_rfl) (by kernel_rfl) (by kernel_rfl) (fun _ _ _ h => h) (Or.inl ⟨by rfl, ?_⟩) hS ?_
  rotate_left 1
  · intro w' hB; have hd := (HC.out.to W3 (by simp)).trans (hB.mono (HC.out.to W3 (by simp)).size); have e2 := cell_of_one (boxStays X3.out hd); have e3 := cell_of_one (boxStays Y3.out hd); have e6 := cell_of_one (boxStays Y6.out hd); clear hd; (go_simp <;> with_reducible rfl)
  try simp only [Act.put, List.setIfInBounds_toArray, List.set_cons_zero, List.set_cons_succ]
  refine wpAnyH_take (i := 39) (oi := ⟨some 53, _, _, _, _, _⟩) (v := ?_) rfl (by kernel_rfl) (by kernel_rfl) (by kernel_rfl) (fun _ _ _ h => h) (Or.inl ⟨by rfl, ?_⟩) hS ?_
  rotate_left 1
  · intro w' hB; have hd := (HC.out.to W3 (by simp)).trans (hB.mono (HC.out.to W3 (by simp)).size); have e2 := cell_of_one (boxStays X3.out hd); have e3 := cell_of_one (boxStays Y3.out hd); have e6 := cell_of_one (boxStays Y6.out hd); clear hd; (go_simp <;> with_reducible rfl)
  try simp only [Act.put, List.setIfInBounds_toArray, List.set_cons_zero, List.set_cons_succ]
  refine wpAnyH_take (i := 40) (oi := ⟨some 54, _, _, _, _, _⟩) (v := ?_) rfl (by kernel_rfl) (by kernel_rfl) (by kernel_rfl) (fun _ _ _ h => h) (Or.inl ⟨by rfl, ?_⟩) hS ?_
  rotate_left 1
  · intro w' hB; have hd := (HC.out.to W3 (by simp)).trans (hB.mono (HC.out.to W3 (by simp)).size); have e2 := cell_of_one (boxStays X3.out hd); have e3 := cell_of_one (boxStays Y3.out hd); have e6 := cell_of_one (boxStays Y6.out hd); clear hd; (go_simp <;> with_reducible rfl)
  try simp only [Act.put, List.setIfInBounds_toArray, List.set_cons_zero, List.set_cons_succ]
  refine wpAnyH_take (i := 42) (oi := ⟨some 56, _, _, _, _, _⟩) (v := ?_) rfl (by kernel_rfl) (by kernel_rfl) (by kernel_rfl) (fun _ _ _ h => h) (Or.inl ⟨by rfl, ?_⟩) hS ?_
  rotate_left 1
  · intro w' hB; have hd := (HC.out.to W3 (by simp)).trans (hB.mono (HC.out.to W3 (by simp)).size); have e2 := cell_of_one (boxStays X3.out hd); have e3 := cell_of_one (boxStays Y3.out hd); have e6 := cell_of_one (boxStays Y6.out hd); clear hd; (go_simp <;> with_reducible rfl)
  try simp only [Act.put, List.setIfInBounds_toArray, List.set_cons_zero, List.set_cons_succ]
  refine wpAnyH_ready (rs := [41]) (by kernel_rfl) (by simp) (AllReadyH.cons (o := ⟨some 55, _, _, _, _, _⟩) rfl (fun K hK => ?_) AllReadyH.nil)
  go_simp
  refine (nil_take _).mono ?_
  rintro e v10 ⟨rfl, hb⟩
  refine hK.out _ _ (hS.trans (hb.mono hS.size)) (fun _ => ?_)
  clear hK K
  have hB := hS.trans (hb.mono hS.size)
  refine wpAnyH_now hB ?_
  clear hS
  have hS := Below.refl v10.heap.size v10
  replace HC := Lib.hid (HC.out.push hB)
  clear hB hb
  try simp only [Act.put, List.setIfInBounds_toArray, List.set_cons_zero, List.set_cons_succ]
  refine wpAnyH_ready (rs := [43]) (by kernel_rfl) (by simp) (AllReadyH.cons (o := ⟨some 57, _, _, _, _, _⟩) rfl (fun K hK => ?_) AllReadyH.nil)
  go_simp
  refine (pm_MSameI .nil .nil _ trivial trivial).mono ?_
  rintro e v11 ⟨rfl, hb⟩
  refine hK.out _ _ (hS.trans (hb.mono hS.size)) (fun _ => ?_)
  clear hK K
  have hB := hS.trans (hb.mono hS.size)
  refine wpAnyH_now hB ?_
  clear hS
  have hS := Below.refl v11.heap.size v11
  replace HC := Lib.hid (HC.out.push hB)
  clear hB hb
  try simp only [Act.put, List.setIfInBounds_toArray, List.set_cons_zero, List.set_cons_succ]
  refine wpAnyH_take (i := 44) (oi := ⟨some 58, _, _, _, _, _⟩) (v := ?_) rfl (by kernel_rfl) (by kernel_rfl) (by kernel_rfl) (fun _ _ _ h => h) (Or.inl ⟨by rfl, ?_⟩) hS ?_
  rotate_left 1
  · intro w' hB; have hd := (HC.out.to W3 (by simp)).trans (hB.mono (HC.out.to W3 (by simp)).size); have e2 := cell_of_one (boxStays X3.out hd); have e3 := cell_of_one (boxStays Y3.out hd); have e6 := cell_of_one (boxStays Y6.out hd); clear hd; (go_simp <;> with_reducible rfl)
  try simp only [Act.put, List.setIfInBounds_toArray, List.set_cons_zero, List.set_cons_succ]
  refine wpAnyH_take (i := 45) (oi := ⟨some 59, _, _, _, _, _⟩) (v := ?_) rfl (by kernel_rfl) (by kernel_rfl) (by kernel_rfl) (fun _ _ _ h => h) (Or.inl ⟨by rfl, ?_⟩) hS ?_
  rotate_left 1
  · intro w' hB; have hd := (HC.out.to W3 (by simp)).trans (hB.mono (HC.out.to W3 (by simp)).size); have e2 := cell_of_one (boxStays X3.out hd); have e3 := cell_of_one (boxStays Y3.out hd); have e6 := cell_of_one (boxStays Y6.out hd); clear hd; (go_simp <;> with_reducible rfl)
  try simp only [Act.put, List.setIfInBounds_toArray, List.set_cons_zero, List.set_cons_succ]
  refine wpAnyH_take (i := 46) (oi := ⟨some 60, _, _, _, _, _⟩) (v := ?_) rfl (by kernel_rfl) (by kernel_rfl) (by kernel_rfl) (fun _ _ _ h => h) (Or.inl ⟨by rfl, ?_⟩) hS ?_
  rotate_left 1
  · intro w' hB; have hd := (HC.out.to W3 (by simp)).trans (hB.mono (HC.out.to W3 (by simp)).size); have e2 := cell_of_one (boxStays X3.out hd); have e3 := cell_of_one (boxStays Y3.out hd); have e6 := cell_of_one (boxStays Y6.out hd); clear hd; (go_simp <;> with_reducible rfl)
  try simp only [Act.put, List.setIfInBounds_toArray, List.set_cons_zero, List.set_cons_succ]
  refine wpAnyH_ready (rs := [47]) (by kernel_rfl) (by simp) (AllReadyH.cons (o := ⟨some 61, _, _, _, _, _⟩) rfl (fun K hK => ?_) AllReadyH.nil)
  go_simp
  refine (pm_MLenI .nil _ trivial).mono ?_
  rintro e v12 ⟨rfl, hb⟩
  refine hK.out _ _ (hS.trans (hb.mono hS.size)) (fun _ => ?_)
  clear hK K
  have hB := hS.trans (hb.mono hS.size)
  refine wpAnyH_now hB ?_
  clear hS
  have hS := Below.refl v12.heap.size v12
  replace HC := Lib.hid (HC.out.push hB)
  clear hB hb
  try simp only [Act.put, List.setIfInBounds_toArray, List.set_cons_zero, List.set_cons_succ]
  refine wpAnyH_take (i := 48) (oi := ⟨some 62, _, _, _, _, _⟩) (v := ?_) rfl (by kernel_rfl) (by kernel_rfl) (by kernel_rfl) (fun _ _ _ h => h) (Or.inl ⟨by rfl, ?_⟩) hS ?_
  rotate_left 1
  · intro w' hB; have hd := (HC.out.to W3 (by simp)).trans (hB.mono (HC.out.to W3 (by simp)).size); have e2 := cell_of_one (boxStays X3.out hd); have e3 := cell_of_one (boxStays Y3.out hd); have e6 := cell_of_one (boxStays Y6.out hd); clear hd; (go_simp <;> with_reducible rfl)
  try simp only [Act.put, List.setIfInBounds_toArray, List.set_cons_zero, List.set_cons_succ]
  refine wpAnyH_take (i := 49) (oi := ⟨some 63, _, _, _, _, _⟩) (v := ?_) rfl (by kernel_rfl) (by kernel_rfl) (by kernel_rfl) (fun _ _ _ h => h) (Or.inl ⟨by rfl, ?_⟩) hS ?_
  rotate_left 1
  · intro w' hB; have hd := (HC.out.to W3 (by simp)).trans (hB.mono (HC.out.to W3 (by simp)).size); have e2 := cell_of_one (boxStays X3.out hd); have e3 := cell_of_one (boxStays Y3.out hd); have e6 := cell_of_one (boxStays Y6.out hd); clear hd; (go_simp <;> with_reducible rfl)
  try simp only [Act.put, List.setIfInBounds_toArray, List.set_cons_zero, List.set_cons_succ]
  refine wpAnyH_take (i := 50) (oi := ⟨some 64, _, _, _, _, _⟩) (v := ?_) rfl (by kernel_rfl) (by kernel_rfl) (by kernel_rfl) (fun _ _ _ h => h) (Or.inl ⟨by rfl, ?_⟩) hS ?_
  rotate_left 1
  · intro w' hB; have hd := (HC.out.to W3 (by simp)).trans (hB.mono (HC.out.to W3 (by simp)).size); have e2 := cell_of_one (boxStays X3.out hd); have e3 := cell_of_one (boxStays Y3.out hd); have e6 := cell_of_one (boxStays Y6.out hd); clear hd; (go_simp <;> with_reducible rfl)
  try simp only [Act.put, List.setIfInBounds_toArray, List.set_cons_zero, List.set_cons_succ]
  refine wpAnyH_take (i := 51) (oi := ⟨some 65, _, _, _, _, _⟩) (v := ?_) rfl (by kernel_rfl) (by kernel_rfl) (by kernel_rfl) (fun _ _ _ h => h) (Or.inl ⟨by rfl, ?_⟩) hS ?_
  rotate_left 1
  · intro w' hB; have hd := (HC.out.to W3 (by simp)).trans (hB.mono (HC.out.to W3 (by simp)).size); have e2 := cell_of_one (boxStays X3.out hd); have e3 := cell_of_one (boxStays Y3.out hd); have e6 := cell_of_one (boxStays Y6.out hd); clear hd; (go_simp <;> with_reducible rfl)
  try simp only [Act.put, List.setIfInBounds_toArray, List.set_cons_zero, List.set_cons_succ]
  refine wpAnyH_ready (rs := [52]) (by kernel_rfl) (by simp) (AllReadyH.cons (o := ⟨some 66, _, _, _, _, _⟩) rfl (fun K hK => ?_) AllReadyH.nil)
  go_simp
  refine (pm_MLenI .nil _ trivial).mono ?_
  rintro e v13 ⟨rfl, hb⟩
  refine hK.out _ _ (hS.trans (hb.mono hS.size)) (fun _ => ?_)
  clear hK K
  have hB := hS.trans (hb.mono hS.size)
  refine wpAnyH_now hB ?_
  clear hS
  have hS := Below.refl v13.heap.size v13
  replace HC := Lib.hid (HC.out.push hB)
  clear hB hb
  try simp only [Act.put, List.setIfInBounds_toArray, List.set_cons_zero, List.set_cons_succ]
  refine wpAnyH_take (i := 53) (oi := ⟨some 67, _, _, _, _, _⟩) (v := ?_) rfl (by kernel_rfl) (by kernel_rfl) (by kernel_rfl) (fun _ _ _ h => h) (Or.inl ⟨by rfl, ?_⟩) hS ?_
  rotate_left 1
  · intro w' hB; have hd := (HC.out.to W3 (by simp)).trans (hB.mono (HC.out.to W3 (by simp)).size); have e2 := cell_of_one (boxStays X3.out hd); have e3 := cell_of_one (boxStays Y3.out hd); have e6 := cell_of_one (boxStays Y6.out hd); clear hd; (go_simp <;> with_reducible rfl)
  try simp only [Act.put, List.setIfInBounds_toArray, List.set_cons_zero, List.set_cons_succ]
  refine wpAnyH_take (i := 54) (oi := ⟨some 68, _, _, _, _, _⟩) (v := ?_) rfl (by kernel_rfl) (by kernel_rfl) (by kernel_rfl) (fun _ _ _ h => h) (Or.inl ⟨by rfl, ?_⟩) hS ?_
  rotate_left 1
  · intro w' hB; have hd := (HC.out.to W3 (by simp)).trans (hB.mono (HC.out.to W3 (by simp)).size); have e2 := cell_of_one (boxStays X3.out hd); have e3 := cell_of_one (boxStays Y3.out hd); have e6 := cell_of_one (boxStays Y6.out hd); clear hd; (go_simp <;> with_reducible rfl)
  try simp only [Act.put, List.setIfInBounds_toArray, List.set_cons_zero, List.set_cons_succ]
  refine wpAnyH_take (i := 55) (oi := ⟨some 69, _, _, _, _, _⟩) (v := ?_) rfl (by kernel_rfl) (by kernel_rfl) (by kernel_rfl) (fun _ _ _ h => h) (Or.inl ⟨by rfl, ?_⟩) hS ?_
  rotate_left 1
  · intro w' hB; have hd := (HC.out.to W3 (by simp)).trans (hB.mono (HC.out.to W3 (by simp)).size); have e2 := cell_of_one (boxStays X3.out hd); have e3 := cell_of_one (boxStays Y3.out hd); have e6 := cell_of_one (boxStays Y6.out hd); clear hd; (go_simp <;> with_reducible rfl)
  try simp only [Act.put, List.setIfInBounds_toArray, List.set_cons_zero, List.set_cons_succ]
  refine wpAnyH_take (i := 56) (oi := ⟨some 70, _, _, _, _, _⟩) (v := ?_) rfl (by kernel_rfl) (by kernel_rfl) (by kernel_rfl) (fun _ _ _ h => h) (Or.inl ⟨by rfl, ?_⟩) hS ?_
  rotate_left 1
  · intro w' hB; have hd := (HC.out.to W3 (by simp)).trans (hB.mono (HC.out.to W3 (by simp)).size); have e2 := cell_of_one (boxStays X3.out hd); have e3 := cell_of_one (boxStays Y3.out hd); have e6 := cell_of_one (boxStays Y6.out hd); clear hd; (go_simp <;> with_reducible rfl)
  try simp only [Act.put, List.setIfInBounds_toArray, List.set_cons_zero, List.set_cons_succ]
  refine wpAnyH_take (i := 57) (oi := ⟨some 71, _, _, _, _, _⟩) (v := ?_) rfl (by kernel_rfl) (by kernel_rfl) (by kernel_rfl) (fun _ _ _ h => h) (Or.inl ⟨by rfl, ?_⟩) hS ?_
  rotate_left 1
  · intro w' hB; have hd := (HC.out.to W3 (by simp)).trans (hB.mono (HC.out.to W3 (by simp)).size); have e2 := cell_of_one (boxStays X3.out hd); have e3 := cell_of_one (boxStays Y3.out hd); have e6 := cell_of_one (boxStays Y6.out hd); clear hd; (go_simp <;> with_reducible rfl)
  try simp only [Act.put, List.setIfInBounds_toArray, List.set_cons_zero, List.set_cons_succ]
  refine wpAnyH_take (i := 58) (oi := ⟨some 72, _, _, _, _, _⟩) (v := ?_) rfl (by kernel_rfl) (by kernel_rfl) (by kernel_rfl) (fun _ _ _ h => h) (Or.inl ⟨by rfl, ?_⟩) hS ?_
  rotate_left 1
  · intro w' hB; have hd := (HC.out.to W3 (by simp)).trans (hB.mono (HC.out.to W3 (by simp)).size); have e2 := cell_of_one (boxStays X3.out hd); have e3 := cell_of_one (boxStays Y3.out hd); have e6 := cell_of_one (boxStays Y6.out hd); clear hd; (go_simp <;> with_reducible rfl)
  try simp only [Act.put, List.setIfInBounds_toArray, List.set_cons_zero, List.set_cons_succ]
  refine wpAnyH_take (i := 59) (oi := ⟨some 73, _, _, _, _, _⟩) (v := ?_) rfl (by kernel_rfl) (by kernel_rfl) (by kernel_rfl) (fun _ _ _ h => h) (Or.inl ⟨by rfl, ?_⟩) hS ?_
  rotate_left 1
  · intro w' hB; have hd := (HC.out.to W3 (by simp)).trans (hB.mono (HC.out.to W3 (by simp)).size); have e2 := cell_of_one (boxStays X3.out hd); have e3 := cell_of_one (boxStays Y3.out hd); have e6 := cell_of_one (boxStays Y6.out hd); clear hd; (go_simp <;> with_reducible rfl)
  try simp only [Act.put, List.setIfInBounds_toArray, List.set_cons_zero, List.set_cons_succ]
  refine wpAnyH_take (i := 60) (oi := ⟨some 74, _, _, _, _, _⟩) (v := ?_) rfl (by kernel_rfl) (by kernel_rfl) (by kernel_rfl) (fun _ _ _ h => h) (Or.inl ⟨by rfl, ?_⟩) hS ?_
  rotate_left 1
  · intro w' hB; have hd := (HC.out.to W3 (by simp)).trans (hB.mono (HC.out.to W3 (by simp)).size); have e2 := cell_of_one (boxStays X3.out hd); have e3 := cell_of_one (boxStays Y3.out hd); have e6 := cell_of_one (boxStays Y6.out hd); clear hd; (go_simp <;> with_reducible rfl)
  try simp only [Act.put, List.setIfInBounds_toArray, List.set_cons_zero, List.set_cons_succ]
  refine wpAnyH_take (i := 61) (oi := ⟨some 75, _, _, _, _, _⟩) (v := ?_) rfl (by kernel_rfl) (by kernel_rfl) (by kernel_rfl) (fun _ _ _ h => h) (Or.inl ⟨by rfl, ?_⟩) hS ?_
  rotate_left 1
  · intro w' hB; have hd := (HC.out.to W3 (by simp)).trans (hB.mono (HC.out.to W3 (by simp)).size); have e2 := cell_of_one (boxStays X3.out hd); have e3 := cell_of_one (boxStays Y3.out hd); have e6 := cell_of_one (boxStays Y6.out hd); clear hd; (go_simp <;> with_reducible rfl)
  try simp only [Act.put, List.setIfInBounds_toArray, List.set_cons_zero, List.set_cons_succ]
  refine wpAnyH_take (i := 62) (oi := ⟨some 76, _, _, _, _, _⟩) (v := ?_) rfl (by kernel_rfl) (by kernel_rfl) (by kernel_rfl) (fun _ _ _ h => h) (Or.inl ⟨by rfl, ?_⟩) hS ?_
  rotate_left 1
  · intro w' hB; have hd := (HC.out.to W3 (by simp)).trans (hB.mono (HC.out.to W3 (by simp)).size); have e2 := cell_of_one (boxStays X3.out hd); have e3 := cell_of_one (boxStays Y3.out hd); have e6 := cell_of_one (boxStays Y6.out hd); clear hd; (go_simp <;> with_reducible rfl)
  try simp only [Act.put, List.setIfInBounds_toArray, List.set_cons_zero, List.set_cons_succ]
  refine wpAnyH_take (i := 63) (oi := ⟨some 77, _, _, _, _, _⟩) (v := ?_) rfl (by kernel_rfl) (by kernel_rfl) (by kernel_rfl) (fun _ _ _ h => h) (Or.inl ⟨by rfl, ?_⟩) hS ?_
  rotate_left 1
  · intro w' hB; have hd := (HC.out.to W3 (by simp)).trans (hB.mono (HC.out.to W3 (by simp)).size); have e2 := cell_of_one (boxStays X3.out hd); have e3 := cell_of_one (boxStays Y3.out hd); have e6 := cell_of_one (boxStays Y6.out hd); clear hd; (go_simp <;> with_reducible rfl)
  try simp only [Act.put, List.setIfInBounds_toArray, List.set_cons_zero, List.set_cons_succ]
  refine wpAnyH_take (i := 64) (oi := ⟨some 78, _, _, _, _, _⟩) (v := ?_) rfl (by kernel_rfl) (by kernel_rfl) (by kernel_rfl) (fun _ _ _ h => h) (Or.inl ⟨by rfl, ?_⟩) hS ?_
  rotate_left 1
  · intro w' hB; have hd := (HC.out.to W3 (by simp)).trans (hB.mono (HC.out.to W3 (by simp)).size); have e2 := cell_of_one (boxStays X3.out hd); have e3 := cell_of_one (boxStays Y3.out hd); have e6 := cell_of_one (boxStays Y6.out hd); clear hd; (go_simp <;> with_reducible rfl)
  try simp only [Act.put, List.setIfInBounds_toArray, List.set_cons_zero, List.set_cons_succ]
  refine wpAnyH_take (i := 65) (oi := ⟨some 79, _, _, _, _, _⟩) (v := ?_) rfl (by kernel_rfl) (by kernel_rfl) (by kernel_rfl) (fun _ _ _ h => h) (Or.inl ⟨by rfl, ?_⟩) hS ?_
  rotate_left 1
  · intro w' hB; have hd := (HC.out.to W3 (by simp)).trans (hB.mono (HC.out.to W3 (by simp)).size); have e2 := cell_of_one (boxStays X3.out hd); have e3 := cell_of_one (boxStays Y3.out hd); have e6 := cell_of_one (boxStays Y6.out hd); clear hd; (go_simp <;> with_reducible rfl)
  try simp only [Act.put, List.setIfInBounds_toArray, List.set_cons_zero, List.set_cons_succ]
  refine wpAnyH_ready (rs := [66]) (by kernel_rfl) (by simp) (AllReadyH.cons (o := ⟨some 80, _, _, _, _, _⟩) rfl (fun K hK => ?_) AllReadyH.nil)
  go_simp
  refine (nil_shared _).mono ?_
  rintro e v14 ⟨rfl, hb⟩
  refine hK.out _ _ (hS.trans (hb.mono hS.size)) (fun _ => ?_)
  clear hK K
  have hB := hS.trans (hb.mono hS.size)
  refine wpAnyH_now hB ?_
  clear hS
  have hS := Below.refl v14.heap.size v14
  replace HC := Lib.hid (HC.out.push hB)
  clear hB hb
  try simp only [Act.put, List.setIfInBounds_toArray, List.set_cons_zero, List.set_cons_succ]
  refine wpAnyH_take (i := 67) (oi := ⟨some 81, _, _, _, _, _⟩) (v := ?_) rfl (by kernel_rfl) (by kernel_rfl) (by kernel_rfl) (fun _ _ _ h => h) (Or.inl ⟨by rfl, ?_⟩) hS ?_
  rotate_left 1
  · intro w' hB; have hd := (HC.out.to W3 (by simp)).trans (hB.mono (HC.out.to W3 (by simp)).size); have e2 := cell_of_one (boxStays X3.out hd); have e3 := cell_of_one (boxStays Y3.out hd); have e6 := cell_of_one (boxStays Y6.out hd); clear hd; (go_simp <;> with_reducible rfl)
  try simp only [Act.put, List.setIfInBounds_toArray, List.set_cons_zero, List.set_cons_succ]
  refine wpAnyH_take (i := 68) (oi := ⟨some 82, _, _, _, _, _⟩) (v := ?_) rfl (by kernel_rfl) (by kernel_rfl) (by kernel_rfl) (fun _ _ _ h => h) (Or.inl ⟨by rfl, ?_⟩) hS ?_
  rotate_left 1
  · intro w' hB; have hd := (HC.out.to W3 (by simp)).trans (hB.mono (HC.out.to W3 (by simp)).size); have e2 := cell_of_one (boxStays X3.out hd); have e3 := cell_of_one (boxStays Y3.out hd); have e6 := cell_of_one (boxStays Y6.out hd); clear hd; (go_simp <;> with_reducible rfl)
  try simp only [Act.put, List.setIfInBounds_toArray, List.set_cons_zero, List.set_cons_succ]
  refine wpAnyH_take (i := 69) (oi := ⟨some 83, _, _, _, _, _⟩) (v := ?_) rfl (by kernel_rfl) (by kernel_rfl) (by kernel_rfl) (fun _ _ _ h => h) (Or.inl ⟨by rfl, ?_⟩) hS ?_
  rotate_left 1
  · intro w' hB; have hd := (HC.out.to W3 (by simp)).trans (hB.mono (HC.out.to W3 (by simp)).size); have e2 := cell_of_one (boxStays X3.out hd); have e3 := cell_of_one (boxStays Y3.out hd); have e6 := cell_of_one (boxStays Y6.out hd); clear hd; (go_simp <;> with_reducible rfl)
  try simp only [Act.put, List.setIfInBounds_toArray, List.set_cons_zero, List.set_cons_succ]
  refine wpAnyH_take (i := 70) (oi := ⟨some 84, _, _, _, _, _⟩) (v := ?_) rfl (by kernel_rfl) (by kernel_rfl) (by kernel_rfl) (fun _ _ _ h => h) (Or.inl ⟨by rfl, ?_⟩) hS ?_
  rotate_left 1
  · intro w' hB; have hd := (HC.out.to W3 (by simp)).trans (hB.mono (HC.out.to W3 (by simp)).size); have e2 := cell_of_one (boxStays X3.out hd); have e3 := cell_of_one (boxStays Y3.out hd); have e6 := cell_of_one (boxStays Y6.out hd); clear hd; (go_simp <;> with_reducible rfl)
  try simp only [Act.put, List.setIfInBounds_toArray, List.set_cons_zero, List.set_cons_succ]
  refine wpAnyH_ready (rs := [71]) (by kernel_rfl) (by simp) (AllReadyH.cons (o := ⟨some 85, _, _, _, _, _⟩) rfl (fun K hK => ?_) AllReadyH.nil)
  go_simp
  refine (nil_tells _).mono ?_
  rintro e v15 ⟨rfl, hb⟩
  refine hK.out _ _ (hS.trans (hb.mono hS.size)) (fun _ => ?_)
  clear hK K
  have hB := hS.trans (hb.mono hS.size)
  refine wpAnyH_now hB ?_
  clear hS
  have hS := Below.refl v15.heap.size v15
  replace HC := Lib.hid (HC.out.push hB)
  clear hB hb
  try simp only [Act.put, List.setIfInBounds_toArray, List.set_cons_zero, List.set_cons_succ]
  refine wpAnyH_take (i := 72) (oi := ⟨some 86, _, _, _, _, _⟩) (v := ?_) rfl (by kernel_rfl) (by kernel_rfl) (by kernel_rfl) (fun _ _ _ h => h) (Or.inl ⟨by rfl, ?_⟩) hS ?_
  rotate_left 1
  · intro w' hB; have hd := (HC.out.to W3 (by simp)).trans (hB.mono (HC.out.to W3 (by simp)).size); have e2 := cell_of_one (boxStays X3.out hd); have e3 := cell_of_one (boxStays Y3.out hd); have e6 := cell_of_one (boxStays Y6.out hd); clear hd; (go_simp <;> with_reducible rfl)
  try simp only [Act.put, List.setIfInBounds_toArray, List.set_cons_zero, List.set_cons_succ]
  refine wpAnyH_take (i := 73) (oi := ⟨some 87, _, _, _, _, _⟩) (v := ?_) rfl (by kernel_rfl) (by kernel_rfl) (by kernel_rfl) (fun _ _ _ h => h) (Or.inl ⟨by rfl, ?_⟩) hS ?_
  rotate_left 1
  · intro w' hB; have hd := (HC.out.to W3 (by simp)).trans (hB.mono (HC.out.to W3 (by simp)).size); have e2 := cell_of_one (boxStays X3.out hd); have e3 := cell_of_one (boxStays Y3.out hd); have e6 := cell_of_one (boxStays Y6.out hd); clear hd; (go_simp <;> with_reducible rfl)
  try simp only [Act.put, List.setIfInBounds_toArray, List.set_cons_zero, List.set_cons_succ]
  refine wpAnyH_ready (rs := [74]) (by kernel_rfl) (by simp) (AllReadyH.cons (o := ⟨some 88, _, _, _, _, _⟩) rfl (fun K hK => ?_) AllReadyH.nil)
  go_simp
  refine (lw_known _).mono ?_
  rintro e v16 ⟨rfl, hb⟩
  refine hK.out _ _ (hS.trans (hb.mono hS.size)) (fun _ => ?_)
  clear hK K
  have hB := hS.trans (hb.mono hS.size)
  refine wpAnyH_now hB ?_
  clear hS
  have hS := Below.refl v16.heap.size v16
  replace HC := Lib.hid (HC.out.push hB)
  clear hB hb
  try simp only [Act.put, List.setIfInBounds_toArray, List.set_cons_zero, List.set_cons_succ]
  refine wpAnyH_take (i := 75) (oi := ⟨some 89, _, _, _, _, _⟩) (v := ?_) rfl (by kernel_rfl) (by kernel_rfl) (by kernel_rfl) (fun _ _ _ h => h) (Or.inl ⟨by rfl, ?_⟩) hS ?_
  rotate_left 1
  · intro w' hB; have hd := (HC.out.to W3 (by simp)).trans (hB.mono (HC.out.to W3 (by simp)).size); have e2 := cell_of_one (boxStays X3.out hd); have e3 := cell_of_one (boxStays Y3.out hd); have e6 := cell_of_one (boxStays Y6.out hd); clear hd; (go_simp <;> with_reducible rfl)
  try simp only [Act.put, List.setIfInBounds_toArray, List.set_cons_zero, List.set_cons_succ]
  refine wpAnyH_take (i := 76) (oi := ⟨some 0, _, _, _, _, _⟩) (v := ?_) rfl (by kernel_rfl) (by kernel_rfl) (by kernel_rfl) (fun _ _ _ h => h) (Or.inl ⟨by rfl, ?_⟩) hS ?_
  rotate_left 1
  · intro w' hB; have hd := (HC.out.to W3 (by simp)).trans (hB.mono (HC.out.to W3 (by simp)).size); have e2 := cell_of_one (boxStays X3.out hd); have e3 := cell_of_one (boxStays Y3.out hd); have e6 := cell_of_one (boxStays Y6.out hd); clear hd; (go_simp <;> with_reducible rfl)
  try simp only [Act.put, List.setIfInBounds_toArray, List.set_cons_zero, List.set_cons_succ]
  refine wpAnyH_done (by kernel_rfl) (NoPanic.normal ?_) _
  have DD : Hid (Below w.heap.size w v16) := Lib.hid (D3.out.trans ((HC.out.to W3 (by simp)).mono S3.out))
  clear hS HC
  go_wp2_with fail
  go_ret
  exact ⟨rfl, DD.out⟩
end Go.Proofs.Ytikdlhbamdefaaa

