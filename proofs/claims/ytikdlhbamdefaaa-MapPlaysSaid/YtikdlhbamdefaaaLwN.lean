
/- Walks: made; plain: how many nodes are new. -/
import Derived.Test.YtikdlhbamdefaaaTrC
import Derived.Test.YtikdlhbamdefaaaLwI
namespace Go.Proofs.Ytikdlhbamdefaaa
open Go.RowKit Pm
theorem shared_eq (a b : Tr Int) : sharedNI a b = ((blocks a).filter fun x => decide (x ∈ blocks b)).length := by
  unfold sharedNI
  have h1 := (nodesL_permI a).filter (fun x => decide (x ∈ blocks b))
  rw [← h1.length_eq, List.filter_map, List.length_map]
  congr 1
  apply List.filter_congr
  intro x _
  have h2 : blkOfI x ∈ (nodesLI b).map blkOfI ↔ blkOfI x ∈ blocks b := (nodesL_permI b).mem_iff
  simp only [Function.comp]
  exact decide_eq_decide.2 h2
theorem shared_le (a b : Tr Int) : sharedNI a b ≤ sz a := by
  rw [shared_eq, ← sz_blocks]
  exact List.length_filter_le _ _
/-- What is not shared is new. -/
theorem made_le {N : Nat} {a b : Tr Int} (h : ∀ x ∈ blocks b, N ≤ x ∨ x ∈ blocks a) : sz b ≤ sharedNI b a + nw N b := by
  rw [shared_eq, nw_filter, ← sz_blocks]
  have h1 := filter_not (fun x => decide (x ∈ blocks a)) (blocks b)
  have h2 : ((blocks b).filter fun x => !decide (x ∈ blocks a)).length ≤ ((blocks b).filter fun x => decide (N ≤ x)).length := by
    have e : (blocks b).filter (fun x => !decide (x ∈ blocks a)) = ((blocks b).filter fun x => decide (N ≤ x)).filter (fun x => !decide (x ∈ blocks a)) := by
      rw [List.filter_filter]
      apply List.filter_congr
      intro x hx
      rcases h x hx with h | h
      · simp [h]
      · simp [h]
    rw [e]
    exact List.length_filter_le _ _
  omega
theorem made2_le {N : Nat} {a b c : Tr Int} (h : ∀ x ∈ blocks c, N ≤ x ∨ x ∈ blocks a ∨ x ∈ blocks b) : sz c ≤ sharedNI c a + sharedNI c b + nw N c := by
  rw [shared_eq, shared_eq, nw_filter, ← sz_blocks]
  have h1 := filter_not (fun x => decide (N ≤ x)) (blocks c)
  have h2 := filter_or_le (fun x => !decide (N ≤ x) && (decide (x ∈ blocks a) || decide (x ∈ blocks b))) (fun x => decide (x ∈ blocks a)) (fun x => decide (x ∈ blocks b)) (by intro x hx; simp at hx ⊢; exact hx.2) (blocks c)
  have e : (blocks c).filter (fun x => !decide (N ≤ x)) = (blocks c).filter (fun x => !decide (N ≤ x) && (decide (x ∈ blocks a) || decide (x ∈ blocks b))) := by
    apply List.filter_congr
    intro x hx
    rcases h x hx with h | h | h
    · simp [h]
    · simp [h]
    · simp [h]
  rw [e] at h1
  omega
set_option maxRecDepth 100000 in
set_option maxHeartbeats 2000000 in
/-- made. -/
theorem lw_made (a b : Tr Int) (w : World) (ha : AtI w a) (hb : AtI w b) (hnd : (blocks a).Nodup) (hs : sz b ≤ 1099511627776) :
    Calls Try.prog 24 #[.agg #[.pointer (pa a)], .agg #[.pointer (pa b)]] w fun e w' => e = .returned (.int .i64 ((sz b : Int) - (sharedNI b a : Int))) ∧ Below w.heap.size w w' := by
  obtain ⟨w1, hw1⟩ : ∃ w1, (w.alloc (.cells #[.pointer (pa a)] 26)).alloc (.cells #[.pointer (pa b)] 26) = w1 := ⟨_, rfl⟩
  have hb1 : Below w.heap.size w w1 := by rw [← hw1]; exact ((Below.refl _ w).alloc (Nat.le_refl _) _).alloc (by simp) _
  have x0 : w1.heap[w.heap.size]? = some (.cells #[.pointer (pa a)] 26 (0, 0)) := by rw [← hw1]; exact boxStays (heap_alloc_new w _) (below_new _ _)
  have x1 : w1.heap[w.heap.size + 1]? = some (.cells #[.pointer (pa b)] 26 (0, 0)) := by rw [← hw1]; have := heap_alloc_new (w.alloc (.cells #[.pointer (pa a)] 26)) (.cells #[.pointer (pa b)] 26); simpa using this
  have X0 := Lib.hid x0
  have X1 := Lib.hid x1
  have A1 := Lib.hid (ha.below hb1 rfl)
  have B1 := Lib.hid (hb.below hb1 rfl)
  have HB1 := Lib.hid hb1
  have HW := Lib.hid hw1
  have HND := Lib.hid hnd
  have hsh := shared_le b a
  obtain ⟨q, hq⟩ : ∃ q, sharedNI b a = q := ⟨_, rfl⟩
  obtain ⟨n, hn⟩ : ∃ n, sz b = n := ⟨_, rfl⟩
  have HQ := Lib.hid hq
  have HN := Lib.hid hn
  rw [hq, hn] at hsh
  rw [hn] at hs
  rw [hq, hn]
  clear ha hb hb1 x0 x1 hw1 hnd hq hn
  have hwr : IntKind.i64.wrap ((n : Int) - (q : Int)) = (n : Int) - (q : Int) := IntWalk.i64_in _ (by omega)
  go_enter Try.func24, Try.ntmps24
  go_wp2_with fail
  rw [HW.out]
  have HC : Hid (Chain [w1] w1) := Lib.hid (Chain.one w1)
  refine wp_region_noPanic ?_
  refine wp_region_held_drew (S := fun w' => Below w1.heap.size w1 w') (by kernel_rfl) (Below.refl _ _).drew (fun hS => ?_)
  refine wpAnyH_take (i := 0) (oi := ⟨some 5, _, _, _, _, _⟩) (v := ?_) rfl (by kernel_rfl) (by kernel_rfl) (by kernel_rfl) (fun _ _ _ h => h) (Or.inl ⟨by rfl, ?_⟩) hS ?_
  rotate_left 1
  · intro w' hB; have hd := (HC.out.to w1 (by simp)).trans (hB.mono (HC.out.to w1 (by simp)).size); have k0 := cell_of_one (boxStays X0.out hd); have k1 := cell_of_one (boxStays X1.out hd); clear hd; (go_simp <;> with_reducible rfl)
  try simp only [Act.put, List.setIfInBounds_toArray, List.set_cons_zero, List.set_cons_succ]
  refine wpAnyH_take (i := 2) (oi := ⟨some 7, _, _, _, _, _⟩) (v := ?_) rfl (by kernel_rfl) (by kernel_rfl) (by kernel_rfl) (fun _ _ _ h => h) (Or.inl ⟨by rfl, ?_⟩) hS ?_
  rotate_left 1
  · intro w' hB; have hd := (HC.out.to w1 (by simp)).trans (hB.mono (HC.out.to w1 (by simp)).size); have k0 := cell_of_one (boxStays X0.out hd); have k1 := cell_of_one (boxStays X1.out hd); clear hd; (go_simp <;> with_reducible rfl)
  try simp only [Act.put, List.setIfInBounds_toArray, List.set_cons_zero, List.set_cons_succ]
  refine wpAnyH_take (i := 3) (oi := ⟨some 8, _, _, _, _, _⟩) (v := ?_) rfl (by kernel_rfl) (by kernel_rfl) (by kernel_rfl) (fun _ _ _ h => h) (Or.inl ⟨by rfl, ?_⟩) hS ?_
  rotate_left 1
  · intro w' hB; have hd := (HC.out.to w1 (by simp)).trans (hB.mono (HC.out.to w1 (by simp)).size); have k0 := cell_of_one (boxStays X0.out hd); have k1 := cell_of_one (boxStays X1.out hd); clear hd; (go_simp <;> with_reducible rfl)
  try simp only [Act.put, List.setIfInBounds_toArray, List.set_cons_zero, List.set_cons_succ]
  refine wpAnyH_ready (rs := [1]) (by kernel_rfl) (by simp) (AllReadyH.cons (o := ⟨some 6, _, _, _, _, _⟩) rfl (fun K hK => ?_) AllReadyH.nil)
  go_simp
  refine (pm_MLenI b _ (B1.out.chain HC.out hS (by simp))).mono ?_
  rintro e w2 ⟨rfl, hb⟩
  refine hK.out _ _ (hS.trans (hb.mono hS.size)) (fun _ => ?_)
  clear hK K
  have hB := hS.trans (hb.mono hS.size)
  refine wpAnyH_now hB ?_
  clear hS
  have hS := Below.refl w2.heap.size w2
  replace HC := Lib.hid (HC.out.push hB)
  rw [HN.out]
  clear hB hb
  try simp only [Act.put, List.setIfInBounds_toArray, List.set_cons_zero, List.set_cons_succ]
  refine wpAnyH_ready (rs := [4]) (by kernel_rfl) (by simp) (AllReadyH.cons (o := ⟨some 9, _, _, _, _, _⟩) rfl (fun K hK => ?_) AllReadyH.nil)
  go_simp
  refine (pm_SharedI b a _ (B1.out.chain HC.out hS (by simp)) (A1.out.chain HC.out hS (by simp)) HND.out (by rw [HN.out]; omega)).mono ?_
  rintro e w3 ⟨rfl, hb⟩
  refine hK.out _ _ (hS.trans (hb.mono hS.size)) (fun _ => ?_)
  clear hK K
  have hB := hS.trans (hb.mono hS.size)
  refine wpAnyH_now hB ?_
  clear hS
  have hS := Below.refl w3.heap.size w3
  replace HC := Lib.hid (HC.out.push hB)
  rw [HQ.out]
  clear hB hb
  try simp only [Act.put, List.setIfInBounds_toArray, List.set_cons_zero, List.set_cons_succ]
  refine wpAnyH_take (i := 5) (oi := ⟨some 10, _, _, _, _, _⟩) (v := ?_) rfl (by kernel_rfl) (by kernel_rfl) (by kernel_rfl) (fun _ _ _ h => h) (Or.inl ⟨by rfl, ?_⟩) hS ?_
  rotate_left 1
  · intro w' hB; have hd := (HC.out.to w1 (by simp)).trans (hB.mono (HC.out.to w1 (by simp)).size); have k0 := cell_of_one (boxStays X0.out hd); have k1 := cell_of_one (boxStays X1.out hd); clear hd; (go_simp <;> with_reducible rfl)
  try simp only [Act.put, List.setIfInBounds_toArray, List.set_cons_zero, List.set_cons_succ]
  refine wpAnyH_take (i := 6) (oi := ⟨some 4, _, _, _, _, _⟩) (v := ?_) rfl (by kernel_rfl) (by kernel_rfl) (by kernel_rfl) (fun _ _ _ h => h) (Or.inl ⟨by rfl, ?_⟩) hS ?_
  rotate_left 1
  · intro w' hB; have hd := (HC.out.to w1 (by simp)).trans (hB.mono (HC.out.to w1 (by simp)).size); have k0 := cell_of_one (boxStays X0.out hd); have k1 := cell_of_one (boxStays X1.out hd); clear hd; (go_simp <;> with_reducible rfl)
  try simp only [Act.put, List.setIfInBounds_toArray, List.set_cons_zero, List.set_cons_succ]
  refine wpAnyH_done (by kernel_rfl) (NoPanic.normal ?_) _
  all_goals
    have D2 : Hid (Below w.heap.size w w3) := Lib.hid (HB1.out.trans ((HC.out.to w1 (by simp)).mono HB1.out.size))
    clear hS HC
    go_wp2_with fail
    go_ret
    exact ⟨rfl, D2.out⟩
end Go.Proofs.Ytikdlhbamdefaaa

