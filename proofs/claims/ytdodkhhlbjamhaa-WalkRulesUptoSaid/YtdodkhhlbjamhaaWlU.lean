
/- Walks of law 08: WalkUnread. -/
import Derived.Test.YtdodkhhlbjamhaaWlF
namespace Go.Proofs.Ytdodkhhlbjamhaa
open Go.RowKit Pm
/-- What the rule writes. -/
def unX (ab : Nat) (k : Nat) (t : TypeId) : Prop := k = ab ∧ t = 3
set_option maxRecDepth 100000 in
set_option maxHeartbeats 2000000 in
theorem un_call (ab : Nat) (j : Int) (key : ByteArray) (p q r : Int × Bool) (W : World) (h : Boxed W ab 3 (.int .i64 j)) :
    Calls Try.prog 10 #[.string key, prtVI p, prtVI q, prtVI r, .pointer (some ⟨ab, 0, none⟩)] W fun e W' =>
      e = .returned (.tuple #[.int .i64 0, .bool false]) ∧ (∃ j', Boxed W' ab 3 (.int .i64 j')) ∧ KeepX (unX ab) W W' := by
  obtain ⟨p1, p2⟩ := p
  obtain ⟨q1, q2⟩ := q
  obtain ⟨r1, r2⟩ := r
  unfold prtVI
  dsimp only
  obtain ⟨W1, hW1⟩ : ∃ W1, allocs W [.cells #[.int .i64 p1, .bool p2] 33, .cells #[.int .i64 q1, .bool q2] 33, .cells #[.int .i64 r1, .bool r2] 33] = W1 := ⟨_, rfl⟩
  have hb : Below W.heap.size W W1 := by rw [← hW1]; exact allocs_below _ _
  have h1 : Boxed W1 ab 3 (.int .i64 j) := boxStays h hb
  have K1 : Hid (KeepX (unX ab) W W1) := Lib.hid (KeepX.ofBelow hb)
  have hW : ((W.alloc (.cells #[.int .i64 p1, .bool p2] 33)).alloc (.cells #[.int .i64 q1, .bool q2] 33)).alloc (.cells #[.int .i64 r1, .bool r2] 33) = W1 := hW1
  have k0 := cell_of_one h1
  have f0 := h1.frozen
  have H := Lib.hid h1
  clear h h1 hb hW1
  go_enter Try.func10, Try.ntmps10
  go_wp2_with fail
  go_ret2
  exact ⟨rfl, ⟨_, H.out.set _⟩, K1.out.setRow H.out ⟨rfl, rfl⟩ 0 _⟩
theorem un_rule (ab : Nat) (B0 A0 O0 : ByteArray → Int × Bool) (B : Nat) (hB : ab < B) : RuleOKI (unX ab) 10 #[.pointer (some ⟨ab, 0, none⟩)] (fun _ => (0, false)) B0 A0 O0 B (fun xs W => (∃ j, Boxed W ab 3 (.int .i64 j)) ∧ (xs = [] → Boxed W ab 3 (.int .i64 0))) where
  own := fun xs W W' h hk => by
    have hn : ∀ v, Boxed W ab 3 v → Boxed W' ab 3 v := fun v hv => hk.row hv (fun h => by have := h.1; omega)
    obtain ⟨⟨j, hj⟩, h0⟩ := h
    exact ⟨⟨j, hn _ hj⟩, fun e => hn _ (h0 e)⟩
  call := fun key xs W h _ _ => by
    obtain ⟨⟨j, hj⟩, _⟩ := h
    refine (un_call ab j key (B0 key) (A0 key) (O0 key) W hj).mono ?_
    rintro e W' ⟨rfl, h1, h2⟩
    exact ⟨rfl, ⟨h1, fun e => by simp at e⟩, h2⟩
  enters := enters_of Try.func10 (by kernel_rfl) rfl
  nNode := fun _ h => absurd h.2 (by decide)
  nCount := fun _ h => absurd h.2 (by decide)
  nMap := fun _ h => absurd h.2 (by decide)
  nGo := fun _ h => absurd h.2 (by decide)
  nRule := fun _ h => absurd h.2 (by decide)
/-- A walk of which two are one. -/
theorem un_run (ab : Nat) (s a o r : Tr Int) (w : World) (gs : Gd s) (ga : Gd a) (go : Gd o) (hz : sz s ≤ 80 ∧ sz a ≤ 80 ∧ sz o ≤ 80) (hs : AtI w s) (ha : AtI w a) (ho : AtI w o) (hb : Boxed w ab 3 (.int .i64 0))
    (hr : ((pa a = pa o ∨ pa s = pa o) ∧ pa r = pa a) ∨ (pa s = pa a ∧ pa r = pa o)) :
    Calls Try.prog 11 #[.agg #[.pointer (pa s)], .agg #[.pointer (pa a)], .agg #[.pointer (pa o)], .func (.func 10) #[] #[.pointer (some ⟨ab, 0, none⟩)]] w fun e w' =>
      ∃ m : Tr Int, e = .returned (.tuple #[.agg #[.pointer (pa m)], .agg #[.int .i64 0, .int .i64 0, .int .i64 0], .int .i64 0]) ∧ pa m = pa r ∧ AtI w' m ∧ Boxed w' ab 3 (.int .i64 0) ∧ KeepX (unX ab) w w' := by
  refine (wk_RunI (I := fun xs W => (∃ j, Boxed W ab 3 (.int .i64 j)) ∧ (xs = [] → Boxed W ab 3 (.int .i64 0))) s a o w (un_rule ab _ _ _ w.heap.size hb.lt) (by omega) (by omega) (wlk_in ⟨gs.1, gs.2.1⟩ ⟨ga.1, ga.2.1⟩ ⟨go.1, go.2.1⟩) hs ha ho ⟨⟨_, hb⟩, fun _ => hb⟩).mono ?_
  rintro e w' ⟨m, asked, made, rfl, _, hm, ⟨_, hi⟩, _, hmade, hk, htw⟩
  have h : asked = [] ∧ pa m = pa r ∧ made = 0 := by
    rcases hr with ⟨h1, h2⟩ | ⟨h1, h2⟩
    · obtain ⟨h3, h4⟩ := htw.1 h1
      exact ⟨h3, by rw [h2, h4], hmade (.inr (.inl (by rw [h4])))⟩
    · by_cases h5 : pa a = pa o ∨ pa s = pa o
      · obtain ⟨h3, h4⟩ := htw.1 h5
        have h6 : pa a = pa o := h5.elim id (fun h => h1.symm.trans h)
        exact ⟨h3, by rw [h2, h4, h6], hmade (.inr (.inl (by rw [h4])))⟩
      · obtain ⟨h3, h4⟩ := htw.2 h1 (fun h => h5 (.inl h)) (fun h => h5 (.inr h))
        exact ⟨h3, by rw [h2, h4], hmade (.inr (.inr (by rw [h4])))⟩
  obtain ⟨rfl, h2, rfl⟩ := h
  exact ⟨m, rfl, h2, hm, hi rfl, hk⟩
theorem unX_ok (ab : Nat) (k : Nat) (t : TypeId) (h : t ≠ 3) : ¬ unX ab k t := fun hh => h hh.2
theorem Facts.keepX {Ex : Nat → TypeId → Prop} {H : List (Nat × Obj)} {A B : World} (h : Facts H A) (hk : KeepX Ex A B) (hn : ∀ p ∈ H, ∀ c t fr, p.2 = .cells c t fr → ¬ Ex p.1 t) : Facts H B := fun p hp => hk.rest p.1 p.2 (h p hp) (hn p hp)
set_option maxRecDepth 100000 in
set_option maxHeartbeats 8000000 in
theorem wl_Unread (x : Thr) (w : World) (hx : x.At w) : Calls Try.prog 3 #[.agg x.vs] w fun e w' => e = .returned (.bool true) ∧ Below w.heap.size w w' := by
  obtain ⟨z, hz0⟩ : ∃ z, w.heap.size = z := ⟨_, rfl⟩
  obtain ⟨w1, hw1⟩ : ∃ W, w.alloc (.cells x.vs 25) = W := ⟨_, rfl⟩
  have hb : Below w.heap.size w w1 := by rw [← hw1]; exact below_new _ _
  have r0 : w1.heap[z]? = some (.cells x.vs 25 (0, 0)) := by rw [← hw1, ← hz0]; exact heap_alloc_new _ _
  have HW := Lib.hid hw1
  have HX := Lib.hid (hx.below hb)
  have B1 := Lib.hid hb
  have R0 := Lib.hid r0
  have cs := row8 r0
  clear hw1 hx hb r0
  go_enter Try.func3, Try.ntmps3
  go_upto_region 1 with (fail)
  rw [HW.out]
  obtain ⟨s0, s1, s2, s3, s4, s5, s6, s7⟩ := cs
  go_wp2_with fail
  refine (wl_few x w1).mono ?_
  rintro e w2 ⟨rfl, hb⟩
  have B2 : Hid (Below w.heap.size w w2) := Lib.hid (B1.out.trans (hb.mono B1.out.size))
  have R2 := Lib.hid (boxStays R0.out hb)
  have X2 := Lib.hid (HX.out.below hb)
  clear hb R0 HX B1 HW s0 s1 s2 s3 s4 s5 s6 s7
  cases hfew : x.few with
  | false =>
    go_wp2_with fail
    refine (wl_known w2).mono ?_
    rintro e w3 ⟨rfl, hb⟩
    go_wp2_with fail
    go_ret
    exact ⟨rfl, B2.out.trans (hb.mono B2.out.size)⟩
  | true =>
    obtain ⟨s0, s1, s2, s3, s4, s5, s6, s7⟩ := row8 R2.out
    go_wp2_with fail
    refine (wl_maps x w2 X2.out hfew).mono ?_
    rintro e w3 ⟨s, a, b, rfl, gs, ga, gb, zs, za, zb, hs, ha, hbt, hb⟩
    clear s0 s1 s2 s3 s4 s5 s6 s7 hfew
    go_upto_region 4 with (fail)
    obtain ⟨c, hc⟩ : ∃ c, w3.heap.size = c := ⟨_, rfl⟩
    rw [hc]
    obtain ⟨v3, hv3⟩ : ∃ W, allocs w3 [.cells #[.pointer (pa s)] 29, .cells #[.pointer (pa a)] 29, .cells #[.pointer (pa b)] 29] = W := ⟨_, rfl⟩
    rw [show ((w3.alloc (.cells #[.pointer (pa s)] 29)).alloc (.cells #[.pointer (pa a)] 29)).alloc (.cells #[.pointer (pa b)] 29) = v3 from hv3]
    have hb3 : Below w3.heap.size w3 v3 := by rw [← hv3]; exact allocs_below _ _
    have hx3 : ∀ i ob, [Obj.cells #[.pointer (pa s)] 29, .cells #[.pointer (pa a)] 29, .cells #[.pointer (pa b)] 29][i]? = some ob → v3.heap[c + i]? = some ob := fun i ob h => by have := allocs_get _ w3 i ob h; rw [hv3, hc] at this; exact this
    have F3 : Hid (Facts [(c, .cells #[.pointer (pa s)] 29 (0, 0)), (c + 1, .cells #[.pointer (pa a)] 29 (0, 0)), (c + 1 + 1, .cells #[.pointer (pa b)] 29 (0, 0))] v3) := Lib.hid (fun p hp => by
      simp only [List.mem_cons, List.not_mem_nil, or_false] at hp
      rcases hp with rfl | rfl | rfl
      · exact hx3 0 _ rfl
      · exact hx3 1 _ rfl
      · exact hx3 2 _ rfl)
    have B3 : Hid (Below w.heap.size w v3) := Lib.hid (B2.out.trans ((hb.trans (hb3.mono hb.size)).mono B2.out.size))
    have T3 : Hid (AtI v3 s ∧ AtI v3 a ∧ AtI v3 b) := Lib.hid ⟨hs.below hb3 rfl, ha.below hb3 rfl, hbt.below hb3 rfl⟩
    have GD : Hid (Gd s ∧ Gd a ∧ Gd b) := Lib.hid ⟨gs, ga, gb⟩
    have hcw : w.heap.size ≤ c := by have := B2.out.size; have := hb.size; omega
    clear hs ha hbt hb hb3 hx3 hv3 gs ga gb B2 R2 X2
    go_upto_region 5 with (fail)
    obtain ⟨ab, hab⟩ : ∃ c, v3.heap.size = c := ⟨_, rfl⟩
    rw [hab]
    obtain ⟨v4, hv4⟩ : ∃ W, v3.alloc (.cells #[.int .i64 0] 3) = W := ⟨_, rfl⟩
    rw [hv4]
    have hb4 : Below v3.heap.size v3 v4 := by rw [← hv4]; exact below_new _ _
    have A4 : Hid (Boxed v4 ab 3 (.int .i64 0)) := Lib.hid (by rw [← hv4, ← hab]; exact Boxed.new _ _ _)
    have F4 := Lib.hid (F3.out.below hb4)
    have T4 : Hid (AtI v4 s ∧ AtI v4 a ∧ AtI v4 b) := Lib.hid ⟨T3.out.1.below hb4 rfl, T3.out.2.1.below hb4 rfl, T3.out.2.2.below hb4 rfl⟩
    have K4 : Hid (KeepX (unX ab) w v4) := Lib.hid (KeepX.ofBelow (B3.out.trans (hb4.mono B3.out.size)))
    have haw : w.heap.size ≤ ab := by have := B3.out.size; omega
    clear hb4 hv4 hab F3 T3 B3
    have ka : v4.cell? ⟨c + 1, 0, none⟩ = some (.pointer (pa a)) := F4.out.cell (t := 29) (by simp)
    go_wp2_with fail
    refine (un_run ab a a a a v4 GD.out.2.1 GD.out.2.1 GD.out.2.1 ⟨by omega, by omega, by omega⟩ T4.out.2.1 T4.out.2.1 T4.out.2.1 A4.out (.inl ⟨.inl rfl, rfl⟩)).mono ?_
    rintro e u5 ⟨m0, rfl, hmr, hm, hi, hk⟩
    have P0 := Lib.hid hmr
    clear hmr
    go_upto_region 7 with (fail)
    obtain ⟨e0, hc⟩ : ∃ c, u5.heap.size = c := ⟨_, rfl⟩
    rw [hc]
    obtain ⟨v5, hv⟩ : ∃ W, allocs u5 [.cells #[.pointer (pa m0)] 29, .cells #[.int .i64 0, .int .i64 0, .int .i64 0] 36] = W := ⟨_, rfl⟩
    rw [show (u5.alloc (.cells #[.pointer (pa m0)] 29)).alloc (.cells #[.int .i64 0, .int .i64 0, .int .i64 0] 36) = v5 from hv]
    have hb : Below u5.heap.size u5 v5 := by rw [← hv]; exact allocs_below _ _
    have hx0 : v5.heap[e0]? = some (.cells #[.pointer (pa m0)] 29 (0, 0)) := by
      have := allocs_get [.cells #[.pointer (pa m0)] 29, .cells #[.int .i64 0, .int .i64 0, .int .i64 0] 36] u5 0 _ rfl
      rw [hv, hc] at this; exact this
    have hx1 : v5.heap[e0 + 1]? = some (.cells #[.int .i64 0, .int .i64 0, .int .i64 0] 36 (0, 0)) := by
      have := allocs_get [.cells #[.pointer (pa m0)] 29, .cells #[.int .i64 0, .int .i64 0, .int .i64 0] 36] u5 1 _ rfl
      rw [hv, hc] at this; exact this
    have F5 : Hid (Facts [(e0, .cells #[.pointer (pa m0)] 29 (0, 0)), (e0 + 1, .cells #[.int .i64 0, .int .i64 0, .int .i64 0] 36 (0, 0)), (c, .cells #[.pointer (pa s)] 29 (0, 0)), (c + 1, .cells #[.pointer (pa a)] 29 (0, 0)), (c + 1 + 1, .cells #[.pointer (pa b)] 29 (0, 0))] v5) := Lib.hid ((((F4.out.keepX hk (by
      intro p hp c' t' fr' e
      simp only [List.mem_cons, List.not_mem_nil, or_false] at hp
      rcases hp with rfl | rfl | rfl <;> (cases e; exact unX_ok ab _ _ (by decide)))).below hb).cons hx1).cons hx0)
    have T5 : Hid (AtI v5 s ∧ AtI v5 a ∧ AtI v5 b ∧ AtI v5 m0) := Lib.hid ⟨(T4.out.1.keepX hk (fun k => unX_ok ab k _ (by decide))).below hb rfl, (T4.out.2.1.keepX hk (fun k => unX_ok ab k _ (by decide))).below hb rfl, (T4.out.2.2.keepX hk (fun k => unX_ok ab k _ (by decide))).below hb rfl, hm.below hb rfl⟩
    have A5 : Hid (Boxed v5 ab 3 (.int .i64 0)) := Lib.hid (boxStays hi hb)
    have K5 : Hid (KeepX (unX ab) w v5) := Lib.hid ((K4.out.trans hk).trans (KeepX.ofBelow hb))
    clear hm hi hk hc hv hb hx0 hx1 F4 T4 A4 K4 ka
    have ks : v5.cell? ⟨c, 0, none⟩ = some (.pointer (pa s)) := F5.out.cell (t := 29) (by simp)
    have kb : v5.cell? ⟨c + 1 + 1, 0, none⟩ = some (.pointer (pa b)) := F5.out.cell (t := 29) (by simp)
    go_wp2_with fail
    refine (un_run ab s s b b v5 GD.out.1 GD.out.1 GD.out.2.2 ⟨by omega, by omega, by omega⟩ T5.out.1 T5.out.1 T5.out.2.2.1 A5.out (.inr ⟨rfl, rfl⟩)).mono ?_
    rintro e u6 ⟨m1, rfl, hmr, hm, hi, hk⟩
    have P1 := Lib.hid hmr
    clear hmr
    go_upto_region 8 with (fail)
    obtain ⟨e1, hc⟩ : ∃ c, u6.heap.size = c := ⟨_, rfl⟩
    rw [hc]
    obtain ⟨v6, hv⟩ : ∃ W, allocs u6 [.cells #[.pointer (pa m1)] 29, .cells #[.int .i64 0, .int .i64 0, .int .i64 0] 36] = W := ⟨_, rfl⟩
    rw [show (u6.alloc (.cells #[.pointer (pa m1)] 29)).alloc (.cells #[.int .i64 0, .int .i64 0, .int .i64 0] 36) = v6 from hv]
    have hb : Below u6.heap.size u6 v6 := by rw [← hv]; exact allocs_below _ _
    have hx0 : v6.heap[e1]? = some (.cells #[.pointer (pa m1)] 29 (0, 0)) := by
      have := allocs_get [.cells #[.pointer (pa m1)] 29, .cells #[.int .i64 0, .int .i64 0, .int .i64 0] 36] u6 0 _ rfl
      rw [hv, hc] at this; exact this
    have hx1 : v6.heap[e1 + 1]? = some (.cells #[.int .i64 0, .int .i64 0, .int .i64 0] 36 (0, 0)) := by
      have := allocs_get [.cells #[.pointer (pa m1)] 29, .cells #[.int .i64 0, .int .i64 0, .int .i64 0] 36] u6 1 _ rfl
      rw [hv, hc] at this; exact this
    have F6 : Hid (Facts [(e1, .cells #[.pointer (pa m1)] 29 (0, 0)), (e1 + 1, .cells #[.int .i64 0, .int .i64 0, .int .i64 0] 36 (0, 0)), (e0, .cells #[.pointer (pa m0)] 29 (0, 0)), (e0 + 1, .cells #[.int .i64 0, .int .i64 0, .int .i64 0] 36 (0, 0)), (c, .cells #[.pointer (pa s)] 29 (0, 0)), (c + 1, .cells #[.pointer (pa a)] 29 (0, 0)), (c + 1 + 1, .cells #[.pointer (pa b)] 29 (0, 0))] v6) := Lib.hid ((((F5.out.keepX hk (by
      intro p hp c' t' fr' e
      simp only [List.mem_cons, List.not_mem_nil, or_false] at hp
      rcases hp with rfl | rfl | rfl | rfl | rfl <;> (cases e; exact unX_ok ab _ _ (by decide)))).below hb).cons hx1).cons hx0)
    have T6 : Hid (AtI v6 s ∧ AtI v6 a ∧ AtI v6 b ∧ AtI v6 m0 ∧ AtI v6 m1) := Lib.hid ⟨(T5.out.1.keepX hk (fun k => unX_ok ab k _ (by decide))).below hb rfl, (T5.out.2.1.keepX hk (fun k => unX_ok ab k _ (by decide))).below hb rfl, (T5.out.2.2.1.keepX hk (fun k => unX_ok ab k _ (by decide))).below hb rfl, (T5.out.2.2.2.keepX hk (fun k => unX_ok ab k _ (by decide))).below hb rfl, hm.below hb rfl⟩
    have A6 : Hid (Boxed v6 ab 3 (.int .i64 0)) := Lib.hid (boxStays hi hb)
    have K6 : Hid (KeepX (unX ab) w v6) := Lib.hid ((K5.out.trans hk).trans (KeepX.ofBelow hb))
    clear hm hi hk hc hv hb hx0 hx1 F5 T5 A5 K5 ks kb
    have ks : v6.cell? ⟨c, 0, none⟩ = some (.pointer (pa s)) := F6.out.cell (t := 29) (by simp)
    have ka : v6.cell? ⟨c + 1, 0, none⟩ = some (.pointer (pa a)) := F6.out.cell (t := 29) (by simp)
    go_wp2_with fail
    refine (un_run ab s a s a v6 GD.out.1 GD.out.2.1 GD.out.1 ⟨by omega, by omega, by omega⟩ T6.out.1 T6.out.2.1 T6.out.1 A6.out (.inl ⟨.inr rfl, rfl⟩)).mono ?_
    rintro e u7 ⟨m2, rfl, hmr, hm, hi, hk⟩
    have P2 := Lib.hid hmr
    clear hmr
    go_upto_region 9 with (fail)
    obtain ⟨e2, hc⟩ : ∃ c, u7.heap.size = c := ⟨_, rfl⟩
    rw [hc]
    obtain ⟨v7, hv⟩ : ∃ W, allocs u7 [.cells #[.pointer (pa m2)] 29, .cells #[.int .i64 0, .int .i64 0, .int .i64 0] 36] = W := ⟨_, rfl⟩
    rw [show (u7.alloc (.cells #[.pointer (pa m2)] 29)).alloc (.cells #[.int .i64 0, .int .i64 0, .int .i64 0] 36) = v7 from hv]
    have hb : Below u7.heap.size u7 v7 := by rw [← hv]; exact allocs_below _ _
    have hx0 : v7.heap[e2]? = some (.cells #[.pointer (pa m2)] 29 (0, 0)) := by
      have := allocs_get [.cells #[.pointer (pa m2)] 29, .cells #[.int .i64 0, .int .i64 0, .int .i64 0] 36] u7 0 _ rfl
      rw [hv, hc] at this; exact this
    have hx1 : v7.heap[e2 + 1]? = some (.cells #[.int .i64 0, .int .i64 0, .int .i64 0] 36 (0, 0)) := by
      have := allocs_get [.cells #[.pointer (pa m2)] 29, .cells #[.int .i64 0, .int .i64 0, .int .i64 0] 36] u7 1 _ rfl
      rw [hv, hc] at this; exact this
    have F7 : Hid (Facts [(e2, .cells #[.pointer (pa m2)] 29 (0, 0)), (e2 + 1, .cells #[.int .i64 0, .int .i64 0, .int .i64 0] 36 (0, 0)), (e1, .cells #[.pointer (pa m1)] 29 (0, 0)), (e1 + 1, .cells #[.int .i64 0, .int .i64 0, .int .i64 0] 36 (0, 0)), (e0, .cells #[.pointer (pa m0)] 29 (0, 0)), (e0 + 1, .cells #[.int .i64 0, .int .i64 0, .int .i64 0] 36 (0, 0)), (c, .cells #[.pointer (pa s)] 29 (0, 0)), (c + 1, .cells #[.pointer (pa a)] 29 (0, 0)), (c + 1 + 1, .cells #[.pointer (pa b)] 29 (0, 0))] v7) := Lib.hid ((((F6.out.keepX hk (by
      intro p hp c' t' fr' e
      simp only [List.mem_cons, List.not_mem_nil, or_false] at hp
      rcases hp with rfl | rfl | rfl | rfl | rfl | rfl | rfl <;> (cases e; exact unX_ok ab _ _ (by decide)))).below hb).cons hx1).cons hx0)
    have T7 : Hid (AtI v7 s ∧ AtI v7 a ∧ AtI v7 b ∧ AtI v7 m0 ∧ AtI v7 m1 ∧ AtI v7 m2) := Lib.hid ⟨(T6.out.1.keepX hk (fun k => unX_ok ab k _ (by decide))).below hb rfl, (T6.out.2.1.keepX hk (fun k => unX_ok ab k _ (by decide))).below hb rfl, (T6.out.2.2.1.keepX hk (fun k => unX_ok ab k _ (by decide))).below hb rfl, (T6.out.2.2.2.1.keepX hk (fun k => unX_ok ab k _ (by decide))).below hb rfl, (T6.out.2.2.2.2.keepX hk (fun k => unX_ok ab k _ (by decide))).below hb rfl, hm.below hb rfl⟩
    have A7 : Hid (Boxed v7 ab 3 (.int .i64 0)) := Lib.hid (boxStays hi hb)
    have K7 : Hid (KeepX (unX ab) w v7) := Lib.hid ((K6.out.trans hk).trans (KeepX.ofBelow hb))
    clear hm hi hk hc hv hb hx0 hx1 F6 T6 A6 K6 ks ka
    have ks : v7.cell? ⟨c, 0, none⟩ = some (.pointer (pa s)) := F7.out.cell (t := 29) (by simp)
    have kb : v7.cell? ⟨c + 1 + 1, 0, none⟩ = some (.pointer (pa b)) := F7.out.cell (t := 29) (by simp)
    go_wp2_with fail
    refine (un_run ab s b b b v7 GD.out.1 GD.out.2.2 GD.out.2.2 ⟨by omega, by omega, by omega⟩ T7.out.1 T7.out.2.2.1 T7.out.2.2.1 A7.out (.inl ⟨.inl rfl, rfl⟩)).mono ?_
    rintro e u8 ⟨m3, rfl, hmr, hm, hi, hk⟩
    have P3 := Lib.hid hmr
    clear hmr
    go_upto_region 10 with (fail)
    obtain ⟨e3, hc⟩ : ∃ c, u8.heap.size = c := ⟨_, rfl⟩
    rw [hc]
    obtain ⟨v8, hv⟩ : ∃ W, allocs u8 [.cells #[.pointer (pa m3)] 29, .cells #[.int .i64 0, .int .i64 0, .int .i64 0] 36] = W := ⟨_, rfl⟩
    rw [show (u8.alloc (.cells #[.pointer (pa m3)] 29)).alloc (.cells #[.int .i64 0, .int .i64 0, .int .i64 0] 36) = v8 from hv]
    have hb : Below u8.heap.size u8 v8 := by rw [← hv]; exact allocs_below _ _
    have hx0 : v8.heap[e3]? = some (.cells #[.pointer (pa m3)] 29 (0, 0)) := by
      have := allocs_get [.cells #[.pointer (pa m3)] 29, .cells #[.int .i64 0, .int .i64 0, .int .i64 0] 36] u8 0 _ rfl
      rw [hv, hc] at this; exact this
    have hx1 : v8.heap[e3 + 1]? = some (.cells #[.int .i64 0, .int .i64 0, .int .i64 0] 36 (0, 0)) := by
      have := allocs_get [.cells #[.pointer (pa m3)] 29, .cells #[.int .i64 0, .int .i64 0, .int .i64 0] 36] u8 1 _ rfl
      rw [hv, hc] at this; exact this
    have F8 : Hid (Facts [(e3, .cells #[.pointer (pa m3)] 29 (0, 0)), (e3 + 1, .cells #[.int .i64 0, .int .i64 0, .int .i64 0] 36 (0, 0)), (e2, .cells #[.pointer (pa m2)] 29 (0, 0)), (e2 + 1, .cells #[.int .i64 0, .int .i64 0, .int .i64 0] 36 (0, 0)), (e1, .cells #[.pointer (pa m1)] 29 (0, 0)), (e1 + 1, .cells #[.int .i64 0, .int .i64 0, .int .i64 0] 36 (0, 0)), (e0, .cells #[.pointer (pa m0)] 29 (0, 0)), (e0 + 1, .cells #[.int .i64 0, .int .i64 0, .int .i64 0] 36 (0, 0)), (c, .cells #[.pointer (pa s)] 29 (0, 0)), (c + 1, .cells #[.pointer (pa a)] 29 (0, 0)), (c + 1 + 1, .cells #[.pointer (pa b)] 29 (0, 0))] v8) := Lib.hid ((((F7.out.keepX hk (by
      intro p hp c' t' fr' e
      simp only [List.mem_cons, List.not_mem_nil, or_false] at hp
      rcases hp with rfl | rfl | rfl | rfl | rfl | rfl | rfl | rfl | rfl <;> (cases e; exact unX_ok ab _ _ (by decide)))).below hb).cons hx1).cons hx0)
    have T8 : Hid (AtI v8 s ∧ AtI v8 a ∧ AtI v8 b ∧ AtI v8 m0 ∧ AtI v8 m1 ∧ AtI v8 m2 ∧ AtI v8 m3) := Lib.hid ⟨(T7.out.1.keepX hk (fun k => unX_ok ab k _ (by decide))).below hb rfl, (T7.out.2.1.keepX hk (fun k => unX_ok ab k _ (by decide))).below hb rfl, (T7.out.2.2.1.keepX hk (fun k => unX_ok ab k _ (by decide))).below hb rfl, (T7.out.2.2.2.1.keepX hk (fun k => unX_ok ab k _ (by decide))).below hb rfl, (T7.out.2.2.2.2.1.keepX hk (fun k => unX_ok ab k _ (by decide))).below hb rfl, (T7.out.2.2.2.2.2.keepX hk (fun k => unX_ok ab k _ (by decide))).below hb rfl, hm.below hb rfl⟩
    have A8 : Hid (Boxed v8 ab 3 (.int .i64 0)) := Lib.hid (boxStays hi hb)
    have K8 : Hid (KeepX (unX ab) w v8) := Lib.hid ((K7.out.trans hk).trans (KeepX.ofBelow hb))
    clear hm hi hk hc hv hb hx0 hx1 F7 T7 A7 K7 ks kb
    go_upto_region 11 with (fail)
    obtain ⟨e4, hc⟩ : ∃ c, v8.heap.size = c := ⟨_, rfl⟩
    try rw [hc]
    obtain ⟨v9, hv⟩ : ∃ W, v8.alloc (.cells #[.int .i64 0, .int .i64 0, .int .i64 0] 36) = W := ⟨_, rfl⟩
    rw [hv]
    have hb : Below v8.heap.size v8 v9 := by rw [← hv]; exact below_new _ _
    have F9 : Hid (Facts [(e4, .cells #[.int .i64 0, .int .i64 0, .int .i64 0] 36 (0, 0)), (e3, .cells #[.pointer (pa m3)] 29 (0, 0)), (e3 + 1, .cells #[.int .i64 0, .int .i64 0, .int .i64 0] 36 (0, 0)), (e2, .cells #[.pointer (pa m2)] 29 (0, 0)), (e2 + 1, .cells #[.int .i64 0, .int .i64 0, .int .i64 0] 36 (0, 0)), (e1, .cells #[.pointer (pa m1)] 29 (0, 0)), (e1 + 1, .cells #[.int .i64 0, .int .i64 0, .int .i64 0] 36 (0, 0)), (e0, .cells #[.pointer (pa m0)] 29 (0, 0)), (e0 + 1, .cells #[.int .i64 0, .int .i64 0, .int .i64 0] 36 (0, 0)), (c, .cells #[.pointer (pa s)] 29 (0, 0)), (c + 1, .cells #[.pointer (pa a)] 29 (0, 0)), (c + 1 + 1, .cells #[.pointer (pa b)] 29 (0, 0))] v9) := Lib.hid ((F8.out.below hb).cons (by rw [← hv, ← hc]; exact heap_alloc_new _ _))
    have T9 : Hid (AtI v9 s ∧ AtI v9 a ∧ AtI v9 b ∧ AtI v9 m0 ∧ AtI v9 m1 ∧ AtI v9 m2 ∧ AtI v9 m3) := Lib.hid ⟨T8.out.1.below hb rfl, T8.out.2.1.below hb rfl, T8.out.2.2.1.below hb rfl, T8.out.2.2.2.1.below hb rfl, T8.out.2.2.2.2.1.below hb rfl, T8.out.2.2.2.2.2.1.below hb rfl, T8.out.2.2.2.2.2.2.below hb rfl⟩
    have A9 : Hid (Boxed v9 ab 3 (.int .i64 0)) := Lib.hid (boxStays A8.out hb)
    have K9 : Hid (KeepX (unX ab) w v9) := Lib.hid (K8.out.trans (KeepX.ofBelow hb))
    clear hc hv hb F8 T8 A8 K8
    try simp only [List.append]
    have k0 := cell_of_one A9.out
    have k1 : v9.cell? ⟨e0, 0, none⟩ = some (.pointer (pa m0)) := F9.out.cell (t := 29) (by simp)
    have k2 : v9.cell? ⟨c + 1, 0, none⟩ = some (.pointer (pa a)) := F9.out.cell (t := 29) (by simp)
    go_wp2_with fail
    refine (pm_MSameI m0 a v9 T9.out.2.2.2.1 T9.out.2.1).mono ?_
    rintro e va ⟨rfl, hb⟩
    have Fa := Lib.hid (F9.out.below hb)
    have Ta : Hid (AtI va s ∧ AtI va a ∧ AtI va b ∧ AtI va m0 ∧ AtI va m1 ∧ AtI va m2 ∧ AtI va m3) := Lib.hid ⟨T9.out.1.below hb rfl, T9.out.2.1.below hb rfl, T9.out.2.2.1.below hb rfl, T9.out.2.2.2.1.below hb rfl, T9.out.2.2.2.2.1.below hb rfl, T9.out.2.2.2.2.2.1.below hb rfl, T9.out.2.2.2.2.2.2.below hb rfl⟩
    have Ka : Hid (KeepX (unX ab) w va) := Lib.hid (K9.out.trans (KeepX.ofBelow hb))
    rw [decide_eq_true P0.out]
    clear hb F9 T9 K9 k1 k2 A9 k0
    have k1 : va.cell? ⟨e1, 0, none⟩ = some (.pointer (pa m1)) := Fa.out.cell (t := 29) (by simp)
    have k2 : va.cell? ⟨c + 1 + 1, 0, none⟩ = some (.pointer (pa b)) := Fa.out.cell (t := 29) (by simp)
    go_wp2_with fail
    refine (pm_MSameI m1 b va Ta.out.2.2.2.2.1 Ta.out.2.2.1).mono ?_
    rintro e vb ⟨rfl, hb⟩
    have Fb := Lib.hid (Fa.out.below hb)
    have Tb : Hid (AtI vb s ∧ AtI vb a ∧ AtI vb b ∧ AtI vb m0 ∧ AtI vb m1 ∧ AtI vb m2 ∧ AtI vb m3) := Lib.hid ⟨Ta.out.1.below hb rfl, Ta.out.2.1.below hb rfl, Ta.out.2.2.1.below hb rfl, Ta.out.2.2.2.1.below hb rfl, Ta.out.2.2.2.2.1.below hb rfl, Ta.out.2.2.2.2.2.1.below hb rfl, Ta.out.2.2.2.2.2.2.below hb rfl⟩
    have Kb : Hid (KeepX (unX ab) w vb) := Lib.hid (Ka.out.trans (KeepX.ofBelow hb))
    rw [decide_eq_true P1.out]
    clear hb Fa Ta Ka k1 k2 
    have k1 : vb.cell? ⟨e2, 0, none⟩ = some (.pointer (pa m2)) := Fb.out.cell (t := 29) (by simp)
    have k2 : vb.cell? ⟨c + 1, 0, none⟩ = some (.pointer (pa a)) := Fb.out.cell (t := 29) (by simp)
    go_wp2_with fail
    refine (pm_MSameI m2 a vb Tb.out.2.2.2.2.2.1 Tb.out.2.1).mono ?_
    rintro e vc ⟨rfl, hb⟩
    have Fc := Lib.hid (Fb.out.below hb)
    have Tc : Hid (AtI vc s ∧ AtI vc a ∧ AtI vc b ∧ AtI vc m0 ∧ AtI vc m1 ∧ AtI vc m2 ∧ AtI vc m3) := Lib.hid ⟨Tb.out.1.below hb rfl, Tb.out.2.1.below hb rfl, Tb.out.2.2.1.below hb rfl, Tb.out.2.2.2.1.below hb rfl, Tb.out.2.2.2.2.1.below hb rfl, Tb.out.2.2.2.2.2.1.below hb rfl, Tb.out.2.2.2.2.2.2.below hb rfl⟩
    have Kc : Hid (KeepX (unX ab) w vc) := Lib.hid (Kb.out.trans (KeepX.ofBelow hb))
    rw [decide_eq_true P2.out]
    clear hb Fb Tb Kb k1 k2 
    have k1 : vc.cell? ⟨e3, 0, none⟩ = some (.pointer (pa m3)) := Fc.out.cell (t := 29) (by simp)
    have k2 : vc.cell? ⟨c + 1 + 1, 0, none⟩ = some (.pointer (pa b)) := Fc.out.cell (t := 29) (by simp)
    go_wp2_with fail
    refine (pm_MSameI m3 b vc Tc.out.2.2.2.2.2.2 Tc.out.2.2.1).mono ?_
    rintro e vd ⟨rfl, hb⟩
    have Fd := Lib.hid (Fc.out.below hb)
    have Td : Hid (AtI vd s ∧ AtI vd a ∧ AtI vd b ∧ AtI vd m0 ∧ AtI vd m1 ∧ AtI vd m2 ∧ AtI vd m3) := Lib.hid ⟨Tc.out.1.below hb rfl, Tc.out.2.1.below hb rfl, Tc.out.2.2.1.below hb rfl, Tc.out.2.2.2.1.below hb rfl, Tc.out.2.2.2.2.1.below hb rfl, Tc.out.2.2.2.2.2.1.below hb rfl, Tc.out.2.2.2.2.2.2.below hb rfl⟩
    have Kd : Hid (KeepX (unX ab) w vd) := Lib.hid (Kc.out.trans (KeepX.ofBelow hb))
    rw [decide_eq_true P3.out]
    clear hb Fc Tc Kc k1 k2 
    have h0 := Fd.out (e0 + 1, .cells #[.int .i64 0, .int .i64 0, .int .i64 0] 36 (0, 0)) (by simp)
    have q00 := cell_of_row _ (e0 + 1) 0 _ _ _ h0
    have q01 := cell_of_row _ (e0 + 1) 1 _ _ _ h0
    have q02 := cell_of_row _ (e0 + 1) 2 _ _ _ h0
    have h1 := Fd.out (e1 + 1, .cells #[.int .i64 0, .int .i64 0, .int .i64 0] 36 (0, 0)) (by simp)
    have q10 := cell_of_row _ (e1 + 1) 0 _ _ _ h1
    have q11 := cell_of_row _ (e1 + 1) 1 _ _ _ h1
    have q12 := cell_of_row _ (e1 + 1) 2 _ _ _ h1
    have h2 := Fd.out (e2 + 1, .cells #[.int .i64 0, .int .i64 0, .int .i64 0] 36 (0, 0)) (by simp)
    have q20 := cell_of_row _ (e2 + 1) 0 _ _ _ h2
    have q21 := cell_of_row _ (e2 + 1) 1 _ _ _ h2
    have q22 := cell_of_row _ (e2 + 1) 2 _ _ _ h2
    have h3 := Fd.out (e3 + 1, .cells #[.int .i64 0, .int .i64 0, .int .i64 0] 36 (0, 0)) (by simp)
    have q30 := cell_of_row _ (e3 + 1) 0 _ _ _ h3
    have q31 := cell_of_row _ (e3 + 1) 1 _ _ _ h3
    have q32 := cell_of_row _ (e3 + 1) 2 _ _ _ h3
    have h4 := Fd.out (e4, .cells #[.int .i64 0, .int .i64 0, .int .i64 0] 36 (0, 0)) (by simp)
    have q40 := cell_of_row _ (e4) 0 _ _ _ h4
    have q41 := cell_of_row _ (e4) 1 _ _ _ h4
    have q42 := cell_of_row _ (e4) 2 _ _ _ h4
    clear h0 h1 h2 h3 h4
    go_wp2_with fail
    refine (wl_known vd).mono ?_
    rintro e ve ⟨rfl, hb⟩
    go_wp2_with fail
    go_ret
    have hkx := Kd.out.trans (KeepX.ofBelow hb)
    exact ⟨rfl, hkx.toBelow (fun k t hk h => by have := h.1; omega)⟩
end Go.Proofs.Ytdodkhhlbjamhaa

