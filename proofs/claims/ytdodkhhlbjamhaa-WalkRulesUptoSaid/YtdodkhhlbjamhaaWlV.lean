
/- Walks of law 08: WalkRules. -/
import Derived.Test.YtdodkhhlbjamhaaWlR
import Derived.Test.YtdodkhhlbjamhaaWlG
namespace Go.Proofs.Ytdodkhhlbjamhaa
open Go.RowKit Pm
theorem rl_two {f : ByteArray → Int} {s a o : Tr Int} (hs : ∀ x ∈ items s, x.2 = f x.1) (ha : ∀ x ∈ items a, x.2 = f x.1) (ho : ∀ x ∈ items o, x.2 = f x.1) {m : Tr Int} {asked : List ByteArray}
    (h : WlkO 0 (fun k => rlF (lk 0 (items s) k) (lk 0 (items a) k) (lk 0 (items o) k)) (lk 0 (items s)) (lk 0 (items a)) (lk 0 (items o)) (fun _ => True) s a o m asked) (k : ByteArray) :
    lk 0 (items m) k = rlF (lk 0 (items s) k) (lk 0 (items a) k) (lk 0 (items o) k) := by
  have e1 := lk_val hs k
  have e2 := lk_val ha k
  have e3 := lk_val ho k
  have hn : nrm 0 (rlF (lk 0 (items s) k) (lk 0 (items a) k) (lk 0 (items o) k)) = rlF (lk 0 (items s) k) (lk 0 (items a) k) (lk 0 (items o) k) := by
    unfold rlF; split <;> exact nrm_lk (z := 0)
  rw [h.all k trivial (fun hh => ?_) (fun hh => .inl ?_)]
  · exact hn
  · rw [hn]; unfold rlF; exact if_pos hh
  · rw [hn]; unfold rlF
    split
    · rename_i h1
      exact h1.elim id (fun h2 => hh.symm.trans h2)
    · rfl
theorem rl_rule (ab rb c B : Nat) (pk : Value) (s a o : Tr Int) (gs : Gd s) (ga : Gd a) (go : Gd o) (hab : ab < B) (hrb : rb < B) (hc : c + 1 + 1 < B) :
    RuleOKI (rlX ab ab rb) 20 #[.pointer (some ⟨ab, 0, none⟩), .pointer (some ⟨rb, 0, none⟩), .pointer (some ⟨c, 0, none⟩), .pointer (some ⟨c + 1, 0, none⟩), .pointer (some ⟨c + 1 + 1, 0, none⟩), pk] (fun k => rlF (lk 0 (items s) k) (lk 0 (items a) k) (lk 0 (items o) k)) (lk 0 (items s)) (lk 0 (items a)) (lk 0 (items o)) B
      (RlI ab ab rb [(c, Obj.cells #[.pointer (pa s)] 29 (0, 0)), (c + 1, Obj.cells #[.pointer (pa a)] 29 (0, 0)), (c + 1 + 1, Obj.cells #[.pointer (pa o)] 29 (0, 0))] [s, a, o]) where
  own := fun xs W W' h hk => by
    have hno : ∀ k t, t ≠ 36 → t ≠ 29 → ¬ ownXI B k t := fun k t h1 h2 h => h.2.elim h1 h2
    refine h.keepX hk (hno _ _ (by decide) (by decide)) (hno _ _ (by decide) (by decide)) (fun k => hno _ _ (by decide) (by decide)) (fun p hp c' t' fr' e hx => ?_) (fun k => hno _ _ (by decide) (by decide))
    simp only [List.mem_cons, List.not_mem_nil, or_false] at hp
    have := hx.1
    rcases hp with rfl | rfl | rfl <;> (simp only at this; omega)
  call := fun key xs W h hx _ => by
    rw [← prtT_lkI (k := key) gs.2.1, ← prtT_lkI (k := key) ga.2.1, ← prtT_lkI (k := key) go.2.1]
    have e1 := lk_val (f := fun k => (k.size : Int)) gs.2.2 key
    have e2 := lk_val (f := fun k => (k.size : Int)) ga.2.2 key
    have e3 := lk_val (f := fun k => (k.size : Int)) go.2.2 key
    rw [← prtT_lkI (k := key) gs.2.1] at e1
    rw [← prtT_lkI (k := key) ga.2.1] at e2
    rw [← prtT_lkI (k := key) go.2.1] at e3
    obtain ⟨v, hv, _⟩ := h.l
    exact rl_call ab ab rb c (c + 1) (c + 1 + 1) pk s a o _ (key.size : Int) _ _ _ xs key W h hx (Nat.le_of_lt (Array.getElem?_eq_some_iff.1 hv).1) (by simp) (by simp) (by simp) (by
      intro p hp
      simp only [List.mem_cons, List.not_mem_nil, or_false] at hp
      rcases hp with rfl | rfl | rfl <;> exact ⟨_, _, rfl⟩) e1 e2 e3
  enters := enters_of Try.func20 (by kernel_rfl) rfl
  nNode := fun _ => rlX_no (by decide) (by decide) (by decide)
  nCount := fun _ => rlX_no (by decide) (by decide) (by decide)
  nMap := fun _ => rlX_no (by decide) (by decide) (by decide)
  nGo := fun _ => rlX_no (by decide) (by decide) (by decide)
  nRule := fun _ => rlX_no (by decide) (by decide) (by decide)
set_option maxRecDepth 100000 in
set_option maxHeartbeats 8000000 in
theorem wl_Rules (x : Thr) (pa0 : Option Addr) (pn pc : Nat) (w : World) (hx : x.At w) : Calls Try.prog 5 #[.agg x.vs, .slice pa0 pn pc] w fun e w' => e = .returned (.bool true) ∧ Below w.heap.size w w' := by
  obtain ⟨z, hz0⟩ : ∃ z, w.heap.size = z := ⟨_, rfl⟩
  obtain ⟨w1, hw1⟩ : ∃ W, (w.alloc (.cells x.vs 25)).alloc (.cells #[.slice pa0 pn pc] 50) = W := ⟨_, rfl⟩
  have hb0 := below_new w (.cells x.vs 25)
  have hb : Below w.heap.size w w1 := by rw [← hw1]; exact hb0.trans ((below_new _ _).mono hb0.size)
  have r0 : w1.heap[z]? = some (.cells x.vs 25 (0, 0)) := by rw [← hw1, ← hz0]; exact boxStays (heap_alloc_new _ _) (below_new _ _)
  clear hb0
  have HW := Lib.hid hw1
  have HX := Lib.hid (hx.below hb)
  have B1 := Lib.hid hb
  have R0 := Lib.hid r0
  have cs := row8 r0
  clear hw1 hx hb r0
  go_enter Try.func5, Try.ntmps5
  go_upto_region 1 with (fail)
  rw [HW.out]
  obtain ⟨s0, s1, s2, s3, s4, s5, s6, s7⟩ := cs
  go_wp2_with fail
  refine (wl_few x w1).mono ?_
  rintro e w2 ⟨rfl, hb⟩
  have B2 : Hid (Below w.heap.size w w2) := Lib.hid (B1.out.trans (hb.mono B1.out.size))
  have R2 := Lib.hid (boxStays R0.out hb)
  have X2 := Lib.hid (HX.out.below hb)
  clear hb R0 HX B1 HW s0 s1 s2 s3 s4 s5 s6 s7
  cases hfew : x.few with
  | false =>
    go_wp2_with fail
    refine (wl_known w2).mono ?_
    rintro e w3 ⟨rfl, hb⟩
    go_wp2_with fail
    go_ret
    exact ⟨rfl, B2.out.trans (hb.mono B2.out.size)⟩
  | true =>
    obtain ⟨s0, s1, s2, s3, s4, s5, s6, s7⟩ := row8 R2.out
    go_wp2_with fail
    refine (wl_maps x w2 X2.out hfew).mono ?_
    rintro e w3 ⟨s, a, b, rfl, gs, ga, gb, zs, za, zb, hs, ha, hbt, hb⟩
    clear s0 s1 s2 s3 s4 s5 s6 s7 hfew
    go_upto_region 4 with (fail)
    obtain ⟨c, hc⟩ : ∃ c, w3.heap.size = c := ⟨_, rfl⟩
    rw [hc]
    obtain ⟨v3, hv3⟩ : ∃ W, allocs w3 [.cells #[.pointer (pa s)] 29, .cells #[.pointer (pa a)] 29, .cells #[.pointer (pa b)] 29] = W := ⟨_, rfl⟩
    rw [show ((w3.alloc (.cells #[.pointer (pa s)] 29)).alloc (.cells #[.pointer (pa a)] 29)).alloc (.cells #[.pointer (pa b)] 29) = v3 from hv3]
    have hb3 : Below w3.heap.size w3 v3 := by rw [← hv3]; exact allocs_below _ _
    have hx3 : ∀ i ob, [Obj.cells #[.pointer (pa s)] 29, .cells #[.pointer (pa a)] 29, .cells #[.pointer (pa b)] 29][i]? = some ob → v3.heap[c + i]? = some ob := fun i ob h => by have := allocs_get _ w3 i ob h; rw [hv3, hc] at this; exact this
    have F3 : Hid (Facts [(c, .cells #[.pointer (pa s)] 29 (0, 0)), (c + 1, .cells #[.pointer (pa a)] 29 (0, 0)), (c + 1 + 1, .cells #[.pointer (pa b)] 29 (0, 0))] v3) := Lib.hid (fun p hp => by
      simp only [List.mem_cons, List.not_mem_nil, or_false] at hp
      rcases hp with rfl | rfl | rfl
      · exact hx3 0 _ rfl
      · exact hx3 1 _ rfl
      · exact hx3 2 _ rfl)
    have B3 : Hid (Below w.heap.size w v3) := Lib.hid (B2.out.trans ((hb.trans (hb3.mono hb.size)).mono B2.out.size))
    have T3 : Hid (AtI v3 s ∧ AtI v3 a ∧ AtI v3 b) := Lib.hid ⟨hs.below hb3 rfl, ha.below hb3 rfl, hbt.below hb3 rfl⟩
    have GD : Hid (Gd s ∧ Gd a ∧ Gd b) := Lib.hid ⟨gs, ga, gb⟩
    have hcw : w.heap.size ≤ c := by have := B2.out.size; have := hb.size; omega
    clear hs ha hbt hb hb3 hx3 hv3 gs ga gb B2 R2 X2
    have hzs := GD.out
    have k1 : v3.cell? ⟨c, 0, none⟩ = some (.pointer (pa s)) := F3.out.cell (t := 29) (by simp)
    have k2 : v3.cell? ⟨c + 1, 0, none⟩ = some (.pointer (pa a)) := F3.out.cell (t := 29) (by simp)
    have k3 : v3.cell? ⟨c + 1 + 1, 0, none⟩ = some (.pointer (pa b)) := F3.out.cell (t := 29) (by simp)
    have W1 := Lib.hid (wlk_in ⟨hzs.1.1, hzs.1.2.1⟩ ⟨hzs.2.1.1, hzs.2.1.2.1⟩ ⟨hzs.2.2.1, hzs.2.2.2.1⟩)
    clear hzs
    go_upto_region 7 with (fail)
    obtain ⟨ab, hab⟩ : ∃ c, v3.heap.size = c := ⟨_, rfl⟩
    rw [hab]
    obtain ⟨v4, hv4⟩ : ∃ W, allocs v3 [.cells #[.slice none 0 0] 22, .cells #[.bool true] 4] = W := ⟨_, rfl⟩
    rw [show (v3.alloc (.cells #[.slice none 0 0] 22)).alloc (.cells #[.bool true] 4) = v4 from hv4]
    have hb4 : Below v3.heap.size v3 v4 := by rw [← hv4]; exact allocs_below _ _
    have hx4 : ∀ i ob, [Obj.cells #[.slice none 0 0] 22, .cells #[.bool true] 4][i]? = some ob → v4.heap[ab + i]? = some ob := fun i ob h => by have := allocs_get _ v3 i ob h; rw [hv4, hab] at this; exact this
    have y0 : Boxed v4 ab 22 (.slice none 0 0) := hx4 0 _ rfl
    have y1 : Boxed v4 (ab + 1) 4 (.bool true) := hx4 1 _ rfl
    have hcs : c + 1 + 1 < ab := by have := F3.out.lt _ (List.mem_cons_of_mem _ (List.mem_cons_of_mem _ List.mem_cons_self)); simp only at this; omega
    have hav : ab + 1 < v4.heap.size := (Array.getElem?_eq_some_iff.1 y1).1
    have hwa : w.heap.size ≤ ab := by omega
    obtain ⟨H0, hH0⟩ : ∃ H0 : List (Nat × Obj), [(c, .cells #[.pointer (pa s)] 29 (0, 0)), (c + 1, .cells #[.pointer (pa a)] 29 (0, 0)), (c + 1 + 1, .cells #[.pointer (pa b)] 29 (0, 0))] = H0 := ⟨_, rfl⟩
    have I4 : RlI ab ab (ab + 1) H0 [s, a, b] [] v4 := ⟨⟨_, y0, World.ownsRow_nil _ _ _ _⟩, y1, by rw [← hH0]; exact F3.out.below hb4, fun t ht => by
      simp only [List.mem_cons, List.not_mem_nil, or_false] at ht
      rcases ht with rfl | rfl | rfl
      · exact T3.out.1.below hb4 rfl
      · exact T3.out.2.1.below hb4 rfl
      · exact T3.out.2.2.below hb4 rfl⟩
    have RR := rl_rule ab (ab + 1) c v4.heap.size (.pointer (some ⟨z + 1, 0, none⟩)) s a b GD.out.1 GD.out.2.1 GD.out.2.2 (by omega) (by omega) (by omega)
    rw [hH0] at RR
    have RUN := Lib.hid (wk_RunI (I := RlI ab ab (ab + 1) H0 [s, a, b]) s a b v4 RR (by omega) (by omega) W1.out (I4.t s (by simp)) (I4.t a (by simp)) (I4.t b (by simp)) I4)
    have B4 : Hid (Below w.heap.size w v4) := Lib.hid (B3.out.trans (hb4.mono B3.out.size))
    have F4 := Lib.hid (F3.out.below hb4)
    have HH0 := Lib.hid hH0
    clear hb4 hx4 y0 y1 I4 RR hv4 F3 T3 B3 k1 k2 k3 hH0 W1
    have k1 : v4.cell? ⟨c, 0, none⟩ = some (.pointer (pa s)) := F4.out.cell (t := 29) (by simp)
    have k2 : v4.cell? ⟨c + 1, 0, none⟩ = some (.pointer (pa a)) := F4.out.cell (t := 29) (by simp)
    have k3 : v4.cell? ⟨c + 1 + 1, 0, none⟩ = some (.pointer (pa b)) := F4.out.cell (t := 29) (by simp)
    go_wp2_with fail
    refine RUN.out.mono ?_
    rintro e w5 ⟨m, asked, made, rfl, hO, hm, hi, hmd, _, hk, _⟩
    have O1 := Lib.hid hO
    have hal : asked.length ≤ 160 := by have := hO.len; omega
    clear RUN hO k1 k2 k3 F4
    go_upto_region 8 with (fail)
    obtain ⟨e0, hc5⟩ : ∃ c, w5.heap.size = c := ⟨_, rfl⟩
    rw [hc5]
    obtain ⟨na, hna⟩ : ∃ q : Nat, asked.length = q := ⟨_, rfl⟩
    rw [hna]
    rw [hna] at hal
    obtain ⟨v5, hv5⟩ : ∃ W, allocs w5 [.cells #[.pointer (pa m)] 29, .cells #[.int .i64 (na : Int), .int .i64 (na : Int), .int .i64 (made : Int)] 36] = W := ⟨_, rfl⟩
    rw [show (w5.alloc (.cells #[.pointer (pa m)] 29)).alloc (.cells #[.int .i64 (na : Int), .int .i64 (na : Int), .int .i64 (made : Int)] 36) = v5 from hv5]
    have hb5 : Below w5.heap.size w5 v5 := by rw [← hv5]; exact allocs_below _ _
    have y0 : v5.heap[e0]? = some (.cells #[.pointer (pa m)] 29 (0, 0)) := by
      have := allocs_get [.cells #[.pointer (pa m)] 29, .cells #[.int .i64 (na : Int), .int .i64 (na : Int), .int .i64 (made : Int)] 36] w5 0 _ rfl
      rw [hv5, hc5] at this; exact this
    have y1 : v5.heap[e0 + 1]? = some (.cells #[.int .i64 (na : Int), .int .i64 (na : Int), .int .i64 (made : Int)] 36 (0, 0)) := by
      have := allocs_get [.cells #[.pointer (pa m)] 29, .cells #[.int .i64 (na : Int), .int .i64 (na : Int), .int .i64 (made : Int)] 36] w5 1 _ rfl
      rw [hv5, hc5] at this; exact this
    have I5 := hi.below hb5
    obtain ⟨lv, hlv, hown⟩ := I5.l
    rw [hna] at hown
    obtain ⟨la, lc, rfl⟩ := own_shape1 hown
    have hB5 : Below w.heap.size w v5 := by
      have h := (((KeepX.ofBelow (Ex := rlX ab ab (ab + 1)) B4.out).trans hk).toBelow (fun k t h1 h2 => by rcases h2 with h | h | h <;> omega))
      exact h.trans (hb5.mono h.size)
    obtain ⟨H, hH⟩ : ∃ H : List (Nat × Obj), [(e0, .cells #[.pointer (pa m)] 29 (0, 0)), (e0 + 1, .cells #[.int .i64 (na : Int), .int .i64 (na : Int), .int .i64 (made : Int)] 36 (0, 0)), (ab, .cells #[.slice la na lc] 22 (0, 0)), (ab + 1, .cells #[.bool true] 4 (0, 0)), (c, .cells #[.pointer (pa s)] 29 (0, 0)), (c + 1, .cells #[.pointer (pa a)] 29 (0, 0)), (c + 1 + 1, .cells #[.pointer (pa b)] 29 (0, 0))] = H := ⟨_, rfl⟩
    have E5 : Hid (ElE H [s, a, b, m] la asked w v5) := Lib.hid ⟨by
        have h := I5.f
        rw [← HH0.out] at h
        rw [← hH]
        exact (((h.cons I5.r).cons hlv).cons y1).cons y0, fun t ht => by
        simp only [List.mem_cons, List.not_mem_nil, or_false] at ht
        rcases ht with rfl | rfl | rfl | rfl
        · exact I5.t _ (by simp)
        · exact I5.t _ (by simp)
        · exact I5.t _ (by simp)
        · exact hm.below hb5 rfl, CellsAt.own hown, hB5⟩
    have HM : Hid (True ∧ (e0, Obj.cells #[.pointer (pa m)] 29 (0, 0)) ∈ H ∧ (e0 + 1, Obj.cells #[.int .i64 (na : Int), .int .i64 (na : Int), .int .i64 (made : Int)] 36 (0, 0)) ∈ H ∧ (c, Obj.cells #[.pointer (pa s)] 29 (0, 0)) ∈ H ∧ (c + 1, Obj.cells #[.pointer (pa a)] 29 (0, 0)) ∈ H ∧ (c + 1 + 1, Obj.cells #[.pointer (pa b)] 29 (0, 0)) ∈ H) := Lib.hid (by rw [← hH]; simp)
    have HM3 : Hid ((ab, Obj.cells #[.slice la na lc] 22 (0, 0)) ∈ H ∧ (ab + 1, Obj.cells #[.bool true] 4 (0, 0)) ∈ H) := Lib.hid (by rw [← hH]; simp)
    have HNA := Lib.hid hna
    clear hm hi hmd hk hc5 hna hv5 hb5 y0 y1 I5 hlv hown hB5 hH B4
    have q1 := cell_of_row _ (e0 + 1) 1 _ _ _ (E5.out.f _ HM.out.2.2.1)
    have q2 : _ = _ := E5.out.f.cell (t := 22) HM3.out.1
    have q3 : _ = _ := E5.out.f.cell (t := 4) HM3.out.2
    go_wp2_with fail
    go_loopw [14] (fun u14 wr => ∃ i : Nat, u14 = .int .i64 (i : Int) ∧ i ≤ na ∧ Hid (ElE H [s, a, b, m] la asked w wr)) (fun u14 _ => na - (intOf u14).toNat)
    case atStart => exact ⟨0, rfl, Nat.zero_le _, E5⟩
    case round =>
      clear E5 q1 q2 q3
      obtain ⟨i, rfl, hi, E⟩ := hrel
      have q2 : _ = _ := E.out.f.cell (t := 22) HM3.out.1
      by_cases hlt : i < na
      · have hli : (i : Int) < (na : Int) := by omega
        go_wp2_with fail
        go_loopw [15] (fun u15 wr => ∃ k : Nat, u15 = .int .i64 (k : Int) ∧ k ≤ i ∧ Hid (ElE H [s, a, b, m] la asked w wr)) (fun u15 _ => i - (intOf u15).toNat)
        case atStart => exact ⟨0, rfl, Nat.zero_le _, E⟩
        case round =>
          clear E q2
          obtain ⟨k, rfl, hk, E⟩ := hrel
          by_cases hlt2 : k < i
          · have hki : (k : Int) < (i : Int) := by omega
            have hkn : k < na := by omega
            have hkn2 : (k : Int) < (na : Int) := by omega
            have hkl : k < asked.length := by rw [HNA.out]; omega
            have hil : i < asked.length := by rw [HNA.out]; omega
            obtain ⟨x1, hx1⟩ : ∃ q, asked[k]'hkl = q := ⟨_, rfl⟩
            obtain ⟨x2, hx2⟩ : ∃ q, asked[i]'hil = q := ⟨_, rfl⟩
            have hxs1 : asked[k]? = some x1 := by rw [List.getElem?_eq_getElem hkl, hx1]
            have hxs2 : asked[i]? = some x2 := by rw [List.getElem?_eq_getElem hil, hx2]
            have hne : x1 ≠ x2 := by rw [← hx1, ← hx2]; exact List.pairwise_iff_getElem.1 O1.out.nd k i hkl hil hlt2
            have hne2 : decide (x1 = x2) = false := by simpa using hne
            have hne3 : (x1.toList == x2.toList) = false := by rw [eq_iff]; exact hne2
            have hne1 : (x1 == x2) = false := by rw [beq_toListBytes]; exact hne3
            obtain ⟨bk, ok, hak, hck⟩ := E.out.k.get k (.string x1) (by simp [strV, hxs1])
            subst hak
            have CK : Hid (∀ W, ElE H [s, a, b, m] (some ⟨bk, ok, none⟩) asked w W → W.cell? ⟨bk, ok + k, none⟩ = some (.string x1) ∧ W.cell? ⟨bk, ok + i, none⟩ = some (.string x2)) := Lib.hid (fun W h => by
              obtain ⟨b', o', h1, h2⟩ := h.k.get k (.string x1) (by simp [strV, hxs1])
              obtain ⟨b2, o2, h3, h4⟩ := h.k.get i (.string x2) (by simp [strV, hxs2])
              cases h1
              cases h3
              exact ⟨h2, h4⟩)
            clear hck hxs1 hxs2 hx1 hx2 hne
            go_wp2_with fail
            have HC : Hid (Chain [wr] wr) := Lib.hid (Chain.one wr)
            refine wp_region_noPanic ?_
            refine wp_region_held_drew (S := fun w' => Below wr.heap.size wr w') (by kernel_rfl) (Below.refl _ _).drew (fun hS => ?_)
            refine wpAnyH_take (i := 0) (oi := ⟨some 67, _, _, _, _, _⟩) (v := ?_) rfl (by kernel_rfl) (by kernel_rfl) (by kernel_rfl) (fun _ _ _ h => h) (Or.inl ⟨by rfl, ?_⟩) hS ?_
            rotate_left 1
            · intro w' hB; have EM := E.out.below hB; have q2 : _ = _ := EM.f.cell (t := 22) HM3.out.1; have kk := CK.out _ EM; clear EM; (go_simp <;> with_reducible rfl)
            try simp only [Act.put, List.setIfInBounds_toArray, List.set_cons_zero, List.set_cons_succ]
            refine wpAnyH_take (i := 1) (oi := ⟨some 68, _, _, _, _, _⟩) (v := ?_) rfl (by kernel_rfl) (by kernel_rfl) (by kernel_rfl) (fun _ _ _ h => h) (Or.inl ⟨by rfl, ?_⟩) hS ?_
            rotate_left 1
            · intro w' hB; have EM := E.out.below hB; have q2 : _ = _ := EM.f.cell (t := 22) HM3.out.1; have kk := CK.out _ EM; clear EM; (go_simp <;> with_reducible rfl)
            try simp only [Act.put, List.setIfInBounds_toArray, List.set_cons_zero, List.set_cons_succ]
            refine wpAnyH_take (i := 2) (oi := ⟨some 69, _, _, _, _, _⟩) (v := ?_) rfl (by kernel_rfl) (by kernel_rfl) (by kernel_rfl) (fun _ _ _ h => h) (Or.inl ⟨by rfl, ?_⟩) hS ?_
            rotate_left 1
            · intro w' hB; have EM := E.out.below hB; have q2 : _ = _ := EM.f.cell (t := 22) HM3.out.1; have kk := CK.out _ EM; clear EM; (go_simp <;> with_reducible rfl)
            try simp only [Act.put, List.setIfInBounds_toArray, List.set_cons_zero, List.set_cons_succ]
            refine wpAnyH_take (i := 3) (oi := ⟨some 70, _, _, _, _, _⟩) (v := ?_) rfl (by kernel_rfl) (by kernel_rfl) (by kernel_rfl) (fun _ _ _ h => h) (Or.inl ⟨by rfl, ?_⟩) hS ?_
            rotate_left 1
            · intro w' hB; have EM := E.out.below hB; have q2 : _ = _ := EM.f.cell (t := 22) HM3.out.1; have kk := CK.out _ EM; clear EM; (go_simp <;> with_reducible rfl)
            try simp only [Act.put, List.setIfInBounds_toArray, List.set_cons_zero, List.set_cons_succ]
            refine wpAnyH_take (i := 4) (oi := ⟨some 71, _, _, _, _, _⟩) (v := ?_) rfl (by kernel_rfl) (by kernel_rfl) (by kernel_rfl) (fun _ _ _ h => h) (Or.inl ⟨by rfl, ?_⟩) hS ?_
            rotate_left 1
            · intro w' hB; have EM := E.out.below hB; have q2 : _ = _ := EM.f.cell (t := 22) HM3.out.1; have kk := CK.out _ EM; clear EM; (go_simp <;> with_reducible rfl)
            try simp only [Act.put, List.setIfInBounds_toArray, List.set_cons_zero, List.set_cons_succ]
            refine wpAnyH_take (i := 5) (oi := ⟨some 72, _, _, _, _, _⟩) (v := ?_) rfl (by kernel_rfl) (by kernel_rfl) (by kernel_rfl) (fun _ _ _ h => h) (Or.inl ⟨by rfl, ?_⟩) hS ?_
            rotate_left 1
            · intro w' hB; have EM := E.out.below hB; have q2 : _ = _ := EM.f.cell (t := 22) HM3.out.1; have kk := CK.out _ EM; clear EM; (go_simp <;> with_reducible rfl)
            try simp only [Act.put, List.setIfInBounds_toArray, List.set_cons_zero, List.set_cons_succ]
            refine wpAnyH_take (i := 6) (oi := ⟨some 73, _, _, _, _, _⟩) (v := ?_) rfl (by kernel_rfl) (by kernel_rfl) (by kernel_rfl) (fun _ _ _ h => h) (Or.inl ⟨by rfl, ?_⟩) hS ?_
            rotate_left 1
            · intro w' hB; have EM := E.out.below hB; have q2 : _ = _ := EM.f.cell (t := 22) HM3.out.1; have kk := CK.out _ EM; clear EM; (go_simp <;> with_reducible rfl)
            try simp only [Act.put, List.setIfInBounds_toArray, List.set_cons_zero, List.set_cons_succ]
            refine wpAnyH_take (i := 7) (oi := ⟨some 74, _, _, _, _, _⟩) (v := ?_) rfl (by kernel_rfl) (by kernel_rfl) (by kernel_rfl) (fun _ _ _ h => h) (Or.inl ⟨by rfl, ?_⟩) hS ?_
            rotate_left 1
            · intro w' hB; have EM := E.out.below hB; have q2 : _ = _ := EM.f.cell (t := 22) HM3.out.1; have kk := CK.out _ EM; clear EM; (go_simp <;> with_reducible rfl)
            try simp only [Act.put, List.setIfInBounds_toArray, List.set_cons_zero, List.set_cons_succ]
            refine wpAnyH_take (i := 8) (oi := ⟨some 75, _, _, _, _, _⟩) (v := ?_) rfl (by kernel_rfl) (by kernel_rfl) (by kernel_rfl) (fun _ _ _ h => h) (Or.inl ⟨by rfl, ?_⟩) hS ?_
            rotate_left 1
            · intro w' hB; have EM := E.out.below hB; have q2 : _ = _ := EM.f.cell (t := 22) HM3.out.1; have kk := CK.out _ EM; clear EM; (go_simp <;> with_reducible rfl)
            try simp only [Act.put, List.setIfInBounds_toArray, List.set_cons_zero, List.set_cons_succ]
            refine wpAnyH_done (by kernel_rfl) (NoPanic.normal ?_) _
            go_wp2_with fail
            refine ⟨⟨k + 1, by simp, by omega, Lib.hid (E.out.below (Below.refl _ _).drew)⟩, ?_⟩
            have q1 : (intOf (Value.int .i64 ((k : Int) + 1))).toNat = k + 1 := by simp [intOf]
            have q2 : (intOf (Value.int .i64 (k : Int))).toNat = k := by simp [intOf]
            rw [q1, q2]; omega
          · have hki : ¬ (k : Int) < (i : Int) := by omega
            go_wp2_with fail
            refine ⟨⟨i + 1, by simp, by omega, E⟩, ?_⟩
            have q1 : (intOf (Value.int .i64 ((i : Int) + 1))).toNat = i + 1 := by simp [intOf]
            have q2 : (intOf (Value.int .i64 (i : Int))).toNat = i := by simp [intOf]
            rw [q1, q2]; omega
      · have hli : ¬ (i : Int) < (na : Int) := by omega
        have k1 : wr.cell? ⟨c, 0, none⟩ = some (.pointer (pa s)) := E.out.f.cell (t := 29) HM.out.2.2.2.1
        have k2 : wr.cell? ⟨c + 1, 0, none⟩ = some (.pointer (pa a)) := E.out.f.cell (t := 29) HM.out.2.2.2.2.1
        have k3 : wr.cell? ⟨c + 1 + 1, 0, none⟩ = some (.pointer (pa b)) := E.out.f.cell (t := 29) HM.out.2.2.2.2.2
        have hb6 := below_new wr (.cells #[.pointer (pa s), .pointer (pa a), .pointer (pa b)] 29)
        have KEYS := Lib.hid (wl_keys [s, a, b] (some ⟨wr.heap.size, 0, none⟩) 3 _ (CellsAt.new wr 29 (0, 0) (ptrV [s, a, b])) (fun t ht => ⟨(E.out.t t (by simp at ht ⊢; rcases ht with h | h | h <;> simp [h])).below hb6 rfl, by simp at ht; rcases ht with rfl | rfl | rfl <;> omega⟩) (by simp))
        have E6 := Lib.hid (E.out.below hb6)
        clear hb6 E
        go_wp2_with fail
        refine KEYS.out.mono ?_
        rintro e w7 ⟨lv, rfl, hown, hb⟩
        obtain ⟨L, hL⟩ : ∃ L, keysL [s, a, b] = L := ⟨_, rfl⟩
        rw [hL] at hown
        obtain ⟨N, hN⟩ : ∃ N, L.length = N := ⟨_, rfl⟩
        rw [hN] at hown
        obtain ⟨ka, kc, rfl⟩ := own_shape1 hown
        have hNl : N ≤ 240 := by
          rw [← hN, ← hL]
          have := keysL_len [s, a, b] 80 (by intro t ht; simp at ht; rcases ht with rfl | rfl | rfl <;> omega)
          simpa using this
        have E7 := E6.out.below hb
        have EE : Hid (ElE H [s, a, b, m] ka L w w7) := Lib.hid ⟨E7.f, E7.t, CellsAt.own hown, E7.b⟩
        have HN := Lib.hid hN
        clear hown hb E6 E7 KEYS hL hN k1 k2 k3 q2
        go_wp2_with fail
        go_loopw [17] (fun u17 wr => ∃ i : Nat, u17 = .int .i64 (i : Int) ∧ i ≤ N ∧ Hid (ElE H [s, a, b, m] ka L w wr)) (fun u17 _ => N - (intOf u17).toNat)
        case atStart => exact ⟨0, rfl, Nat.zero_le _, EE⟩
        case round =>
          clear EE
          obtain ⟨i, rfl, hi, E⟩ := hrel
          by_cases hlt : i < N
          · have hli : (i : Int) < (N : Int) := by omega
            have hil : i < L.length := by rw [HN.out]; exact hlt
            obtain ⟨q, hq⟩ : ∃ q, L[i]'hil = q := ⟨_, rfl⟩
            have hqs : L[i]? = some q := by rw [List.getElem?_eq_getElem hil, hq]
            obtain ⟨bk, ok, hak, hck⟩ := E.out.k.get i (.string q) (by simp [strV, hqs])
            subst hak
            have HCK := Lib.hid hck
            have HQ := Lib.hid hqs
            clear hqs hq hck
            go_wp2_with fail
            go_cut [18, 19, 20] (fun s18 s19 s20 wx => ∃ c13 c14 c15 : Nat, s18 = .pointer (some ⟨c13, 0, none⟩) ∧ s19 = .pointer (some ⟨c14, 0, none⟩) ∧ s20 = .pointer (some ⟨c15, 0, none⟩) ∧ Hid (wx.heap[c13]? = some (.cells #[.int .i64 (prtTI s q).1, .bool (prtTI s q).2] 33 (0, 0)) ∧ wx.heap[c14]? = some (.cells #[.int .i64 (prtTI a q).1, .bool (prtTI a q).2] 33 (0, 0)) ∧ wx.heap[c15]? = some (.cells #[.int .i64 (prtTI b q).1, .bool (prtTI b q).2] 33 (0, 0))) ∧ Hid (ElE H [s, a, b, m] (some ⟨bk, ok, none⟩) L w wx))
            case first =>
              refine wp_named fun base hbase => ?_
              have b3 : base.getD 5 undef = .pointer (some ⟨c, 0, none⟩) := by rw [hbase]; rfl
              have b4 : base.getD 6 undef = .pointer (some ⟨c + 1, 0, none⟩) := by rw [hbase]; rfl
              have b5 : base.getD 7 undef = .pointer (some ⟨c + 1 + 1, 0, none⟩) := by rw [hbase]; rfl
              have b10 : base.getD 16 undef = .slice (some ⟨bk, ok, none⟩) N kc := by rw [hbase]; rfl
              have b12 : base.getD 17 undef = .int .i64 (i : Int) := by rw [hbase]; rfl
              have bsz : 156 ≤ base.size := by rw [hbase]; simp
              have HBA := Lib.hid hbase
              clear hbase
              obtain ⟨slots, hsl⟩ : ∃ l : List Nat, [18, 19, 20, 87, 88, 89, 90, 91, 92, 93, 94, 95, 96, 97, 98, 99, 100, 101, 102, 103, 104] = l := ⟨_, rfl⟩
              obtain ⟨val, hval⟩ : ∃ val : Nat → Value, (fun j => match j with | 0 => (.agg #[.pointer (pa s)] : Value) | 1 => (.slice (some ⟨bk, ok, none⟩) N kc : Value) | 2 => (.int .i64 (i : Int) : Value) | 3 => (.pointer (some ⟨bk, ok + i, none⟩) : Value) | 4 => (.string q : Value) | 5 => (prtVI (prtTI s q) : Value) | 6 => (.agg #[.pointer (pa a)] : Value) | 7 => (.slice (some ⟨bk, ok, none⟩) N kc : Value) | 8 => (.int .i64 (i : Int) : Value) | 9 => (.pointer (some ⟨bk, ok + i, none⟩) : Value) | 10 => (.string q : Value) | 11 => (prtVI (prtTI a q) : Value) | 12 => (.agg #[.pointer (pa b)] : Value) | 13 => (.slice (some ⟨bk, ok, none⟩) N kc : Value) | 14 => (.int .i64 (i : Int) : Value) | 15 => (.pointer (some ⟨bk, ok + i, none⟩) : Value) | 16 => (.string q : Value) | 17 => (prtVI (prtTI b q) : Value) | _ => undef) = val := ⟨_, rfl⟩
              have vl0 : val 0 = .agg #[.pointer (pa s)] := congrFun hval.symm 0
              have vl1 : val 1 = .slice (some ⟨bk, ok, none⟩) N kc := congrFun hval.symm 1
              have vl2 : val 2 = .int .i64 (i : Int) := congrFun hval.symm 2
              have vl3 : val 3 = .pointer (some ⟨bk, ok + i, none⟩) := congrFun hval.symm 3
              have vl4 : val 4 = .string q := congrFun hval.symm 4
              have vl5 : val 5 = prtVI (prtTI s q) := congrFun hval.symm 5
              have vl6 : val 6 = .agg #[.pointer (pa a)] := congrFun hval.symm 6
              have vl7 : val 7 = .slice (some ⟨bk, ok, none⟩) N kc := congrFun hval.symm 7
              have vl8 : val 8 = .int .i64 (i : Int) := congrFun hval.symm 8
              have vl9 : val 9 = .pointer (some ⟨bk, ok + i, none⟩) := congrFun hval.symm 9
              have vl10 : val 10 = .string q := congrFun hval.symm 10
              have vl11 : val 11 = prtVI (prtTI a q) := congrFun hval.symm 11
              have vl12 : val 12 = .agg #[.pointer (pa b)] := congrFun hval.symm 12
              have vl13 : val 13 = .slice (some ⟨bk, ok, none⟩) N kc := congrFun hval.symm 13
              have vl14 : val 14 = .int .i64 (i : Int) := congrFun hval.symm 14
              have vl15 : val 15 = .pointer (some ⟨bk, ok + i, none⟩) := congrFun hval.symm 15
              have vl16 : val 16 = .string q := congrFun hval.symm 16
              have vl17 : val 17 = prtVI (prtTI b q) := congrFun hval.symm 17
              obtain ⟨V, hV⟩ : ∃ V : List (Nat × Nat × Value), (List.range 18).map (fun j => (j, 87 + j, val j)) = V := ⟨_, rfl⟩
              have hVm : ∀ j, j < 18 → (j, 87 + j, val j) ∈ V := fun j hj => by rw [← hV]; exact List.mem_map.2 ⟨j, List.mem_range.2 hj, rfl⟩
              have hVi : ∀ j, j < 18 → ∀ p ∈ V, (p.1 = j ↔ p.2.1 = 87 + j) ∧ (p.1 = j → p.2.2 = val j) := fun j hj p hp => by
                rw [← hV] at hp
                obtain ⟨k, _, rfl⟩ := List.mem_map.1 hp
                dsimp only
                exact ⟨by omega, fun e => by rw [e]⟩
              have hs1 : ∀ k, 87 ≤ k → k < 105 → slots.contains k = true := fun k h1 h2 => by rw [← hsl]; simp; omega
              have hs2 : ∀ k, 87 ≤ k → k < 105 → k ∈ slots := fun k h1 h2 => by rw [← hsl]; simp; omega
              have hs3 : ∀ k, k < 18 → k ∉ slots := fun k h1 => by rw [← hsl]; simp; omega
              have hs4 : ∀ k, 18 ≤ k → k < 21 → k ∈ slots := fun k h1 h2 => by rw [← hsl]; simp; omega
              have bszz : 156 ≤ base.size := bsz
              obtain ⟨vv, hvv⟩ : ∃ vv : Nat → Array Value, (fun d => match d with | 18 => #[.int .i64 (prtTI s q).1, .bool (prtTI s q).2] | 19 => #[.int .i64 (prtTI a q).1, .bool (prtTI a q).2] | _ => #[.int .i64 (prtTI b q).1, .bool (prtTI b q).2]) = vv := ⟨_, rfl⟩
              have vv13 : vv 18 = #[.int .i64 (prtTI s q).1, .bool (prtTI s q).2] := congrFun hvv.symm 18
              have vv14 : vv 19 = #[.int .i64 (prtTI a q).1, .bool (prtTI a q).2] := congrFun hvv.symm 19
              have vv15 : vv 20 = #[.int .i64 (prtTI b q).1, .bool (prtTI b q).2] := congrFun hvv.symm 20
              obtain ⟨rows, hrw⟩ : ∃ l : List (Nat × Nat × Nat), [(18, 21, 18), (19, 22, 19), (20, 23, 20)] = l := ⟨_, rfl⟩
              have hrk : rowsOK rows = true := by rw [← hrw]; decide
              have hr1 : (18, 21, 18) ∈ rows := by rw [← hrw]; decide
              have hr2 : (19, 22, 19) ∈ rows := by rw [← hrw]; decide
              have hr3 : (20, 23, 20) ∈ rows := by rw [← hrw]; decide
              have hrl : ∀ r ∈ rows, 18 ≤ r.1 ∧ 18 ≤ r.2.1 ∧ r.2.2 < 87 := by rw [← hrw]; decide
              obtain ⟨M, hMd⟩ : ∃ M : (Nat → Bool) → (Nat → Value) → World → Prop, (fun X f w1 => Hid (Below wr.heap.size wr w1) ∧ Als 33 wr.heap.size rows #[.int .i64 0, .bool false] vv X f w1) = M := ⟨_, rfl⟩
              have hM : ∀ i d v, i < 18 → 87 ≤ d → ∀ X f w1 w2, M X f w1 → Below w1.heap.size w1 w2 → M (fun j => j == i || X j) (updF f d v) w2 := by
                rw [← hMd]
                rintro i d v hi hd X f w1 w2 ⟨h1, h2⟩ hb
                have e : ∀ j, 18 ≤ j → (j == i || X j) = X j := fun j hj => by rw [show (j == i) = false from (by simp; omega)]; rfl
                have u : ∀ k, k < 87 → updF f d v k = f k := fun k hk => by unfold updF; rw [if_neg (by omega)]
                exact ⟨Lib.hid (h1.out.trans (hb.mono h1.out.size)), h2.keep hb fun r hr => ⟨e _ (hrl r hr).1, e _ (hrl r hr).2.1, u _ (hrl r hr).2.2⟩⟩
              have hME : ∀ X f w1, M X f w1 → ElE H [s, a, b, m] (some ⟨bk, ok, none⟩) L w w1 := by rw [← hMd]; rintro X f w1 ⟨h1, _⟩; exact E.out.below h1.out
              have HMD2 := Lib.hid hMd
              have hst : M (fun _ => false) (fun k => base.getD k undef) wr.drew := by
                rw [← hMd]
                exact ⟨Lib.hid (Below.refl _ wr).drew, Als.start fun _ => rfl⟩
              have hVr : ∀ p ∈ V, p.1 < 18 ∧ p.2.1 = 87 + p.1 := fun p hp => by
                rw [← hV] at hp
                obtain ⟨k, hk, rfl⟩ := List.mem_map.1 hp
                exact ⟨List.mem_range.1 hk, rfl⟩
              have hJ : ∀ (X : Nat → Bool) (f g : Nat → Value) (k : Nat) (w1 : World) (t : Array Value), 18 ≤ k → (∀ p ∈ V, X p.1 = true → f p.2.1 = p.2.2) → (∀ j, 87 ≤ j → g j = f j) → t = regT base slots g → M (fun j => j == k || X j) g w1 → RegJ base [] slots V M (fun j => j == k || X j) { tmps := t, defers := [] } w1 := by
                rintro X f g k w1 t hk hv hg rfl hm
                refine ⟨g, rfl, fun p hp hX => ?_, hm⟩
                obtain ⟨e1, e2⟩ := hVr p hp
                rw [hg _ (by omega)]
                refine hv p hp ?_
                have hX2 : (p.1 == k || X p.1) = true := hX
                rw [show (p.1 == k) = false from (by simp; omega)] at hX2
                exact hX2
              clear hMd hval hV
              refine region_inv (RegJ base [] slots V M) (by kernel_rfl) (by kernel_rfl) (regJ_start hst) ?_ ?_
              · intro k hk
                have hk24 : k < 24 := hk
                have hk' : k = 0 ∨ k = 1 ∨ k = 2 ∨ k = 3 ∨ k = 4 ∨ k = 5 ∨ k = 6 ∨ k = 7 ∨ k = 8 ∨ k = 9 ∨ k = 10 ∨ k = 11 ∨ k = 12 ∨ k = 13 ∨ k = 14 ∨ k = 15 ∨ k = 16 ∨ k = 17 ∨ k = 18 ∨ k = 19 ∨ k = 20 ∨ k = 21 ∨ k = 22 ∨ k = 23 := by omega
                rcases hk' with rfl | rfl | rfl | rfl | rfl | rfl | rfl | rfl | rfl | rfl | rfl | rfl | rfl | rfl | rfl | rfl | rfl | rfl | rfl | rfl | rfl | rfl | rfl | rfl
                · refine regJ_fixed (d := 87) (v := val 0) rfl rfl rfl (hs1 87 (by omega) (by omega)) (hVi 0 (by omega)) (fun w w' => Below w.heap.size w w') (hM 0 87 _ (by omega) (by omega)) ?_
                  intro X f w1 hv hm hp K hK
                  have EM := hME X f w1 hm
                  rw [vl0] at hK
                  have e3 : (regT base slots f).getD 5 undef = _ := (regT_out (hs3 5 (by omega))).trans b3
                  have k1 : w1.cell? ⟨c, 0, none⟩ = some (.pointer (pa s)) := EM.f.cell (t := 29) HM.out.2.2.2.1
                  clear hv hm hp EM
                  go_simp
                  exact hK.out w1 (Below.refl _ _)
                · refine regJ_fixed (d := 88) (v := val 1) rfl rfl rfl (hs1 88 (by omega) (by omega)) (hVi 1 (by omega)) (fun w w' => Below w.heap.size w w') (hM 1 88 _ (by omega) (by omega)) ?_
                  intro X f w1 hv hm hp K hK
                  have EM := hME X f w1 hm
                  rw [vl1] at hK
                  have e10 : (regT base slots f).getD 16 undef = _ := (regT_out (hs3 16 (by omega))).trans b10
                  clear hv hm hp EM
                  go_simp
                  exact hK.out w1 (Below.refl _ _)
                · refine regJ_fixed (d := 89) (v := val 2) rfl rfl rfl (hs1 89 (by omega) (by omega)) (hVi 2 (by omega)) (fun w w' => Below w.heap.size w w') (hM 2 89 _ (by omega) (by omega)) ?_
                  intro X f w1 hv hm hp K hK
                  have EM := hME X f w1 hm
                  rw [vl2] at hK
                  have e12 : (regT base slots f).getD 17 undef = _ := (regT_out (hs3 17 (by omega))).trans b12
                  clear hv hm hp EM
                  go_simp
                  exact hK.out w1 (Below.refl _ _)
                · refine regJ_fixed (d := 90) (v := val 3) rfl rfl rfl (hs1 90 (by omega) (by omega)) (hVi 3 (by omega)) (fun w w' => Below w.heap.size w w') (hM 3 90 _ (by omega) (by omega)) ?_
                  intro X f w1 hv hm hp K hK
                  have EM := hME X f w1 hm
                  rw [vl3] at hK
                  have e61 : (regT base slots f).getD 88 undef = .slice (some ⟨bk, ok, none⟩) N kc := (regT_in (hs2 88 (by omega) (by omega)) (by omega)).trans ((hv _ (hVm 1 (by omega)) (hp 1 (of_decide_eq_true (by kernel_rfl)))).trans vl1)
                  have e62 : (regT base slots f).getD 89 undef = .int .i64 (i : Int) := (regT_in (hs2 89 (by omega) (by omega)) (by omega)).trans ((hv _ (hVm 2 (by omega)) (hp 2 (of_decide_eq_true (by kernel_rfl)))).trans vl2)
                  clear hv hm hp EM
                  go_simp
                  exact hK.out w1 (Below.refl _ _)
                · refine regJ_fixed (d := 91) (v := val 4) rfl rfl rfl (hs1 91 (by omega) (by omega)) (hVi 4 (by omega)) (fun w w' => Below w.heap.size w w') (hM 4 91 _ (by omega) (by omega)) ?_
                  intro X f w1 hv hm hp K hK
                  have EM := hME X f w1 hm
                  rw [vl4] at hK
                  have e63 : (regT base slots f).getD 90 undef = .pointer (some ⟨bk, ok + i, none⟩) := (regT_in (hs2 90 (by omega) (by omega)) (by omega)).trans ((hv _ (hVm 3 (by omega)) (hp 3 (of_decide_eq_true (by kernel_rfl)))).trans vl3)
                  obtain ⟨b', o', h1, k1⟩ := EM.k.get i (.string q) (by simp [strV, HQ.out])
                  cases h1
                  clear hv hm hp EM
                  go_simp
                  exact hK.out w1 (Below.refl _ _)
                · refine regJ_fixed (d := 92) (v := val 5) rfl rfl rfl (hs1 92 (by omega) (by omega)) (hVi 5 (by omega)) (fun w w' => Below w.heap.size w w') (hM 5 92 _ (by omega) (by omega)) ?_
                  intro X f w1 hv hm hp K hK
                  have EM := hME X f w1 hm
                  rw [vl5] at hK
                  have e60 : (regT base slots f).getD 87 undef = .agg #[.pointer (pa s)] := (regT_in (hs2 87 (by omega) (by omega)) (by omega)).trans ((hv _ (hVm 0 (by omega)) (hp 0 (of_decide_eq_true (by kernel_rfl)))).trans vl0)
                  have e64 : (regT base slots f).getD 91 undef = .string q := (regT_in (hs2 91 (by omega) (by omega)) (by omega)).trans ((hv _ (hVm 4 (by omega)) (hp 4 (of_decide_eq_true (by kernel_rfl)))).trans vl4)
                  have AT := EM.t _ List.mem_cons_self
                  clear hv hm hp EM
                  go_simp
                  refine (wk_part s q w1 AT).mono ?_
                  rintro e w2 ⟨rfl, hb⟩
                  exact hK.out w2 hb
                · refine regJ_fixed (d := 93) (v := val 6) rfl rfl rfl (hs1 93 (by omega) (by omega)) (hVi 6 (by omega)) (fun w w' => Below w.heap.size w w') (hM 6 93 _ (by omega) (by omega)) ?_
                  intro X f w1 hv hm hp K hK
                  have EM := hME X f w1 hm
                  rw [vl6] at hK
                  have e4 : (regT base slots f).getD 6 undef = _ := (regT_out (hs3 6 (by omega))).trans b4
                  have k1 : w1.cell? ⟨c + 1, 0, none⟩ = some (.pointer (pa a)) := EM.f.cell (t := 29) HM.out.2.2.2.2.1
                  clear hv hm hp EM
                  go_simp
                  exact hK.out w1 (Below.refl _ _)
                · refine regJ_fixed (d := 94) (v := val 7) rfl rfl rfl (hs1 94 (by omega) (by omega)) (hVi 7 (by omega)) (fun w w' => Below w.heap.size w w') (hM 7 94 _ (by omega) (by omega)) ?_
                  intro X f w1 hv hm hp K hK
                  have EM := hME X f w1 hm
                  rw [vl7] at hK
                  have e10 : (regT base slots f).getD 16 undef = _ := (regT_out (hs3 16 (by omega))).trans b10
                  clear hv hm hp EM
                  go_simp
                  exact hK.out w1 (Below.refl _ _)
                · refine regJ_fixed (d := 95) (v := val 8) rfl rfl rfl (hs1 95 (by omega) (by omega)) (hVi 8 (by omega)) (fun w w' => Below w.heap.size w w') (hM 8 95 _ (by omega) (by omega)) ?_
                  intro X f w1 hv hm hp K hK
                  have EM := hME X f w1 hm
                  rw [vl8] at hK
                  have e12 : (regT base slots f).getD 17 undef = _ := (regT_out (hs3 17 (by omega))).trans b12
                  clear hv hm hp EM
                  go_simp
                  exact hK.out w1 (Below.refl _ _)
                · refine regJ_fixed (d := 96) (v := val 9) rfl rfl rfl (hs1 96 (by omega) (by omega)) (hVi 9 (by omega)) (fun w w' => Below w.heap.size w w') (hM 9 96 _ (by omega) (by omega)) ?_
                  intro X f w1 hv hm hp K hK
                  have EM := hME X f w1 hm
                  rw [vl9] at hK
                  have e67 : (regT base slots f).getD 94 undef = .slice (some ⟨bk, ok, none⟩) N kc := (regT_in (hs2 94 (by omega) (by omega)) (by omega)).trans ((hv _ (hVm 7 (by omega)) (hp 7 (of_decide_eq_true (by kernel_rfl)))).trans vl7)
                  have e68 : (regT base slots f).getD 95 undef = .int .i64 (i : Int) := (regT_in (hs2 95 (by omega) (by omega)) (by omega)).trans ((hv _ (hVm 8 (by omega)) (hp 8 (of_decide_eq_true (by kernel_rfl)))).trans vl8)
                  clear hv hm hp EM
                  go_simp
                  exact hK.out w1 (Below.refl _ _)
                · refine regJ_fixed (d := 97) (v := val 10) rfl rfl rfl (hs1 97 (by omega) (by omega)) (hVi 10 (by omega)) (fun w w' => Below w.heap.size w w') (hM 10 97 _ (by omega) (by omega)) ?_
                  intro X f w1 hv hm hp K hK
                  have EM := hME X f w1 hm
                  rw [vl10] at hK
                  have e69 : (regT base slots f).getD 96 undef = .pointer (some ⟨bk, ok + i, none⟩) := (regT_in (hs2 96 (by omega) (by omega)) (by omega)).trans ((hv _ (hVm 9 (by omega)) (hp 9 (of_decide_eq_true (by kernel_rfl)))).trans vl9)
                  obtain ⟨b', o', h1, k1⟩ := EM.k.get i (.string q) (by simp [strV, HQ.out])
                  cases h1
                  clear hv hm hp EM
                  go_simp
                  exact hK.out w1 (Below.refl _ _)
                · refine regJ_fixed (d := 98) (v := val 11) rfl rfl rfl (hs1 98 (by omega) (by omega)) (hVi 11 (by omega)) (fun w w' => Below w.heap.size w w') (hM 11 98 _ (by omega) (by omega)) ?_
                  intro X f w1 hv hm hp K hK
                  have EM := hME X f w1 hm
                  rw [vl11] at hK
                  have e66 : (regT base slots f).getD 93 undef = .agg #[.pointer (pa a)] := (regT_in (hs2 93 (by omega) (by omega)) (by omega)).trans ((hv _ (hVm 6 (by omega)) (hp 6 (of_decide_eq_true (by kernel_rfl)))).trans vl6)
                  have e70 : (regT base slots f).getD 97 undef = .string q := (regT_in (hs2 97 (by omega) (by omega)) (by omega)).trans ((hv _ (hVm 10 (by omega)) (hp 10 (of_decide_eq_true (by kernel_rfl)))).trans vl10)
                  have AT := EM.t _ (List.mem_cons_of_mem _ List.mem_cons_self)
                  clear hv hm hp EM
                  go_simp
                  refine (wk_part a q w1 AT).mono ?_
                  rintro e w2 ⟨rfl, hb⟩
                  exact hK.out w2 hb
                · refine regJ_fixed (d := 99) (v := val 12) rfl rfl rfl (hs1 99 (by omega) (by omega)) (hVi 12 (by omega)) (fun w w' => Below w.heap.size w w') (hM 12 99 _ (by omega) (by omega)) ?_
                  intro X f w1 hv hm hp K hK
                  have EM := hME X f w1 hm
                  rw [vl12] at hK
                  have e5 : (regT base slots f).getD 7 undef = _ := (regT_out (hs3 7 (by omega))).trans b5
                  have k1 : w1.cell? ⟨c + 1 + 1, 0, none⟩ = some (.pointer (pa b)) := EM.f.cell (t := 29) HM.out.2.2.2.2.2
                  clear hv hm hp EM
                  go_simp
                  exact hK.out w1 (Below.refl _ _)
                · refine regJ_fixed (d := 100) (v := val 13) rfl rfl rfl (hs1 100 (by omega) (by omega)) (hVi 13 (by omega)) (fun w w' => Below w.heap.size w w') (hM 13 100 _ (by omega) (by omega)) ?_
                  intro X f w1 hv hm hp K hK
                  have EM := hME X f w1 hm
                  rw [vl13] at hK
                  have e10 : (regT base slots f).getD 16 undef = _ := (regT_out (hs3 16 (by omega))).trans b10
                  clear hv hm hp EM
                  go_simp
                  exact hK.out w1 (Below.refl _ _)
                · refine regJ_fixed (d := 101) (v := val 14) rfl rfl rfl (hs1 101 (by omega) (by omega)) (hVi 14 (by omega)) (fun w w' => Below w.heap.size w w') (hM 14 101 _ (by omega) (by omega)) ?_
                  intro X f w1 hv hm hp K hK
                  have EM := hME X f w1 hm
                  rw [vl14] at hK
                  have e12 : (regT base slots f).getD 17 undef = _ := (regT_out (hs3 17 (by omega))).trans b12
                  clear hv hm hp EM
                  go_simp
                  exact hK.out w1 (Below.refl _ _)
                · refine regJ_fixed (d := 102) (v := val 15) rfl rfl rfl (hs1 102 (by omega) (by omega)) (hVi 15 (by omega)) (fun w w' => Below w.heap.size w w') (hM 15 102 _ (by omega) (by omega)) ?_
                  intro X f w1 hv hm hp K hK
                  have EM := hME X f w1 hm
                  rw [vl15] at hK
                  have e73 : (regT base slots f).getD 100 undef = .slice (some ⟨bk, ok, none⟩) N kc := (regT_in (hs2 100 (by omega) (by omega)) (by omega)).trans ((hv _ (hVm 13 (by omega)) (hp 13 (of_decide_eq_true (by kernel_rfl)))).trans vl13)
                  have e74 : (regT base slots f).getD 101 undef = .int .i64 (i : Int) := (regT_in (hs2 101 (by omega) (by omega)) (by omega)).trans ((hv _ (hVm 14 (by omega)) (hp 14 (of_decide_eq_true (by kernel_rfl)))).trans vl14)
                  clear hv hm hp EM
                  go_simp
                  exact hK.out w1 (Below.refl _ _)
                · refine regJ_fixed (d := 103) (v := val 16) rfl rfl rfl (hs1 103 (by omega) (by omega)) (hVi 16 (by omega)) (fun w w' => Below w.heap.size w w') (hM 16 103 _ (by omega) (by omega)) ?_
                  intro X f w1 hv hm hp K hK
                  have EM := hME X f w1 hm
                  rw [vl16] at hK
                  have e75 : (regT base slots f).getD 102 undef = .pointer (some ⟨bk, ok + i, none⟩) := (regT_in (hs2 102 (by omega) (by omega)) (by omega)).trans ((hv _ (hVm 15 (by omega)) (hp 15 (of_decide_eq_true (by kernel_rfl)))).trans vl15)
                  obtain ⟨b', o', h1, k1⟩ := EM.k.get i (.string q) (by simp [strV, HQ.out])
                  cases h1
                  clear hv hm hp EM
                  go_simp
                  exact hK.out w1 (Below.refl _ _)
                · refine regJ_fixed (d := 104) (v := val 17) rfl rfl rfl (hs1 104 (by omega) (by omega)) (hVi 17 (by omega)) (fun w w' => Below w.heap.size w w') (hM 17 104 _ (by omega) (by omega)) ?_
                  intro X f w1 hv hm hp K hK
                  have EM := hME X f w1 hm
                  rw [vl17] at hK
                  have e72 : (regT base slots f).getD 99 undef = .agg #[.pointer (pa b)] := (regT_in (hs2 99 (by omega) (by omega)) (by omega)).trans ((hv _ (hVm 12 (by omega)) (hp 12 (of_decide_eq_true (by kernel_rfl)))).trans vl12)
                  have e76 : (regT base slots f).getD 103 undef = .string q := (regT_in (hs2 103 (by omega) (by omega)) (by omega)).trans ((hv _ (hVm 16 (by omega)) (hp 16 (of_decide_eq_true (by kernel_rfl)))).trans vl16)
                  have AT := EM.t _ (List.mem_cons_of_mem _ (List.mem_cons_of_mem _ List.mem_cons_self))
                  clear hv hm hp EM
                  go_simp
                  refine (wk_part b q w1 AT).mono ?_
                  rintro e w2 ⟨rfl, hb⟩
                  exact hK.out w2 hb
                · refine regJ_other rfl rfl ?_
                  intro X f w1 hv hm hL hp K hK
                  rw [← HMD2.out] at hm
                  have hm2 : M (fun j => j == 18 || X j) (updF f 18 (.pointer (some ⟨w1.heap.size, 0, none⟩))) (w1.alloc (.cells #[.int .i64 0, .bool false] 33)) := by
                    rw [← HMD2.out]
                    exact ⟨Lib.hid (hm.1.out.trans ((below_new w1 _).mono hm.1.out.size)), hm.2.alloc hrk hm.1.out.size hr1 hL⟩
                  have hgo := hJ X f _ 18 _ _ (by omega) hv (fun j hj => by unfold updF; rw [if_neg (by omega)]) (regT_put base slots f 18 (.pointer (some ⟨w1.heap.size, 0, none⟩)) (hs4 18 (by omega) (by omega))) hm2
                  clear hm hm2 hv hp
                  go_simp
                  exact hK.out _ _ hgo
                · refine regJ_other rfl rfl ?_
                  intro X f w1 hv hm hL hp K hK
                  rw [← HMD2.out] at hm
                  have hm2 : M (fun j => j == 19 || X j) (updF f 19 (.pointer (some ⟨w1.heap.size, 0, none⟩))) (w1.alloc (.cells #[.int .i64 0, .bool false] 33)) := by
                    rw [← HMD2.out]
                    exact ⟨Lib.hid (hm.1.out.trans ((below_new w1 _).mono hm.1.out.size)), hm.2.alloc hrk hm.1.out.size hr2 hL⟩
                  have hgo := hJ X f _ 19 _ _ (by omega) hv (fun j hj => by unfold updF; rw [if_neg (by omega)]) (regT_put base slots f 19 (.pointer (some ⟨w1.heap.size, 0, none⟩)) (hs4 19 (by omega) (by omega))) hm2
                  clear hm hm2 hv hp
                  go_simp
                  exact hK.out _ _ hgo
                · refine regJ_other rfl rfl ?_
                  intro X f w1 hv hm hL hp K hK
                  rw [← HMD2.out] at hm
                  have hm2 : M (fun j => j == 20 || X j) (updF f 20 (.pointer (some ⟨w1.heap.size, 0, none⟩))) (w1.alloc (.cells #[.int .i64 0, .bool false] 33)) := by
                    rw [← HMD2.out]
                    exact ⟨Lib.hid (hm.1.out.trans ((below_new w1 _).mono hm.1.out.size)), hm.2.alloc hrk hm.1.out.size hr3 hL⟩
                  have hgo := hJ X f _ 20 _ _ (by omega) hv (fun j hj => by unfold updF; rw [if_neg (by omega)]) (regT_put base slots f 20 (.pointer (some ⟨w1.heap.size, 0, none⟩)) (hs4 20 (by omega) (by omega))) hm2
                  clear hm hm2 hv hp
                  go_simp
                  exact hK.out _ _ hgo
                · refine regJ_other rfl rfl ?_
                  intro X f w1 hv hm hL hp K hK
                  have e13 : (regT base slots f).getD 18 undef = f 18 := regT_in (hs4 18 (by omega) (by omega)) (by omega)
                  have e65 : (regT base slots f).getD 92 undef = .agg #[.int .i64 (prtTI s q).1, .bool (prtTI s q).2] := (regT_in (hs2 92 (by omega) (by omega)) (by omega)).trans ((hv _ (hVm 5 (by omega)) (hp 5 (of_decide_eq_true (by kernel_rfl)))).trans vl5)
                  have ha : X 18 = true := hp 18 (of_decide_eq_true (by kernel_rfl))
                  rw [← HMD2.out] at hm
                  obtain ⟨cc, hf, hcb, hc⟩ := hm.2.b _ hr1 ha
                  rw [show X ((18 + 0, 21 + 0, 18 + 0) : Nat × Nat × Nat).2.1 = false from hL, if_neg (by decide)] at hc
                  rw [hf] at e13
                  have hm2 : M (fun j => j == 21 || X j) f (w1.setRow cc (vv 18)) := by
                    rw [← HMD2.out]
                    exact ⟨Lib.hid (below_setRow hm.1.out hcb _), hm.2.store hrk hr1 ha hf⟩
                  obtain ⟨k1, k2, k3, k4, k5⟩ := store_two (v0 := .int .i64 (prtTI s q).1) (v1 := .bool (prtTI s q).2) hc
                  have hgo := hJ X f f 21 _ _ (by omega) hv (fun _ _ => rfl) rfl hm2
                  rw [vv13] at hgo
                  clear hm hm2 hv hp
                  go_simp
                  exact hK.out _ _ hgo
                · refine regJ_other rfl rfl ?_
                  intro X f w1 hv hm hL hp K hK
                  have e14 : (regT base slots f).getD 19 undef = f 19 := regT_in (hs4 19 (by omega) (by omega)) (by omega)
                  have e71 : (regT base slots f).getD 98 undef = .agg #[.int .i64 (prtTI a q).1, .bool (prtTI a q).2] := (regT_in (hs2 98 (by omega) (by omega)) (by omega)).trans ((hv _ (hVm 11 (by omega)) (hp 11 (of_decide_eq_true (by kernel_rfl)))).trans vl11)
                  have ha : X 19 = true := hp 19 (of_decide_eq_true (by kernel_rfl))
                  rw [← HMD2.out] at hm
                  obtain ⟨cc, hf, hcb, hc⟩ := hm.2.b _ hr2 ha
                  rw [show X ((18 + 1, 21 + 1, 18 + 1) : Nat × Nat × Nat).2.1 = false from hL, if_neg (by decide)] at hc
                  rw [hf] at e14
                  have hm2 : M (fun j => j == 22 || X j) f (w1.setRow cc (vv 19)) := by
                    rw [← HMD2.out]
                    exact ⟨Lib.hid (below_setRow hm.1.out hcb _), hm.2.store hrk hr2 ha hf⟩
                  obtain ⟨k1, k2, k3, k4, k5⟩ := store_two (v0 := .int .i64 (prtTI a q).1) (v1 := .bool (prtTI a q).2) hc
                  have hgo := hJ X f f 22 _ _ (by omega) hv (fun _ _ => rfl) rfl hm2
                  rw [vv14] at hgo
                  clear hm hm2 hv hp
                  go_simp
                  exact hK.out _ _ hgo
                · refine regJ_other rfl rfl ?_
                  intro X f w1 hv hm hL hp K hK
                  have e15 : (regT base slots f).getD 20 undef = f 20 := regT_in (hs4 20 (by omega) (by omega)) (by omega)
                  have e77 : (regT base slots f).getD 104 undef = .agg #[.int .i64 (prtTI b q).1, .bool (prtTI b q).2] := (regT_in (hs2 104 (by omega) (by omega)) (by omega)).trans ((hv _ (hVm 17 (by omega)) (hp 17 (of_decide_eq_true (by kernel_rfl)))).trans vl17)
                  have ha : X 20 = true := hp 20 (of_decide_eq_true (by kernel_rfl))
                  rw [← HMD2.out] at hm
                  obtain ⟨cc, hf, hcb, hc⟩ := hm.2.b _ hr3 ha
                  rw [show X ((18 + 2, 21 + 2, 18 + 2) : Nat × Nat × Nat).2.1 = false from hL, if_neg (by decide)] at hc
                  rw [hf] at e15
                  have hm2 : M (fun j => j == 23 || X j) f (w1.setRow cc (vv 20)) := by
                    rw [← HMD2.out]
                    exact ⟨Lib.hid (below_setRow hm.1.out hcb _), hm.2.store hrk hr3 ha hf⟩
                  obtain ⟨k1, k2, k3, k4, k5⟩ := store_two (v0 := .int .i64 (prtTI b q).1) (v1 := .bool (prtTI b q).2) hc
                  have hgo := hJ X f f 23 _ _ (by omega) hv (fun _ _ => rfl) rfl hm2
                  rw [vv15] at hgo
                  clear hm hm2 hv hp
                  go_simp
                  exact hK.out _ _ hgo
              · rintro X aa w1 ⟨f, rfl, h1, h2⟩ hall
                rw [← HMD2.out] at h2
                obtain ⟨hb, hA⟩ := h2
                obtain ⟨cc1, g1, _, hc1⟩ := hA.b _ hr1 (hall 18 (of_decide_eq_true (by kernel_rfl)))
                obtain ⟨cc2, g2, _, hc2⟩ := hA.b _ hr2 (hall 19 (of_decide_eq_true (by kernel_rfl)))
                obtain ⟨cc3, g3, _, hc3⟩ := hA.b _ hr3 (hall 20 (of_decide_eq_true (by kernel_rfl)))
                rw [if_pos (hall 21 (of_decide_eq_true (by kernel_rfl)))] at hc1
                rw [if_pos (hall 22 (of_decide_eq_true (by kernel_rfl)))] at hc2
                rw [if_pos (hall 23 (of_decide_eq_true (by kernel_rfl)))] at hc3
                rw [vv13] at hc1
                rw [vv14] at hc2
                rw [vv15] at hc3
                have RR := Lib.hid (And.intro hc1 (And.intro hc2 hc3))
                have E2 := Lib.hid (E.out.below hb.out)
                clear hc1 hc2 hc3 hb hA h1 hall hJ hVr hst HMD2 hME hM hrl hr1 hr2 hr3 hrk vv13 vv14 vv15
                rw [← hsl, HBA.out]
                simp only [regT, List.foldl_cons, List.foldl_nil]
                go_wp2_with fail
                go_meet
                exact ⟨cc1, cc2, cc3, rfl, rfl, rfl, RR, E2⟩
            case rest =>
              obtain ⟨c13, c14, c15, rfl, rfl, rfl, RR, E1⟩ := hcut
              have es := prtT_lkI (k := q) GD.out.1.2.1
              have ea := prtT_lkI (k := q) GD.out.2.1.2.1
              have eb := prtT_lkI (k := q) GD.out.2.2.2.1
              have em := prtT_lkI (k := q) O1.out.srt
              have hm := rl_two (f := fun k => (k.size : Int)) GD.out.1.2.2 GD.out.2.1.2.2 GD.out.2.2.2.2 O1.out q
              rw [← em, ← es, ← ea, ← eb] at hm
              have vs := lk_val (f := fun k => (k.size : Int)) GD.out.1.2.2 q
              have va := lk_val (f := fun k => (k.size : Int)) GD.out.2.1.2.2 q
              have vb := lk_val (f := fun k => (k.size : Int)) GD.out.2.2.2.2 q
              rw [← es] at vs
              rw [← ea] at va
              rw [← eb] at vb
              obtain ⟨v, hv⟩ : ∃ v : Int, (q.size : Int) = v := ⟨_, rfl⟩
              simp only [hv] at vs va vb
              have PART : Hid (∀ W, AtI W m → Calls Try.prog 15 #[.agg #[.pointer (pa m)], .string q] W fun e w' => e = .returned (prtVI (rlF (prtTI s q) (prtTI a q) (prtTI b q))) ∧ Below W.heap.size W w') := Lib.hid (fun W h => by
                have h2 := wk_part m q W h
                rw [hm] at h2
                exact h2)
              obtain ⟨pp, hpp⟩ : ∃ x, prtTI s q = x := ⟨_, rfl⟩
              obtain ⟨qq, hqq⟩ : ∃ x, prtTI a q = x := ⟨_, rfl⟩
              obtain ⟨rr, hrr⟩ : ∃ x, prtTI b q = x := ⟨_, rfl⟩
              rw [hpp] at vs
              rw [hqq] at va
              rw [hrr] at vb
              rw [hpp, hqq, hrr] at RR PART
              obtain ⟨p1, pb⟩ := pp
              obtain ⟨q1, qb⟩ := qq
              obtain ⟨r1, rb⟩ := rr
              dsimp only at vs va vb RR
              replace vs := (Prod.mk.inj vs).1.symm
              replace va := (Prod.mk.inj va).1.symm
              replace vb := (Prod.mk.inj vb).1.symm
              have CK : Hid (∀ W, ElE H [s, a, b, m] (some ⟨bk, ok, none⟩) L w W → W.cell? ⟨bk, ok + i, none⟩ = some (.string q)) := Lib.hid (fun W h => by
                obtain ⟨b', o', h1, h2⟩ := h.k.get i (.string q) (by simp [strV, HQ.out])
                cases h1
                exact h2)
              have VV := Lib.hid (And.intro vs (And.intro va vb))
              clear vs va vb
              clear es ea eb em hm hpp hqq hrr hv HCK E
              have k14 := row2 RR.out.2.1
              go_upto_region 24 with (fail)
              obtain ⟨d0, hd0⟩ : ∃ d, wc.heap.size = d := ⟨_, rfl⟩
              rw [hd0]
              obtain ⟨w24, hw24⟩ : ∃ W, wc.alloc (.cells #[.int .i64 q1, .bool qb] 33) = W := ⟨_, rfl⟩
              rw [hw24]
              have hb24 : Below wc.heap.size wc w24 := by rw [← hw24]; exact below_new _ _
              have D24 : w24.heap[d0]? = some (.cells #[.int .i64 q1, .bool qb] 33 (0, 0)) := by rw [← hw24, ← hd0]; exact heap_alloc_new _ _
              clear hw24 k14
              obtain ⟨vs, va, vb⟩ := VV.out
              clear VV
              cases pb <;> cases qb <;> cases rb <;> simp only [reduceIte, Bool.false_eq_true] at vs va vb <;> subst vs va vb
              · have X24 : Hid (Below wc.heap.size wc w24 ∧ w24.heap[d0]? = some (.cells #[(.int .i64 0), (.bool false)] 33 (0, 0))) := Lib.hid ⟨hb24, D24⟩
                have k13 := row2 (boxStays RR.out.1 hb24)
                have k14 := row2 (boxStays RR.out.2.1 hb24)
                have k15 := row2 (boxStays RR.out.2.2 hb24)
                have kd := row2 D24
                obtain ⟨s1, s2, s3, s4, s5⟩ := store_two (v0 := (.int .i64 0)) (v1 := (.bool false)) D24
                go_upto_region 26 with (fail)
                obtain ⟨w26, hw26⟩ : ∃ W, w24.setRow d0 #[(.int .i64 0), (.bool false)] = W := ⟨_, rfl⟩
                rw [hw26]
                have hb26 : Below wc.heap.size wc w26 := by rw [← hw26]; exact below_setRow X24.out.1 (by omega) _
                have D26 : w26.heap[d0]? = some (.cells #[(.int .i64 0), (.bool false)] 33 (0, 0)) := by rw [← hw26]; exact setRow_heap _ _ _ _ _ _ X24.out.2
                clear hw26 s1 s2 s3 s4 s5 k13 k14 k15 kd X24 D24 hb24
                have X26 : Hid (Below wc.heap.size wc w26 ∧ w26.heap[d0]? = some (.cells #[(.int .i64 0), (.bool false)] 33 (0, 0))) := Lib.hid ⟨hb26, D26⟩
                have k13 := row2 (boxStays RR.out.1 hb26)
                have k14 := row2 (boxStays RR.out.2.1 hb26)
                have k15 := row2 (boxStays RR.out.2.2 hb26)
                have kd := row2 D26
                clear hb26 D26
                have fd := frozen_of_row _ d0 0 _ _ X26.out.2
                go_upto_region 31 with (fail)
                obtain ⟨w30, hw30⟩ : ∃ W, w26.setCell ⟨d0, 0, none⟩ (.int .i64 0) = W := ⟨_, rfl⟩
                rw [hw30]
                have X30 : Hid (Below wc.heap.size wc w30 ∧ w30.heap[d0]? = some (.cells #[(.int .i64 0), (.bool false)] 33 (0, 0))) := Lib.hid ⟨by rw [← hw30]; exact X26.out.1.setCell (p := ⟨d0, 0, none⟩) (by simp; omega) _, by rw [← hw30]; exact heap_setCell_same _ d0 0 _ _ (.int .i64 0) X26.out.2⟩
                clear hw30 fd
                clear k13 k14 k15 kd
                have E2 := Lib.hid (E1.out.below X30.out.1)
                have HC : Hid (Chain [w30] w30) := Lib.hid (Chain.one w30)
                refine wp_region_noPanic ?_
                refine wp_region_held_drew (S := fun w' => Below w30.heap.size w30 w') (by kernel_rfl) (Below.refl _ _).drew (fun hS => ?_)
                refine wpAnyH_take (i := 0) (oi := ⟨some 147, _, _, _, _, _⟩) (v := ?_) rfl (by kernel_rfl) (by kernel_rfl) (by kernel_rfl) (fun _ _ _ h => h) (Or.inl ⟨by rfl, ?_⟩) hS ?_
                rotate_left 1
                · intro w' hB; have hd := (HC.out.to w30 (by simp)).trans (hB.mono (HC.out.to w30 (by simp)).size); have EM := E2.out.below hd; have k6 : _ = _ := EM.f.cell (t := 29) HM.out.2.1; have kk := CK.out _ EM; have kd := row2 (boxStays X30.out.2 hd); clear hd EM; (go_simp <;> with_reducible rfl)
                try simp only [Act.put, List.setIfInBounds_toArray, List.set_cons_zero, List.set_cons_succ]
                refine wpAnyH_take (i := 1) (oi := ⟨some 148, _, _, _, _, _⟩) (v := ?_) rfl (by kernel_rfl) (by kernel_rfl) (by kernel_rfl) (fun _ _ _ h => h) (Or.inl ⟨by rfl, ?_⟩) hS ?_
                rotate_left 1
                · intro w' hB; have hd := (HC.out.to w30 (by simp)).trans (hB.mono (HC.out.to w30 (by simp)).size); have EM := E2.out.below hd; have k6 : _ = _ := EM.f.cell (t := 29) HM.out.2.1; have kk := CK.out _ EM; have kd := row2 (boxStays X30.out.2 hd); clear hd EM; (go_simp <;> with_reducible rfl)
                try simp only [Act.put, List.setIfInBounds_toArray, List.set_cons_zero, List.set_cons_succ]
                refine wpAnyH_take (i := 2) (oi := ⟨some 149, _, _, _, _, _⟩) (v := ?_) rfl (by kernel_rfl) (by kernel_rfl) (by kernel_rfl) (fun _ _ _ h => h) (Or.inl ⟨by rfl, ?_⟩) hS ?_
                rotate_left 1
                · intro w' hB; have hd := (HC.out.to w30 (by simp)).trans (hB.mono (HC.out.to w30 (by simp)).size); have EM := E2.out.below hd; have k6 : _ = _ := EM.f.cell (t := 29) HM.out.2.1; have kk := CK.out _ EM; have kd := row2 (boxStays X30.out.2 hd); clear hd EM; (go_simp <;> with_reducible rfl)
                try simp only [Act.put, List.setIfInBounds_toArray, List.set_cons_zero, List.set_cons_succ]
                refine wpAnyH_take (i := 3) (oi := ⟨some 150, _, _, _, _, _⟩) (v := ?_) rfl (by kernel_rfl) (by kernel_rfl) (by kernel_rfl) (fun _ _ _ h => h) (Or.inl ⟨by rfl, ?_⟩) hS ?_
                rotate_left 1
                · intro w' hB; have hd := (HC.out.to w30 (by simp)).trans (hB.mono (HC.out.to w30 (by simp)).size); have EM := E2.out.below hd; have k6 : _ = _ := EM.f.cell (t := 29) HM.out.2.1; have kk := CK.out _ EM; have kd := row2 (boxStays X30.out.2 hd); clear hd EM; (go_simp <;> with_reducible rfl)
                try simp only [Act.put, List.setIfInBounds_toArray, List.set_cons_zero, List.set_cons_succ]
                refine wpAnyH_take (i := 4) (oi := ⟨some 151, _, _, _, _, _⟩) (v := ?_) rfl (by kernel_rfl) (by kernel_rfl) (by kernel_rfl) (fun _ _ _ h => h) (Or.inl ⟨by rfl, ?_⟩) hS ?_
                rotate_left 1
                · intro w' hB; have hd := (HC.out.to w30 (by simp)).trans (hB.mono (HC.out.to w30 (by simp)).size); have EM := E2.out.below hd; have k6 : _ = _ := EM.f.cell (t := 29) HM.out.2.1; have kk := CK.out _ EM; have kd := row2 (boxStays X30.out.2 hd); clear hd EM; (go_simp <;> with_reducible rfl)
                try simp only [Act.put, List.setIfInBounds_toArray, List.set_cons_zero, List.set_cons_succ]
                refine wpAnyH_take (i := 6) (oi := ⟨some 153, _, _, _, _, _⟩) (v := ?_) rfl (by kernel_rfl) (by kernel_rfl) (by kernel_rfl) (fun _ _ _ h => h) (Or.inl ⟨by rfl, ?_⟩) hS ?_
                rotate_left 1
                · intro w' hB; have hd := (HC.out.to w30 (by simp)).trans (hB.mono (HC.out.to w30 (by simp)).size); have EM := E2.out.below hd; have k6 : _ = _ := EM.f.cell (t := 29) HM.out.2.1; have kk := CK.out _ EM; have kd := row2 (boxStays X30.out.2 hd); clear hd EM; (go_simp <;> with_reducible rfl)
                try simp only [Act.put, List.setIfInBounds_toArray, List.set_cons_zero, List.set_cons_succ]
                refine wpAnyH_ready (rs := [5]) (by kernel_rfl) (by simp) (AllReadyH.cons (o := ⟨some 152, _, _, _, _, _⟩) rfl (fun K hK => ?_) AllReadyH.nil)
                go_simp
                refine (PART.out _ ((E2.out.t m (by simp)).chain HC.out hS (by simp))).mono ?_
                rintro e w31 ⟨rfl, hb⟩
                refine hK.out _ _ (hS.trans (hb.mono hS.size)) (fun _ => ?_)
                clear hK K
                have hB := hS.trans (hb.mono hS.size)
                refine wpAnyH_now hB ?_
                clear hS
                have hS := Below.refl w31.heap.size w31
                replace HC := Lib.hid (HC.out.push hB)
                unfold rlF prtVI
                simp only [Prod.mk.injEq, Bool.false_eq_true, Bool.true_eq_false, and_true, and_false, or_true, or_false, true_or, false_or, and_self, reduceIte]
                clear hB hb
                try simp only [Act.put, List.setIfInBounds_toArray, List.set_cons_zero, List.set_cons_succ]
                refine wpAnyH_take (i := 7) (oi := ⟨some 154, _, _, _, _, _⟩) (v := ?_) rfl (by kernel_rfl) (by kernel_rfl) (by kernel_rfl) (fun _ _ _ h => h) (Or.inl ⟨by rfl, ?_⟩) hS ?_
                rotate_left 1
                · intro w' hB; have hd := (HC.out.to w30 (by simp)).trans (hB.mono (HC.out.to w30 (by simp)).size); have EM := E2.out.below hd; have k6 : _ = _ := EM.f.cell (t := 29) HM.out.2.1; have kk := CK.out _ EM; have kd := row2 (boxStays X30.out.2 hd); clear hd EM; (go_simp <;> with_reducible rfl)
                try simp only [Act.put, List.setIfInBounds_toArray, List.set_cons_zero, List.set_cons_succ]
                refine wpAnyH_done (by kernel_rfl) (NoPanic.normal ?_) _
                go_wp2_with fail
                refine ⟨⟨i + 1, by simp, by omega, Lib.hid (E2.out.below (HC.out.to w30 (by simp)))⟩, ?_⟩
                have q1 : (intOf (Value.int .i64 ((i : Int) + 1))).toNat = i + 1 := by simp [intOf]
                have q2 : (intOf (Value.int .i64 (i : Int))).toNat = i := by simp [intOf]
                rw [q1, q2]; omega
              · have X24 : Hid (Below wc.heap.size wc w24 ∧ w24.heap[d0]? = some (.cells #[(.int .i64 0), (.bool false)] 33 (0, 0))) := Lib.hid ⟨hb24, D24⟩
                have k13 := row2 (boxStays RR.out.1 hb24)
                have k14 := row2 (boxStays RR.out.2.1 hb24)
                have k15 := row2 (boxStays RR.out.2.2 hb24)
                have kd := row2 D24
                obtain ⟨s1, s2, s3, s4, s5⟩ := store_two (v0 := (.int .i64 v)) (v1 := (.bool true)) D24
                go_upto_region 26 with (fail)
                obtain ⟨w26, hw26⟩ : ∃ W, w24.setRow d0 #[(.int .i64 v), (.bool true)] = W := ⟨_, rfl⟩
                rw [hw26]
                have hb26 : Below wc.heap.size wc w26 := by rw [← hw26]; exact below_setRow X24.out.1 (by omega) _
                have D26 : w26.heap[d0]? = some (.cells #[(.int .i64 v), (.bool true)] 33 (0, 0)) := by rw [← hw26]; exact setRow_heap _ _ _ _ _ _ X24.out.2
                clear hw26 s1 s2 s3 s4 s5 k13 k14 k15 kd X24 D24 hb24
                have X26 : Hid (Below wc.heap.size wc w26 ∧ w26.heap[d0]? = some (.cells #[(.int .i64 v), (.bool true)] 33 (0, 0))) := Lib.hid ⟨hb26, D26⟩
                have k13 := row2 (boxStays RR.out.1 hb26)
                have k14 := row2 (boxStays RR.out.2.1 hb26)
                have k15 := row2 (boxStays RR.out.2.2 hb26)
                have kd := row2 D26
                clear hb26 D26
                go_upto_region 31 with (fail)
                clear k13 k14 k15 kd
                have E2 := Lib.hid (E1.out.below X26.out.1)
                have HC : Hid (Chain [w26] w26) := Lib.hid (Chain.one w26)
                refine wp_region_noPanic ?_
                refine wp_region_held_drew (S := fun w' => Below w26.heap.size w26 w') (by kernel_rfl) (Below.refl _ _).drew (fun hS => ?_)
                refine wpAnyH_take (i := 0) (oi := ⟨some 147, _, _, _, _, _⟩) (v := ?_) rfl (by kernel_rfl) (by kernel_rfl) (by kernel_rfl) (fun _ _ _ h => h) (Or.inl ⟨by rfl, ?_⟩) hS ?_
                rotate_left 1
                · intro w' hB; have hd := (HC.out.to w26 (by simp)).trans (hB.mono (HC.out.to w26 (by simp)).size); have EM := E2.out.below hd; have k6 : _ = _ := EM.f.cell (t := 29) HM.out.2.1; have kk := CK.out _ EM; have kd := row2 (boxStays X26.out.2 hd); clear hd EM; (go_simp <;> with_reducible rfl)
                try simp only [Act.put, List.setIfInBounds_toArray, List.set_cons_zero, List.set_cons_succ]
                refine wpAnyH_take (i := 1) (oi := ⟨some 148, _, _, _, _, _⟩) (v := ?_) rfl (by kernel_rfl) (by kernel_rfl) (by kernel_rfl) (fun _ _ _ h => h) (Or.inl ⟨by rfl, ?_⟩) hS ?_
                rotate_left 1
                · intro w' hB; have hd := (HC.out.to w26 (by simp)).trans (hB.mono (HC.out.to w26 (by simp)).size); have EM := E2.out.below hd; have k6 : _ = _ := EM.f.cell (t := 29) HM.out.2.1; have kk := CK.out _ EM; have kd := row2 (boxStays X26.out.2 hd); clear hd EM; (go_simp <;> with_reducible rfl)
                try simp only [Act.put, List.setIfInBounds_toArray, List.set_cons_zero, List.set_cons_succ]
                refine wpAnyH_take (i := 2) (oi := ⟨some 149, _, _, _, _, _⟩) (v := ?_) rfl (by kernel_rfl) (by kernel_rfl) (by kernel_rfl) (fun _ _ _ h => h) (Or.inl ⟨by rfl, ?_⟩) hS ?_
                rotate_left 1
                · intro w' hB; have hd := (HC.out.to w26 (by simp)).trans (hB.mono (HC.out.to w26 (by simp)).size); have EM := E2.out.below hd; have k6 : _ = _ := EM.f.cell (t := 29) HM.out.2.1; have kk := CK.out _ EM; have kd := row2 (boxStays X26.out.2 hd); clear hd EM; (go_simp <;> with_reducible rfl)
                try simp only [Act.put, List.setIfInBounds_toArray, List.set_cons_zero, List.set_cons_succ]
                refine wpAnyH_take (i := 3) (oi := ⟨some 150, _, _, _, _, _⟩) (v := ?_) rfl (by kernel_rfl) (by kernel_rfl) (by kernel_rfl) (fun _ _ _ h => h) (Or.inl ⟨by rfl, ?_⟩) hS ?_
                rotate_left 1
                · intro w' hB; have hd := (HC.out.to w26 (by simp)).trans (hB.mono (HC.out.to w26 (by simp)).size); have EM := E2.out.below hd; have k6 : _ = _ := EM.f.cell (t := 29) HM.out.2.1; have kk := CK.out _ EM; have kd := row2 (boxStays X26.out.2 hd); clear hd EM; (go_simp <;> with_reducible rfl)
                try simp only [Act.put, List.setIfInBounds_toArray, List.set_cons_zero, List.set_cons_succ]
                refine wpAnyH_take (i := 4) (oi := ⟨some 151, _, _, _, _, _⟩) (v := ?_) rfl (by kernel_rfl) (by kernel_rfl) (by kernel_rfl) (fun _ _ _ h => h) (Or.inl ⟨by rfl, ?_⟩) hS ?_
                rotate_left 1
                · intro w' hB; have hd := (HC.out.to w26 (by simp)).trans (hB.mono (HC.out.to w26 (by simp)).size); have EM := E2.out.below hd; have k6 : _ = _ := EM.f.cell (t := 29) HM.out.2.1; have kk := CK.out _ EM; have kd := row2 (boxStays X26.out.2 hd); clear hd EM; (go_simp <;> with_reducible rfl)
                try simp only [Act.put, List.setIfInBounds_toArray, List.set_cons_zero, List.set_cons_succ]
                refine wpAnyH_take (i := 6) (oi := ⟨some 153, _, _, _, _, _⟩) (v := ?_) rfl (by kernel_rfl) (by kernel_rfl) (by kernel_rfl) (fun _ _ _ h => h) (Or.inl ⟨by rfl, ?_⟩) hS ?_
                rotate_left 1
                · intro w' hB; have hd := (HC.out.to w26 (by simp)).trans (hB.mono (HC.out.to w26 (by simp)).size); have EM := E2.out.below hd; have k6 : _ = _ := EM.f.cell (t := 29) HM.out.2.1; have kk := CK.out _ EM; have kd := row2 (boxStays X26.out.2 hd); clear hd EM; (go_simp <;> with_reducible rfl)
                try simp only [Act.put, List.setIfInBounds_toArray, List.set_cons_zero, List.set_cons_succ]
                refine wpAnyH_ready (rs := [5]) (by kernel_rfl) (by simp) (AllReadyH.cons (o := ⟨some 152, _, _, _, _, _⟩) rfl (fun K hK => ?_) AllReadyH.nil)
                go_simp
                refine (PART.out _ ((E2.out.t m (by simp)).chain HC.out hS (by simp))).mono ?_
                rintro e w31 ⟨rfl, hb⟩
                refine hK.out _ _ (hS.trans (hb.mono hS.size)) (fun _ => ?_)
                clear hK K
                have hB := hS.trans (hb.mono hS.size)
                refine wpAnyH_now hB ?_
                clear hS
                have hS := Below.refl w31.heap.size w31
                replace HC := Lib.hid (HC.out.push hB)
                unfold rlF prtVI
                simp only [Prod.mk.injEq, Bool.false_eq_true, Bool.true_eq_false, and_true, and_false, or_true, or_false, true_or, false_or, and_self, reduceIte]
                clear hB hb
                try simp only [Act.put, List.setIfInBounds_toArray, List.set_cons_zero, List.set_cons_succ]
                refine wpAnyH_take (i := 7) (oi := ⟨some 154, _, _, _, _, _⟩) (v := ?_) rfl (by kernel_rfl) (by kernel_rfl) (by kernel_rfl) (fun _ _ _ h => h) (Or.inl ⟨by rfl, ?_⟩) hS ?_
                rotate_left 1
                · intro w' hB; have hd := (HC.out.to w26 (by simp)).trans (hB.mono (HC.out.to w26 (by simp)).size); have EM := E2.out.below hd; have k6 : _ = _ := EM.f.cell (t := 29) HM.out.2.1; have kk := CK.out _ EM; have kd := row2 (boxStays X26.out.2 hd); clear hd EM; (go_simp <;> with_reducible rfl)
                try simp only [Act.put, List.setIfInBounds_toArray, List.set_cons_zero, List.set_cons_succ]
                refine wpAnyH_done (by kernel_rfl) (NoPanic.normal ?_) _
                go_wp2_with fail
                refine ⟨⟨i + 1, by simp, by omega, Lib.hid (E2.out.below (HC.out.to w26 (by simp)))⟩, ?_⟩
                have q1 : (intOf (Value.int .i64 ((i : Int) + 1))).toNat = i + 1 := by simp [intOf]
                have q2 : (intOf (Value.int .i64 (i : Int))).toNat = i := by simp [intOf]
                rw [q1, q2]; omega
              · have X24 : Hid (Below wc.heap.size wc w24 ∧ w24.heap[d0]? = some (.cells #[(.int .i64 v), (.bool true)] 33 (0, 0))) := Lib.hid ⟨hb24, D24⟩
                have k13 := row2 (boxStays RR.out.1 hb24)
                have k14 := row2 (boxStays RR.out.2.1 hb24)
                have k15 := row2 (boxStays RR.out.2.2 hb24)
                have kd := row2 D24
                clear hb24 D24
                go_upto_region 31 with (fail)
                clear k13 k14 k15 kd
                have E2 := Lib.hid (E1.out.below X24.out.1)
                have HC : Hid (Chain [w24] w24) := Lib.hid (Chain.one w24)
                refine wp_region_noPanic ?_
                refine wp_region_held_drew (S := fun w' => Below w24.heap.size w24 w') (by kernel_rfl) (Below.refl _ _).drew (fun hS => ?_)
                refine wpAnyH_take (i := 0) (oi := ⟨some 147, _, _, _, _, _⟩) (v := ?_) rfl (by kernel_rfl) (by kernel_rfl) (by kernel_rfl) (fun _ _ _ h => h) (Or.inl ⟨by rfl, ?_⟩) hS ?_
                rotate_left 1
                · intro w' hB; have hd := (HC.out.to w24 (by simp)).trans (hB.mono (HC.out.to w24 (by simp)).size); have EM := E2.out.below hd; have k6 : _ = _ := EM.f.cell (t := 29) HM.out.2.1; have kk := CK.out _ EM; have kd := row2 (boxStays X24.out.2 hd); clear hd EM; (go_simp <;> with_reducible rfl)
                try simp only [Act.put, List.setIfInBounds_toArray, List.set_cons_zero, List.set_cons_succ]
                refine wpAnyH_take (i := 1) (oi := ⟨some 148, _, _, _, _, _⟩) (v := ?_) rfl (by kernel_rfl) (by kernel_rfl) (by kernel_rfl) (fun _ _ _ h => h) (Or.inl ⟨by rfl, ?_⟩) hS ?_
                rotate_left 1
                · intro w' hB; have hd := (HC.out.to w24 (by simp)).trans (hB.mono (HC.out.to w24 (by simp)).size); have EM := E2.out.below hd; have k6 : _ = _ := EM.f.cell (t := 29) HM.out.2.1; have kk := CK.out _ EM; have kd := row2 (boxStays X24.out.2 hd); clear hd EM; (go_simp <;> with_reducible rfl)
                try simp only [Act.put, List.setIfInBounds_toArray, List.set_cons_zero, List.set_cons_succ]
                refine wpAnyH_take (i := 2) (oi := ⟨some 149, _, _, _, _, _⟩) (v := ?_) rfl (by kernel_rfl) (by kernel_rfl) (by kernel_rfl) (fun _ _ _ h => h) (Or.inl ⟨by rfl, ?_⟩) hS ?_
                rotate_left 1
                · intro w' hB; have hd := (HC.out.to w24 (by simp)).trans (hB.mono (HC.out.to w24 (by simp)).size); have EM := E2.out.below hd; have k6 : _ = _ := EM.f.cell (t := 29) HM.out.2.1; have kk := CK.out _ EM; have kd := row2 (boxStays X24.out.2 hd); clear hd EM; (go_simp <;> with_reducible rfl)
                try simp only [Act.put, List.setIfInBounds_toArray, List.set_cons_zero, List.set_cons_succ]
                refine wpAnyH_take (i := 3) (oi := ⟨some 150, _, _, _, _, _⟩) (v := ?_) rfl (by kernel_rfl) (by kernel_rfl) (by kernel_rfl) (fun _ _ _ h => h) (Or.inl ⟨by rfl, ?_⟩) hS ?_
                rotate_left 1
                · intro w' hB; have hd := (HC.out.to w24 (by simp)).trans (hB.mono (HC.out.to w24 (by simp)).size); have EM := E2.out.below hd; have k6 : _ = _ := EM.f.cell (t := 29) HM.out.2.1; have kk := CK.out _ EM; have kd := row2 (boxStays X24.out.2 hd); clear hd EM; (go_simp <;> with_reducible rfl)
                try simp only [Act.put, List.setIfInBounds_toArray, List.set_cons_zero, List.set_cons_succ]
                refine wpAnyH_take (i := 4) (oi := ⟨some 151, _, _, _, _, _⟩) (v := ?_) rfl (by kernel_rfl) (by kernel_rfl) (by kernel_rfl) (fun _ _ _ h => h) (Or.inl ⟨by rfl, ?_⟩) hS ?_
                rotate_left 1
                · intro w' hB; have hd := (HC.out.to w24 (by simp)).trans (hB.mono (HC.out.to w24 (by simp)).size); have EM := E2.out.below hd; have k6 : _ = _ := EM.f.cell (t := 29) HM.out.2.1; have kk := CK.out _ EM; have kd := row2 (boxStays X24.out.2 hd); clear hd EM; (go_simp <;> with_reducible rfl)
                try simp only [Act.put, List.setIfInBounds_toArray, List.set_cons_zero, List.set_cons_succ]
                refine wpAnyH_take (i := 6) (oi := ⟨some 153, _, _, _, _, _⟩) (v := ?_) rfl (by kernel_rfl) (by kernel_rfl) (by kernel_rfl) (fun _ _ _ h => h) (Or.inl ⟨by rfl, ?_⟩) hS ?_
                rotate_left 1
                · intro w' hB; have hd := (HC.out.to w24 (by simp)).trans (hB.mono (HC.out.to w24 (by simp)).size); have EM := E2.out.below hd; have k6 : _ = _ := EM.f.cell (t := 29) HM.out.2.1; have kk := CK.out _ EM; have kd := row2 (boxStays X24.out.2 hd); clear hd EM; (go_simp <;> with_reducible rfl)
                try simp only [Act.put, List.setIfInBounds_toArray, List.set_cons_zero, List.set_cons_succ]
                refine wpAnyH_ready (rs := [5]) (by kernel_rfl) (by simp) (AllReadyH.cons (o := ⟨some 152, _, _, _, _, _⟩) rfl (fun K hK => ?_) AllReadyH.nil)
                go_simp
                refine (PART.out _ ((E2.out.t m (by simp)).chain HC.out hS (by simp))).mono ?_
                rintro e w31 ⟨rfl, hb⟩
                refine hK.out _ _ (hS.trans (hb.mono hS.size)) (fun _ => ?_)
                clear hK K
                have hB := hS.trans (hb.mono hS.size)
                refine wpAnyH_now hB ?_
                clear hS
                have hS := Below.refl w31.heap.size w31
                replace HC := Lib.hid (HC.out.push hB)
                unfold rlF prtVI
                simp only [Prod.mk.injEq, Bool.false_eq_true, Bool.true_eq_false, and_true, and_false, or_true, or_false, true_or, false_or, and_self, reduceIte]
                clear hB hb
                try simp only [Act.put, List.setIfInBounds_toArray, List.set_cons_zero, List.set_cons_succ]
                refine wpAnyH_take (i := 7) (oi := ⟨some 154, _, _, _, _, _⟩) (v := ?_) rfl (by kernel_rfl) (by kernel_rfl) (by kernel_rfl) (fun _ _ _ h => h) (Or.inl ⟨by rfl, ?_⟩) hS ?_
                rotate_left 1
                · intro w' hB; have hd := (HC.out.to w24 (by simp)).trans (hB.mono (HC.out.to w24 (by simp)).size); have EM := E2.out.below hd; have k6 : _ = _ := EM.f.cell (t := 29) HM.out.2.1; have kk := CK.out _ EM; have kd := row2 (boxStays X24.out.2 hd); clear hd EM; (go_simp <;> with_reducible rfl)
                try simp only [Act.put, List.setIfInBounds_toArray, List.set_cons_zero, List.set_cons_succ]
                refine wpAnyH_done (by kernel_rfl) (NoPanic.normal ?_) _
                go_wp2_with fail
                refine ⟨⟨i + 1, by simp, by omega, Lib.hid (E2.out.below (HC.out.to w24 (by simp)))⟩, ?_⟩
                have q1 : (intOf (Value.int .i64 ((i : Int) + 1))).toNat = i + 1 := by simp [intOf]
                have q2 : (intOf (Value.int .i64 (i : Int))).toNat = i := by simp [intOf]
                rw [q1, q2]; omega
              · have X24 : Hid (Below wc.heap.size wc w24 ∧ w24.heap[d0]? = some (.cells #[(.int .i64 v), (.bool true)] 33 (0, 0))) := Lib.hid ⟨hb24, D24⟩
                have k13 := row2 (boxStays RR.out.1 hb24)
                have k14 := row2 (boxStays RR.out.2.1 hb24)
                have k15 := row2 (boxStays RR.out.2.2 hb24)
                have kd := row2 D24
                clear hb24 D24
                go_upto_region 31 with (fail)
                clear k13 k14 k15 kd
                have E2 := Lib.hid (E1.out.below X24.out.1)
                have HC : Hid (Chain [w24] w24) := Lib.hid (Chain.one w24)
                refine wp_region_noPanic ?_
                refine wp_region_held_drew (S := fun w' => Below w24.heap.size w24 w') (by kernel_rfl) (Below.refl _ _).drew (fun hS => ?_)
                refine wpAnyH_take (i := 0) (oi := ⟨some 147, _, _, _, _, _⟩) (v := ?_) rfl (by kernel_rfl) (by kernel_rfl) (by kernel_rfl) (fun _ _ _ h => h) (Or.inl ⟨by rfl, ?_⟩) hS ?_
                rotate_left 1
                · intro w' hB; have hd := (HC.out.to w24 (by simp)).trans (hB.mono (HC.out.to w24 (by simp)).size); have EM := E2.out.below hd; have k6 : _ = _ := EM.f.cell (t := 29) HM.out.2.1; have kk := CK.out _ EM; have kd := row2 (boxStays X24.out.2 hd); clear hd EM; (go_simp <;> with_reducible rfl)
                try simp only [Act.put, List.setIfInBounds_toArray, List.set_cons_zero, List.set_cons_succ]
                refine wpAnyH_take (i := 1) (oi := ⟨some 148, _, _, _, _, _⟩) (v := ?_) rfl (by kernel_rfl) (by kernel_rfl) (by kernel_rfl) (fun _ _ _ h => h) (Or.inl ⟨by rfl, ?_⟩) hS ?_
                rotate_left 1
                · intro w' hB; have hd := (HC.out.to w24 (by simp)).trans (hB.mono (HC.out.to w24 (by simp)).size); have EM := E2.out.below hd; have k6 : _ = _ := EM.f.cell (t := 29) HM.out.2.1; have kk := CK.out _ EM; have kd := row2 (boxStays X24.out.2 hd); clear hd EM; (go_simp <;> with_reducible rfl)
                try simp only [Act.put, List.setIfInBounds_toArray, List.set_cons_zero, List.set_cons_succ]
                refine wpAnyH_take (i := 2) (oi := ⟨some 149, _, _, _, _, _⟩) (v := ?_) rfl (by kernel_rfl) (by kernel_rfl) (by kernel_rfl) (fun _ _ _ h => h) (Or.inl ⟨by rfl, ?_⟩) hS ?_
                rotate_left 1
                · intro w' hB; have hd := (HC.out.to w24 (by simp)).trans (hB.mono (HC.out.to w24 (by simp)).size); have EM := E2.out.below hd; have k6 : _ = _ := EM.f.cell (t := 29) HM.out.2.1; have kk := CK.out _ EM; have kd := row2 (boxStays X24.out.2 hd); clear hd EM; (go_simp <;> with_reducible rfl)
                try simp only [Act.put, List.setIfInBounds_toArray, List.set_cons_zero, List.set_cons_succ]
                refine wpAnyH_take (i := 3) (oi := ⟨some 150, _, _, _, _, _⟩) (v := ?_) rfl (by kernel_rfl) (by kernel_rfl) (by kernel_rfl) (fun _ _ _ h => h) (Or.inl ⟨by rfl, ?_⟩) hS ?_
                rotate_left 1
                · intro w' hB; have hd := (HC.out.to w24 (by simp)).trans (hB.mono (HC.out.to w24 (by simp)).size); have EM := E2.out.below hd; have k6 : _ = _ := EM.f.cell (t := 29) HM.out.2.1; have kk := CK.out _ EM; have kd := row2 (boxStays X24.out.2 hd); clear hd EM; (go_simp <;> with_reducible rfl)
                try simp only [Act.put, List.setIfInBounds_toArray, List.set_cons_zero, List.set_cons_succ]
                refine wpAnyH_take (i := 4) (oi := ⟨some 151, _, _, _, _, _⟩) (v := ?_) rfl (by kernel_rfl) (by kernel_rfl) (by kernel_rfl) (fun _ _ _ h => h) (Or.inl ⟨by rfl, ?_⟩) hS ?_
                rotate_left 1
                · intro w' hB; have hd := (HC.out.to w24 (by simp)).trans (hB.mono (HC.out.to w24 (by simp)).size); have EM := E2.out.below hd; have k6 : _ = _ := EM.f.cell (t := 29) HM.out.2.1; have kk := CK.out _ EM; have kd := row2 (boxStays X24.out.2 hd); clear hd EM; (go_simp <;> with_reducible rfl)
                try simp only [Act.put, List.setIfInBounds_toArray, List.set_cons_zero, List.set_cons_succ]
                refine wpAnyH_take (i := 6) (oi := ⟨some 153, _, _, _, _, _⟩) (v := ?_) rfl (by kernel_rfl) (by kernel_rfl) (by kernel_rfl) (fun _ _ _ h => h) (Or.inl ⟨by rfl, ?_⟩) hS ?_
                rotate_left 1
                · intro w' hB; have hd := (HC.out.to w24 (by simp)).trans (hB.mono (HC.out.to w24 (by simp)).size); have EM := E2.out.below hd; have k6 : _ = _ := EM.f.cell (t := 29) HM.out.2.1; have kk := CK.out _ EM; have kd := row2 (boxStays X24.out.2 hd); clear hd EM; (go_simp <;> with_reducible rfl)
                try simp only [Act.put, List.setIfInBounds_toArray, List.set_cons_zero, List.set_cons_succ]
                refine wpAnyH_ready (rs := [5]) (by kernel_rfl) (by simp) (AllReadyH.cons (o := ⟨some 152, _, _, _, _, _⟩) rfl (fun K hK => ?_) AllReadyH.nil)
                go_simp
                refine (PART.out _ ((E2.out.t m (by simp)).chain HC.out hS (by simp))).mono ?_
                rintro e w31 ⟨rfl, hb⟩
                refine hK.out _ _ (hS.trans (hb.mono hS.size)) (fun _ => ?_)
                clear hK K
                have hB := hS.trans (hb.mono hS.size)
                refine wpAnyH_now hB ?_
                clear hS
                have hS := Below.refl w31.heap.size w31
                replace HC := Lib.hid (HC.out.push hB)
                unfold rlF prtVI
                simp only [Prod.mk.injEq, Bool.false_eq_true, Bool.true_eq_false, and_true, and_false, or_true, or_false, true_or, false_or, and_self, reduceIte]
                clear hB hb
                try simp only [Act.put, List.setIfInBounds_toArray, List.set_cons_zero, List.set_cons_succ]
                refine wpAnyH_take (i := 7) (oi := ⟨some 154, _, _, _, _, _⟩) (v := ?_) rfl (by kernel_rfl) (by kernel_rfl) (by kernel_rfl) (fun _ _ _ h => h) (Or.inl ⟨by rfl, ?_⟩) hS ?_
                rotate_left 1
                · intro w' hB; have hd := (HC.out.to w24 (by simp)).trans (hB.mono (HC.out.to w24 (by simp)).size); have EM := E2.out.below hd; have k6 : _ = _ := EM.f.cell (t := 29) HM.out.2.1; have kk := CK.out _ EM; have kd := row2 (boxStays X24.out.2 hd); clear hd EM; (go_simp <;> with_reducible rfl)
                try simp only [Act.put, List.setIfInBounds_toArray, List.set_cons_zero, List.set_cons_succ]
                refine wpAnyH_done (by kernel_rfl) (NoPanic.normal ?_) _
                go_wp2_with fail
                refine ⟨⟨i + 1, by simp, by omega, Lib.hid (E2.out.below (HC.out.to w24 (by simp)))⟩, ?_⟩
                have q1 : (intOf (Value.int .i64 ((i : Int) + 1))).toNat = i + 1 := by simp [intOf]
                have q2 : (intOf (Value.int .i64 (i : Int))).toNat = i := by simp [intOf]
                rw [q1, q2]; omega
              · have X24 : Hid (Below wc.heap.size wc w24 ∧ w24.heap[d0]? = some (.cells #[(.int .i64 0), (.bool false)] 33 (0, 0))) := Lib.hid ⟨hb24, D24⟩
                have k13 := row2 (boxStays RR.out.1 hb24)
                have k14 := row2 (boxStays RR.out.2.1 hb24)
                have k15 := row2 (boxStays RR.out.2.2 hb24)
                have kd := row2 D24
                clear hb24 D24
                have fd := frozen_of_row _ d0 0 _ _ X24.out.2
                go_upto_region 31 with (fail)
                obtain ⟨w30, hw30⟩ : ∃ W, w24.setCell ⟨d0, 0, none⟩ (.int .i64 0) = W := ⟨_, rfl⟩
                rw [hw30]
                have X30 : Hid (Below wc.heap.size wc w30 ∧ w30.heap[d0]? = some (.cells #[(.int .i64 0), (.bool false)] 33 (0, 0))) := Lib.hid ⟨by rw [← hw30]; exact X24.out.1.setCell (p := ⟨d0, 0, none⟩) (by simp; omega) _, by rw [← hw30]; exact heap_setCell_same _ d0 0 _ _ (.int .i64 0) X24.out.2⟩
                clear hw30 fd
                clear k13 k14 k15 kd
                have E2 := Lib.hid (E1.out.below X30.out.1)
                have HC : Hid (Chain [w30] w30) := Lib.hid (Chain.one w30)
                refine wp_region_noPanic ?_
                refine wp_region_held_drew (S := fun w' => Below w30.heap.size w30 w') (by kernel_rfl) (Below.refl _ _).drew (fun hS => ?_)
                refine wpAnyH_take (i := 0) (oi := ⟨some 147, _, _, _, _, _⟩) (v := ?_) rfl (by kernel_rfl) (by kernel_rfl) (by kernel_rfl) (fun _ _ _ h => h) (Or.inl ⟨by rfl, ?_⟩) hS ?_
                rotate_left 1
                · intro w' hB; have hd := (HC.out.to w30 (by simp)).trans (hB.mono (HC.out.to w30 (by simp)).size); have EM := E2.out.below hd; have k6 : _ = _ := EM.f.cell (t := 29) HM.out.2.1; have kk := CK.out _ EM; have kd := row2 (boxStays X30.out.2 hd); clear hd EM; (go_simp <;> with_reducible rfl)
                try simp only [Act.put, List.setIfInBounds_toArray, List.set_cons_zero, List.set_cons_succ]
                refine wpAnyH_take (i := 1) (oi := ⟨some 148, _, _, _, _, _⟩) (v := ?_) rfl (by kernel_rfl) (by kernel_rfl) (by kernel_rfl) (fun _ _ _ h => h) (Or.inl ⟨by rfl, ?_⟩) hS ?_
                rotate_left 1
                · intro w' hB; have hd := (HC.out.to w30 (by simp)).trans (hB.mono (HC.out.to w30 (by simp)).size); have EM := E2.out.below hd; have k6 : _ = _ := EM.f.cell (t := 29) HM.out.2.1; have kk := CK.out _ EM; have kd := row2 (boxStays X30.out.2 hd); clear hd EM; (go_simp <;> with_reducible rfl)
                try simp only [Act.put, List.setIfInBounds_toArray, List.set_cons_zero, List.set_cons_succ]
                refine wpAnyH_take (i := 2) (oi := ⟨some 149, _, _, _, _, _⟩) (v := ?_) rfl (by kernel_rfl) (by kernel_rfl) (by kernel_rfl) (fun _ _ _ h => h) (Or.inl ⟨by rfl, ?_⟩) hS ?_
                rotate_left 1
                · intro w' hB; have hd := (HC.out.to w30 (by simp)).trans (hB.mono (HC.out.to w30 (by simp)).size); have EM := E2.out.below hd; have k6 : _ = _ := EM.f.cell (t := 29) HM.out.2.1; have kk := CK.out _ EM; have kd := row2 (boxStays X30.out.2 hd); clear hd EM; (go_simp <;> with_reducible rfl)
                try simp only [Act.put, List.setIfInBounds_toArray, List.set_cons_zero, List.set_cons_succ]
                refine wpAnyH_take (i := 3) (oi := ⟨some 150, _, _, _, _, _⟩) (v := ?_) rfl (by kernel_rfl) (by kernel_rfl) (by kernel_rfl) (fun _ _ _ h => h) (Or.inl ⟨by rfl, ?_⟩) hS ?_
                rotate_left 1
                · intro w' hB; have hd := (HC.out.to w30 (by simp)).trans (hB.mono (HC.out.to w30 (by simp)).size); have EM := E2.out.below hd; have k6 : _ = _ := EM.f.cell (t := 29) HM.out.2.1; have kk := CK.out _ EM; have kd := row2 (boxStays X30.out.2 hd); clear hd EM; (go_simp <;> with_reducible rfl)
                try simp only [Act.put, List.setIfInBounds_toArray, List.set_cons_zero, List.set_cons_succ]
                refine wpAnyH_take (i := 4) (oi := ⟨some 151, _, _, _, _, _⟩) (v := ?_) rfl (by kernel_rfl) (by kernel_rfl) (by kernel_rfl) (fun _ _ _ h => h) (Or.inl ⟨by rfl, ?_⟩) hS ?_
                rotate_left 1
                · intro w' hB; have hd := (HC.out.to w30 (by simp)).trans (hB.mono (HC.out.to w30 (by simp)).size); have EM := E2.out.below hd; have k6 : _ = _ := EM.f.cell (t := 29) HM.out.2.1; have kk := CK.out _ EM; have kd := row2 (boxStays X30.out.2 hd); clear hd EM; (go_simp <;> with_reducible rfl)
                try simp only [Act.put, List.setIfInBounds_toArray, List.set_cons_zero, List.set_cons_succ]
                refine wpAnyH_take (i := 6) (oi := ⟨some 153, _, _, _, _, _⟩) (v := ?_) rfl (by kernel_rfl) (by kernel_rfl) (by kernel_rfl) (fun _ _ _ h => h) (Or.inl ⟨by rfl, ?_⟩) hS ?_
                rotate_left 1
                · intro w' hB; have hd := (HC.out.to w30 (by simp)).trans (hB.mono (HC.out.to w30 (by simp)).size); have EM := E2.out.below hd; have k6 : _ = _ := EM.f.cell (t := 29) HM.out.2.1; have kk := CK.out _ EM; have kd := row2 (boxStays X30.out.2 hd); clear hd EM; (go_simp <;> with_reducible rfl)
                try simp only [Act.put, List.setIfInBounds_toArray, List.set_cons_zero, List.set_cons_succ]
                refine wpAnyH_ready (rs := [5]) (by kernel_rfl) (by simp) (AllReadyH.cons (o := ⟨some 152, _, _, _, _, _⟩) rfl (fun K hK => ?_) AllReadyH.nil)
                go_simp
                refine (PART.out _ ((E2.out.t m (by simp)).chain HC.out hS (by simp))).mono ?_
                rintro e w31 ⟨rfl, hb⟩
                refine hK.out _ _ (hS.trans (hb.mono hS.size)) (fun _ => ?_)
                clear hK K
                have hB := hS.trans (hb.mono hS.size)
                refine wpAnyH_now hB ?_
                clear hS
                have hS := Below.refl w31.heap.size w31
                replace HC := Lib.hid (HC.out.push hB)
                unfold rlF prtVI
                simp only [Prod.mk.injEq, Bool.false_eq_true, Bool.true_eq_false, and_true, and_false, or_true, or_false, true_or, false_or, and_self, reduceIte]
                clear hB hb
                try simp only [Act.put, List.setIfInBounds_toArray, List.set_cons_zero, List.set_cons_succ]
                refine wpAnyH_take (i := 7) (oi := ⟨some 154, _, _, _, _, _⟩) (v := ?_) rfl (by kernel_rfl) (by kernel_rfl) (by kernel_rfl) (fun _ _ _ h => h) (Or.inl ⟨by rfl, ?_⟩) hS ?_
                rotate_left 1
                · intro w' hB; have hd := (HC.out.to w30 (by simp)).trans (hB.mono (HC.out.to w30 (by simp)).size); have EM := E2.out.below hd; have k6 : _ = _ := EM.f.cell (t := 29) HM.out.2.1; have kk := CK.out _ EM; have kd := row2 (boxStays X30.out.2 hd); clear hd EM; (go_simp <;> with_reducible rfl)
                try simp only [Act.put, List.setIfInBounds_toArray, List.set_cons_zero, List.set_cons_succ]
                refine wpAnyH_done (by kernel_rfl) (NoPanic.normal ?_) _
                go_wp2_with fail
                refine ⟨⟨i + 1, by simp, by omega, Lib.hid (E2.out.below (HC.out.to w30 (by simp)))⟩, ?_⟩
                have q1 : (intOf (Value.int .i64 ((i : Int) + 1))).toNat = i + 1 := by simp [intOf]
                have q2 : (intOf (Value.int .i64 (i : Int))).toNat = i := by simp [intOf]
                rw [q1, q2]; omega
              · have X24 : Hid (Below wc.heap.size wc w24 ∧ w24.heap[d0]? = some (.cells #[(.int .i64 0), (.bool false)] 33 (0, 0))) := Lib.hid ⟨hb24, D24⟩
                have k13 := row2 (boxStays RR.out.1 hb24)
                have k14 := row2 (boxStays RR.out.2.1 hb24)
                have k15 := row2 (boxStays RR.out.2.2 hb24)
                have kd := row2 D24
                clear hb24 D24
                have fd := frozen_of_row _ d0 0 _ _ X24.out.2
                go_upto_region 31 with (fail)
                obtain ⟨w30, hw30⟩ : ∃ W, w24.setCell ⟨d0, 0, none⟩ (.int .i64 0) = W := ⟨_, rfl⟩
                rw [hw30]
                have X30 : Hid (Below wc.heap.size wc w30 ∧ w30.heap[d0]? = some (.cells #[(.int .i64 0), (.bool false)] 33 (0, 0))) := Lib.hid ⟨by rw [← hw30]; exact X24.out.1.setCell (p := ⟨d0, 0, none⟩) (by simp; omega) _, by rw [← hw30]; exact heap_setCell_same _ d0 0 _ _ (.int .i64 0) X24.out.2⟩
                clear hw30 fd
                clear k13 k14 k15 kd
                have E2 := Lib.hid (E1.out.below X30.out.1)
                have HC : Hid (Chain [w30] w30) := Lib.hid (Chain.one w30)
                refine wp_region_noPanic ?_
                refine wp_region_held_drew (S := fun w' => Below w30.heap.size w30 w') (by kernel_rfl) (Below.refl _ _).drew (fun hS => ?_)
                refine wpAnyH_take (i := 0) (oi := ⟨some 147, _, _, _, _, _⟩) (v := ?_) rfl (by kernel_rfl) (by kernel_rfl) (by kernel_rfl) (fun _ _ _ h => h) (Or.inl ⟨by rfl, ?_⟩) hS ?_
                rotate_left 1
                · intro w' hB; have hd := (HC.out.to w30 (by simp)).trans (hB.mono (HC.out.to w30 (by simp)).size); have EM := E2.out.below hd; have k6 : _ = _ := EM.f.cell (t := 29) HM.out.2.1; have kk := CK.out _ EM; have kd := row2 (boxStays X30.out.2 hd); clear hd EM; (go_simp <;> with_reducible rfl)
                try simp only [Act.put, List.setIfInBounds_toArray, List.set_cons_zero, List.set_cons_succ]
                refine wpAnyH_take (i := 1) (oi := ⟨some 148, _, _, _, _, _⟩) (v := ?_) rfl (by kernel_rfl) (by kernel_rfl) (by kernel_rfl) (fun _ _ _ h => h) (Or.inl ⟨by rfl, ?_⟩) hS ?_
                rotate_left 1
                · intro w' hB; have hd := (HC.out.to w30 (by simp)).trans (hB.mono (HC.out.to w30 (by simp)).size); have EM := E2.out.below hd; have k6 : _ = _ := EM.f.cell (t := 29) HM.out.2.1; have kk := CK.out _ EM; have kd := row2 (boxStays X30.out.2 hd); clear hd EM; (go_simp <;> with_reducible rfl)
                try simp only [Act.put, List.setIfInBounds_toArray, List.set_cons_zero, List.set_cons_succ]
                refine wpAnyH_take (i := 2) (oi := ⟨some 149, _, _, _, _, _⟩) (v := ?_) rfl (by kernel_rfl) (by kernel_rfl) (by kernel_rfl) (fun _ _ _ h => h) (Or.inl ⟨by rfl, ?_⟩) hS ?_
                rotate_left 1
                · intro w' hB; have hd := (HC.out.to w30 (by simp)).trans (hB.mono (HC.out.to w30 (by simp)).size); have EM := E2.out.below hd; have k6 : _ = _ := EM.f.cell (t := 29) HM.out.2.1; have kk := CK.out _ EM; have kd := row2 (boxStays X30.out.2 hd); clear hd EM; (go_simp <;> with_reducible rfl)
                try simp only [Act.put, List.setIfInBounds_toArray, List.set_cons_zero, List.set_cons_succ]
                refine wpAnyH_take (i := 3) (oi := ⟨some 150, _, _, _, _, _⟩) (v := ?_) rfl (by kernel_rfl) (by kernel_rfl) (by kernel_rfl) (fun _ _ _ h => h) (Or.inl ⟨by rfl, ?_⟩) hS ?_
                rotate_left 1
                · intro w' hB; have hd := (HC.out.to w30 (by simp)).trans (hB.mono (HC.out.to w30 (by simp)).size); have EM := E2.out.below hd; have k6 : _ = _ := EM.f.cell (t := 29) HM.out.2.1; have kk := CK.out _ EM; have kd := row2 (boxStays X30.out.2 hd); clear hd EM; (go_simp <;> with_reducible rfl)
                try simp only [Act.put, List.setIfInBounds_toArray, List.set_cons_zero, List.set_cons_succ]
                refine wpAnyH_take (i := 4) (oi := ⟨some 151, _, _, _, _, _⟩) (v := ?_) rfl (by kernel_rfl) (by kernel_rfl) (by kernel_rfl) (fun _ _ _ h => h) (Or.inl ⟨by rfl, ?_⟩) hS ?_
                rotate_left 1
                · intro w' hB; have hd := (HC.out.to w30 (by simp)).trans (hB.mono (HC.out.to w30 (by simp)).size); have EM := E2.out.below hd; have k6 : _ = _ := EM.f.cell (t := 29) HM.out.2.1; have kk := CK.out _ EM; have kd := row2 (boxStays X30.out.2 hd); clear hd EM; (go_simp <;> with_reducible rfl)
                try simp only [Act.put, List.setIfInBounds_toArray, List.set_cons_zero, List.set_cons_succ]
                refine wpAnyH_take (i := 6) (oi := ⟨some 153, _, _, _, _, _⟩) (v := ?_) rfl (by kernel_rfl) (by kernel_rfl) (by kernel_rfl) (fun _ _ _ h => h) (Or.inl ⟨by rfl, ?_⟩) hS ?_
                rotate_left 1
                · intro w' hB; have hd := (HC.out.to w30 (by simp)).trans (hB.mono (HC.out.to w30 (by simp)).size); have EM := E2.out.below hd; have k6 : _ = _ := EM.f.cell (t := 29) HM.out.2.1; have kk := CK.out _ EM; have kd := row2 (boxStays X30.out.2 hd); clear hd EM; (go_simp <;> with_reducible rfl)
                try simp only [Act.put, List.setIfInBounds_toArray, List.set_cons_zero, List.set_cons_succ]
                refine wpAnyH_ready (rs := [5]) (by kernel_rfl) (by simp) (AllReadyH.cons (o := ⟨some 152, _, _, _, _, _⟩) rfl (fun K hK => ?_) AllReadyH.nil)
                go_simp
                refine (PART.out _ ((E2.out.t m (by simp)).chain HC.out hS (by simp))).mono ?_
                rintro e w31 ⟨rfl, hb⟩
                refine hK.out _ _ (hS.trans (hb.mono hS.size)) (fun _ => ?_)
                clear hK K
                have hB := hS.trans (hb.mono hS.size)
                refine wpAnyH_now hB ?_
                clear hS
                have hS := Below.refl w31.heap.size w31
                replace HC := Lib.hid (HC.out.push hB)
                unfold rlF prtVI
                simp only [Prod.mk.injEq, Bool.false_eq_true, Bool.true_eq_false, and_true, and_false, or_true, or_false, true_or, false_or, and_self, reduceIte]
                clear hB hb
                try simp only [Act.put, List.setIfInBounds_toArray, List.set_cons_zero, List.set_cons_succ]
                refine wpAnyH_take (i := 7) (oi := ⟨some 154, _, _, _, _, _⟩) (v := ?_) rfl (by kernel_rfl) (by kernel_rfl) (by kernel_rfl) (fun _ _ _ h => h) (Or.inl ⟨by rfl, ?_⟩) hS ?_
                rotate_left 1
                · intro w' hB; have hd := (HC.out.to w30 (by simp)).trans (hB.mono (HC.out.to w30 (by simp)).size); have EM := E2.out.below hd; have k6 : _ = _ := EM.f.cell (t := 29) HM.out.2.1; have kk := CK.out _ EM; have kd := row2 (boxStays X30.out.2 hd); clear hd EM; (go_simp <;> with_reducible rfl)
                try simp only [Act.put, List.setIfInBounds_toArray, List.set_cons_zero, List.set_cons_succ]
                refine wpAnyH_done (by kernel_rfl) (NoPanic.normal ?_) _
                go_wp2_with fail
                refine ⟨⟨i + 1, by simp, by omega, Lib.hid (E2.out.below (HC.out.to w30 (by simp)))⟩, ?_⟩
                have q1 : (intOf (Value.int .i64 ((i : Int) + 1))).toNat = i + 1 := by simp [intOf]
                have q2 : (intOf (Value.int .i64 (i : Int))).toNat = i := by simp [intOf]
                rw [q1, q2]; omega
              · have X24 : Hid (Below wc.heap.size wc w24 ∧ w24.heap[d0]? = some (.cells #[(.int .i64 v), (.bool true)] 33 (0, 0))) := Lib.hid ⟨hb24, D24⟩
                have k13 := row2 (boxStays RR.out.1 hb24)
                have k14 := row2 (boxStays RR.out.2.1 hb24)
                have k15 := row2 (boxStays RR.out.2.2 hb24)
                have kd := row2 D24
                obtain ⟨s1, s2, s3, s4, s5⟩ := store_two (v0 := (.int .i64 0)) (v1 := (.bool false)) D24
                go_upto_region 26 with (fail)
                obtain ⟨w26, hw26⟩ : ∃ W, w24.setRow d0 #[(.int .i64 0), (.bool false)] = W := ⟨_, rfl⟩
                rw [hw26]
                have hb26 : Below wc.heap.size wc w26 := by rw [← hw26]; exact below_setRow X24.out.1 (by omega) _
                have D26 : w26.heap[d0]? = some (.cells #[(.int .i64 0), (.bool false)] 33 (0, 0)) := by rw [← hw26]; exact setRow_heap _ _ _ _ _ _ X24.out.2
                clear hw26 s1 s2 s3 s4 s5 k13 k14 k15 kd X24 D24 hb24
                have X26 : Hid (Below wc.heap.size wc w26 ∧ w26.heap[d0]? = some (.cells #[(.int .i64 0), (.bool false)] 33 (0, 0))) := Lib.hid ⟨hb26, D26⟩
                have k13 := row2 (boxStays RR.out.1 hb26)
                have k14 := row2 (boxStays RR.out.2.1 hb26)
                have k15 := row2 (boxStays RR.out.2.2 hb26)
                have kd := row2 D26
                clear hb26 D26
                have fd := frozen_of_row _ d0 0 _ _ X26.out.2
                go_upto_region 31 with (fail)
                obtain ⟨w30, hw30⟩ : ∃ W, w26.setCell ⟨d0, 0, none⟩ (.int .i64 0) = W := ⟨_, rfl⟩
                rw [hw30]
                have X30 : Hid (Below wc.heap.size wc w30 ∧ w30.heap[d0]? = some (.cells #[(.int .i64 0), (.bool false)] 33 (0, 0))) := Lib.hid ⟨by rw [← hw30]; exact X26.out.1.setCell (p := ⟨d0, 0, none⟩) (by simp; omega) _, by rw [← hw30]; exact heap_setCell_same _ d0 0 _ _ (.int .i64 0) X26.out.2⟩
                clear hw30 fd
                clear k13 k14 k15 kd
                have E2 := Lib.hid (E1.out.below X30.out.1)
                have HC : Hid (Chain [w30] w30) := Lib.hid (Chain.one w30)
                refine wp_region_noPanic ?_
                refine wp_region_held_drew (S := fun w' => Below w30.heap.size w30 w') (by kernel_rfl) (Below.refl _ _).drew (fun hS => ?_)
                refine wpAnyH_take (i := 0) (oi := ⟨some 147, _, _, _, _, _⟩) (v := ?_) rfl (by kernel_rfl) (by kernel_rfl) (by kernel_rfl) (fun _ _ _ h => h) (Or.inl ⟨by rfl, ?_⟩) hS ?_
                rotate_left 1
                · intro w' hB; have hd := (HC.out.to w30 (by simp)).trans (hB.mono (HC.out.to w30 (by simp)).size); have EM := E2.out.below hd; have k6 : _ = _ := EM.f.cell (t := 29) HM.out.2.1; have kk := CK.out _ EM; have kd := row2 (boxStays X30.out.2 hd); clear hd EM; (go_simp <;> with_reducible rfl)
                try simp only [Act.put, List.setIfInBounds_toArray, List.set_cons_zero, List.set_cons_succ]
                refine wpAnyH_take (i := 1) (oi := ⟨some 148, _, _, _, _, _⟩) (v := ?_) rfl (by kernel_rfl) (by kernel_rfl) (by kernel_rfl) (fun _ _ _ h => h) (Or.inl ⟨by rfl, ?_⟩) hS ?_
                rotate_left 1
                · intro w' hB; have hd := (HC.out.to w30 (by simp)).trans (hB.mono (HC.out.to w30 (by simp)).size); have EM := E2.out.below hd; have k6 : _ = _ := EM.f.cell (t := 29) HM.out.2.1; have kk := CK.out _ EM; have kd := row2 (boxStays X30.out.2 hd); clear hd EM; (go_simp <;> with_reducible rfl)
                try simp only [Act.put, List.setIfInBounds_toArray, List.set_cons_zero, List.set_cons_succ]
                refine wpAnyH_take (i := 2) (oi := ⟨some 149, _, _, _, _, _⟩) (v := ?_) rfl (by kernel_rfl) (by kernel_rfl) (by kernel_rfl) (fun _ _ _ h => h) (Or.inl ⟨by rfl, ?_⟩) hS ?_
                rotate_left 1
                · intro w' hB; have hd := (HC.out.to w30 (by simp)).trans (hB.mono (HC.out.to w30 (by simp)).size); have EM := E2.out.below hd; have k6 : _ = _ := EM.f.cell (t := 29) HM.out.2.1; have kk := CK.out _ EM; have kd := row2 (boxStays X30.out.2 hd); clear hd EM; (go_simp <;> with_reducible rfl)
                try simp only [Act.put, List.setIfInBounds_toArray, List.set_cons_zero, List.set_cons_succ]
                refine wpAnyH_take (i := 3) (oi := ⟨some 150, _, _, _, _, _⟩) (v := ?_) rfl (by kernel_rfl) (by kernel_rfl) (by kernel_rfl) (fun _ _ _ h => h) (Or.inl ⟨by rfl, ?_⟩) hS ?_
                rotate_left 1
                · intro w' hB; have hd := (HC.out.to w30 (by simp)).trans (hB.mono (HC.out.to w30 (by simp)).size); have EM := E2.out.below hd; have k6 : _ = _ := EM.f.cell (t := 29) HM.out.2.1; have kk := CK.out _ EM; have kd := row2 (boxStays X30.out.2 hd); clear hd EM; (go_simp <;> with_reducible rfl)
                try simp only [Act.put, List.setIfInBounds_toArray, List.set_cons_zero, List.set_cons_succ]
                refine wpAnyH_take (i := 4) (oi := ⟨some 151, _, _, _, _, _⟩) (v := ?_) rfl (by kernel_rfl) (by kernel_rfl) (by kernel_rfl) (fun _ _ _ h => h) (Or.inl ⟨by rfl, ?_⟩) hS ?_
                rotate_left 1
                · intro w' hB; have hd := (HC.out.to w30 (by simp)).trans (hB.mono (HC.out.to w30 (by simp)).size); have EM := E2.out.below hd; have k6 : _ = _ := EM.f.cell (t := 29) HM.out.2.1; have kk := CK.out _ EM; have kd := row2 (boxStays X30.out.2 hd); clear hd EM; (go_simp <;> with_reducible rfl)
                try simp only [Act.put, List.setIfInBounds_toArray, List.set_cons_zero, List.set_cons_succ]
                refine wpAnyH_take (i := 6) (oi := ⟨some 153, _, _, _, _, _⟩) (v := ?_) rfl (by kernel_rfl) (by kernel_rfl) (by kernel_rfl) (fun _ _ _ h => h) (Or.inl ⟨by rfl, ?_⟩) hS ?_
                rotate_left 1
                · intro w' hB; have hd := (HC.out.to w30 (by simp)).trans (hB.mono (HC.out.to w30 (by simp)).size); have EM := E2.out.below hd; have k6 : _ = _ := EM.f.cell (t := 29) HM.out.2.1; have kk := CK.out _ EM; have kd := row2 (boxStays X30.out.2 hd); clear hd EM; (go_simp <;> with_reducible rfl)
                try simp only [Act.put, List.setIfInBounds_toArray, List.set_cons_zero, List.set_cons_succ]
                refine wpAnyH_ready (rs := [5]) (by kernel_rfl) (by simp) (AllReadyH.cons (o := ⟨some 152, _, _, _, _, _⟩) rfl (fun K hK => ?_) AllReadyH.nil)
                go_simp
                refine (PART.out _ ((E2.out.t m (by simp)).chain HC.out hS (by simp))).mono ?_
                rintro e w31 ⟨rfl, hb⟩
                refine hK.out _ _ (hS.trans (hb.mono hS.size)) (fun _ => ?_)
                clear hK K
                have hB := hS.trans (hb.mono hS.size)
                refine wpAnyH_now hB ?_
                clear hS
                have hS := Below.refl w31.heap.size w31
                replace HC := Lib.hid (HC.out.push hB)
                unfold rlF prtVI
                simp only [Prod.mk.injEq, Bool.false_eq_true, Bool.true_eq_false, and_true, and_false, or_true, or_false, true_or, false_or, and_self, reduceIte]
                clear hB hb
                try simp only [Act.put, List.setIfInBounds_toArray, List.set_cons_zero, List.set_cons_succ]
                refine wpAnyH_take (i := 7) (oi := ⟨some 154, _, _, _, _, _⟩) (v := ?_) rfl (by kernel_rfl) (by kernel_rfl) (by kernel_rfl) (fun _ _ _ h => h) (Or.inl ⟨by rfl, ?_⟩) hS ?_
                rotate_left 1
                · intro w' hB; have hd := (HC.out.to w30 (by simp)).trans (hB.mono (HC.out.to w30 (by simp)).size); have EM := E2.out.below hd; have k6 : _ = _ := EM.f.cell (t := 29) HM.out.2.1; have kk := CK.out _ EM; have kd := row2 (boxStays X30.out.2 hd); clear hd EM; (go_simp <;> with_reducible rfl)
                try simp only [Act.put, List.setIfInBounds_toArray, List.set_cons_zero, List.set_cons_succ]
                refine wpAnyH_done (by kernel_rfl) (NoPanic.normal ?_) _
                go_wp2_with fail
                refine ⟨⟨i + 1, by simp, by omega, Lib.hid (E2.out.below (HC.out.to w30 (by simp)))⟩, ?_⟩
                have q1 : (intOf (Value.int .i64 ((i : Int) + 1))).toNat = i + 1 := by simp [intOf]
                have q2 : (intOf (Value.int .i64 (i : Int))).toNat = i := by simp [intOf]
                rw [q1, q2]; omega
              · have X24 : Hid (Below wc.heap.size wc w24 ∧ w24.heap[d0]? = some (.cells #[(.int .i64 v), (.bool true)] 33 (0, 0))) := Lib.hid ⟨hb24, D24⟩
                have k13 := row2 (boxStays RR.out.1 hb24)
                have k14 := row2 (boxStays RR.out.2.1 hb24)
                have k15 := row2 (boxStays RR.out.2.2 hb24)
                have kd := row2 D24
                obtain ⟨s1, s2, s3, s4, s5⟩ := store_two (v0 := (.int .i64 v)) (v1 := (.bool true)) D24
                go_upto_region 26 with (fail)
                obtain ⟨w26, hw26⟩ : ∃ W, w24.setRow d0 #[(.int .i64 v), (.bool true)] = W := ⟨_, rfl⟩
                rw [hw26]
                have hb26 : Below wc.heap.size wc w26 := by rw [← hw26]; exact below_setRow X24.out.1 (by omega) _
                have D26 : w26.heap[d0]? = some (.cells #[(.int .i64 v), (.bool true)] 33 (0, 0)) := by rw [← hw26]; exact setRow_heap _ _ _ _ _ _ X24.out.2
                clear hw26 s1 s2 s3 s4 s5 k13 k14 k15 kd X24 D24 hb24
                have X26 : Hid (Below wc.heap.size wc w26 ∧ w26.heap[d0]? = some (.cells #[(.int .i64 v), (.bool true)] 33 (0, 0))) := Lib.hid ⟨hb26, D26⟩
                have k13 := row2 (boxStays RR.out.1 hb26)
                have k14 := row2 (boxStays RR.out.2.1 hb26)
                have k15 := row2 (boxStays RR.out.2.2 hb26)
                have kd := row2 D26
                clear hb26 D26
                go_upto_region 31 with (fail)
                clear k13 k14 k15 kd
                have E2 := Lib.hid (E1.out.below X26.out.1)
                have HC : Hid (Chain [w26] w26) := Lib.hid (Chain.one w26)
                refine wp_region_noPanic ?_
                refine wp_region_held_drew (S := fun w' => Below w26.heap.size w26 w') (by kernel_rfl) (Below.refl _ _).drew (fun hS => ?_)
                refine wpAnyH_take (i := 0) (oi := ⟨some 147, _, _, _, _, _⟩) (v := ?_) rfl (by kernel_rfl) (by kernel_rfl) (by kernel_rfl) (fun _ _ _ h => h) (Or.inl ⟨by rfl, ?_⟩) hS ?_
                rotate_left 1
                · intro w' hB; have hd := (HC.out.to w26 (by simp)).trans (hB.mono (HC.out.to w26 (by simp)).size); have EM := E2.out.below hd; have k6 : _ = _ := EM.f.cell (t := 29) HM.out.2.1; have kk := CK.out _ EM; have kd := row2 (boxStays X26.out.2 hd); clear hd EM; (go_simp <;> with_reducible rfl)
                try simp only [Act.put, List.setIfInBounds_toArray, List.set_cons_zero, List.set_cons_succ]
                refine wpAnyH_take (i := 1) (oi := ⟨some 148, _, _, _, _, _⟩) (v := ?_) rfl (by kernel_rfl) (by kernel_rfl) (by kernel_rfl) (fun _ _ _ h => h) (Or.inl ⟨by rfl, ?_⟩) hS ?_
                rotate_left 1
                · intro w' hB; have hd := (HC.out.to w26 (by simp)).trans (hB.mono (HC.out.to w26 (by simp)).size); have EM := E2.out.below hd; have k6 : _ = _ := EM.f.cell (t := 29) HM.out.2.1; have kk := CK.out _ EM; have kd := row2 (boxStays X26.out.2 hd); clear hd EM; (go_simp <;> with_reducible rfl)
                try simp only [Act.put, List.setIfInBounds_toArray, List.set_cons_zero, List.set_cons_succ]
                refine wpAnyH_take (i := 2) (oi := ⟨some 149, _, _, _, _, _⟩) (v := ?_) rfl (by kernel_rfl) (by kernel_rfl) (by kernel_rfl) (fun _ _ _ h => h) (Or.inl ⟨by rfl, ?_⟩) hS ?_
                rotate_left 1
                · intro w' hB; have hd := (HC.out.to w26 (by simp)).trans (hB.mono (HC.out.to w26 (by simp)).size); have EM := E2.out.below hd; have k6 : _ = _ := EM.f.cell (t := 29) HM.out.2.1; have kk := CK.out _ EM; have kd := row2 (boxStays X26.out.2 hd); clear hd EM; (go_simp <;> with_reducible rfl)
                try simp only [Act.put, List.setIfInBounds_toArray, List.set_cons_zero, List.set_cons_succ]
                refine wpAnyH_take (i := 3) (oi := ⟨some 150, _, _, _, _, _⟩) (v := ?_) rfl (by kernel_rfl) (by kernel_rfl) (by kernel_rfl) (fun _ _ _ h => h) (Or.inl ⟨by rfl, ?_⟩) hS ?_
                rotate_left 1
                · intro w' hB; have hd := (HC.out.to w26 (by simp)).trans (hB.mono (HC.out.to w26 (by simp)).size); have EM := E2.out.below hd; have k6 : _ = _ := EM.f.cell (t := 29) HM.out.2.1; have kk := CK.out _ EM; have kd := row2 (boxStays X26.out.2 hd); clear hd EM; (go_simp <;> with_reducible rfl)
                try simp only [Act.put, List.setIfInBounds_toArray, List.set_cons_zero, List.set_cons_succ]
                refine wpAnyH_take (i := 4) (oi := ⟨some 151, _, _, _, _, _⟩) (v := ?_) rfl (by kernel_rfl) (by kernel_rfl) (by kernel_rfl) (fun _ _ _ h => h) (Or.inl ⟨by rfl, ?_⟩) hS ?_
                rotate_left 1
                · intro w' hB; have hd := (HC.out.to w26 (by simp)).trans (hB.mono (HC.out.to w26 (by simp)).size); have EM := E2.out.below hd; have k6 : _ = _ := EM.f.cell (t := 29) HM.out.2.1; have kk := CK.out _ EM; have kd := row2 (boxStays X26.out.2 hd); clear hd EM; (go_simp <;> with_reducible rfl)
                try simp only [Act.put, List.setIfInBounds_toArray, List.set_cons_zero, List.set_cons_succ]
                refine wpAnyH_take (i := 6) (oi := ⟨some 153, _, _, _, _, _⟩) (v := ?_) rfl (by kernel_rfl) (by kernel_rfl) (by kernel_rfl) (fun _ _ _ h => h) (Or.inl ⟨by rfl, ?_⟩) hS ?_
                rotate_left 1
                · intro w' hB; have hd := (HC.out.to w26 (by simp)).trans (hB.mono (HC.out.to w26 (by simp)).size); have EM := E2.out.below hd; have k6 : _ = _ := EM.f.cell (t := 29) HM.out.2.1; have kk := CK.out _ EM; have kd := row2 (boxStays X26.out.2 hd); clear hd EM; (go_simp <;> with_reducible rfl)
                try simp only [Act.put, List.setIfInBounds_toArray, List.set_cons_zero, List.set_cons_succ]
                refine wpAnyH_ready (rs := [5]) (by kernel_rfl) (by simp) (AllReadyH.cons (o := ⟨some 152, _, _, _, _, _⟩) rfl (fun K hK => ?_) AllReadyH.nil)
                go_simp
                refine (PART.out _ ((E2.out.t m (by simp)).chain HC.out hS (by simp))).mono ?_
                rintro e w31 ⟨rfl, hb⟩
                refine hK.out _ _ (hS.trans (hb.mono hS.size)) (fun _ => ?_)
                clear hK K
                have hB := hS.trans (hb.mono hS.size)
                refine wpAnyH_now hB ?_
                clear hS
                have hS := Below.refl w31.heap.size w31
                replace HC := Lib.hid (HC.out.push hB)
                unfold rlF prtVI
                simp only [Prod.mk.injEq, Bool.false_eq_true, Bool.true_eq_false, and_true, and_false, or_true, or_false, true_or, false_or, and_self, reduceIte]
                clear hB hb
                try simp only [Act.put, List.setIfInBounds_toArray, List.set_cons_zero, List.set_cons_succ]
                refine wpAnyH_take (i := 7) (oi := ⟨some 154, _, _, _, _, _⟩) (v := ?_) rfl (by kernel_rfl) (by kernel_rfl) (by kernel_rfl) (fun _ _ _ h => h) (Or.inl ⟨by rfl, ?_⟩) hS ?_
                rotate_left 1
                · intro w' hB; have hd := (HC.out.to w26 (by simp)).trans (hB.mono (HC.out.to w26 (by simp)).size); have EM := E2.out.below hd; have k6 : _ = _ := EM.f.cell (t := 29) HM.out.2.1; have kk := CK.out _ EM; have kd := row2 (boxStays X26.out.2 hd); clear hd EM; (go_simp <;> with_reducible rfl)
                try simp only [Act.put, List.setIfInBounds_toArray, List.set_cons_zero, List.set_cons_succ]
                refine wpAnyH_done (by kernel_rfl) (NoPanic.normal ?_) _
                go_wp2_with fail
                refine ⟨⟨i + 1, by simp, by omega, Lib.hid (E2.out.below (HC.out.to w26 (by simp)))⟩, ?_⟩
                have q1 : (intOf (Value.int .i64 ((i : Int) + 1))).toNat = i + 1 := by simp [intOf]
                have q2 : (intOf (Value.int .i64 (i : Int))).toNat = i := by simp [intOf]
                rw [q1, q2]; omega
          · have hnl : ¬ (i : Int) < (N : Int) := by omega
            go_wp2_with fail
            refine (wl_known wr).mono ?_
            rintro e ve ⟨rfl, hb⟩
            go_wp2_with fail
            go_ret
            exact ⟨rfl, E.out.b.trans (hb.mono E.out.b.size)⟩

end Go.Proofs.Ytdodkhhlbjamhaa

