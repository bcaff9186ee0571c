/- Words, contracts and walks that the proof stands on (PmW5S). -/
import Derived.Test.YtnpiepimajippaaRA13
namespace Go.Proofs.Ytnpiepimajippaa
open Go.RowKit Pm
theorem Pm.JoinR.szS {N : Nat} {k : ByteArray} {v : ByteArray} {l r t : Tr ByteArray} (h : JoinR N k v l r t) : sz t = sz l + sz r + 1 := by
  rw [← sz_items, h.items, ← sz_items l, ← sz_items r]; simp only [List.length_append, List.length_cons]; omega
theorem Pm.SplitR.szS {N : Nat} {k : ByteArray} {t a x c : Tr ByteArray} (h : SplitR N k t a x c) : sz a + sz c ≤ sz t := by
  rw [← sz_items t, h.items, ← sz_items a, ← sz_items c]; simp only [List.length_append]; omega
set_option maxRecDepth 100000 in
set_option maxHeartbeats 4000000 in
theorem pm_joinS (k : ByteArray) (v : ByteArray) : ∀ (n : Nat) (l r : Tr ByteArray) (N : Nat) (w : World), sz l + sz r ≤ n → N ≤ w.heap.size → AtS w l → AtS w r → sz l + sz r + 2 ≤ 1099511627776 →
    Calls Try.prog 159 #[.pointer (pa l), .string k, .string v, .pointer (pa r)] w fun e w' =>
      ∃ t', JoinR N k v l r t' ∧ e = .returned (.pointer (pa t')) ∧ AtS w' t' ∧ Below w.heap.size w w' := by
  intro n
  induction n with
  | zero =>
    intro l r N w h0 hN hl hr _
    obtain rfl : l = .nil := ht_zero (by have := ht_le l; omega)
    obtain rfl : r = .nil := ht_zero (by have := ht_le r; omega)
    change Calls _ _ #[.pointer none, .string k, .string v, .pointer none] w _
    have hh : ht (.nil : Tr ByteArray) = 0 := rfl
    go_enter Try.func159, Try.ntmps159
    go_wp2_with (refine (pm_HeightS .nil _ trivial).mono ?_; rintro e w' ⟨rfl, rfl⟩)
    refine (pm_nodeS N .nil .nil k v _ hN trivial trivial (by simp [sz])).mono ?_
    rintro e p1 ⟨b1, hb1, rfl, hA1, hb⟩
    have B1 := Lib.hid hb1
    have A1 := Lib.hid hA1
    have D1 := Lib.hid hb
    clear hb1 hA1 hb
    go_wp2_with fail
    go_ret
    exact ⟨_, .same (by simp [ht]) (by simp [ht]) B1.out, rfl, A1.out, D1.out⟩
  | succ n ih =>
    intro l r N w hn hN hl hr hs
    have HL := Lib.hid hl
    have HR := Lib.hid hr
    have HZ := Lib.hid hs
    have I := Lib.hid ih
    clear hl hr ih
    have hh1 := ht_le l
    have hh2 := ht_le r
    have HC : Hid (Chain [w] w) := Lib.hid (Chain.one w)
    by_cases h1 : ht r + 1 < ht l
    · obtain ⟨bl, ll, lk, lv, lr, rfl⟩ := ht_pos (t := l) (by omega)
      have hi1 : ((ht r : Int) + 1) < (ht (.node bl ll lk lv lr) : Int) := by omega
      change Calls _ _ #[.pointer (some ⟨bl, 0, none⟩), .string k, .string v, .pointer (pa r)] w _
      go_enter Try.func159, Try.ntmps159
      go_wp2_with fail
      refine (pm_HeightS (.node bl ll lk lv lr) _ HL.out).mono ?_
      rintro e w' ⟨rfl, rfl⟩
      go_wp2_with fail
      refine (pm_HeightS r _ HR.out).mono ?_
      rintro e w' ⟨rfl, rfl⟩
      go_wp2_with fail
      refine wp_region_noPanic ?_
      refine wp_region_held_drew (S := fun w' => Below w.heap.size w w') (by kernel_rfl) (Below.refl _ _).drew (fun hS => ?_)
      refine wpAnyH_take (i := 0) (oi := ⟨some 16, _, _, _, _, _⟩) (v := ?_) rfl (by kernel_rfl) (by kernel_rfl) (by kernel_rfl) (fun _ _ _ h => h) (Or.inl ⟨by rfl, ?_⟩) hS ?_
      rotate_left 1
      · intro w' hB; have hd := (HC.out.to w (by simp)).trans (hB.mono (HC.out.to w (by simp)).size); obtain ⟨x0, x1, x2, x3⟩ := (HL.out.below hd rfl).cellsP (pa ll) (pa lr) rfl rfl; clear hd; (go_simp <;> with_reducible rfl)
      try simp only [Act.put, List.setIfInBounds_toArray, List.set_cons_zero, List.set_cons_succ]
      refine wpAnyH_take (i := 1) (oi := ⟨some 17, _, _, _, _, _⟩) (v := ?_) rfl (by kernel_rfl) (by kernel_rfl) (by kernel_rfl) (fun _ _ _ h => h) (Or.inl ⟨by rfl, ?_⟩) hS ?_
      rotate_left 1
      · intro w' hB; have hd := (HC.out.to w (by simp)).trans (hB.mono (HC.out.to w (by simp)).size); obtain ⟨x0, x1, x2, x3⟩ := (HL.out.below hd rfl).cellsP (pa ll) (pa lr) rfl rfl; clear hd; (go_simp <;> with_reducible rfl)
      try simp only [Act.put, List.setIfInBounds_toArray, List.set_cons_zero, List.set_cons_succ]
      refine wpAnyH_take (i := 2) (oi := ⟨some 18, _, _, _, _, _⟩) (v := ?_) rfl (by kernel_rfl) (by kernel_rfl) (by kernel_rfl) (fun _ _ _ h => h) (Or.inl ⟨by rfl, ?_⟩) hS ?_
      rotate_left 1
      · intro w' hB; have hd := (HC.out.to w (by simp)).trans (hB.mono (HC.out.to w (by simp)).size); obtain ⟨x0, x1, x2, x3⟩ := (HL.out.below hd rfl).cellsP (pa ll) (pa lr) rfl rfl; clear hd; (go_simp <;> with_reducible rfl)
      try simp only [Act.put, List.setIfInBounds_toArray, List.set_cons_zero, List.set_cons_succ]
      refine wpAnyH_take (i := 3) (oi := ⟨some 19, _, _, _, _, _⟩) (v := ?_) rfl (by kernel_rfl) (by kernel_rfl) (by kernel_rfl) (fun _ _ _ h => h) (Or.inl ⟨by rfl, ?_⟩) hS ?_
      rotate_left 1
      · intro w' hB; have hd := (HC.out.to w (by simp)).trans (hB.mono (HC.out.to w (by simp)).size); obtain ⟨x0, x1, x2, x3⟩ := (HL.out.below hd rfl).cellsP (pa ll) (pa lr) rfl rfl; clear hd; (go_simp <;> with_reducible rfl)
      try simp only [Act.put, List.setIfInBounds_toArray, List.set_cons_zero, List.set_cons_succ]
      refine wpAnyH_take (i := 4) (oi := ⟨some 20, _, _, _, _, _⟩) (v := ?_) rfl (by kernel_rfl) (by kernel_rfl) (by kernel_rfl) (fun _ _ _ h => h) (Or.inl ⟨by rfl, ?_⟩) hS ?_
      rotate_left 1
      · intro w' hB; have hd := (HC.out.to w (by simp)).trans (hB.mono (HC.out.to w (by simp)).size); obtain ⟨x0, x1, x2, x3⟩ := (HL.out.below hd rfl).cellsP (pa ll) (pa lr) rfl rfl; clear hd; (go_simp <;> with_reducible rfl)
      try simp only [Act.put, List.setIfInBounds_toArray, List.set_cons_zero, List.set_cons_succ]
      refine wpAnyH_take (i := 5) (oi := ⟨some 21, _, _, _, _, _⟩) (v := ?_) rfl (by kernel_rfl) (by kernel_rfl) (by kernel_rfl) (fun _ _ _ h => h) (Or.inl ⟨by rfl, ?_⟩) hS ?_
      rotate_left 1
      · intro w' hB; have hd := (HC.out.to w (by simp)).trans (hB.mono (HC.out.to w (by simp)).size); obtain ⟨x0, x1, x2, x3⟩ := (HL.out.below hd rfl).cellsP (pa ll) (pa lr) rfl rfl; clear hd; (go_simp <;> with_reducible rfl)
      try simp only [Act.put, List.setIfInBounds_toArray, List.set_cons_zero, List.set_cons_succ]
      refine wpAnyH_take (i := 6) (oi := ⟨some 22, _, _, _, _, _⟩) (v := ?_) rfl (by kernel_rfl) (by kernel_rfl) (by kernel_rfl) (fun _ _ _ h => h) (Or.inl ⟨by rfl, ?_⟩) hS ?_
      rotate_left 1
      · intro w' hB; have hd := (HC.out.to w (by simp)).trans (hB.mono (HC.out.to w (by simp)).size); obtain ⟨x0, x1, x2, x3⟩ := (HL.out.below hd rfl).cellsP (pa ll) (pa lr) rfl rfl; clear hd; (go_simp <;> with_reducible rfl)
      try simp only [Act.put, List.setIfInBounds_toArray, List.set_cons_zero, List.set_cons_succ]
      refine wpAnyH_take (i := 7) (oi := ⟨some 23, _, _, _, _, _⟩) (v := ?_) rfl (by kernel_rfl) (by kernel_rfl) (by kernel_rfl) (fun _ _ _ h => h) (Or.inl ⟨by rfl, ?_⟩) hS ?_
      rotate_left 1
      · intro w' hB; have hd := (HC.out.to w (by simp)).trans (hB.mono (HC.out.to w (by simp)).size); obtain ⟨x0, x1, x2, x3⟩ := (HL.out.below hd rfl).cellsP (pa ll) (pa lr) rfl rfl; clear hd; (go_simp <;> with_reducible rfl)
      try simp only [Act.put, List.setIfInBounds_toArray, List.set_cons_zero, List.set_cons_succ]
      refine wpAnyH_take (i := 8) (oi := ⟨some 24, _, _, _, _, _⟩) (v := ?_) rfl (by kernel_rfl) (by kernel_rfl) (by kernel_rfl) (fun _ _ _ h => h) (Or.inl ⟨by rfl, ?_⟩) hS ?_
      rotate_left 1
      · intro w' hB; have hd := (HC.out.to w (by simp)).trans (hB.mono (HC.out.to w (by simp)).size); obtain ⟨x0, x1, x2, x3⟩ := (HL.out.below hd rfl).cellsP (pa ll) (pa lr) rfl rfl; clear hd; (go_simp <;> with_reducible rfl)
      try simp only [Act.put, List.setIfInBounds_toArray, List.set_cons_zero, List.set_cons_succ]
      refine wpAnyH_take (i := 9) (oi := ⟨some 25, _, _, _, _, _⟩) (v := ?_) rfl (by kernel_rfl) (by kernel_rfl) (by kernel_rfl) (fun _ _ _ h => h) (Or.inl ⟨by rfl, ?_⟩) hS ?_
      rotate_left 1
      · intro w' hB; have hd := (HC.out.to w (by simp)).trans (hB.mono (HC.out.to w (by simp)).size); obtain ⟨x0, x1, x2, x3⟩ := (HL.out.below hd rfl).cellsP (pa ll) (pa lr) rfl rfl; clear hd; (go_simp <;> with_reducible rfl)
      try simp only [Act.put, List.setIfInBounds_toArray, List.set_cons_zero, List.set_cons_succ]
      refine wpAnyH_take (i := 10) (oi := ⟨some 26, _, _, _, _, _⟩) (v := ?_) rfl (by kernel_rfl) (by kernel_rfl) (by kernel_rfl) (fun _ _ _ h => h) (Or.inl ⟨by rfl, ?_⟩) hS ?_
      rotate_left 1
      · intro w' hB; have hd := (HC.out.to w (by simp)).trans (hB.mono (HC.out.to w (by simp)).size); obtain ⟨x0, x1, x2, x3⟩ := (HL.out.below hd rfl).cellsP (pa ll) (pa lr) rfl rfl; clear hd; (go_simp <;> with_reducible rfl)
      try simp only [Act.put, List.setIfInBounds_toArray, List.set_cons_zero, List.set_cons_succ]
      refine wpAnyH_take (i := 11) (oi := ⟨some 27, _, _, _, _, _⟩) (v := ?_) rfl (by kernel_rfl) (by kernel_rfl) (by kernel_rfl) (fun _ _ _ h => h) (Or.inl ⟨by rfl, ?_⟩) hS ?_
      rotate_left 1
      · intro w' hB; have hd := (HC.out.to w (by simp)).trans (hB.mono (HC.out.to w (by simp)).size); obtain ⟨x0, x1, x2, x3⟩ := (HL.out.below hd rfl).cellsP (pa ll) (pa lr) rfl rfl; clear hd; (go_simp <;> with_reducible rfl)
      try simp only [Act.put, List.setIfInBounds_toArray, List.set_cons_zero, List.set_cons_succ]
      refine wpAnyH_take (i := 12) (oi := ⟨some 28, _, _, _, _, _⟩) (v := ?_) rfl (by kernel_rfl) (by kernel_rfl) (by kernel_rfl) (fun _ _ _ h => h) (Or.inl ⟨by rfl, ?_⟩) hS ?_
      rotate_left 1
      · intro w' hB; have hd := (HC.out.to w (by simp)).trans (hB.mono (HC.out.to w (by simp)).size); obtain ⟨x0, x1, x2, x3⟩ := (HL.out.below hd rfl).cellsP (pa ll) (pa lr) rfl rfl; clear hd; (go_simp <;> with_reducible rfl)
      try simp only [Act.put, List.setIfInBounds_toArray, List.set_cons_zero, List.set_cons_succ]
      refine wpAnyH_take (i := 13) (oi := ⟨some 29, _, _, _, _, _⟩) (v := ?_) rfl (by kernel_rfl) (by kernel_rfl) (by kernel_rfl) (fun _ _ _ h => h) (Or.inl ⟨by rfl, ?_⟩) hS ?_
      rotate_left 1
      · intro w' hB; have hd := (HC.out.to w (by simp)).trans (hB.mono (HC.out.to w (by simp)).size); obtain ⟨x0, x1, x2, x3⟩ := (HL.out.below hd rfl).cellsP (pa ll) (pa lr) rfl rfl; clear hd; (go_simp <;> with_reducible rfl)
      try simp only [Act.put, List.setIfInBounds_toArray, List.set_cons_zero, List.set_cons_succ]
      refine wpAnyH_take (i := 14) (oi := ⟨some 30, _, _, _, _, _⟩) (v := ?_) rfl (by kernel_rfl) (by kernel_rfl) (by kernel_rfl) (fun _ _ _ h => h) (Or.inl ⟨by rfl, ?_⟩) hS ?_
      rotate_left 1
      · intro w' hB; have hd := (HC.out.to w (by simp)).trans (hB.mono (HC.out.to w (by simp)).size); obtain ⟨x0, x1, x2, x3⟩ := (HL.out.below hd rfl).cellsP (pa ll) (pa lr) rfl rfl; clear hd; (go_simp <;> with_reducible rfl)
      try simp only [Act.put, List.setIfInBounds_toArray, List.set_cons_zero, List.set_cons_succ]
      refine wpAnyH_take (i := 15) (oi := ⟨some 31, _, _, _, _, _⟩) (v := ?_) rfl (by kernel_rfl) (by kernel_rfl) (by kernel_rfl) (fun _ _ _ h => h) (Or.inl ⟨by rfl, ?_⟩) hS ?_
      rotate_left 1
      · intro w' hB; have hd := (HC.out.to w (by simp)).trans (hB.mono (HC.out.to w (by simp)).size); obtain ⟨x0, x1, x2, x3⟩ := (HL.out.below hd rfl).cellsP (pa ll) (pa lr) rfl rfl; clear hd; (go_simp <;> with_reducible rfl)
      try simp only [Act.put, List.setIfInBounds_toArray, List.set_cons_zero, List.set_cons_succ]
      refine wpAnyH_take (i := 16) (oi := ⟨some 32, _, _, _, _, _⟩) (v := ?_) rfl (by kernel_rfl) (by kernel_rfl) (by kernel_rfl) (fun _ _ _ h => h) (Or.inl ⟨by rfl, ?_⟩) hS ?_
      rotate_left 1
      · intro w' hB; have hd := (HC.out.to w (by simp)).trans (hB.mono (HC.out.to w (by simp)).size); obtain ⟨x0, x1, x2, x3⟩ := (HL.out.below hd rfl).cellsP (pa ll) (pa lr) rfl rfl; clear hd; (go_simp <;> with_reducible rfl)
      try simp only [Act.put, List.setIfInBounds_toArray, List.set_cons_zero, List.set_cons_succ]
      refine wpAnyH_take (i := 17) (oi := ⟨some 33, _, _, _, _, _⟩) (v := ?_) rfl (by kernel_rfl) (by kernel_rfl) (by kernel_rfl) (fun _ _ _ h => h) (Or.inl ⟨by rfl, ?_⟩) hS ?_
      rotate_left 1
      · intro w' hB; have hd := (HC.out.to w (by simp)).trans (hB.mono (HC.out.to w (by simp)).size); obtain ⟨x0, x1, x2, x3⟩ := (HL.out.below hd rfl).cellsP (pa ll) (pa lr) rfl rfl; clear hd; (go_simp <;> with_reducible rfl)
      try simp only [Act.put, List.setIfInBounds_toArray, List.set_cons_zero, List.set_cons_succ]
      refine wpAnyH_take (i := 18) (oi := ⟨some 34, _, _, _, _, _⟩) (v := ?_) rfl (by kernel_rfl) (by kernel_rfl) (by kernel_rfl) (fun _ _ _ h => h) (Or.inl ⟨by rfl, ?_⟩) hS ?_
      rotate_left 1
      · intro w' hB; have hd := (HC.out.to w (by simp)).trans (hB.mono (HC.out.to w (by simp)).size); obtain ⟨x0, x1, x2, x3⟩ := (HL.out.below hd rfl).cellsP (pa ll) (pa lr) rfl rfl; clear hd; (go_simp <;> with_reducible rfl)
      try simp only [Act.put, List.setIfInBounds_toArray, List.set_cons_zero, List.set_cons_succ]
      refine wpAnyH_ready (rs := [19]) (by kernel_rfl) (by simp) (AllReadyH.cons (o := ⟨some 35, _, _, _, _, _⟩) rfl (fun K hK => ?_) AllReadyH.nil)
      go_simp
      refine (I.out lr r N _ (by simp only [sz] at hn; omega) (Nat.le_trans hN (HC.out.le hS (by simp))) (HL.out.2.2.chain HC.out hS (by simp)) (HR.out.chain HC.out hS (by simp)) (by have := HZ.out; simp only [sz] at this ⊢; omega)).mono ?_
      rintro e p1 ⟨t1, hP, rfl, hA, hb⟩
      refine hK.out _ _ (hS.trans (hb.mono hS.size)) (fun _ => ?_)
      clear hK K
      have hB := hS.trans (hb.mono hS.size)
      refine wpAnyH_now hB ?_
      clear hS
      have hS := Below.refl p1.heap.size p1
      replace HC := Lib.hid (HC.out.push hB)
      have P1 := Lib.hid hP
      have A1 := Lib.hid hA
      clear hP hA
      clear hB hb
      try simp only [Act.put, List.setIfInBounds_toArray, List.set_cons_zero, List.set_cons_succ]
      refine wpAnyH_ready (rs := [20]) (by kernel_rfl) (by simp) (AllReadyH.cons (o := ⟨some 36, _, _, _, _, _⟩) rfl (fun K hK => ?_) AllReadyH.nil)
      go_simp
      refine (pm_balancedS N ll t1 lk lv _ (Nat.le_trans hN (HC.out.le hS (by simp))) (HL.out.2.1.chain HC.out hS (by simp)) (A1.out.chain HC.out hS (by simp)) (by have := HZ.out; have := P1.out.szS; simp only [sz] at *; omega)).mono ?_
      rintro e p2 ⟨t', hP, rfl, hA, hb⟩
      refine hK.out _ _ (hS.trans (hb.mono hS.size)) (fun _ => ?_)
      clear hK K
      have hB := hS.trans (hb.mono hS.size)
      refine wpAnyH_now hB ?_
      clear hS
      have hS := Below.refl p2.heap.size p2
      replace HC := Lib.hid (HC.out.push hB)
      have P2 := Lib.hid hP
      have A2 := Lib.hid hA
      clear hP hA
      clear hB hb
      try simp only [Act.put, List.setIfInBounds_toArray, List.set_cons_zero, List.set_cons_succ]
      refine wpAnyH_take (i := 21) (oi := ⟨some 8, _, _, _, _, _⟩) (v := ?_) rfl (by kernel_rfl) (by kernel_rfl) (by kernel_rfl) (fun _ _ _ h => h) (Or.inl ⟨by rfl, ?_⟩) hS ?_
      rotate_left 1
      · intro w' hB; have hd := (HC.out.to w (by simp)).trans (hB.mono (HC.out.to w (by simp)).size); obtain ⟨x0, x1, x2, x3⟩ := (HL.out.below hd rfl).cellsP (pa ll) (pa lr) rfl rfl; clear hd; (go_simp <;> with_reducible rfl)
      try simp only [Act.put, List.setIfInBounds_toArray, List.set_cons_zero, List.set_cons_succ]
      refine wpAnyH_done (by kernel_rfl) (NoPanic.normal ?_) _
      clear hS
      go_wp2_with fail
      go_ret
      exact ⟨_, .left h1 P1.out P2.out, rfl, A2.out, HC.out.to w (by simp)⟩
    · have hi1 : ¬ ((ht r : Int) + 1) < (ht l : Int) := by omega
      by_cases h2 : ht l + 1 < ht r
      · obtain ⟨br, rl, rk, rv, rr, rfl⟩ := ht_pos (t := r) (by omega)
        have hi2 : ((ht l : Int) + 1) < (ht (.node br rl rk rv rr) : Int) := by omega
        change Calls _ _ #[.pointer (pa l), .string k, .string v, .pointer (some ⟨br, 0, none⟩)] w _
        go_enter Try.func159, Try.ntmps159
        go_wp2_with fail
        refine (pm_HeightS l _ HL.out).mono ?_
        rintro e w' ⟨rfl, rfl⟩
        go_wp2_with fail
        refine (pm_HeightS (.node br rl rk rv rr) _ HR.out).mono ?_
        rintro e w' ⟨rfl, rfl⟩
        go_wp2_with fail
        refine (pm_HeightS (.node br rl rk rv rr) _ HR.out).mono ?_
        rintro e w' ⟨rfl, rfl⟩
        go_wp2_with fail
        refine (pm_HeightS l _ HL.out).mono ?_
        rintro e w' ⟨rfl, rfl⟩
        go_wp2_with fail
        refine wp_region_noPanic ?_
        refine wp_region_held_drew (S := fun w' => Below w.heap.size w w') (by kernel_rfl) (Below.refl _ _).drew (fun hS => ?_)
        refine wpAnyH_take (i := 0) (oi := ⟨some 44, _, _, _, _, _⟩) (v := ?_) rfl (by kernel_rfl) (by kernel_rfl) (by kernel_rfl) (fun _ _ _ h => h) (Or.inl ⟨by rfl, ?_⟩) hS ?_
        rotate_left 1
        · intro w' hB; have hd := (HC.out.to w (by simp)).trans (hB.mono (HC.out.to w (by simp)).size); obtain ⟨x0, x1, x2, x3⟩ := (HR.out.below hd rfl).cellsP (pa rl) (pa rr) rfl rfl; clear hd; (go_simp <;> with_reducible rfl)
        try simp only [Act.put, List.setIfInBounds_toArray, List.set_cons_zero, List.set_cons_succ]
        refine wpAnyH_take (i := 1) (oi := ⟨some 45, _, _, _, _, _⟩) (v := ?_) rfl (by kernel_rfl) (by kernel_rfl) (by kernel_rfl) (fun _ _ _ h => h) (Or.inl ⟨by rfl, ?_⟩) hS ?_
        rotate_left 1
        · intro w' hB; have hd := (HC.out.to w (by simp)).trans (hB.mono (HC.out.to w (by simp)).size); obtain ⟨x0, x1, x2, x3⟩ := (HR.out.below hd rfl).cellsP (pa rl) (pa rr) rfl rfl; clear hd; (go_simp <;> with_reducible rfl)
        try simp only [Act.put, List.setIfInBounds_toArray, List.set_cons_zero, List.set_cons_succ]
        refine wpAnyH_take (i := 2) (oi := ⟨some 46, _, _, _, _, _⟩) (v := ?_) rfl (by kernel_rfl) (by kernel_rfl) (by kernel_rfl) (fun _ _ _ h => h) (Or.inl ⟨by rfl, ?_⟩) hS ?_
        rotate_left 1
        · intro w' hB; have hd := (HC.out.to w (by simp)).trans (hB.mono (HC.out.to w (by simp)).size); obtain ⟨x0, x1, x2, x3⟩ := (HR.out.below hd rfl).cellsP (pa rl) (pa rr) rfl rfl; clear hd; (go_simp <;> with_reducible rfl)
        try simp only [Act.put, List.setIfInBounds_toArray, List.set_cons_zero, List.set_cons_succ]
        refine wpAnyH_take (i := 3) (oi := ⟨some 47, _, _, _, _, _⟩) (v := ?_) rfl (by kernel_rfl) (by kernel_rfl) (by kernel_rfl) (fun _ _ _ h => h) (Or.inl ⟨by rfl, ?_⟩) hS ?_
        rotate_left 1
        · intro w' hB; have hd := (HC.out.to w (by simp)).trans (hB.mono (HC.out.to w (by simp)).size); obtain ⟨x0, x1, x2, x3⟩ := (HR.out.below hd rfl).cellsP (pa rl) (pa rr) rfl rfl; clear hd; (go_simp <;> with_reducible rfl)
        try simp only [Act.put, List.setIfInBounds_toArray, List.set_cons_zero, List.set_cons_succ]
        refine wpAnyH_take (i := 4) (oi := ⟨some 48, _, _, _, _, _⟩) (v := ?_) rfl (by kernel_rfl) (by kernel_rfl) (by kernel_rfl) (fun _ _ _ h => h) (Or.inl ⟨by rfl, ?_⟩) hS ?_
        rotate_left 1
        · intro w' hB; have hd := (HC.out.to w (by simp)).trans (hB.mono (HC.out.to w (by simp)).size); obtain ⟨x0, x1, x2, x3⟩ := (HR.out.below hd rfl).cellsP (pa rl) (pa rr) rfl rfl; clear hd; (go_simp <;> with_reducible rfl)
        try simp only [Act.put, List.setIfInBounds_toArray, List.set_cons_zero, List.set_cons_succ]
        refine wpAnyH_take (i := 5) (oi := ⟨some 49, _, _, _, _, _⟩) (v := ?_) rfl (by kernel_rfl) (by kernel_rfl) (by kernel_rfl) (fun _ _ _ h => h) (Or.inl ⟨by rfl, ?_⟩) hS ?_
        rotate_left 1
        · intro w' hB; have hd := (HC.out.to w (by simp)).trans (hB.mono (HC.out.to w (by simp)).size); obtain ⟨x0, x1, x2, x3⟩ := (HR.out.below hd rfl).cellsP (pa rl) (pa rr) rfl rfl; clear hd; (go_simp <;> with_reducible rfl)
        try simp only [Act.put, List.setIfInBounds_toArray, List.set_cons_zero, List.set_cons_succ]
        refine wpAnyH_take (i := 6) (oi := ⟨some 50, _, _, _, _, _⟩) (v := ?_) rfl (by kernel_rfl) (by kernel_rfl) (by kernel_rfl) (fun _ _ _ h => h) (Or.inl ⟨by rfl, ?_⟩) hS ?_
        rotate_left 1
        · intro w' hB; have hd := (HC.out.to w (by simp)).trans (hB.mono (HC.out.to w (by simp)).size); obtain ⟨x0, x1, x2, x3⟩ := (HR.out.below hd rfl).cellsP (pa rl) (pa rr) rfl rfl; clear hd; (go_simp <;> with_reducible rfl)
        try simp only [Act.put, List.setIfInBounds_toArray, List.set_cons_zero, List.set_cons_succ]
        refine wpAnyH_take (i := 8) (oi := ⟨some 52, _, _, _, _, _⟩) (v := ?_) rfl (by kernel_rfl) (by kernel_rfl) (by kernel_rfl) (fun _ _ _ h => h) (Or.inl ⟨by rfl, ?_⟩) hS ?_
        rotate_left 1
        · intro w' hB; have hd := (HC.out.to w (by simp)).trans (hB.mono (HC.out.to w (by simp)).size); obtain ⟨x0, x1, x2, x3⟩ := (HR.out.below hd rfl).cellsP (pa rl) (pa rr) rfl rfl; clear hd; (go_simp <;> with_reducible rfl)
        try simp only [Act.put, List.setIfInBounds_toArray, List.set_cons_zero, List.set_cons_succ]
        refine wpAnyH_take (i := 9) (oi := ⟨some 53, _, _, _, _, _⟩) (v := ?_) rfl (by kernel_rfl) (by kernel_rfl) (by kernel_rfl) (fun _ _ _ h => h) (Or.inl ⟨by rfl, ?_⟩) hS ?_
        rotate_left 1
        · intro w' hB; have hd := (HC.out.to w (by simp)).trans (hB.mono (HC.out.to w (by simp)).size); obtain ⟨x0, x1, x2, x3⟩ := (HR.out.below hd rfl).cellsP (pa rl) (pa rr) rfl rfl; clear hd; (go_simp <;> with_reducible rfl)
        try simp only [Act.put, List.setIfInBounds_toArray, List.set_cons_zero, List.set_cons_succ]
        refine wpAnyH_take (i := 10) (oi := ⟨some 54, _, _, _, _, _⟩) (v := ?_) rfl (by kernel_rfl) (by kernel_rfl) (by kernel_rfl) (fun _ _ _ h => h) (Or.inl ⟨by rfl, ?_⟩) hS ?_
        rotate_left 1
        · intro w' hB; have hd := (HC.out.to w (by simp)).trans (hB.mono (HC.out.to w (by simp)).size); obtain ⟨x0, x1, x2, x3⟩ := (HR.out.below hd rfl).cellsP (pa rl) (pa rr) rfl rfl; clear hd; (go_simp <;> with_reducible rfl)
        try simp only [Act.put, List.setIfInBounds_toArray, List.set_cons_zero, List.set_cons_succ]
        refine wpAnyH_take (i := 11) (oi := ⟨some 55, _, _, _, _, _⟩) (v := ?_) rfl (by kernel_rfl) (by kernel_rfl) (by kernel_rfl) (fun _ _ _ h => h) (Or.inl ⟨by rfl, ?_⟩) hS ?_
        rotate_left 1
        · intro w' hB; have hd := (HC.out.to w (by simp)).trans (hB.mono (HC.out.to w (by simp)).size); obtain ⟨x0, x1, x2, x3⟩ := (HR.out.below hd rfl).cellsP (pa rl) (pa rr) rfl rfl; clear hd; (go_simp <;> with_reducible rfl)
        try simp only [Act.put, List.setIfInBounds_toArray, List.set_cons_zero, List.set_cons_succ]
        refine wpAnyH_take (i := 12) (oi := ⟨some 56, _, _, _, _, _⟩) (v := ?_) rfl (by kernel_rfl) (by kernel_rfl) (by kernel_rfl) (fun _ _ _ h => h) (Or.inl ⟨by rfl, ?_⟩) hS ?_
        rotate_left 1
        · intro w' hB; have hd := (HC.out.to w (by simp)).trans (hB.mono (HC.out.to w (by simp)).size); obtain ⟨x0, x1, x2, x3⟩ := (HR.out.below hd rfl).cellsP (pa rl) (pa rr) rfl rfl; clear hd; (go_simp <;> with_reducible rfl)
        try simp only [Act.put, List.setIfInBounds_toArray, List.set_cons_zero, List.set_cons_succ]
        refine wpAnyH_take (i := 13) (oi := ⟨some 57, _, _, _, _, _⟩) (v := ?_) rfl (by kernel_rfl) (by kernel_rfl) (by kernel_rfl) (fun _ _ _ h => h) (Or.inl ⟨by rfl, ?_⟩) hS ?_
        rotate_left 1
        · intro w' hB; have hd := (HC.out.to w (by simp)).trans (hB.mono (HC.out.to w (by simp)).size); obtain ⟨x0, x1, x2, x3⟩ := (HR.out.below hd rfl).cellsP (pa rl) (pa rr) rfl rfl; clear hd; (go_simp <;> with_reducible rfl)
        try simp only [Act.put, List.setIfInBounds_toArray, List.set_cons_zero, List.set_cons_succ]
        refine wpAnyH_take (i := 14) (oi := ⟨some 58, _, _, _, _, _⟩) (v := ?_) rfl (by kernel_rfl) (by kernel_rfl) (by kernel_rfl) (fun _ _ _ h => h) (Or.inl ⟨by rfl, ?_⟩) hS ?_
        rotate_left 1
        · intro w' hB; have hd := (HC.out.to w (by simp)).trans (hB.mono (HC.out.to w (by simp)).size); obtain ⟨x0, x1, x2, x3⟩ := (HR.out.below hd rfl).cellsP (pa rl) (pa rr) rfl rfl; clear hd; (go_simp <;> with_reducible rfl)
        try simp only [Act.put, List.setIfInBounds_toArray, List.set_cons_zero, List.set_cons_succ]
        refine wpAnyH_take (i := 15) (oi := ⟨some 59, _, _, _, _, _⟩) (v := ?_) rfl (by kernel_rfl) (by kernel_rfl) (by kernel_rfl) (fun _ _ _ h => h) (Or.inl ⟨by rfl, ?_⟩) hS ?_
        rotate_left 1
        · intro w' hB; have hd := (HC.out.to w (by simp)).trans (hB.mono (HC.out.to w (by simp)).size); obtain ⟨x0, x1, x2, x3⟩ := (HR.out.below hd rfl).cellsP (pa rl) (pa rr) rfl rfl; clear hd; (go_simp <;> with_reducible rfl)
        try simp only [Act.put, List.setIfInBounds_toArray, List.set_cons_zero, List.set_cons_succ]
        refine wpAnyH_take (i := 16) (oi := ⟨some 60, _, _, _, _, _⟩) (v := ?_) rfl (by kernel_rfl) (by kernel_rfl) (by kernel_rfl) (fun _ _ _ h => h) (Or.inl ⟨by rfl, ?_⟩) hS ?_
        rotate_left 1
        · intro w' hB; have hd := (HC.out.to w (by simp)).trans (hB.mono (HC.out.to w (by simp)).size); obtain ⟨x0, x1, x2, x3⟩ := (HR.out.below hd rfl).cellsP (pa rl) (pa rr) rfl rfl; clear hd; (go_simp <;> with_reducible rfl)
        try simp only [Act.put, List.setIfInBounds_toArray, List.set_cons_zero, List.set_cons_succ]
        refine wpAnyH_take (i := 17) (oi := ⟨some 61, _, _, _, _, _⟩) (v := ?_) rfl (by kernel_rfl) (by kernel_rfl) (by kernel_rfl) (fun _ _ _ h => h) (Or.inl ⟨by rfl, ?_⟩) hS ?_
        rotate_left 1
        · intro w' hB; have hd := (HC.out.to w (by simp)).trans (hB.mono (HC.out.to w (by simp)).size); obtain ⟨x0, x1, x2, x3⟩ := (HR.out.below hd rfl).cellsP (pa rl) (pa rr) rfl rfl; clear hd; (go_simp <;> with_reducible rfl)
        try simp only [Act.put, List.setIfInBounds_toArray, List.set_cons_zero, List.set_cons_succ]
        refine wpAnyH_take (i := 18) (oi := ⟨some 62, _, _, _, _, _⟩) (v := ?_) rfl (by kernel_rfl) (by kernel_rfl) (by kernel_rfl) (fun _ _ _ h => h) (Or.inl ⟨by rfl, ?_⟩) hS ?_
        rotate_left 1
        · intro w' hB; have hd := (HC.out.to w (by simp)).trans (hB.mono (HC.out.to w (by simp)).size); obtain ⟨x0, x1, x2, x3⟩ := (HR.out.below hd rfl).cellsP (pa rl) (pa rr) rfl rfl; clear hd; (go_simp <;> with_reducible rfl)
        try simp only [Act.put, List.setIfInBounds_toArray, List.set_cons_zero, List.set_cons_succ]
        refine wpAnyH_take (i := 19) (oi := ⟨some 63, _, _, _, _, _⟩) (v := ?_) rfl (by kernel_rfl) (by kernel_rfl) (by kernel_rfl) (fun _ _ _ h => h) (Or.inl ⟨by rfl, ?_⟩) hS ?_
        rotate_left 1
        · intro w' hB; have hd := (HC.out.to w (by simp)).trans (hB.mono (HC.out.to w (by simp)).size); obtain ⟨x0, x1, x2, x3⟩ := (HR.out.below hd rfl).cellsP (pa rl) (pa rr) rfl rfl; clear hd; (go_simp <;> with_reducible rfl)
        try simp only [Act.put, List.setIfInBounds_toArray, List.set_cons_zero, List.set_cons_succ]
        refine wpAnyH_ready (rs := [7]) (by kernel_rfl) (by simp) (AllReadyH.cons (o := ⟨some 51, _, _, _, _, _⟩) rfl (fun K hK => ?_) AllReadyH.nil)
        go_simp
        refine (I.out l rl N _ (by simp only [sz] at hn; omega) (Nat.le_trans hN (HC.out.le hS (by simp))) (HL.out.chain HC.out hS (by simp)) (HR.out.2.1.chain HC.out hS (by simp)) (by have := HZ.out; simp only [sz] at this ⊢; omega)).mono ?_
        rintro e p1 ⟨t1, hP, rfl, hA, hb⟩
        refine hK.out _ _ (hS.trans (hb.mono hS.size)) (fun _ => ?_)
        clear hK K
        have hB := hS.trans (hb.mono hS.size)
        refine wpAnyH_now hB ?_
        clear hS
        have hS := Below.refl p1.heap.size p1
        replace HC := Lib.hid (HC.out.push hB)
        have P1 := Lib.hid hP
        have A1 := Lib.hid hA
        clear hP hA
        clear hB hb
        try simp only [Act.put, List.setIfInBounds_toArray, List.set_cons_zero, List.set_cons_succ]
        refine wpAnyH_ready (rs := [20]) (by kernel_rfl) (by simp) (AllReadyH.cons (o := ⟨some 64, _, _, _, _, _⟩) rfl (fun K hK => ?_) AllReadyH.nil)
        go_simp
        refine (pm_balancedS N t1 rr rk rv _ (Nat.le_trans hN (HC.out.le hS (by simp))) (A1.out.chain HC.out hS (by simp)) (HR.out.2.2.chain HC.out hS (by simp)) (by have := HZ.out; have := P1.out.szS; simp only [sz] at *; omega)).mono ?_
        rintro e p2 ⟨t', hP, rfl, hA, hb⟩
        refine hK.out _ _ (hS.trans (hb.mono hS.size)) (fun _ => ?_)
        clear hK K
        have hB := hS.trans (hb.mono hS.size)
        refine wpAnyH_now hB ?_
        clear hS
        have hS := Below.refl p2.heap.size p2
        replace HC := Lib.hid (HC.out.push hB)
        have P2 := Lib.hid hP
        have A2 := Lib.hid hA
        clear hP hA
        clear hB hb
        try simp only [Act.put, List.setIfInBounds_toArray, List.set_cons_zero, List.set_cons_succ]
        refine wpAnyH_take (i := 21) (oi := ⟨some 8, _, _, _, _, _⟩) (v := ?_) rfl (by kernel_rfl) (by kernel_rfl) (by kernel_rfl) (fun _ _ _ h => h) (Or.inl ⟨by rfl, ?_⟩) hS ?_
        rotate_left 1
        · intro w' hB; have hd := (HC.out.to w (by simp)).trans (hB.mono (HC.out.to w (by simp)).size); obtain ⟨x0, x1, x2, x3⟩ := (HR.out.below hd rfl).cellsP (pa rl) (pa rr) rfl rfl; clear hd; (go_simp <;> with_reducible rfl)
        try simp only [Act.put, List.setIfInBounds_toArray, List.set_cons_zero, List.set_cons_succ]
        refine wpAnyH_done (by kernel_rfl) (NoPanic.normal ?_) _
        clear hS
        go_wp2_with fail
        go_ret
        exact ⟨_, .right h2 P1.out P2.out, rfl, A2.out, HC.out.to w (by simp)⟩
      · have hi2 : ¬ ((ht l : Int) + 1) < (ht r : Int) := by omega
        go_enter Try.func159, Try.ntmps159
        go_wp2_with fail
        refine (pm_HeightS l _ HL.out).mono ?_
        rintro e w' ⟨rfl, rfl⟩
        go_wp2_with fail
        refine (pm_HeightS r _ HR.out).mono ?_
        rintro e w' ⟨rfl, rfl⟩
        go_wp2_with fail
        refine (pm_HeightS r _ HR.out).mono ?_
        rintro e w' ⟨rfl, rfl⟩
        go_wp2_with fail
        refine (pm_HeightS l _ HL.out).mono ?_
        rintro e w' ⟨rfl, rfl⟩
        go_wp2_with fail
        refine (pm_nodeS N l r k v _ hN HL.out HR.out (by have := HZ.out; omega)).mono ?_
        rintro e p1 ⟨b1, hb1, rfl, hA1, hb⟩
        have B1 := Lib.hid hb1
        have A1 := Lib.hid hA1
        have D1 := Lib.hid hb
        clear hb1 hA1 hb
        go_wp2_with fail
        go_ret
        exact ⟨_, .same (by omega) (by omega) B1.out, rfl, A1.out, D1.out⟩
set_option maxRecDepth 100000 in
set_option maxHeartbeats 4000000 in
theorem pm_splitS (k : ByteArray) : ∀ (t : Tr ByteArray) (N : Nat) (w : World), N ≤ w.heap.size → AtS w t → sz t + 2 ≤ 1099511627776 →
    Calls Try.prog 157 #[.pointer (pa t), .string k] w fun e w' =>
      ∃ a x c, SplitR N k t a x c ∧ e = .returned (.tuple #[.pointer (pa a), .pointer (pa x), .pointer (pa c)]) ∧ AtS w' a ∧ AtS w' x ∧ AtS w' c ∧ Below w.heap.size w w' := by
  intro t
  induction t with
  | nil =>
    intro N w hN _ _
    change Calls _ _ #[.pointer none, .string k] w _
    go_enter Try.func157, Try.ntmps157
    go_wp2_with fail
    go_ret3
    exact ⟨.nil, .nil, .nil, .nil, rfl, trivial, trivial, trivial, Below.refl _ _⟩
  | node b l k0 v0 r ih1 ih2 =>
    intro N w hN h hs
    have H := Lib.hid h
    have HZ := Lib.hid hs
    have I1 := Lib.hid ih1
    have I2 := Lib.hid ih2
    obtain ⟨x0, x1, x2, x3⟩ := h.cellsP (pa l) (pa r) rfl rfl
    clear h ih1 ih2
    have HC : Hid (Chain [w] w) := Lib.hid (Chain.one w)
    change Calls _ _ #[.pointer (some ⟨b, 0, none⟩), .string k] w _
    by_cases h1 : klt k k0 = true
    · have hk : Op.bytesLess k.toList k0.toList = true := h1
      go_enter Try.func157, Try.ntmps157
      go_wp2_with fail
      refine (I1.out N w hN H.out.2.1 (by have := HZ.out; simp only [sz] at this ⊢; omega)).mono ?_
      rintro e p1 ⟨a, x, c, hP, rfl, hA1, hA2, hA3, hb⟩
      have P1 := Lib.hid hP
      have A1 := Lib.hid hA1
      have A2 := Lib.hid hA2
      have A3 := Lib.hid hA3
      replace HC := Lib.hid (HC.out.push hb)
      clear hP hA1 hA2 hA3 hb x0 x1 x2 x3
      go_wp2_with fail
      refine wp_region_noPanic ?_
      refine wp_region_held_drew (S := fun w' => Below p1.heap.size p1 w') (by kernel_rfl) (Below.refl _ _).drew (fun hS => ?_)
      refine wpAnyH_take (i := 0) (oi := ⟨some 33, _, _, _, _, _⟩) (v := ?_) rfl (by kernel_rfl) (by kernel_rfl) (by kernel_rfl) (fun _ _ _ h => h) (Or.inl ⟨by rfl, ?_⟩) hS ?_
      rotate_left 1
      · intro w' hB; have hd := (HC.out.to w (by simp)).trans (hB.mono (HC.out.to w (by simp)).size); obtain ⟨x0, x1, x2, x3⟩ := (H.out.below hd rfl).cellsP (pa l) (pa r) rfl rfl; clear hd; (go_simp <;> with_reducible rfl)
      try simp only [Act.put, List.setIfInBounds_toArray, List.set_cons_zero, List.set_cons_succ]
      refine wpAnyH_take (i := 1) (oi := ⟨some 34, _, _, _, _, _⟩) (v := ?_) rfl (by kernel_rfl) (by kernel_rfl) (by kernel_rfl) (fun _ _ _ h => h) (Or.inl ⟨by rfl, ?_⟩) hS ?_
      rotate_left 1
      · intro w' hB; have hd := (HC.out.to w (by simp)).trans (hB.mono (HC.out.to w (by simp)).size); obtain ⟨x0, x1, x2, x3⟩ := (H.out.below hd rfl).cellsP (pa l) (pa r) rfl rfl; clear hd; (go_simp <;> with_reducible rfl)
      try simp only [Act.put, List.setIfInBounds_toArray, List.set_cons_zero, List.set_cons_succ]
      refine wpAnyH_take (i := 2) (oi := ⟨some 35, _, _, _, _, _⟩) (v := ?_) rfl (by kernel_rfl) (by kernel_rfl) (by kernel_rfl) (fun _ _ _ h => h) (Or.inl ⟨by rfl, ?_⟩) hS ?_
      rotate_left 1
      · intro w' hB; have hd := (HC.out.to w (by simp)).trans (hB.mono (HC.out.to w (by simp)).size); obtain ⟨x0, x1, x2, x3⟩ := (H.out.below hd rfl).cellsP (pa l) (pa r) rfl rfl; clear hd; (go_simp <;> with_reducible rfl)
      try simp only [Act.put, List.setIfInBounds_toArray, List.set_cons_zero, List.set_cons_succ]
      refine wpAnyH_take (i := 3) (oi := ⟨some 36, _, _, _, _, _⟩) (v := ?_) rfl (by kernel_rfl) (by kernel_rfl) (by kernel_rfl) (fun _ _ _ h => h) (Or.inl ⟨by rfl, ?_⟩) hS ?_
      rotate_left 1
      · intro w' hB; have hd := (HC.out.to w (by simp)).trans (hB.mono (HC.out.to w (by simp)).size); obtain ⟨x0, x1, x2, x3⟩ := (H.out.below hd rfl).cellsP (pa l) (pa r) rfl rfl; clear hd; (go_simp <;> with_reducible rfl)
      try simp only [Act.put, List.setIfInBounds_toArray, List.set_cons_zero, List.set_cons_succ]
      refine wpAnyH_take (i := 4) (oi := ⟨some 37, _, _, _, _, _⟩) (v := ?_) rfl (by kernel_rfl) (by kernel_rfl) (by kernel_rfl) (fun _ _ _ h => h) (Or.inl ⟨by rfl, ?_⟩) hS ?_
      rotate_left 1
      · intro w' hB; have hd := (HC.out.to w (by simp)).trans (hB.mono (HC.out.to w (by simp)).size); obtain ⟨x0, x1, x2, x3⟩ := (H.out.below hd rfl).cellsP (pa l) (pa r) rfl rfl; clear hd; (go_simp <;> with_reducible rfl)
      try simp only [Act.put, List.setIfInBounds_toArray, List.set_cons_zero, List.set_cons_succ]
      refine wpAnyH_take (i := 5) (oi := ⟨some 38, _, _, _, _, _⟩) (v := ?_) rfl (by kernel_rfl) (by kernel_rfl) (by kernel_rfl) (fun _ _ _ h => h) (Or.inl ⟨by rfl, ?_⟩) hS ?_
      rotate_left 1
      · intro w' hB; have hd := (HC.out.to w (by simp)).trans (hB.mono (HC.out.to w (by simp)).size); obtain ⟨x0, x1, x2, x3⟩ := (H.out.below hd rfl).cellsP (pa l) (pa r) rfl rfl; clear hd; (go_simp <;> with_reducible rfl)
      try simp only [Act.put, List.setIfInBounds_toArray, List.set_cons_zero, List.set_cons_succ]
      refine wpAnyH_take (i := 6) (oi := ⟨some 39, _, _, _, _, _⟩) (v := ?_) rfl (by kernel_rfl) (by kernel_rfl) (by kernel_rfl) (fun _ _ _ h => h) (Or.inl ⟨by rfl, ?_⟩) hS ?_
      rotate_left 1
      · intro w' hB; have hd := (HC.out.to w (by simp)).trans (hB.mono (HC.out.to w (by simp)).size); obtain ⟨x0, x1, x2, x3⟩ := (H.out.below hd rfl).cellsP (pa l) (pa r) rfl rfl; clear hd; (go_simp <;> with_reducible rfl)
      try simp only [Act.put, List.setIfInBounds_toArray, List.set_cons_zero, List.set_cons_succ]
      refine wpAnyH_take (i := 7) (oi := ⟨some 40, _, _, _, _, _⟩) (v := ?_) rfl (by kernel_rfl) (by kernel_rfl) (by kernel_rfl) (fun _ _ _ h => h) (Or.inl ⟨by rfl, ?_⟩) hS ?_
      rotate_left 1
      · intro w' hB; have hd := (HC.out.to w (by simp)).trans (hB.mono (HC.out.to w (by simp)).size); obtain ⟨x0, x1, x2, x3⟩ := (H.out.below hd rfl).cellsP (pa l) (pa r) rfl rfl; clear hd; (go_simp <;> with_reducible rfl)
      try simp only [Act.put, List.setIfInBounds_toArray, List.set_cons_zero, List.set_cons_succ]
      refine wpAnyH_take (i := 8) (oi := ⟨some 41, _, _, _, _, _⟩) (v := ?_) rfl (by kernel_rfl) (by kernel_rfl) (by kernel_rfl) (fun _ _ _ h => h) (Or.inl ⟨by rfl, ?_⟩) hS ?_
      rotate_left 1
      · intro w' hB; have hd := (HC.out.to w (by simp)).trans (hB.mono (HC.out.to w (by simp)).size); obtain ⟨x0, x1, x2, x3⟩ := (H.out.below hd rfl).cellsP (pa l) (pa r) rfl rfl; clear hd; (go_simp <;> with_reducible rfl)
      try simp only [Act.put, List.setIfInBounds_toArray, List.set_cons_zero, List.set_cons_succ]
      refine wpAnyH_take (i := 9) (oi := ⟨some 42, _, _, _, _, _⟩) (v := ?_) rfl (by kernel_rfl) (by kernel_rfl) (by kernel_rfl) (fun _ _ _ h => h) (Or.inl ⟨by rfl, ?_⟩) hS ?_
      rotate_left 1
      · intro w' hB; have hd := (HC.out.to w (by simp)).trans (hB.mono (HC.out.to w (by simp)).size); obtain ⟨x0, x1, x2, x3⟩ := (H.out.below hd rfl).cellsP (pa l) (pa r) rfl rfl; clear hd; (go_simp <;> with_reducible rfl)
      try simp only [Act.put, List.setIfInBounds_toArray, List.set_cons_zero, List.set_cons_succ]
      refine wpAnyH_take (i := 10) (oi := ⟨some 43, _, _, _, _, _⟩) (v := ?_) rfl (by kernel_rfl) (by kernel_rfl) (by kernel_rfl) (fun _ _ _ h => h) (Or.inl ⟨by rfl, ?_⟩) hS ?_
      rotate_left 1
      · intro w' hB; have hd := (HC.out.to w (by simp)).trans (hB.mono (HC.out.to w (by simp)).size); obtain ⟨x0, x1, x2, x3⟩ := (H.out.below hd rfl).cellsP (pa l) (pa r) rfl rfl; clear hd; (go_simp <;> with_reducible rfl)
      try simp only [Act.put, List.setIfInBounds_toArray, List.set_cons_zero, List.set_cons_succ]
      refine wpAnyH_take (i := 11) (oi := ⟨some 44, _, _, _, _, _⟩) (v := ?_) rfl (by kernel_rfl) (by kernel_rfl) (by kernel_rfl) (fun _ _ _ h => h) (Or.inl ⟨by rfl, ?_⟩) hS ?_
      rotate_left 1
      · intro w' hB; have hd := (HC.out.to w (by simp)).trans (hB.mono (HC.out.to w (by simp)).size); obtain ⟨x0, x1, x2, x3⟩ := (H.out.below hd rfl).cellsP (pa l) (pa r) rfl rfl; clear hd; (go_simp <;> with_reducible rfl)
      try simp only [Act.put, List.setIfInBounds_toArray, List.set_cons_zero, List.set_cons_succ]
      refine wpAnyH_take (i := 12) (oi := ⟨some 45, _, _, _, _, _⟩) (v := ?_) rfl (by kernel_rfl) (by kernel_rfl) (by kernel_rfl) (fun _ _ _ h => h) (Or.inl ⟨by rfl, ?_⟩) hS ?_
      rotate_left 1
      · intro w' hB; have hd := (HC.out.to w (by simp)).trans (hB.mono (HC.out.to w (by simp)).size); obtain ⟨x0, x1, x2, x3⟩ := (H.out.below hd rfl).cellsP (pa l) (pa r) rfl rfl; clear hd; (go_simp <;> with_reducible rfl)
      try simp only [Act.put, List.setIfInBounds_toArray, List.set_cons_zero, List.set_cons_succ]
      refine wpAnyH_take (i := 13) (oi := ⟨some 46, _, _, _, _, _⟩) (v := ?_) rfl (by kernel_rfl) (by kernel_rfl) (by kernel_rfl) (fun _ _ _ h => h) (Or.inl ⟨by rfl, ?_⟩) hS ?_
      rotate_left 1
      · intro w' hB; have hd := (HC.out.to w (by simp)).trans (hB.mono (HC.out.to w (by simp)).size); obtain ⟨x0, x1, x2, x3⟩ := (H.out.below hd rfl).cellsP (pa l) (pa r) rfl rfl; clear hd; (go_simp <;> with_reducible rfl)
      try simp only [Act.put, List.setIfInBounds_toArray, List.set_cons_zero, List.set_cons_succ]
      refine wpAnyH_take (i := 14) (oi := ⟨some 47, _, _, _, _, _⟩) (v := ?_) rfl (by kernel_rfl) (by kernel_rfl) (by kernel_rfl) (fun _ _ _ h => h) (Or.inl ⟨by rfl, ?_⟩) hS ?_
      rotate_left 1
      · intro w' hB; have hd := (HC.out.to w (by simp)).trans (hB.mono (HC.out.to w (by simp)).size); obtain ⟨x0, x1, x2, x3⟩ := (H.out.below hd rfl).cellsP (pa l) (pa r) rfl rfl; clear hd; (go_simp <;> with_reducible rfl)
      try simp only [Act.put, List.setIfInBounds_toArray, List.set_cons_zero, List.set_cons_succ]
      refine wpAnyH_ready (rs := [15]) (by kernel_rfl) (by simp) (AllReadyH.cons (o := ⟨some 48, _, _, _, _, _⟩) rfl (fun K hK => ?_) AllReadyH.nil)
      go_simp
      refine (pm_joinS k0 v0 _ c r N _ (Nat.le_refl _) (Nat.le_trans hN (HC.out.le hS (by simp))) (A3.out.chain HC.out hS (by simp)) (H.out.2.2.chain HC.out hS (by simp)) (by have := HZ.out; have := P1.out.szS; simp only [sz] at *; omega)).mono ?_
      rintro e p2 ⟨t', hP, rfl, hA, hb⟩
      refine hK.out _ _ (hS.trans (hb.mono hS.size)) (fun _ => ?_)
      clear hK K
      have hB := hS.trans (hb.mono hS.size)
      refine wpAnyH_now hB ?_
      clear hS
      have hS := Below.refl p2.heap.size p2
      replace HC := Lib.hid (HC.out.push hB)
      have P2 := Lib.hid hP
      have A4 := Lib.hid hA
      clear hP hA
      clear hB hb
      try simp only [Act.put, List.setIfInBounds_toArray, List.set_cons_zero, List.set_cons_succ]
      refine wpAnyH_take (i := 16) (oi := ⟨some 4, _, _, _, _, _⟩) (v := ?_) rfl (by kernel_rfl) (by kernel_rfl) (by kernel_rfl) (fun _ _ _ h => h) (Or.inl ⟨by rfl, ?_⟩) hS ?_
      rotate_left 1
      · intro w' hB; have hd := (HC.out.to w (by simp)).trans (hB.mono (HC.out.to w (by simp)).size); obtain ⟨x0, x1, x2, x3⟩ := (H.out.below hd rfl).cellsP (pa l) (pa r) rfl rfl; clear hd; (go_simp <;> with_reducible rfl)
      try simp only [Act.put, List.setIfInBounds_toArray, List.set_cons_zero, List.set_cons_succ]
      refine wpAnyH_take (i := 17) (oi := ⟨some 5, _, _, _, _, _⟩) (v := ?_) rfl (by kernel_rfl) (by kernel_rfl) (by kernel_rfl) (fun _ _ _ h => h) (Or.inl ⟨by rfl, ?_⟩) hS ?_
      rotate_left 1
      · intro w' hB; have hd := (HC.out.to w (by simp)).trans (hB.mono (HC.out.to w (by simp)).size); obtain ⟨x0, x1, x2, x3⟩ := (H.out.below hd rfl).cellsP (pa l) (pa r) rfl rfl; clear hd; (go_simp <;> with_reducible rfl)
      try simp only [Act.put, List.setIfInBounds_toArray, List.set_cons_zero, List.set_cons_succ]
      refine wpAnyH_take (i := 18) (oi := ⟨some 6, _, _, _, _, _⟩) (v := ?_) rfl (by kernel_rfl) (by kernel_rfl) (by kernel_rfl) (fun _ _ _ h => h) (Or.inl ⟨by rfl, ?_⟩) hS ?_
      rotate_left 1
      · intro w' hB; have hd := (HC.out.to w (by simp)).trans (hB.mono (HC.out.to w (by simp)).size); obtain ⟨x0, x1, x2, x3⟩ := (H.out.below hd rfl).cellsP (pa l) (pa r) rfl rfl; clear hd; (go_simp <;> with_reducible rfl)
      try simp only [Act.put, List.setIfInBounds_toArray, List.set_cons_zero, List.set_cons_succ]
      refine wpAnyH_done (by kernel_rfl) (NoPanic.normal ?_) _
      clear hS
      go_wp2_with fail
      go_ret3
      exact ⟨_, _, _, .lt h1 P1.out P2.out, rfl, A1.out.below (HC.out.to p1 (by simp)) rfl, A2.out.below (HC.out.to p1 (by simp)) rfl, A4.out, HC.out.to w (by simp)⟩
    · by_cases h2 : klt k0 k = true
      · have hk : Op.bytesLess k.toList k0.toList = false := by simpa [klt] using h1
        have hke : (k.toList == k0.toList) = false := by rw [eq_iff]; simp; exact Ne.symm (klt_ne h2)
        go_enter Try.func157, Try.ntmps157
        go_wp2_with fail
        refine (I2.out N w hN H.out.2.2 (by have := HZ.out; simp only [sz] at this ⊢; omega)).mono ?_
        rintro e p1 ⟨a, x, c, hP, rfl, hA1, hA2, hA3, hb⟩
        have P1 := Lib.hid hP
        have A1 := Lib.hid hA1
        have A2 := Lib.hid hA2
        have A3 := Lib.hid hA3
        replace HC := Lib.hid (HC.out.push hb)
        clear hP hA1 hA2 hA3 hb x0 x1 x2 x3
        go_wp2_with fail
        refine wp_region_noPanic ?_
        refine wp_region_held_drew (S := fun w' => Below p1.heap.size p1 w') (by kernel_rfl) (Below.refl _ _).drew (fun hS => ?_)
        refine wpAnyH_take (i := 0) (oi := ⟨some 66, _, _, _, _, _⟩) (v := ?_) rfl (by kernel_rfl) (by kernel_rfl) (by kernel_rfl) (fun _ _ _ h => h) (Or.inl ⟨by rfl, ?_⟩) hS ?_
        rotate_left 1
        · intro w' hB; have hd := (HC.out.to w (by simp)).trans (hB.mono (HC.out.to w (by simp)).size); obtain ⟨x0, x1, x2, x3⟩ := (H.out.below hd rfl).cellsP (pa l) (pa r) rfl rfl; clear hd; (go_simp <;> with_reducible rfl)
        try simp only [Act.put, List.setIfInBounds_toArray, List.set_cons_zero, List.set_cons_succ]
        refine wpAnyH_take (i := 1) (oi := ⟨some 67, _, _, _, _, _⟩) (v := ?_) rfl (by kernel_rfl) (by kernel_rfl) (by kernel_rfl) (fun _ _ _ h => h) (Or.inl ⟨by rfl, ?_⟩) hS ?_
        rotate_left 1
        · intro w' hB; have hd := (HC.out.to w (by simp)).trans (hB.mono (HC.out.to w (by simp)).size); obtain ⟨x0, x1, x2, x3⟩ := (H.out.below hd rfl).cellsP (pa l) (pa r) rfl rfl; clear hd; (go_simp <;> with_reducible rfl)
        try simp only [Act.put, List.setIfInBounds_toArray, List.set_cons_zero, List.set_cons_succ]
        refine wpAnyH_take (i := 2) (oi := ⟨some 68, _, _, _, _, _⟩) (v := ?_) rfl (by kernel_rfl) (by kernel_rfl) (by kernel_rfl) (fun _ _ _ h => h) (Or.inl ⟨by rfl, ?_⟩) hS ?_
        rotate_left 1
        · intro w' hB; have hd := (HC.out.to w (by simp)).trans (hB.mono (HC.out.to w (by simp)).size); obtain ⟨x0, x1, x2, x3⟩ := (H.out.below hd rfl).cellsP (pa l) (pa r) rfl rfl; clear hd; (go_simp <;> with_reducible rfl)
        try simp only [Act.put, List.setIfInBounds_toArray, List.set_cons_zero, List.set_cons_succ]
        refine wpAnyH_take (i := 3) (oi := ⟨some 69, _, _, _, _, _⟩) (v := ?_) rfl (by kernel_rfl) (by kernel_rfl) (by kernel_rfl) (fun _ _ _ h => h) (Or.inl ⟨by rfl, ?_⟩) hS ?_
        rotate_left 1
        · intro w' hB; have hd := (HC.out.to w (by simp)).trans (hB.mono (HC.out.to w (by simp)).size); obtain ⟨x0, x1, x2, x3⟩ := (H.out.below hd rfl).cellsP (pa l) (pa r) rfl rfl; clear hd; (go_simp <;> with_reducible rfl)
        try simp only [Act.put, List.setIfInBounds_toArray, List.set_cons_zero, List.set_cons_succ]
        refine wpAnyH_take (i := 4) (oi := ⟨some 70, _, _, _, _, _⟩) (v := ?_) rfl (by kernel_rfl) (by kernel_rfl) (by kernel_rfl) (fun _ _ _ h => h) (Or.inl ⟨by rfl, ?_⟩) hS ?_
        rotate_left 1
        · intro w' hB; have hd := (HC.out.to w (by simp)).trans (hB.mono (HC.out.to w (by simp)).size); obtain ⟨x0, x1, x2, x3⟩ := (H.out.below hd rfl).cellsP (pa l) (pa r) rfl rfl; clear hd; (go_simp <;> with_reducible rfl)
        try simp only [Act.put, List.setIfInBounds_toArray, List.set_cons_zero, List.set_cons_succ]
        refine wpAnyH_take (i := 5) (oi := ⟨some 71, _, _, _, _, _⟩) (v := ?_) rfl (by kernel_rfl) (by kernel_rfl) (by kernel_rfl) (fun _ _ _ h => h) (Or.inl ⟨by rfl, ?_⟩) hS ?_
        rotate_left 1
        · intro w' hB; have hd := (HC.out.to w (by simp)).trans (hB.mono (HC.out.to w (by simp)).size); obtain ⟨x0, x1, x2, x3⟩ := (H.out.below hd rfl).cellsP (pa l) (pa r) rfl rfl; clear hd; (go_simp <;> with_reducible rfl)
        try simp only [Act.put, List.setIfInBounds_toArray, List.set_cons_zero, List.set_cons_succ]
        refine wpAnyH_take (i := 6) (oi := ⟨some 72, _, _, _, _, _⟩) (v := ?_) rfl (by kernel_rfl) (by kernel_rfl) (by kernel_rfl) (fun _ _ _ h => h) (Or.inl ⟨by rfl, ?_⟩) hS ?_
        rotate_left 1
        · intro w' hB; have hd := (HC.out.to w (by simp)).trans (hB.mono (HC.out.to w (by simp)).size); obtain ⟨x0, x1, x2, x3⟩ := (H.out.below hd rfl).cellsP (pa l) (pa r) rfl rfl; clear hd; (go_simp <;> with_reducible rfl)
        try simp only [Act.put, List.setIfInBounds_toArray, List.set_cons_zero, List.set_cons_succ]
        refine wpAnyH_take (i := 7) (oi := ⟨some 73, _, _, _, _, _⟩) (v := ?_) rfl (by kernel_rfl) (by kernel_rfl) (by kernel_rfl) (fun _ _ _ h => h) (Or.inl ⟨by rfl, ?_⟩) hS ?_
        rotate_left 1
        · intro w' hB; have hd := (HC.out.to w (by simp)).trans (hB.mono (HC.out.to w (by simp)).size); obtain ⟨x0, x1, x2, x3⟩ := (H.out.below hd rfl).cellsP (pa l) (pa r) rfl rfl; clear hd; (go_simp <;> with_reducible rfl)
        try simp only [Act.put, List.setIfInBounds_toArray, List.set_cons_zero, List.set_cons_succ]
        refine wpAnyH_take (i := 8) (oi := ⟨some 74, _, _, _, _, _⟩) (v := ?_) rfl (by kernel_rfl) (by kernel_rfl) (by kernel_rfl) (fun _ _ _ h => h) (Or.inl ⟨by rfl, ?_⟩) hS ?_
        rotate_left 1
        · intro w' hB; have hd := (HC.out.to w (by simp)).trans (hB.mono (HC.out.to w (by simp)).size); obtain ⟨x0, x1, x2, x3⟩ := (H.out.below hd rfl).cellsP (pa l) (pa r) rfl rfl; clear hd; (go_simp <;> with_reducible rfl)
        try simp only [Act.put, List.setIfInBounds_toArray, List.set_cons_zero, List.set_cons_succ]
        refine wpAnyH_take (i := 9) (oi := ⟨some 75, _, _, _, _, _⟩) (v := ?_) rfl (by kernel_rfl) (by kernel_rfl) (by kernel_rfl) (fun _ _ _ h => h) (Or.inl ⟨by rfl, ?_⟩) hS ?_
        rotate_left 1
        · intro w' hB; have hd := (HC.out.to w (by simp)).trans (hB.mono (HC.out.to w (by simp)).size); obtain ⟨x0, x1, x2, x3⟩ := (H.out.below hd rfl).cellsP (pa l) (pa r) rfl rfl; clear hd; (go_simp <;> with_reducible rfl)
        try simp only [Act.put, List.setIfInBounds_toArray, List.set_cons_zero, List.set_cons_succ]
        refine wpAnyH_take (i := 10) (oi := ⟨some 76, _, _, _, _, _⟩) (v := ?_) rfl (by kernel_rfl) (by kernel_rfl) (by kernel_rfl) (fun _ _ _ h => h) (Or.inl ⟨by rfl, ?_⟩) hS ?_
        rotate_left 1
        · intro w' hB; have hd := (HC.out.to w (by simp)).trans (hB.mono (HC.out.to w (by simp)).size); obtain ⟨x0, x1, x2, x3⟩ := (H.out.below hd rfl).cellsP (pa l) (pa r) rfl rfl; clear hd; (go_simp <;> with_reducible rfl)
        try simp only [Act.put, List.setIfInBounds_toArray, List.set_cons_zero, List.set_cons_succ]
        refine wpAnyH_take (i := 11) (oi := ⟨some 77, _, _, _, _, _⟩) (v := ?_) rfl (by kernel_rfl) (by kernel_rfl) (by kernel_rfl) (fun _ _ _ h => h) (Or.inl ⟨by rfl, ?_⟩) hS ?_
        rotate_left 1
        · intro w' hB; have hd := (HC.out.to w (by simp)).trans (hB.mono (HC.out.to w (by simp)).size); obtain ⟨x0, x1, x2, x3⟩ := (H.out.below hd rfl).cellsP (pa l) (pa r) rfl rfl; clear hd; (go_simp <;> with_reducible rfl)
        try simp only [Act.put, List.setIfInBounds_toArray, List.set_cons_zero, List.set_cons_succ]
        refine wpAnyH_take (i := 12) (oi := ⟨some 78, _, _, _, _, _⟩) (v := ?_) rfl (by kernel_rfl) (by kernel_rfl) (by kernel_rfl) (fun _ _ _ h => h) (Or.inl ⟨by rfl, ?_⟩) hS ?_
        rotate_left 1
        · intro w' hB; have hd := (HC.out.to w (by simp)).trans (hB.mono (HC.out.to w (by simp)).size); obtain ⟨x0, x1, x2, x3⟩ := (H.out.below hd rfl).cellsP (pa l) (pa r) rfl rfl; clear hd; (go_simp <;> with_reducible rfl)
        try simp only [Act.put, List.setIfInBounds_toArray, List.set_cons_zero, List.set_cons_succ]
        refine wpAnyH_take (i := 14) (oi := ⟨some 80, _, _, _, _, _⟩) (v := ?_) rfl (by kernel_rfl) (by kernel_rfl) (by kernel_rfl) (fun _ _ _ h => h) (Or.inl ⟨by rfl, ?_⟩) hS ?_
        rotate_left 1
        · intro w' hB; have hd := (HC.out.to w (by simp)).trans (hB.mono (HC.out.to w (by simp)).size); obtain ⟨x0, x1, x2, x3⟩ := (H.out.below hd rfl).cellsP (pa l) (pa r) rfl rfl; clear hd; (go_simp <;> with_reducible rfl)
        try simp only [Act.put, List.setIfInBounds_toArray, List.set_cons_zero, List.set_cons_succ]
        refine wpAnyH_take (i := 15) (oi := ⟨some 81, _, _, _, _, _⟩) (v := ?_) rfl (by kernel_rfl) (by kernel_rfl) (by kernel_rfl) (fun _ _ _ h => h) (Or.inl ⟨by rfl, ?_⟩) hS ?_
        rotate_left 1
        · intro w' hB; have hd := (HC.out.to w (by simp)).trans (hB.mono (HC.out.to w (by simp)).size); obtain ⟨x0, x1, x2, x3⟩ := (H.out.below hd rfl).cellsP (pa l) (pa r) rfl rfl; clear hd; (go_simp <;> with_reducible rfl)
        try simp only [Act.put, List.setIfInBounds_toArray, List.set_cons_zero, List.set_cons_succ]
        refine wpAnyH_ready (rs := [13]) (by kernel_rfl) (by simp) (AllReadyH.cons (o := ⟨some 79, _, _, _, _, _⟩) rfl (fun K hK => ?_) AllReadyH.nil)
        go_simp
        refine (pm_joinS k0 v0 _ l a N _ (Nat.le_refl _) (Nat.le_trans hN (HC.out.le hS (by simp))) (H.out.2.1.chain HC.out hS (by simp)) (A1.out.chain HC.out hS (by simp)) (by have := HZ.out; have := P1.out.szS; simp only [sz] at *; omega)).mono ?_
        rintro e p2 ⟨t', hP, rfl, hA, hb⟩
        refine hK.out _ _ (hS.trans (hb.mono hS.size)) (fun _ => ?_)
        clear hK K
        have hB := hS.trans (hb.mono hS.size)
        refine wpAnyH_now hB ?_
        clear hS
        have hS := Below.refl p2.heap.size p2
        replace HC := Lib.hid (HC.out.push hB)
        have P2 := Lib.hid hP
        have A4 := Lib.hid hA
        clear hP hA
        clear hB hb
        try simp only [Act.put, List.setIfInBounds_toArray, List.set_cons_zero, List.set_cons_succ]
        refine wpAnyH_take (i := 16) (oi := ⟨some 4, _, _, _, _, _⟩) (v := ?_) rfl (by kernel_rfl) (by kernel_rfl) (by kernel_rfl) (fun _ _ _ h => h) (Or.inl ⟨by rfl, ?_⟩) hS ?_
        rotate_left 1
        · intro w' hB; have hd := (HC.out.to w (by simp)).trans (hB.mono (HC.out.to w (by simp)).size); obtain ⟨x0, x1, x2, x3⟩ := (H.out.below hd rfl).cellsP (pa l) (pa r) rfl rfl; clear hd; (go_simp <;> with_reducible rfl)
        try simp only [Act.put, List.setIfInBounds_toArray, List.set_cons_zero, List.set_cons_succ]
        refine wpAnyH_take (i := 17) (oi := ⟨some 5, _, _, _, _, _⟩) (v := ?_) rfl (by kernel_rfl) (by kernel_rfl) (by kernel_rfl) (fun _ _ _ h => h) (Or.inl ⟨by rfl, ?_⟩) hS ?_
        rotate_left 1
        · intro w' hB; have hd := (HC.out.to w (by simp)).trans (hB.mono (HC.out.to w (by simp)).size); obtain ⟨x0, x1, x2, x3⟩ := (H.out.below hd rfl).cellsP (pa l) (pa r) rfl rfl; clear hd; (go_simp <;> with_reducible rfl)
        try simp only [Act.put, List.setIfInBounds_toArray, List.set_cons_zero, List.set_cons_succ]
        refine wpAnyH_take (i := 18) (oi := ⟨some 6, _, _, _, _, _⟩) (v := ?_) rfl (by kernel_rfl) (by kernel_rfl) (by kernel_rfl) (fun _ _ _ h => h) (Or.inl ⟨by rfl, ?_⟩) hS ?_
        rotate_left 1
        · intro w' hB; have hd := (HC.out.to w (by simp)).trans (hB.mono (HC.out.to w (by simp)).size); obtain ⟨x0, x1, x2, x3⟩ := (H.out.below hd rfl).cellsP (pa l) (pa r) rfl rfl; clear hd; (go_simp <;> with_reducible rfl)
        try simp only [Act.put, List.setIfInBounds_toArray, List.set_cons_zero, List.set_cons_succ]
        refine wpAnyH_done (by kernel_rfl) (NoPanic.normal ?_) _
        clear hS
        go_wp2_with fail
        go_ret3
        exact ⟨_, _, _, .gt h2 P1.out P2.out, rfl, A4.out, A2.out.below (HC.out.to p1 (by simp)) rfl, A3.out.below (HC.out.to p1 (by simp)) rfl, HC.out.to w (by simp)⟩
      · obtain rfl := klt_tri (a := k) (b := k0) (by simpa using h1) (by simpa using h2)
        have hk : Op.bytesLess k.toList k.toList = false := klt_irrefl k
        go_enter Try.func157, Try.ntmps157
        go_wp2_with fail
        clear x0 x1 x2 x3
        refine wp_region_noPanic ?_
        refine wp_region_held_drew (S := fun w' => Below w.heap.size w w') (by kernel_rfl) (Below.refl _ _).drew (fun hS => ?_)
        refine wpAnyH_take (i := 0) (oi := ⟨some 82, _, _, _, _, _⟩) (v := ?_) rfl (by kernel_rfl) (by kernel_rfl) (by kernel_rfl) (fun _ _ _ h => h) (Or.inl ⟨by rfl, ?_⟩) hS ?_
        rotate_left 1
        · intro w' hB; have hd := (HC.out.to w (by simp)).trans (hB.mono (HC.out.to w (by simp)).size); obtain ⟨x0, x1, x2, x3⟩ := (H.out.below hd rfl).cellsP (pa l) (pa r) rfl rfl; clear hd; (go_simp <;> with_reducible rfl)
        try simp only [Act.put, List.setIfInBounds_toArray, List.set_cons_zero, List.set_cons_succ]
        refine wpAnyH_take (i := 1) (oi := ⟨some 83, _, _, _, _, _⟩) (v := ?_) rfl (by kernel_rfl) (by kernel_rfl) (by kernel_rfl) (fun _ _ _ h => h) (Or.inl ⟨by rfl, ?_⟩) hS ?_
        rotate_left 1
        · intro w' hB; have hd := (HC.out.to w (by simp)).trans (hB.mono (HC.out.to w (by simp)).size); obtain ⟨x0, x1, x2, x3⟩ := (H.out.below hd rfl).cellsP (pa l) (pa r) rfl rfl; clear hd; (go_simp <;> with_reducible rfl)
        try simp only [Act.put, List.setIfInBounds_toArray, List.set_cons_zero, List.set_cons_succ]
        refine wpAnyH_take (i := 2) (oi := ⟨some 84, _, _, _, _, _⟩) (v := ?_) rfl (by kernel_rfl) (by kernel_rfl) (by kernel_rfl) (fun _ _ _ h => h) (Or.inl ⟨by rfl, ?_⟩) hS ?_
        rotate_left 1
        · intro w' hB; have hd := (HC.out.to w (by simp)).trans (hB.mono (HC.out.to w (by simp)).size); obtain ⟨x0, x1, x2, x3⟩ := (H.out.below hd rfl).cellsP (pa l) (pa r) rfl rfl; clear hd; (go_simp <;> with_reducible rfl)
        try simp only [Act.put, List.setIfInBounds_toArray, List.set_cons_zero, List.set_cons_succ]
        refine wpAnyH_take (i := 3) (oi := ⟨some 85, _, _, _, _, _⟩) (v := ?_) rfl (by kernel_rfl) (by kernel_rfl) (by kernel_rfl) (fun _ _ _ h => h) (Or.inl ⟨by rfl, ?_⟩) hS ?_
        rotate_left 1
        · intro w' hB; have hd := (HC.out.to w (by simp)).trans (hB.mono (HC.out.to w (by simp)).size); obtain ⟨x0, x1, x2, x3⟩ := (H.out.below hd rfl).cellsP (pa l) (pa r) rfl rfl; clear hd; (go_simp <;> with_reducible rfl)
        try simp only [Act.put, List.setIfInBounds_toArray, List.set_cons_zero, List.set_cons_succ]
        refine wpAnyH_take (i := 4) (oi := ⟨some 86, _, _, _, _, _⟩) (v := ?_) rfl (by kernel_rfl) (by kernel_rfl) (by kernel_rfl) (fun _ _ _ h => h) (Or.inl ⟨by rfl, ?_⟩) hS ?_
        rotate_left 1
        · intro w' hB; have hd := (HC.out.to w (by simp)).trans (hB.mono (HC.out.to w (by simp)).size); obtain ⟨x0, x1, x2, x3⟩ := (H.out.below hd rfl).cellsP (pa l) (pa r) rfl rfl; clear hd; (go_simp <;> with_reducible rfl)
        try simp only [Act.put, List.setIfInBounds_toArray, List.set_cons_zero, List.set_cons_succ]
        refine wpAnyH_take (i := 5) (oi := ⟨some 87, _, _, _, _, _⟩) (v := ?_) rfl (by kernel_rfl) (by kernel_rfl) (by kernel_rfl) (fun _ _ _ h => h) (Or.inl ⟨by rfl, ?_⟩) hS ?_
        rotate_left 1
        · intro w' hB; have hd := (HC.out.to w (by simp)).trans (hB.mono (HC.out.to w (by simp)).size); obtain ⟨x0, x1, x2, x3⟩ := (H.out.below hd rfl).cellsP (pa l) (pa r) rfl rfl; clear hd; (go_simp <;> with_reducible rfl)
        try simp only [Act.put, List.setIfInBounds_toArray, List.set_cons_zero, List.set_cons_succ]
        refine wpAnyH_take (i := 6) (oi := ⟨some 88, _, _, _, _, _⟩) (v := ?_) rfl (by kernel_rfl) (by kernel_rfl) (by kernel_rfl) (fun _ _ _ h => h) (Or.inl ⟨by rfl, ?_⟩) hS ?_
        rotate_left 1
        · intro w' hB; have hd := (HC.out.to w (by simp)).trans (hB.mono (HC.out.to w (by simp)).size); obtain ⟨x0, x1, x2, x3⟩ := (H.out.below hd rfl).cellsP (pa l) (pa r) rfl rfl; clear hd; (go_simp <;> with_reducible rfl)
        try simp only [Act.put, List.setIfInBounds_toArray, List.set_cons_zero, List.set_cons_succ]
        refine wpAnyH_take (i := 7) (oi := ⟨some 89, _, _, _, _, _⟩) (v := ?_) rfl (by kernel_rfl) (by kernel_rfl) (by kernel_rfl) (fun _ _ _ h => h) (Or.inl ⟨by rfl, ?_⟩) hS ?_
        rotate_left 1
        · intro w' hB; have hd := (HC.out.to w (by simp)).trans (hB.mono (HC.out.to w (by simp)).size); obtain ⟨x0, x1, x2, x3⟩ := (H.out.below hd rfl).cellsP (pa l) (pa r) rfl rfl; clear hd; (go_simp <;> with_reducible rfl)
        try simp only [Act.put, List.setIfInBounds_toArray, List.set_cons_zero, List.set_cons_succ]
        refine wpAnyH_take (i := 8) (oi := ⟨some 90, _, _, _, _, _⟩) (v := ?_) rfl (by kernel_rfl) (by kernel_rfl) (by kernel_rfl) (fun _ _ _ h => h) (Or.inl ⟨by rfl, ?_⟩) hS ?_
        rotate_left 1
        · intro w' hB; have hd := (HC.out.to w (by simp)).trans (hB.mono (HC.out.to w (by simp)).size); obtain ⟨x0, x1, x2, x3⟩ := (H.out.below hd rfl).cellsP (pa l) (pa r) rfl rfl; clear hd; (go_simp <;> with_reducible rfl)
        try simp only [Act.put, List.setIfInBounds_toArray, List.set_cons_zero, List.set_cons_succ]
        refine wpAnyH_take (i := 9) (oi := ⟨some 4, _, _, _, _, _⟩) (v := ?_) rfl (by kernel_rfl) (by kernel_rfl) (by kernel_rfl) (fun _ _ _ h => h) (Or.inl ⟨by rfl, ?_⟩) hS ?_
        rotate_left 1
        · intro w' hB; have hd := (HC.out.to w (by simp)).trans (hB.mono (HC.out.to w (by simp)).size); obtain ⟨x0, x1, x2, x3⟩ := (H.out.below hd rfl).cellsP (pa l) (pa r) rfl rfl; clear hd; (go_simp <;> with_reducible rfl)
        try simp only [Act.put, List.setIfInBounds_toArray, List.set_cons_zero, List.set_cons_succ]
        refine wpAnyH_take (i := 10) (oi := ⟨some 5, _, _, _, _, _⟩) (v := ?_) rfl (by kernel_rfl) (by kernel_rfl) (by kernel_rfl) (fun _ _ _ h => h) (Or.inl ⟨by rfl, ?_⟩) hS ?_
        rotate_left 1
        · intro w' hB; have hd := (HC.out.to w (by simp)).trans (hB.mono (HC.out.to w (by simp)).size); obtain ⟨x0, x1, x2, x3⟩ := (H.out.below hd rfl).cellsP (pa l) (pa r) rfl rfl; clear hd; (go_simp <;> with_reducible rfl)
        try simp only [Act.put, List.setIfInBounds_toArray, List.set_cons_zero, List.set_cons_succ]
        refine wpAnyH_take (i := 11) (oi := ⟨some 6, _, _, _, _, _⟩) (v := ?_) rfl (by kernel_rfl) (by kernel_rfl) (by kernel_rfl) (fun _ _ _ h => h) (Or.inl ⟨by rfl, ?_⟩) hS ?_
        rotate_left 1
        · intro w' hB; have hd := (HC.out.to w (by simp)).trans (hB.mono (HC.out.to w (by simp)).size); obtain ⟨x0, x1, x2, x3⟩ := (H.out.below hd rfl).cellsP (pa l) (pa r) rfl rfl; clear hd; (go_simp <;> with_reducible rfl)
        try simp only [Act.put, List.setIfInBounds_toArray, List.set_cons_zero, List.set_cons_succ]
        refine wpAnyH_done (by kernel_rfl) (NoPanic.normal ?_) _
        go_wp2_with fail
        go_ret3
        exact ⟨_, _, _, .eq rfl, rfl, H.out.2.1.below hS rfl, H.out.below hS rfl, H.out.2.2.below hS rfl, hS⟩
end Go.Proofs.Ytnpiepimajippaa
