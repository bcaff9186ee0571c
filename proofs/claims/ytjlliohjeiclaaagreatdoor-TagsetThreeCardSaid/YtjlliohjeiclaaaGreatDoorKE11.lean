/- Words, contracts and walks that the proof stands on (PmW5S Tr2 PmW6S Range Range2). -/
import Derived.LaidEqlPtr
import Derived.OneCell
import Derived.RangeFuncBound
import Derived.RangeFuncCalls
import Derived.RangeFuncFrom
import Derived.RangeFuncLeaves
import Derived.RangeFuncNested
import Derived.RangeFuncWrites
import Derived.Test.YtjlliohjeiclaaaGreatDoorKE1
import Derived.Test.YtjlliohjeiclaaaGreatDoorKE10
import Derived.Test.YtjlliohjeiclaaaGreatDoorKE4
import Derived.WalkKit
namespace Go.Proofs.YtjlliohjeiclaaaGreatDoor
open Go.RowKit Pm
theorem Pm.JoinR.szS {N : Nat} {k : ByteArray} {v : ByteArray} {l r t : Tr ByteArray} (h : JoinR N k v l r t) : sz t = sz l + sz r + 1 := by
 rw [← sz_items, h.items, ← sz_items l, ← sz_items r]; simp only [List.length_append, List.length_cons]; omega
theorem Pm.SplitR.szS {N : Nat} {k : ByteArray} {t a x c : Tr ByteArray} (h : SplitR N k t a x c) : sz a + sz c ≤ sz t := by
 rw [← sz_items t, h.items, ← sz_items a, ← sz_items c]; simp only [List.length_append]; omega
set_option maxRecDepth 100000 in
set_option maxHeartbeats 4000000 in
theorem pm_joinS (k : ByteArray) (v : ByteArray) : ∀ (n : Nat) (l r : Tr ByteArray) (N : Nat) (w : World), sz l + sz r ≤ n → N ≤ w.heap.size → AtS w l → AtS w r → sz l + sz r + 2 ≤ 1099511627776 →
 Calls Tryz.prog 184 #[.pointer (pa l), .string k, .string v, .pointer (pa r)] w fun e w' =>
  ∃ t', JoinR N k v l r t' ∧ e = .returned (.pointer (pa t')) ∧ AtS w' t' ∧ Below w.heap.size w w' := by
 intro n
 induction n with
 | zero =>
  intro l r N w h0 hN hl hr _
  obtain rfl : l = .nil := ht_zero (by have := ht_le l; omega)
  obtain rfl : r = .nil := ht_zero (by have := ht_le r; omega)
  change Calls _ _ #[.pointer none, .string k, .string v, .pointer none] w _
  have hh : ht (.nil : Tr ByteArray) = 0 := rfl
  go_enter Tryz.func184, Tryz.ntmps184
  go_wp2_with (refine (pm_HeightS .nil _ trivial).mono ?_; rintro e w' ⟨rfl, rfl⟩)
  refine (pm_nodeS N .nil .nil k v _ hN trivial trivial (by simp [sz])).mono ?_
  rintro e p1 ⟨b1, hb1, rfl, hA1, hb⟩
  have B1 := Lib.hid hb1
  have A1 := Lib.hid hA1
  have D1 := Lib.hid hb
  clear hb1 hA1 hb
  go_wp2_with fail
  go_ret
  exact ⟨_, .same (by simp [ht]) (by simp [ht]) B1.out, rfl, A1.out, D1.out⟩
 | succ n ih =>
  intro l r N w hn hN hl hr hs
  have HL := Lib.hid hl
  have HR := Lib.hid hr
  have HZ := Lib.hid hs
  have I := Lib.hid ih
  clear hl hr ih
  have hh1 := ht_le l
  have hh2 := ht_le r
  have HC : Hid (Chain [w] w) := Lib.hid (Chain.one w)
  by_cases h1 : ht r + 1 < ht l
  · obtain ⟨bl, ll, lk, lv, lr, rfl⟩ := ht_pos (t := l) (by omega)
    have hi1 : ((ht r : Int) + 1) < (ht (.node bl ll lk lv lr) : Int) := by omega
    change Calls _ _ #[.pointer (some ⟨bl, 0, none⟩), .string k, .string v, .pointer (pa r)] w _
    go_enter Tryz.func184, Tryz.ntmps184
    go_wp2_with fail
    refine (pm_HeightS (.node bl ll lk lv lr) _ HL.out).mono ?_
    rintro e w' ⟨rfl, rfl⟩
    go_wp2_with fail
    refine (pm_HeightS r _ HR.out).mono ?_
    rintro e w' ⟨rfl, rfl⟩
    go_wp2_with fail
    refine wp_region_noPanic ?_
    refine wp_region_held_drew (S := fun w' => Below w.heap.size w w') (by kernel_rfl) (Below.refl _ _).drew (fun hS => ?_)
    refine tk (i := 0) (oi := ⟨some 16, _, _, _, _, _⟩) (v := ?_) rfl (Or.inl ⟨by rfl, ?_⟩) hS ?_
    rotate_left 1
    · intro w' hB; (go_simp <;> with_reducible rfl)
    try simp only [Act.put, zA, zB, zC]
    refine tk (i := 1) (oi := ⟨some 17, _, _, _, _, _⟩) (v := ?_) rfl (Or.inl ⟨by rfl, ?_⟩) hS ?_
    rotate_left 1
    · intro w' hB; have hd := (HC.out.to w (by simp)).trans (hB.mono (HC.out.to w (by simp)).size); obtain ⟨x0, x1, x2, x3⟩ := (HL.out.below hd rfl).cellsP (pa ll) (pa lr) rfl rfl; clear hd; (go_simp <;> with_reducible rfl)
    try simp only [Act.put, zA, zB, zC]
    refine tk (i := 2) (oi := ⟨some 18, _, _, _, _, _⟩) (v := ?_) rfl (Or.inl ⟨by rfl, ?_⟩) hS ?_
    rotate_left 1
    · intro w' hB; (go_simp <;> with_reducible rfl)
    try simp only [Act.put, zA, zB, zC]
    refine tk (i := 3) (oi := ⟨some 19, _, _, _, _, _⟩) (v := ?_) rfl (Or.inl ⟨by rfl, ?_⟩) hS ?_
    rotate_left 1
    · intro w' hB; have hd := (HC.out.to w (by simp)).trans (hB.mono (HC.out.to w (by simp)).size); obtain ⟨x0, x1, x2, x3⟩ := (HL.out.below hd rfl).cellsP (pa ll) (pa lr) rfl rfl; clear hd; (go_simp <;> with_reducible rfl)
    try simp only [Act.put, zA, zB, zC]
    refine tk (i := 4) (oi := ⟨some 20, _, _, _, _, _⟩) (v := ?_) rfl (Or.inl ⟨by rfl, ?_⟩) hS ?_
    rotate_left 1
    · intro w' hB; (go_simp <;> with_reducible rfl)
    try simp only [Act.put, zA, zB, zC]
    refine tk (i := 5) (oi := ⟨some 21, _, _, _, _, _⟩) (v := ?_) rfl (Or.inl ⟨by rfl, ?_⟩) hS ?_
    rotate_left 1
    · intro w' hB; have hd := (HC.out.to w (by simp)).trans (hB.mono (HC.out.to w (by simp)).size); obtain ⟨x0, x1, x2, x3⟩ := (HL.out.below hd rfl).cellsP (pa ll) (pa lr) rfl rfl; clear hd; (go_simp <;> with_reducible rfl)
    try simp only [Act.put, zA, zB, zC]
    refine tk (i := 6) (oi := ⟨some 22, _, _, _, _, _⟩) (v := ?_) rfl (Or.inl ⟨by rfl, ?_⟩) hS ?_
    rotate_left 1
    · intro w' hB; (go_simp <;> with_reducible rfl)
    try simp only [Act.put, zA, zB, zC]
    refine tk (i := 7) (oi := ⟨some 23, _, _, _, _, _⟩) (v := ?_) rfl (Or.inl ⟨by rfl, ?_⟩) hS ?_
    rotate_left 1
    · intro w' hB; have hd := (HC.out.to w (by simp)).trans (hB.mono (HC.out.to w (by simp)).size); obtain ⟨x0, x1, x2, x3⟩ := (HL.out.below hd rfl).cellsP (pa ll) (pa lr) rfl rfl; clear hd; (go_simp <;> with_reducible rfl)
    try simp only [Act.put, zA, zB, zC]
    refine tk (i := 8) (oi := ⟨some 24, _, _, _, _, _⟩) (v := ?_) rfl (Or.inl ⟨by rfl, ?_⟩) hS ?_
    rotate_left 1
    · intro w' hB; (go_simp <;> with_reducible rfl)
    try simp only [Act.put, zA, zB, zC]
    refine tk (i := 9) (oi := ⟨some 25, _, _, _, _, _⟩) (v := ?_) rfl (Or.inl ⟨by rfl, ?_⟩) hS ?_
    rotate_left 1
    · intro w' hB; have hd := (HC.out.to w (by simp)).trans (hB.mono (HC.out.to w (by simp)).size); obtain ⟨x0, x1, x2, x3⟩ := (HL.out.below hd rfl).cellsP (pa ll) (pa lr) rfl rfl; clear hd; (go_simp <;> with_reducible rfl)
    try simp only [Act.put, zA, zB, zC]
    refine tk (i := 10) (oi := ⟨some 26, _, _, _, _, _⟩) (v := ?_) rfl (Or.inl ⟨by rfl, ?_⟩) hS ?_
    rotate_left 1
    · intro w' hB; (go_simp <;> with_reducible rfl)
    try simp only [Act.put, zA, zB, zC]
    refine tk (i := 11) (oi := ⟨some 27, _, _, _, _, _⟩) (v := ?_) rfl (Or.inl ⟨by rfl, ?_⟩) hS ?_
    rotate_left 1
    · intro w' hB; have hd := (HC.out.to w (by simp)).trans (hB.mono (HC.out.to w (by simp)).size); obtain ⟨x0, x1, x2, x3⟩ := (HL.out.below hd rfl).cellsP (pa ll) (pa lr) rfl rfl; clear hd; (go_simp <;> with_reducible rfl)
    try simp only [Act.put, zA, zB, zC]
    refine tk (i := 12) (oi := ⟨some 28, _, _, _, _, _⟩) (v := ?_) rfl (Or.inl ⟨by rfl, ?_⟩) hS ?_
    rotate_left 1
    · intro w' hB; (go_simp <;> with_reducible rfl)
    try simp only [Act.put, zA, zB, zC]
    refine tk (i := 13) (oi := ⟨some 29, _, _, _, _, _⟩) (v := ?_) rfl (Or.inl ⟨by rfl, ?_⟩) hS ?_
    rotate_left 1
    · intro w' hB; have hd := (HC.out.to w (by simp)).trans (hB.mono (HC.out.to w (by simp)).size); obtain ⟨x0, x1, x2, x3⟩ := (HL.out.below hd rfl).cellsP (pa ll) (pa lr) rfl rfl; clear hd; (go_simp <;> with_reducible rfl)
    try simp only [Act.put, zA, zB, zC]
    refine tk (i := 14) (oi := ⟨some 30, _, _, _, _, _⟩) (v := ?_) rfl (Or.inl ⟨by rfl, ?_⟩) hS ?_
    rotate_left 1
    · intro w' hB; (go_simp <;> with_reducible rfl)
    try simp only [Act.put, zA, zB, zC]
    refine tk (i := 15) (oi := ⟨some 31, _, _, _, _, _⟩) (v := ?_) rfl (Or.inl ⟨by rfl, ?_⟩) hS ?_
    rotate_left 1
    · intro w' hB; have hd := (HC.out.to w (by simp)).trans (hB.mono (HC.out.to w (by simp)).size); obtain ⟨x0, x1, x2, x3⟩ := (HL.out.below hd rfl).cellsP (pa ll) (pa lr) rfl rfl; clear hd; (go_simp <;> with_reducible rfl)
    try simp only [Act.put, zA, zB, zC]
    refine tk (i := 16) (oi := ⟨some 32, _, _, _, _, _⟩) (v := ?_) rfl (Or.inl ⟨by rfl, ?_⟩) hS ?_
    rotate_left 1
    · intro w' hB; (go_simp <;> with_reducible rfl)
    try simp only [Act.put, zA, zB, zC]
    refine tk (i := 17) (oi := ⟨some 33, _, _, _, _, _⟩) (v := ?_) rfl (Or.inl ⟨by rfl, ?_⟩) hS ?_
    rotate_left 1
    · intro w' hB; (go_simp <;> with_reducible rfl)
    try simp only [Act.put, zA, zB, zC]
    refine tk (i := 18) (oi := ⟨some 34, _, _, _, _, _⟩) (v := ?_) rfl (Or.inl ⟨by rfl, ?_⟩) hS ?_
    rotate_left 1
    · intro w' hB; (go_simp <;> with_reducible rfl)
    try simp only [Act.put, zA, zB, zC]
    refine wpAnyH_ready (rs := [19]) (by kernel_rfl) (by simp) (AllReadyH.cons (o := ⟨some 35, _, _, _, _, _⟩) rfl (fun K hK => ?_) AllReadyH.nil)
    go_simp
    refine (I.out lr r N _ (by simp only [sz] at hn; omega) (Nat.le_trans hN (HC.out.le hS (by simp))) (HL.out.2.2.chain HC.out hS (by simp)) (HR.out.chain HC.out hS (by simp)) (by have := HZ.out; simp only [sz] at this ⊢; omega)).mono ?_
    rintro e p1 ⟨t1, hP, rfl, hA, hb⟩
    refine hK.out _ _ (hS.trans (hb.mono hS.size)) (fun _ => ?_)
    clear hK K
    have hB := hS.trans (hb.mono hS.size)
    refine wpAnyH_now hB ?_
    clear hS
    have hS := Below.refl p1.heap.size p1
    replace HC := Lib.hid (HC.out.push hB)
    have P1 := Lib.hid hP
    have A1 := Lib.hid hA
    clear hP hA
    clear hB hb
    try simp only [Act.put, zA, zB, zC]
    refine wpAnyH_ready (rs := [20]) (by kernel_rfl) (by simp) (AllReadyH.cons (o := ⟨some 36, _, _, _, _, _⟩) rfl (fun K hK => ?_) AllReadyH.nil)
    go_simp
    refine (pm_balancedS N ll t1 lk lv _ (Nat.le_trans hN (HC.out.le hS (by simp))) (HL.out.2.1.chain HC.out hS (by simp)) (A1.out.chain HC.out hS (by simp)) (by have := HZ.out; have := P1.out.szS; simp only [sz] at *; omega)).mono ?_
    rintro e p2 ⟨t', hP, rfl, hA, hb⟩
    refine hK.out _ _ (hS.trans (hb.mono hS.size)) (fun _ => ?_)
    clear hK K
    have hB := hS.trans (hb.mono hS.size)
    refine wpAnyH_now hB ?_
    clear hS
    have hS := Below.refl p2.heap.size p2
    replace HC := Lib.hid (HC.out.push hB)
    have P2 := Lib.hid hP
    have A2 := Lib.hid hA
    clear hP hA
    clear hB hb
    try simp only [Act.put, zA, zB, zC]
    refine tk (i := 21) (oi := ⟨some 8, _, _, _, _, _⟩) (v := ?_) rfl (Or.inl ⟨by rfl, ?_⟩) hS ?_
    rotate_left 1
    · intro w' hB; have hd := (HC.out.to w (by simp)).trans (hB.mono (HC.out.to w (by simp)).size); obtain ⟨x0, x1, x2, x3⟩ := (HL.out.below hd rfl).cellsP (pa ll) (pa lr) rfl rfl; clear hd; (go_simp <;> with_reducible rfl)
    try simp only [Act.put, zA, zB, zC]
    refine wpAnyH_done (by kernel_rfl) (NoPanic.normal ?_) _
    clear hS
    go_wp2_with fail
    go_ret
    exact ⟨_, .left h1 P1.out P2.out, rfl, A2.out, HC.out.to w (by simp)⟩
  · have hi1 : ¬ ((ht r : Int) + 1) < (ht l : Int) := by omega
    by_cases h2 : ht l + 1 < ht r
    · obtain ⟨br, rl, rk, rv, rr, rfl⟩ := ht_pos (t := r) (by omega)
      have hi2 : ((ht l : Int) + 1) < (ht (.node br rl rk rv rr) : Int) := by omega
      change Calls _ _ #[.pointer (pa l), .string k, .string v, .pointer (some ⟨br, 0, none⟩)] w _
      go_enter Tryz.func184, Tryz.ntmps184
      go_wp2_with fail
      refine (pm_HeightS l _ HL.out).mono ?_
      rintro e w' ⟨rfl, rfl⟩
      go_wp2_with fail
      refine (pm_HeightS (.node br rl rk rv rr) _ HR.out).mono ?_
      rintro e w' ⟨rfl, rfl⟩
      go_wp2_with fail
      refine (pm_HeightS (.node br rl rk rv rr) _ HR.out).mono ?_
      rintro e w' ⟨rfl, rfl⟩
      go_wp2_with fail
      refine (pm_HeightS l _ HL.out).mono ?_
      rintro e w' ⟨rfl, rfl⟩
      go_wp2_with fail
      refine wp_region_noPanic ?_
      refine wp_region_held_drew (S := fun w' => Below w.heap.size w w') (by kernel_rfl) (Below.refl _ _).drew (fun hS => ?_)
      refine tk (i := 0) (oi := ⟨some 44, _, _, _, _, _⟩) (v := ?_) rfl (Or.inl ⟨by rfl, ?_⟩) hS ?_
      rotate_left 1
      · intro w' hB; (go_simp <;> with_reducible rfl)
      try simp only [Act.put, zA, zB, zC]
      refine tk (i := 1) (oi := ⟨some 45, _, _, _, _, _⟩) (v := ?_) rfl (Or.inl ⟨by rfl, ?_⟩) hS ?_
      rotate_left 1
      · intro w' hB; (go_simp <;> with_reducible rfl)
      try simp only [Act.put, zA, zB, zC]
      refine tk (i := 2) (oi := ⟨some 46, _, _, _, _, _⟩) (v := ?_) rfl (Or.inl ⟨by rfl, ?_⟩) hS ?_
      rotate_left 1
      · intro w' hB; (go_simp <;> with_reducible rfl)
      try simp only [Act.put, zA, zB, zC]
      refine tk (i := 3) (oi := ⟨some 47, _, _, _, _, _⟩) (v := ?_) rfl (Or.inl ⟨by rfl, ?_⟩) hS ?_
      rotate_left 1
      · intro w' hB; (go_simp <;> with_reducible rfl)
      try simp only [Act.put, zA, zB, zC]
      refine tk (i := 4) (oi := ⟨some 48, _, _, _, _, _⟩) (v := ?_) rfl (Or.inl ⟨by rfl, ?_⟩) hS ?_
      rotate_left 1
      · intro w' hB; have hd := (HC.out.to w (by simp)).trans (hB.mono (HC.out.to w (by simp)).size); obtain ⟨x0, x1, x2, x3⟩ := (HR.out.below hd rfl).cellsP (pa rl) (pa rr) rfl rfl; clear hd; (go_simp <;> with_reducible rfl)
      try simp only [Act.put, zA, zB, zC]
      refine tk (i := 5) (oi := ⟨some 49, _, _, _, _, _⟩) (v := ?_) rfl (Or.inl ⟨by rfl, ?_⟩) hS ?_
      rotate_left 1
      · intro w' hB; (go_simp <;> with_reducible rfl)
      try simp only [Act.put, zA, zB, zC]
      refine tk (i := 6) (oi := ⟨some 50, _, _, _, _, _⟩) (v := ?_) rfl (Or.inl ⟨by rfl, ?_⟩) hS ?_
      rotate_left 1
      · intro w' hB; have hd := (HC.out.to w (by simp)).trans (hB.mono (HC.out.to w (by simp)).size); obtain ⟨x0, x1, x2, x3⟩ := (HR.out.below hd rfl).cellsP (pa rl) (pa rr) rfl rfl; clear hd; (go_simp <;> with_reducible rfl)
      try simp only [Act.put, zA, zB, zC]
      refine tk (i := 8) (oi := ⟨some 52, _, _, _, _, _⟩) (v := ?_) rfl (Or.inl ⟨by rfl, ?_⟩) hS ?_
      rotate_left 1
      · intro w' hB; (go_simp <;> with_reducible rfl)
      try simp only [Act.put, zA, zB, zC]
      refine tk (i := 9) (oi := ⟨some 53, _, _, _, _, _⟩) (v := ?_) rfl (Or.inl ⟨by rfl, ?_⟩) hS ?_
      rotate_left 1
      · intro w' hB; have hd := (HC.out.to w (by simp)).trans (hB.mono (HC.out.to w (by simp)).size); obtain ⟨x0, x1, x2, x3⟩ := (HR.out.below hd rfl).cellsP (pa rl) (pa rr) rfl rfl; clear hd; (go_simp <;> with_reducible rfl)
      try simp only [Act.put, zA, zB, zC]
      refine tk (i := 10) (oi := ⟨some 54, _, _, _, _, _⟩) (v := ?_) rfl (Or.inl ⟨by rfl, ?_⟩) hS ?_
      rotate_left 1
      · intro w' hB; (go_simp <;> with_reducible rfl)
      try simp only [Act.put, zA, zB, zC]
      refine tk (i := 11) (oi := ⟨some 55, _, _, _, _, _⟩) (v := ?_) rfl (Or.inl ⟨by rfl, ?_⟩) hS ?_
      rotate_left 1
      · intro w' hB; have hd := (HC.out.to w (by simp)).trans (hB.mono (HC.out.to w (by simp)).size); obtain ⟨x0, x1, x2, x3⟩ := (HR.out.below hd rfl).cellsP (pa rl) (pa rr) rfl rfl; clear hd; (go_simp <;> with_reducible rfl)
      try simp only [Act.put, zA, zB, zC]
      refine tk (i := 12) (oi := ⟨some 56, _, _, _, _, _⟩) (v := ?_) rfl (Or.inl ⟨by rfl, ?_⟩) hS ?_
      rotate_left 1
      · intro w' hB; (go_simp <;> with_reducible rfl)
      try simp only [Act.put, zA, zB, zC]
      refine tk (i := 13) (oi := ⟨some 57, _, _, _, _, _⟩) (v := ?_) rfl (Or.inl ⟨by rfl, ?_⟩) hS ?_
      rotate_left 1
      · intro w' hB; have hd := (HC.out.to w (by simp)).trans (hB.mono (HC.out.to w (by simp)).size); obtain ⟨x0, x1, x2, x3⟩ := (HR.out.below hd rfl).cellsP (pa rl) (pa rr) rfl rfl; clear hd; (go_simp <;> with_reducible rfl)
      try simp only [Act.put, zA, zB, zC]
      refine tk (i := 14) (oi := ⟨some 58, _, _, _, _, _⟩) (v := ?_) rfl (Or.inl ⟨by rfl, ?_⟩) hS ?_
      rotate_left 1
      · intro w' hB; (go_simp <;> with_reducible rfl)
      try simp only [Act.put, zA, zB, zC]
      refine tk (i := 15) (oi := ⟨some 59, _, _, _, _, _⟩) (v := ?_) rfl (Or.inl ⟨by rfl, ?_⟩) hS ?_
      rotate_left 1
      · intro w' hB; have hd := (HC.out.to w (by simp)).trans (hB.mono (HC.out.to w (by simp)).size); obtain ⟨x0, x1, x2, x3⟩ := (HR.out.below hd rfl).cellsP (pa rl) (pa rr) rfl rfl; clear hd; (go_simp <;> with_reducible rfl)
      try simp only [Act.put, zA, zB, zC]
      refine tk (i := 16) (oi := ⟨some 60, _, _, _, _, _⟩) (v := ?_) rfl (Or.inl ⟨by rfl, ?_⟩) hS ?_
      rotate_left 1
      · intro w' hB; (go_simp <;> with_reducible rfl)
      try simp only [Act.put, zA, zB, zC]
      refine tk (i := 17) (oi := ⟨some 61, _, _, _, _, _⟩) (v := ?_) rfl (Or.inl ⟨by rfl, ?_⟩) hS ?_
      rotate_left 1
      · intro w' hB; have hd := (HC.out.to w (by simp)).trans (hB.mono (HC.out.to w (by simp)).size); obtain ⟨x0, x1, x2, x3⟩ := (HR.out.below hd rfl).cellsP (pa rl) (pa rr) rfl rfl; clear hd; (go_simp <;> with_reducible rfl)
      try simp only [Act.put, zA, zB, zC]
      refine tk (i := 18) (oi := ⟨some 62, _, _, _, _, _⟩) (v := ?_) rfl (Or.inl ⟨by rfl, ?_⟩) hS ?_
      rotate_left 1
      · intro w' hB; (go_simp <;> with_reducible rfl)
      try simp only [Act.put, zA, zB, zC]
      refine tk (i := 19) (oi := ⟨some 63, _, _, _, _, _⟩) (v := ?_) rfl (Or.inl ⟨by rfl, ?_⟩) hS ?_
      rotate_left 1
      · intro w' hB; have hd := (HC.out.to w (by simp)).trans (hB.mono (HC.out.to w (by simp)).size); obtain ⟨x0, x1, x2, x3⟩ := (HR.out.below hd rfl).cellsP (pa rl) (pa rr) rfl rfl; clear hd; (go_simp <;> with_reducible rfl)
      try simp only [Act.put, zA, zB, zC]
      refine wpAnyH_ready (rs := [7]) (by kernel_rfl) (by simp) (AllReadyH.cons (o := ⟨some 51, _, _, _, _, _⟩) rfl (fun K hK => ?_) AllReadyH.nil)
      go_simp
      refine (I.out l rl N _ (by simp only [sz] at hn; omega) (Nat.le_trans hN (HC.out.le hS (by simp))) (HL.out.chain HC.out hS (by simp)) (HR.out.2.1.chain HC.out hS (by simp)) (by have := HZ.out; simp only [sz] at this ⊢; omega)).mono ?_
      rintro e p1 ⟨t1, hP, rfl, hA, hb⟩
      refine hK.out _ _ (hS.trans (hb.mono hS.size)) (fun _ => ?_)
      clear hK K
      have hB := hS.trans (hb.mono hS.size)
      refine wpAnyH_now hB ?_
      clear hS
      have hS := Below.refl p1.heap.size p1
      replace HC := Lib.hid (HC.out.push hB)
      have P1 := Lib.hid hP
      have A1 := Lib.hid hA
      clear hP hA
      clear hB hb
      try simp only [Act.put, zA, zB, zC]
      refine wpAnyH_ready (rs := [20]) (by kernel_rfl) (by simp) (AllReadyH.cons (o := ⟨some 64, _, _, _, _, _⟩) rfl (fun K hK => ?_) AllReadyH.nil)
      go_simp
      refine (pm_balancedS N t1 rr rk rv _ (Nat.le_trans hN (HC.out.le hS (by simp))) (A1.out.chain HC.out hS (by simp)) (HR.out.2.2.chain HC.out hS (by simp)) (by have := HZ.out; have := P1.out.szS; simp only [sz] at *; omega)).mono ?_
      rintro e p2 ⟨t', hP, rfl, hA, hb⟩
      refine hK.out _ _ (hS.trans (hb.mono hS.size)) (fun _ => ?_)
      clear hK K
      have hB := hS.trans (hb.mono hS.size)
      refine wpAnyH_now hB ?_
      clear hS
      have hS := Below.refl p2.heap.size p2
      replace HC := Lib.hid (HC.out.push hB)
      have P2 := Lib.hid hP
      have A2 := Lib.hid hA
      clear hP hA
      clear hB hb
      try simp only [Act.put, zA, zB, zC]
      refine tk (i := 21) (oi := ⟨some 8, _, _, _, _, _⟩) (v := ?_) rfl (Or.inl ⟨by rfl, ?_⟩) hS ?_
      rotate_left 1
      · intro w' hB; have hd := (HC.out.to w (by simp)).trans (hB.mono (HC.out.to w (by simp)).size); obtain ⟨x0, x1, x2, x3⟩ := (HR.out.below hd rfl).cellsP (pa rl) (pa rr) rfl rfl; clear hd; (go_simp <;> with_reducible rfl)
      try simp only [Act.put, zA, zB, zC]
      refine wpAnyH_done (by kernel_rfl) (NoPanic.normal ?_) _
      clear hS
      go_wp2_with fail
      go_ret
      exact ⟨_, .right h2 P1.out P2.out, rfl, A2.out, HC.out.to w (by simp)⟩
    · have hi2 : ¬ ((ht l : Int) + 1) < (ht r : Int) := by omega
      go_enter Tryz.func184, Tryz.ntmps184
      go_wp2_with fail
      refine (pm_HeightS l _ HL.out).mono ?_
      rintro e w' ⟨rfl, rfl⟩
      go_wp2_with fail
      refine (pm_HeightS r _ HR.out).mono ?_
      rintro e w' ⟨rfl, rfl⟩
      go_wp2_with fail
      refine (pm_HeightS r _ HR.out).mono ?_
      rintro e w' ⟨rfl, rfl⟩
      go_wp2_with fail
      refine (pm_HeightS l _ HL.out).mono ?_
      rintro e w' ⟨rfl, rfl⟩
      go_wp2_with fail
      refine (pm_nodeS N l r k v _ hN HL.out HR.out (by have := HZ.out; omega)).mono ?_
      rintro e p1 ⟨b1, hb1, rfl, hA1, hb⟩
      have B1 := Lib.hid hb1
      have A1 := Lib.hid hA1
      have D1 := Lib.hid hb
      clear hb1 hA1 hb
      go_wp2_with fail
      go_ret
      exact ⟨_, .same (by omega) (by omega) B1.out, rfl, A1.out, D1.out⟩
set_option maxRecDepth 100000 in
set_option maxHeartbeats 4000000 in
theorem pm_splitS (k : ByteArray) : ∀ (t : Tr ByteArray) (N : Nat) (w : World), N ≤ w.heap.size → AtS w t → sz t + 2 ≤ 1099511627776 →
 Calls Tryz.prog 181 #[.pointer (pa t), .string k] w fun e w' =>
  ∃ a x c, SplitR N k t a x c ∧ e = .returned (.tuple #[.pointer (pa a), .pointer (pa x), .pointer (pa c)]) ∧ AtS w' a ∧ AtS w' x ∧ AtS w' c ∧ Below w.heap.size w w' := by
 intro t
 induction t with
 | nil =>
  intro N w hN _ _
  change Calls _ _ #[.pointer none, .string k] w _
  go_enter Tryz.func181, Tryz.ntmps181
  go_wp2_with fail
  go_ret3
  exact ⟨.nil, .nil, .nil, .nil, rfl, trivial, trivial, trivial, Below.refl _ _⟩
 | node b l k0 v0 r ih1 ih2 =>
  intro N w hN h hs
  have H := Lib.hid h
  have HZ := Lib.hid hs
  have I1 := Lib.hid ih1
  have I2 := Lib.hid ih2
  obtain ⟨x0, x1, x2, x3⟩ := h.cellsP (pa l) (pa r) rfl rfl
  clear h ih1 ih2
  have HC : Hid (Chain [w] w) := Lib.hid (Chain.one w)
  change Calls _ _ #[.pointer (some ⟨b, 0, none⟩), .string k] w _
  by_cases h1 : klt k k0 = true
  · have hk : Op.bytesLess k.toList k0.toList = true := h1
    go_enter Tryz.func181, Tryz.ntmps181
    go_wp2_with fail
    refine (I1.out N w hN H.out.2.1 (by have := HZ.out; simp only [sz] at this ⊢; omega)).mono ?_
    rintro e p1 ⟨a, x, c, hP, rfl, hA1, hA2, hA3, hb⟩
    have P1 := Lib.hid hP
    have A1 := Lib.hid hA1
    have A2 := Lib.hid hA2
    have A3 := Lib.hid hA3
    replace HC := Lib.hid (HC.out.push hb)
    clear hP hA1 hA2 hA3 hb x0 x1 x2 x3
    go_wp2_with fail
    refine wp_region_noPanic ?_
    refine wp_region_held_drew (S := fun w' => Below p1.heap.size p1 w') (by kernel_rfl) (Below.refl _ _).drew (fun hS => ?_)
    refine tk (i := 0) (oi := ⟨some 33, _, _, _, _, _⟩) (v := ?_) rfl (Or.inl ⟨by rfl, ?_⟩) hS ?_
    rotate_left 1
    · intro w' hB; (go_simp <;> with_reducible rfl)
    try simp only [Act.put, zA, zB, zC]
    refine tk (i := 1) (oi := ⟨some 34, _, _, _, _, _⟩) (v := ?_) rfl (Or.inl ⟨by rfl, ?_⟩) hS ?_
    rotate_left 1
    · intro w' hB; (go_simp <;> with_reducible rfl)
    try simp only [Act.put, zA, zB, zC]
    refine tk (i := 2) (oi := ⟨some 35, _, _, _, _, _⟩) (v := ?_) rfl (Or.inl ⟨by rfl, ?_⟩) hS ?_
    rotate_left 1
    · intro w' hB; (go_simp <;> with_reducible rfl)
    try simp only [Act.put, zA, zB, zC]
    refine tk (i := 3) (oi := ⟨some 36, _, _, _, _, _⟩) (v := ?_) rfl (Or.inl ⟨by rfl, ?_⟩) hS ?_
    rotate_left 1
    · intro w' hB; (go_simp <;> with_reducible rfl)
    try simp only [Act.put, zA, zB, zC]
    refine tk (i := 4) (oi := ⟨some 37, _, _, _, _, _⟩) (v := ?_) rfl (Or.inl ⟨by rfl, ?_⟩) hS ?_
    rotate_left 1
    · intro w' hB; have hd := (HC.out.to w (by simp)).trans (hB.mono (HC.out.to w (by simp)).size); obtain ⟨x0, x1, x2, x3⟩ := (H.out.below hd rfl).cellsP (pa l) (pa r) rfl rfl; clear hd; (go_simp <;> with_reducible rfl)
    try simp only [Act.put, zA, zB, zC]
    refine tk (i := 5) (oi := ⟨some 38, _, _, _, _, _⟩) (v := ?_) rfl (Or.inl ⟨by rfl, ?_⟩) hS ?_
    rotate_left 1
    · intro w' hB; (go_simp <;> with_reducible rfl)
    try simp only [Act.put, zA, zB, zC]
    refine tk (i := 6) (oi := ⟨some 39, _, _, _, _, _⟩) (v := ?_) rfl (Or.inl ⟨by rfl, ?_⟩) hS ?_
    rotate_left 1
    · intro w' hB; have hd := (HC.out.to w (by simp)).trans (hB.mono (HC.out.to w (by simp)).size); obtain ⟨x0, x1, x2, x3⟩ := (H.out.below hd rfl).cellsP (pa l) (pa r) rfl rfl; clear hd; (go_simp <;> with_reducible rfl)
    try simp only [Act.put, zA, zB, zC]
    refine tk (i := 7) (oi := ⟨some 40, _, _, _, _, _⟩) (v := ?_) rfl (Or.inl ⟨by rfl, ?_⟩) hS ?_
    rotate_left 1
    · intro w' hB; (go_simp <;> with_reducible rfl)
    try simp only [Act.put, zA, zB, zC]
    refine tk (i := 8) (oi := ⟨some 41, _, _, _, _, _⟩) (v := ?_) rfl (Or.inl ⟨by rfl, ?_⟩) hS ?_
    rotate_left 1
    · intro w' hB; have hd := (HC.out.to w (by simp)).trans (hB.mono (HC.out.to w (by simp)).size); obtain ⟨x0, x1, x2, x3⟩ := (H.out.below hd rfl).cellsP (pa l) (pa r) rfl rfl; clear hd; (go_simp <;> with_reducible rfl)
    try simp only [Act.put, zA, zB, zC]
    refine tk (i := 9) (oi := ⟨some 42, _, _, _, _, _⟩) (v := ?_) rfl (Or.inl ⟨by rfl, ?_⟩) hS ?_
    rotate_left 1
    · intro w' hB; (go_simp <;> with_reducible rfl)
    try simp only [Act.put, zA, zB, zC]
    refine tk (i := 10) (oi := ⟨some 43, _, _, _, _, _⟩) (v := ?_) rfl (Or.inl ⟨by rfl, ?_⟩) hS ?_
    rotate_left 1
    · intro w' hB; have hd := (HC.out.to w (by simp)).trans (hB.mono (HC.out.to w (by simp)).size); obtain ⟨x0, x1, x2, x3⟩ := (H.out.below hd rfl).cellsP (pa l) (pa r) rfl rfl; clear hd; (go_simp <;> with_reducible rfl)
    try simp only [Act.put, zA, zB, zC]
    refine tk (i := 11) (oi := ⟨some 44, _, _, _, _, _⟩) (v := ?_) rfl (Or.inl ⟨by rfl, ?_⟩) hS ?_
    rotate_left 1
    · intro w' hB; (go_simp <;> with_reducible rfl)
    try simp only [Act.put, zA, zB, zC]
    refine tk (i := 12) (oi := ⟨some 45, _, _, _, _, _⟩) (v := ?_) rfl (Or.inl ⟨by rfl, ?_⟩) hS ?_
    rotate_left 1
    · intro w' hB; have hd := (HC.out.to w (by simp)).trans (hB.mono (HC.out.to w (by simp)).size); obtain ⟨x0, x1, x2, x3⟩ := (H.out.below hd rfl).cellsP (pa l) (pa r) rfl rfl; clear hd; (go_simp <;> with_reducible rfl)
    try simp only [Act.put, zA, zB, zC]
    refine tk (i := 13) (oi := ⟨some 46, _, _, _, _, _⟩) (v := ?_) rfl (Or.inl ⟨by rfl, ?_⟩) hS ?_
    rotate_left 1
    · intro w' hB; (go_simp <;> with_reducible rfl)
    try simp only [Act.put, zA, zB, zC]
    refine tk (i := 14) (oi := ⟨some 47, _, _, _, _, _⟩) (v := ?_) rfl (Or.inl ⟨by rfl, ?_⟩) hS ?_
    rotate_left 1
    · intro w' hB; have hd := (HC.out.to w (by simp)).trans (hB.mono (HC.out.to w (by simp)).size); obtain ⟨x0, x1, x2, x3⟩ := (H.out.below hd rfl).cellsP (pa l) (pa r) rfl rfl; clear hd; (go_simp <;> with_reducible rfl)
    try simp only [Act.put, zA, zB, zC]
    refine wpAnyH_ready (rs := [15]) (by kernel_rfl) (by simp) (AllReadyH.cons (o := ⟨some 48, _, _, _, _, _⟩) rfl (fun K hK => ?_) AllReadyH.nil)
    go_simp
    refine (pm_joinS k0 v0 _ c r N _ (Nat.le_refl _) (Nat.le_trans hN (HC.out.le hS (by simp))) (A3.out.chain HC.out hS (by simp)) (H.out.2.2.chain HC.out hS (by simp)) (by have := HZ.out; have := P1.out.szS; simp only [sz] at *; omega)).mono ?_
    rintro e p2 ⟨t', hP, rfl, hA, hb⟩
    refine hK.out _ _ (hS.trans (hb.mono hS.size)) (fun _ => ?_)
    clear hK K
    have hB := hS.trans (hb.mono hS.size)
    refine wpAnyH_now hB ?_
    clear hS
    have hS := Below.refl p2.heap.size p2
    replace HC := Lib.hid (HC.out.push hB)
    have P2 := Lib.hid hP
    have A4 := Lib.hid hA
    clear hP hA
    clear hB hb
    try simp only [Act.put, zA, zB, zC]
    refine tk (i := 16) (oi := ⟨some 4, _, _, _, _, _⟩) (v := ?_) rfl (Or.inl ⟨by rfl, ?_⟩) hS ?_
    rotate_left 1
    · intro w' hB; have hd := (HC.out.to w (by simp)).trans (hB.mono (HC.out.to w (by simp)).size); obtain ⟨x0, x1, x2, x3⟩ := (H.out.below hd rfl).cellsP (pa l) (pa r) rfl rfl; clear hd; (go_simp <;> with_reducible rfl)
    try simp only [Act.put, zA, zB, zC]
    refine tk (i := 17) (oi := ⟨some 5, _, _, _, _, _⟩) (v := ?_) rfl (Or.inl ⟨by rfl, ?_⟩) hS ?_
    rotate_left 1
    · intro w' hB; have hd := (HC.out.to w (by simp)).trans (hB.mono (HC.out.to w (by simp)).size); obtain ⟨x0, x1, x2, x3⟩ := (H.out.below hd rfl).cellsP (pa l) (pa r) rfl rfl; clear hd; (go_simp <;> with_reducible rfl)
    try simp only [Act.put, zA, zB, zC]
    refine tk (i := 18) (oi := ⟨some 6, _, _, _, _, _⟩) (v := ?_) rfl (Or.inl ⟨by rfl, ?_⟩) hS ?_
    rotate_left 1
    · intro w' hB; have hd := (HC.out.to w (by simp)).trans (hB.mono (HC.out.to w (by simp)).size); obtain ⟨x0, x1, x2, x3⟩ := (H.out.below hd rfl).cellsP (pa l) (pa r) rfl rfl; clear hd; (go_simp <;> with_reducible rfl)
    try simp only [Act.put, zA, zB, zC]
    refine wpAnyH_done (by kernel_rfl) (NoPanic.normal ?_) _
    clear hS
    go_wp2_with fail
    go_ret3
    exact ⟨_, _, _, .lt h1 P1.out P2.out, rfl, A1.out.below (HC.out.to p1 (by simp)) rfl, A2.out.below (HC.out.to p1 (by simp)) rfl, A4.out, HC.out.to w (by simp)⟩
  · by_cases h2 : klt k0 k = true
    · have hk : Op.bytesLess k.toList k0.toList = false := by simpa [klt] using h1
      have hke : (k.toList == k0.toList) = false := by rw [eq_iff]; simp; exact Ne.symm (klt_ne h2)
      go_enter Tryz.func181, Tryz.ntmps181
      go_wp2_with fail
      refine (I2.out N w hN H.out.2.2 (by have := HZ.out; simp only [sz] at this ⊢; omega)).mono ?_
      rintro e p1 ⟨a, x, c, hP, rfl, hA1, hA2, hA3, hb⟩
      have P1 := Lib.hid hP
      have A1 := Lib.hid hA1
      have A2 := Lib.hid hA2
      have A3 := Lib.hid hA3
      replace HC := Lib.hid (HC.out.push hb)
      clear hP hA1 hA2 hA3 hb x0 x1 x2 x3
      go_wp2_with fail
      refine wp_region_noPanic ?_
      refine wp_region_held_drew (S := fun w' => Below p1.heap.size p1 w') (by kernel_rfl) (Below.refl _ _).drew (fun hS => ?_)
      refine tk (i := 0) (oi := ⟨some 66, _, _, _, _, _⟩) (v := ?_) rfl (Or.inl ⟨by rfl, ?_⟩) hS ?_
      rotate_left 1
      · intro w' hB; (go_simp <;> with_reducible rfl)
      try simp only [Act.put, zA, zB, zC]
      refine tk (i := 1) (oi := ⟨some 67, _, _, _, _, _⟩) (v := ?_) rfl (Or.inl ⟨by rfl, ?_⟩) hS ?_
      rotate_left 1
      · intro w' hB; have hd := (HC.out.to w (by simp)).trans (hB.mono (HC.out.to w (by simp)).size); obtain ⟨x0, x1, x2, x3⟩ := (H.out.below hd rfl).cellsP (pa l) (pa r) rfl rfl; clear hd; (go_simp <;> with_reducible rfl)
      try simp only [Act.put, zA, zB, zC]
      refine tk (i := 2) (oi := ⟨some 68, _, _, _, _, _⟩) (v := ?_) rfl (Or.inl ⟨by rfl, ?_⟩) hS ?_
      rotate_left 1
      · intro w' hB; (go_simp <;> with_reducible rfl)
      try simp only [Act.put, zA, zB, zC]
      refine tk (i := 3) (oi := ⟨some 69, _, _, _, _, _⟩) (v := ?_) rfl (Or.inl ⟨by rfl, ?_⟩) hS ?_
      rotate_left 1
      · intro w' hB; have hd := (HC.out.to w (by simp)).trans (hB.mono (HC.out.to w (by simp)).size); obtain ⟨x0, x1, x2, x3⟩ := (H.out.below hd rfl).cellsP (pa l) (pa r) rfl rfl; clear hd; (go_simp <;> with_reducible rfl)
      try simp only [Act.put, zA, zB, zC]
      refine tk (i := 4) (oi := ⟨some 70, _, _, _, _, _⟩) (v := ?_) rfl (Or.inl ⟨by rfl, ?_⟩) hS ?_
      rotate_left 1
      · intro w' hB; (go_simp <;> with_reducible rfl)
      try simp only [Act.put, zA, zB, zC]
      refine tk (i := 5) (oi := ⟨some 71, _, _, _, _, _⟩) (v := ?_) rfl (Or.inl ⟨by rfl, ?_⟩) hS ?_
      rotate_left 1
      · intro w' hB; have hd := (HC.out.to w (by simp)).trans (hB.mono (HC.out.to w (by simp)).size); obtain ⟨x0, x1, x2, x3⟩ := (H.out.below hd rfl).cellsP (pa l) (pa r) rfl rfl; clear hd; (go_simp <;> with_reducible rfl)
      try simp only [Act.put, zA, zB, zC]
      refine tk (i := 6) (oi := ⟨some 72, _, _, _, _, _⟩) (v := ?_) rfl (Or.inl ⟨by rfl, ?_⟩) hS ?_
      rotate_left 1
      · intro w' hB; (go_simp <;> with_reducible rfl)
      try simp only [Act.put, zA, zB, zC]
      refine tk (i := 7) (oi := ⟨some 73, _, _, _, _, _⟩) (v := ?_) rfl (Or.inl ⟨by rfl, ?_⟩) hS ?_
      rotate_left 1
      · intro w' hB; have hd := (HC.out.to w (by simp)).trans (hB.mono (HC.out.to w (by simp)).size); obtain ⟨x0, x1, x2, x3⟩ := (H.out.below hd rfl).cellsP (pa l) (pa r) rfl rfl; clear hd; (go_simp <;> with_reducible rfl)
      try simp only [Act.put, zA, zB, zC]
      refine tk (i := 8) (oi := ⟨some 74, _, _, _, _, _⟩) (v := ?_) rfl (Or.inl ⟨by rfl, ?_⟩) hS ?_
      rotate_left 1
      · intro w' hB; (go_simp <;> with_reducible rfl)
      try simp only [Act.put, zA, zB, zC]
      refine tk (i := 9) (oi := ⟨some 75, _, _, _, _, _⟩) (v := ?_) rfl (Or.inl ⟨by rfl, ?_⟩) hS ?_
      rotate_left 1
      · intro w' hB; have hd := (HC.out.to w (by simp)).trans (hB.mono (HC.out.to w (by simp)).size); obtain ⟨x0, x1, x2, x3⟩ := (H.out.below hd rfl).cellsP (pa l) (pa r) rfl rfl; clear hd; (go_simp <;> with_reducible rfl)
      try simp only [Act.put, zA, zB, zC]
      refine tk (i := 10) (oi := ⟨some 76, _, _, _, _, _⟩) (v := ?_) rfl (Or.inl ⟨by rfl, ?_⟩) hS ?_
      rotate_left 1
      · intro w' hB; (go_simp <;> with_reducible rfl)
      try simp only [Act.put, zA, zB, zC]
      refine tk (i := 11) (oi := ⟨some 77, _, _, _, _, _⟩) (v := ?_) rfl (Or.inl ⟨by rfl, ?_⟩) hS ?_
      rotate_left 1
      · intro w' hB; have hd := (HC.out.to w (by simp)).trans (hB.mono (HC.out.to w (by simp)).size); obtain ⟨x0, x1, x2, x3⟩ := (H.out.below hd rfl).cellsP (pa l) (pa r) rfl rfl; clear hd; (go_simp <;> with_reducible rfl)
      try simp only [Act.put, zA, zB, zC]
      refine tk (i := 12) (oi := ⟨some 78, _, _, _, _, _⟩) (v := ?_) rfl (Or.inl ⟨by rfl, ?_⟩) hS ?_
      rotate_left 1
      · intro w' hB; (go_simp <;> with_reducible rfl)
      try simp only [Act.put, zA, zB, zC]
      refine tk (i := 14) (oi := ⟨some 80, _, _, _, _, _⟩) (v := ?_) rfl (Or.inl ⟨by rfl, ?_⟩) hS ?_
      rotate_left 1
      · intro w' hB; (go_simp <;> with_reducible rfl)
      try simp only [Act.put, zA, zB, zC]
      refine tk (i := 15) (oi := ⟨some 81, _, _, _, _, _⟩) (v := ?_) rfl (Or.inl ⟨by rfl, ?_⟩) hS ?_
      rotate_left 1
      · intro w' hB; (go_simp <;> with_reducible rfl)
      try simp only [Act.put, zA, zB, zC]
      refine wpAnyH_ready (rs := [13]) (by kernel_rfl) (by simp) (AllReadyH.cons (o := ⟨some 79, _, _, _, _, _⟩) rfl (fun K hK => ?_) AllReadyH.nil)
      go_simp
      refine (pm_joinS k0 v0 _ l a N _ (Nat.le_refl _) (Nat.le_trans hN (HC.out.le hS (by simp))) (H.out.2.1.chain HC.out hS (by simp)) (A1.out.chain HC.out hS (by simp)) (by have := HZ.out; have := P1.out.szS; simp only [sz] at *; omega)).mono ?_
      rintro e p2 ⟨t', hP, rfl, hA, hb⟩
      refine hK.out _ _ (hS.trans (hb.mono hS.size)) (fun _ => ?_)
      clear hK K
      have hB := hS.trans (hb.mono hS.size)
      refine wpAnyH_now hB ?_
      clear hS
      have hS := Below.refl p2.heap.size p2
      replace HC := Lib.hid (HC.out.push hB)
      have P2 := Lib.hid hP
      have A4 := Lib.hid hA
      clear hP hA
      clear hB hb
      try simp only [Act.put, zA, zB, zC]
      refine tk (i := 16) (oi := ⟨some 4, _, _, _, _, _⟩) (v := ?_) rfl (Or.inl ⟨by rfl, ?_⟩) hS ?_
      rotate_left 1
      · intro w' hB; have hd := (HC.out.to w (by simp)).trans (hB.mono (HC.out.to w (by simp)).size); obtain ⟨x0, x1, x2, x3⟩ := (H.out.below hd rfl).cellsP (pa l) (pa r) rfl rfl; clear hd; (go_simp <;> with_reducible rfl)
      try simp only [Act.put, zA, zB, zC]
      refine tk (i := 17) (oi := ⟨some 5, _, _, _, _, _⟩) (v := ?_) rfl (Or.inl ⟨by rfl, ?_⟩) hS ?_
      rotate_left 1
      · intro w' hB; have hd := (HC.out.to w (by simp)).trans (hB.mono (HC.out.to w (by simp)).size); obtain ⟨x0, x1, x2, x3⟩ := (H.out.below hd rfl).cellsP (pa l) (pa r) rfl rfl; clear hd; (go_simp <;> with_reducible rfl)
      try simp only [Act.put, zA, zB, zC]
      refine tk (i := 18) (oi := ⟨some 6, _, _, _, _, _⟩) (v := ?_) rfl (Or.inl ⟨by rfl, ?_⟩) hS ?_
      rotate_left 1
      · intro w' hB; have hd := (HC.out.to w (by simp)).trans (hB.mono (HC.out.to w (by simp)).size); obtain ⟨x0, x1, x2, x3⟩ := (H.out.below hd rfl).cellsP (pa l) (pa r) rfl rfl; clear hd; (go_simp <;> with_reducible rfl)
      try simp only [Act.put, zA, zB, zC]
      refine wpAnyH_done (by kernel_rfl) (NoPanic.normal ?_) _
      clear hS
      go_wp2_with fail
      go_ret3
      exact ⟨_, _, _, .gt h2 P1.out P2.out, rfl, A4.out, A2.out.below (HC.out.to p1 (by simp)) rfl, A3.out.below (HC.out.to p1 (by simp)) rfl, HC.out.to w (by simp)⟩
    · obtain rfl := klt_tri (a := k) (b := k0) (by simpa using h1) (by simpa using h2)
      have hk : Op.bytesLess k.toList k.toList = false := klt_irrefl k
      go_enter Tryz.func181, Tryz.ntmps181
      go_wp2_with fail
      clear x0 x1 x2 x3
      refine wp_region_noPanic ?_
      refine wp_region_held_drew (S := fun w' => Below w.heap.size w w') (by kernel_rfl) (Below.refl _ _).drew (fun hS => ?_)
      refine tk (i := 0) (oi := ⟨some 82, _, _, _, _, _⟩) (v := ?_) rfl (Or.inl ⟨by rfl, ?_⟩) hS ?_
      rotate_left 1
      · intro w' hB; (go_simp <;> with_reducible rfl)
      try simp only [Act.put, zA, zB, zC]
      refine tk (i := 1) (oi := ⟨some 83, _, _, _, _, _⟩) (v := ?_) rfl (Or.inl ⟨by rfl, ?_⟩) hS ?_
      rotate_left 1
      · intro w' hB; have hd := (HC.out.to w (by simp)).trans (hB.mono (HC.out.to w (by simp)).size); obtain ⟨x0, x1, x2, x3⟩ := (H.out.below hd rfl).cellsP (pa l) (pa r) rfl rfl; clear hd; (go_simp <;> with_reducible rfl)
      try simp only [Act.put, zA, zB, zC]
      refine tk (i := 2) (oi := ⟨some 84, _, _, _, _, _⟩) (v := ?_) rfl (Or.inl ⟨by rfl, ?_⟩) hS ?_
      rotate_left 1
      · intro w' hB; (go_simp <;> with_reducible rfl)
      try simp only [Act.put, zA, zB, zC]
      refine tk (i := 3) (oi := ⟨some 85, _, _, _, _, _⟩) (v := ?_) rfl (Or.inl ⟨by rfl, ?_⟩) hS ?_
      rotate_left 1
      · intro w' hB; have hd := (HC.out.to w (by simp)).trans (hB.mono (HC.out.to w (by simp)).size); obtain ⟨x0, x1, x2, x3⟩ := (H.out.below hd rfl).cellsP (pa l) (pa r) rfl rfl; clear hd; (go_simp <;> with_reducible rfl)
      try simp only [Act.put, zA, zB, zC]
      refine tk (i := 4) (oi := ⟨some 86, _, _, _, _, _⟩) (v := ?_) rfl (Or.inl ⟨by rfl, ?_⟩) hS ?_
      rotate_left 1
      · intro w' hB; (go_simp <;> with_reducible rfl)
      try simp only [Act.put, zA, zB, zC]
      refine tk (i := 5) (oi := ⟨some 87, _, _, _, _, _⟩) (v := ?_) rfl (Or.inl ⟨by rfl, ?_⟩) hS ?_
      rotate_left 1
      · intro w' hB; (go_simp <;> with_reducible rfl)
      try simp only [Act.put, zA, zB, zC]
      refine tk (i := 6) (oi := ⟨some 88, _, _, _, _, _⟩) (v := ?_) rfl (Or.inl ⟨by rfl, ?_⟩) hS ?_
      rotate_left 1
      · intro w' hB; have hd := (HC.out.to w (by simp)).trans (hB.mono (HC.out.to w (by simp)).size); obtain ⟨x0, x1, x2, x3⟩ := (H.out.below hd rfl).cellsP (pa l) (pa r) rfl rfl; clear hd; (go_simp <;> with_reducible rfl)
      try simp only [Act.put, zA, zB, zC]
      refine tk (i := 7) (oi := ⟨some 89, _, _, _, _, _⟩) (v := ?_) rfl (Or.inl ⟨by rfl, ?_⟩) hS ?_
      rotate_left 1
      · intro w' hB; (go_simp <;> with_reducible rfl)
      try simp only [Act.put, zA, zB, zC]
      refine tk (i := 8) (oi := ⟨some 90, _, _, _, _, _⟩) (v := ?_) rfl (Or.inl ⟨by rfl, ?_⟩) hS ?_
      rotate_left 1
      · intro w' hB; have hd := (HC.out.to w (by simp)).trans (hB.mono (HC.out.to w (by simp)).size); obtain ⟨x0, x1, x2, x3⟩ := (H.out.below hd rfl).cellsP (pa l) (pa r) rfl rfl; clear hd; (go_simp <;> with_reducible rfl)
      try simp only [Act.put, zA, zB, zC]
      refine tk (i := 9) (oi := ⟨some 4, _, _, _, _, _⟩) (v := ?_) rfl (Or.inl ⟨by rfl, ?_⟩) hS ?_
      rotate_left 1
      · intro w' hB; have hd := (HC.out.to w (by simp)).trans (hB.mono (HC.out.to w (by simp)).size); obtain ⟨x0, x1, x2, x3⟩ := (H.out.below hd rfl).cellsP (pa l) (pa r) rfl rfl; clear hd; (go_simp <;> with_reducible rfl)
      try simp only [Act.put, zA, zB, zC]
      refine tk (i := 10) (oi := ⟨some 5, _, _, _, _, _⟩) (v := ?_) rfl (Or.inl ⟨by rfl, ?_⟩) hS ?_
      rotate_left 1
      · intro w' hB; have hd := (HC.out.to w (by simp)).trans (hB.mono (HC.out.to w (by simp)).size); obtain ⟨x0, x1, x2, x3⟩ := (H.out.below hd rfl).cellsP (pa l) (pa r) rfl rfl; clear hd; (go_simp <;> with_reducible rfl)
      try simp only [Act.put, zA, zB, zC]
      refine tk (i := 11) (oi := ⟨some 6, _, _, _, _, _⟩) (v := ?_) rfl (Or.inl ⟨by rfl, ?_⟩) hS ?_
      rotate_left 1
      · intro w' hB; have hd := (HC.out.to w (by simp)).trans (hB.mono (HC.out.to w (by simp)).size); obtain ⟨x0, x1, x2, x3⟩ := (H.out.below hd rfl).cellsP (pa l) (pa r) rfl rfl; clear hd; (go_simp <;> with_reducible rfl)
      try simp only [Act.put, zA, zB, zC]
      refine wpAnyH_done (by kernel_rfl) (NoPanic.normal ?_) _
      go_wp2_with fail
      go_ret3
      exact ⟨_, _, _, .eq rfl, rfl, H.out.2.1.below hS rfl, H.out.below hS rfl, H.out.2.2.below hS rfl, hS⟩
end Go.Proofs.YtjlliohjeiclaaaGreatDoor
namespace Go.Proofs.YtjlliohjeiclaaaGreatDoor
namespace Pm
section
variable {α : Type}
def endL : Tr α → Tr α
 | .nil => .nil
 | .node b .nil k v r => .node b .nil k v r
 | .node _ (.node b' l' k' v' r') _ _ _ => endL (.node b' l' k' v' r')
def endR : Tr α → Tr α
 | .nil => .nil
 | .node b l k v .nil => .node b l k v .nil
 | .node _ _ _ _ (.node b' l' k' v' r') => endR (.node b' l' k' v' r')
def fromL (key : ByteArray) : Tr α → List (ByteArray × α)
 | .nil => []
 | .node _ l k v r => if klt k key then fromL key r else fromL key l ++ (k, v) :: fromL key r
theorem fromL_all (t : Tr α) : fromL ⟨#[]⟩ t = items t := by
 induction t with
 | nil => rfl
 | node b l k v r ih1 ih2 =>
  have : klt k ⟨#[]⟩ = false := by
   cases h : klt k ⟨#[]⟩ with
   | false => rfl
   | true => exact absurd ((klt_iff _ _).1 h) (by simp)
  simp only [fromL, items]
  rw [if_neg (by rw [this]; simp), ih1, ih2]
theorem fromL_filter (key : ByteArray) (t : Tr α) (hs : Srt (items t)) : fromL key t = (items t).filter fun x => !klt x.1 key := by
 induction t with
 | nil => rfl
 | node b l k v r ih1 ih2 =>
  obtain ⟨s1, s2, s3⟩ := srt_append.1 hs
  obtain ⟨s4, s5⟩ := srt_cons.1 s2
  simp only [fromL, items]
  rw [List.filter_append, ih1 s1, ih2 s5]
  by_cases h : klt k key = true
  · rw [if_pos h]
    have e : (items l).filter (fun x => !klt x.1 key) = [] := by
     rw [List.filter_eq_nil_iff]
     intro x hx
     simp [klt_trans (s3 x hx _ List.mem_cons_self) h]
    rw [e, List.filter_cons, if_neg (by simp [h])]; rfl
  · rw [if_neg h, List.filter_cons, if_pos (by simpa using h)]
theorem endL_items : ∀ (t : Tr α), t ≠ .nil → ∃ b l k v r, endL t = .node b l k v r ∧ (items t)[0]? = some (k, v)
 | .nil, h => absurd rfl h
 | .node b .nil k v r, _ => ⟨b, .nil, k, v, r, rfl, rfl⟩
 | .node b (.node b' l' k' v' r') k v r, _ => by
  obtain ⟨b1, l1, k1, v1, r1, h1, h2⟩ := endL_items (.node b' l' k' v' r') (by simp)
  refine ⟨b1, l1, k1, v1, r1, h1, ?_⟩
  rw [items, List.getElem?_append_left (by rw [sz_items]; simp only [sz]; omega)]
  exact h2
theorem endR_items : ∀ (t : Tr α), t ≠ .nil → ∃ b l k v r, endR t = .node b l k v r ∧ (items t)[sz t - 1]? = some (k, v)
 | .nil, h => absurd rfl h
 | .node b l k v .nil, _ => ⟨b, l, k, v, .nil, rfl, by
  rw [items, List.getElem?_append_right (by rw [sz_items]; simp [sz]), sz_items]; simp [sz]⟩
 | .node b l k v (.node b' l' k' v' r'), _ => by
  obtain ⟨b1, l1, k1, v1, r1, h1, h2⟩ := endR_items (.node b' l' k' v' r') (by simp)
  refine ⟨b1, l1, k1, v1, r1, h1, ?_⟩
  have hp : 1 ≤ sz (.node b' l' k' v' r' : Tr α) := by simp [sz]
  generalize (.node b' l' k' v' r' : Tr α) = q at *
  rw [items, List.getElem?_append_right (by rw [sz_items]; simp only [sz]; omega), sz_items]
  rw [show sz (.node b l k v q) - 1 - sz l = (sz q - 1) + 1 by simp only [sz]; omega, List.getElem?_cons_succ]
  exact h2
end
end Pm
end Go.Proofs.YtjlliohjeiclaaaGreatDoor
namespace Go.Proofs.YtjlliohjeiclaaaGreatDoor
open Go.RowKit Pm
def Pm.isNS : Tr ByteArray → Bool
 | .nil => false
 | .node _ _ _ _ _ => true
def hOfS (w : World) (v : Value) : Nat := match v with
 | .pointer (some a) => match w.cell? ⟨a.block, 4, none⟩ with
  | some (.int _ n) => n.toNat
  | _ => 0
 | _ => 0
theorem hOf_atS {w : World} {t : Tr ByteArray} (h : AtS w t) : hOfS w (.pointer (pa t)) = ht t := by
 cases t with
 | nil => rfl
 | node b l k v r =>
  obtain ⟨_, _, _, _, c4, _⟩ := h.cells
  simp [hOfS, pa, c4]
theorem pm_MRootS (t : Tr ByteArray) (w : World) : Calls Tryz.prog 146 #[.agg #[.pointer (pa t)]] w fun e w' => e = .returned (.pointer (pa t)) ∧ Below w.heap.size w w' := by
 go_enter Tryz.func146, Tryz.ntmps146
 go_wp2_with fail
 go_ret
 exact ⟨rfl, below_new _ _⟩
theorem pm_MLenS (t : Tr ByteArray) (w : World) (h : AtS w t) : Calls Tryz.prog 12 #[.agg #[.pointer (pa t)]] w fun e w' => e = .returned (.int .i64 (sz t : Int)) ∧ Below w.heap.size w w' := by
 have H := Lib.hid h; clear h
 go_enter Tryz.func12, Tryz.ntmps12
 go_wp2_with fail
 refine (pm_LenS t _ (H.out.below (below_new _ _) rfl)).mono ?_
 rintro e w' ⟨rfl, rfl⟩
 go_wp2_with fail
 go_ret
 exact ⟨rfl, below_new _ _⟩
theorem infoNodeS : (Tryz.prog.info? 111).map (fun i => i.size) = some 6 := by kernel_rfl
theorem ptr_eqlS (w : World) (t o : Tr ByteArray) (h1 : AtS w t) (h2 : AtS w o) : (binOp .eql 25 (.pointer (pa t)) (.pointer (pa o))).run Tryz.prog w = .ok (.bool (decide (pa t = pa o))) w := by
 have hp := Tryz.underlying25
 obtain ⟨j, hj, hs⟩ : ∃ j, Tryz.prog.info? 111 = some j ∧ j.size = 6 := by
  have h := infoNodeS
  cases hi : Tryz.prog.info? 111 with
  | none => rw [hi] at h; cases h
  | some j => rw [hi] at h; exact ⟨j, rfl, by simpa using h⟩
 cases o with
 | nil =>
  cases t with
  | nil =>
   have h : ∀ d : Nat, (Op.equalIn (d + 1) 25 (.pointer none) (.pointer none)).run Tryz.prog w = .ok true w := fun d => by simp [Op.equalIn, run_underlying hp]
   simp only [binOp, pa]
   simp [Op.equal, Op.maxDepth, h 9999]
  | node b l k v r =>
   have h : ∀ d : Nat, (Op.equalIn (d + 1) 25 (.pointer (some ⟨b, 0, none⟩)) (.pointer none)).run Tryz.prog w = .ok false w := fun d => by simp [Op.equalIn, run_underlying hp]
   simp only [binOp, pa]
   simp [Op.equal, Op.maxDepth, h 9999]
 | node b' l' k' v' r' =>
  cases t with
  | nil =>
   have h : ∀ d : Nat, (Op.equalIn (d + 1) 25 (.pointer none) (.pointer (some ⟨b', 0, none⟩))).run Tryz.prog w = .ok false w := fun d => by simp [Op.equalIn, run_underlying hp]
   simp only [binOp, pa]
   simp [Op.equal, Op.maxDepth, h 9999]
  | node b l k v r =>
   by_cases hb : b = b'
   · subst hb
     have h := run_eql_ptr_same w ⟨b, 0, none⟩ hp hj
     simp only [pa, decide_true]
     exact h
   · have h := run_eql_ptr_other w hp hj (by omega) (a := ⟨b, 0, none⟩) (b := ⟨b', 0, none⟩) (by simp [hb]) h1.1 h2.1
     simp only [pa]
     rw [h]
     simp [hb]
theorem pm_MSameS (t o : Tr ByteArray) (w : World) (h1 : AtS w t) (h2 : AtS w o) : Calls Tryz.prog 55 #[.agg #[.pointer (pa t)], .agg #[.pointer (pa o)]] w fun e w' => e = .returned (.bool (decide (pa t = pa o))) ∧ Below w.heap.size w w' := by
 have hb : Below w.heap.size w ((w.alloc (.cells #[.pointer (pa t)] 27)).alloc (.cells #[.pointer (pa o)] 27)) := (below_new w _).trans ((below_new _ _).mono (by simp))
 have he := ptr_eqlS _ t o (h1.below hb rfl) (h2.below hb rfl)
 clear h1 h2
 have HB := Lib.hid hb
 clear hb
 obtain ⟨q, hq⟩ : ∃ q, decide (pa t = pa o) = q := ⟨_, rfl⟩
 rw [hq] at he
 have HQ := Lib.hid hq
 clear hq
 go_enter Tryz.func55, Tryz.ntmps55
 go_wp2_with fail
 go_ret
 rw [HQ.out]
 exact ⟨rfl, HB.out⟩
theorem pm_toldS (t : Tr ByteArray) (w : World) (h : AtS w t) : Calls Tryz.prog 207 #[.pointer (pa t)] w fun e w' => e = .returned (.tuple #[.string (keyOr t), .string (valOr t), .bool (isNS t)]) ∧ w = w' := by
 have H := Lib.hid h; clear h
 obtain ⟨q, hq⟩ : ∃ q, isNS t = q := ⟨_, rfl⟩
 have hn : (!(pa t).isNone) = q := by rw [← hq]; cases t <;> rfl
 rw [hq]
 have HQ := Lib.hid hq
 clear hq
 go_enter Tryz.func207, Tryz.ntmps207
 go_wp2_with fail
 refine (pm_KeyS t _ H.out).mono ?_
 rintro e w' ⟨rfl, rfl⟩
 go_wp2_with fail
 refine (pm_ValueS t _ H.out).mono ?_
 rintro e w' ⟨rfl, rfl⟩
 go_wp2_with fail
 go_ret3
 exact ⟨rfl, rfl⟩
set_option maxHeartbeats 1000000 in
theorem pm_endLS (t : Tr ByteArray) (w : World) (h : AtS w t) : Calls Tryz.prog 208 #[.pointer (pa t), .func (.func 209) #[] #[]] w fun e w' => e = .returned (.pointer (pa (endL t))) ∧ AtS w' (endL t) ∧ w = w' := by
 have H := Lib.hid h; clear h
 go_enter Tryz.func208, Tryz.ntmps208
 go_wp2_with fail
 go_loopw [0] (fun u wr => ∃ s : Tr ByteArray, u = .pointer (pa s) ∧ Hid (AtS wr s) ∧ Hid (endL s = endL t) ∧ Hid (w = wr)) (fun u wr => hOfS wr u)
 case atStart => exact ⟨t, rfl, H, Lib.hid rfl, Lib.hid rfl⟩
 case round =>
  obtain ⟨s, rfl, HA, HE, HW⟩ := hrel
  cases s with
  | nil =>
   go_wp2_with fail
   refine (pm_LeftS .nil _ HA.out).mono ?_
   rintro e w' ⟨rfl, rfl⟩
   have hpn : pa (leftOr (.nil : Tr ByteArray)) = none := rfl
   go_wp2_with fail
   go_ret
   rw [← HE.out]
   exact ⟨rfl, trivial, HW.out⟩
  | node b l k v r =>
   cases l with
   | nil =>
    go_wp2_with fail
    refine (pm_LeftS (.node b .nil k v r) _ HA.out).mono ?_
    rintro e w' ⟨rfl, rfl⟩
    have hpn : pa (leftOr (.node b .nil k v r : Tr ByteArray)) = none := rfl
    go_wp2_with fail
    go_ret
    rw [← HE.out]
    exact ⟨rfl, HA.out, HW.out⟩
   | node b' l' k' v' r' =>
    go_wp2_with fail
    refine (pm_LeftS (.node b (.node b' l' k' v' r') k v r) _ HA.out).mono ?_
    rintro e w' ⟨rfl, rfl⟩
    have hpn : pa (leftOr (.node b (.node b' l' k' v' r') k v r : Tr ByteArray)) = some ⟨b', 0, none⟩ := rfl
    go_wp2_with fail
    refine (pm_LeftS (.node b (.node b' l' k' v' r') k v r) _ HA.out).mono ?_
    rintro e w' ⟨rfl, rfl⟩
    go_wp2_with fail
    refine ⟨⟨.node b' l' k' v' r', rfl, Lib.hid HA.out.2.1, Lib.hid HE.out, HW⟩, ?_⟩
    rw [hOf_atS HA.out]
    have e : hOfS wr (.pointer (some ⟨b', 0, none⟩)) = ht (.node b' l' k' v' r' : Tr ByteArray) := hOf_atS HA.out.2.1
    rw [e]
    simp only [ht]; omega
set_option maxHeartbeats 1000000 in
theorem pm_endRS (t : Tr ByteArray) (w : World) (h : AtS w t) : Calls Tryz.prog 208 #[.pointer (pa t), .func (.func 210) #[] #[]] w fun e w' => e = .returned (.pointer (pa (endR t))) ∧ AtS w' (endR t) ∧ w = w' := by
 have H := Lib.hid h; clear h
 go_enter Tryz.func208, Tryz.ntmps208
 go_wp2_with fail
 go_loopw [0] (fun u wr => ∃ s : Tr ByteArray, u = .pointer (pa s) ∧ Hid (AtS wr s) ∧ Hid (endR s = endR t) ∧ Hid (w = wr)) (fun u wr => hOfS wr u)
 case atStart => exact ⟨t, rfl, H, Lib.hid rfl, Lib.hid rfl⟩
 case round =>
  obtain ⟨s, rfl, HA, HE, HW⟩ := hrel
  cases s with
  | nil =>
   go_wp2_with fail
   refine (pm_RightS .nil _ HA.out).mono ?_
   rintro e w' ⟨rfl, rfl⟩
   have hpn : pa (rightOr (.nil : Tr ByteArray)) = none := rfl
   go_wp2_with fail
   go_ret
   rw [← HE.out]
   exact ⟨rfl, trivial, HW.out⟩
  | node b l k v r =>
   cases r with
   | nil =>
    go_wp2_with fail
    refine (pm_RightS (.node b l k v .nil) _ HA.out).mono ?_
    rintro e w' ⟨rfl, rfl⟩
    have hpn : pa (rightOr (.node b l k v .nil : Tr ByteArray)) = none := rfl
    go_wp2_with fail
    go_ret
    rw [← HE.out]
    exact ⟨rfl, HA.out, HW.out⟩
   | node b' l' k' v' r' =>
    go_wp2_with fail
    refine (pm_RightS (.node b l k v (.node b' l' k' v' r')) _ HA.out).mono ?_
    rintro e w' ⟨rfl, rfl⟩
    have hpn : pa (rightOr (.node b l k v (.node b' l' k' v' r') : Tr ByteArray)) = some ⟨b', 0, none⟩ := rfl
    go_wp2_with fail
    refine (pm_RightS (.node b l k v (.node b' l' k' v' r')) _ HA.out).mono ?_
    rintro e w' ⟨rfl, rfl⟩
    go_wp2_with fail
    refine ⟨⟨.node b' l' k' v' r', rfl, Lib.hid HA.out.2.2, Lib.hid HE.out, HW⟩, ?_⟩
    rw [hOf_atS HA.out]
    have e : hOfS wr (.pointer (some ⟨b', 0, none⟩)) = ht (.node b' l' k' v' r' : Tr ByteArray) := hOf_atS HA.out.2.2
    rw [e]
    simp only [ht]; omega
theorem AtS.endL {w : World} : ∀ {t : Tr ByteArray}, AtS w t → AtS w (endL t)
 | .nil, _ => trivial
 | .node _ .nil _ _ _, h => h
 | .node _ (.node b l k v r) _ _ _, h => AtS.endL (t := .node b l k v r) h.2.1
theorem AtS.endR {w : World} : ∀ {t : Tr ByteArray}, AtS w t → AtS w (endR t)
 | .nil, _ => trivial
 | .node _ _ _ _ .nil, h => h
 | .node _ _ _ _ (.node b l k v r), h => AtS.endR (t := .node b l k v r) h.2.2
theorem AtS.seek {w : World} {k : ByteArray} : ∀ {t : Tr ByteArray}, AtS w t → AtS w (seek k t)
 | .nil, _ => trivial
 | .node b l k0 v0 r, h => by
  simp only [Pm.seek]
  split
  · exact AtS.seek h.2.1
  · split
    · exact AtS.seek h.2.2
    · exact h
theorem pm_MFirstS (t : Tr ByteArray) (w : World) (h : AtS w t) : Calls Tryz.prog 182 #[.agg #[.pointer (pa t)]] w fun e w' => e = .returned (.tuple #[.string (keyOr (endL t)), .string (valOr (endL t)), .bool (isNS (endL t))]) ∧ Below w.heap.size w w' := by
 have H := Lib.hid (h.below (below_new w (.cells #[.pointer (pa t)] 27)) rfl); clear h
 go_enter Tryz.func182, Tryz.ntmps182
 go_wp2_with fail
 refine (pm_endLS t _ H.out).mono ?_
 rintro e w' ⟨rfl, HE, rfl⟩
 have HE := Lib.hid HE
 go_wp2_with fail
 refine (pm_toldS (endL t) _ HE.out).mono ?_
 rintro e w' ⟨rfl, rfl⟩
 go_wp2_with fail
 go_ret3
 exact ⟨rfl, below_new _ _⟩
theorem pm_MLastS (t : Tr ByteArray) (w : World) (h : AtS w t) : Calls Tryz.prog 183 #[.agg #[.pointer (pa t)]] w fun e w' => e = .returned (.tuple #[.string (keyOr (endR t)), .string (valOr (endR t)), .bool (isNS (endR t))]) ∧ Below w.heap.size w w' := by
 have H := Lib.hid (h.below (below_new w (.cells #[.pointer (pa t)] 27)) rfl); clear h
 go_enter Tryz.func183, Tryz.ntmps183
 go_wp2_with fail
 refine (pm_endRS t _ H.out).mono ?_
 rintro e w' ⟨rfl, HE, rfl⟩
 have HE := Lib.hid HE
 go_wp2_with fail
 refine (pm_toldS (endR t) _ HE.out).mono ?_
 rintro e w' ⟨rfl, rfl⟩
 go_wp2_with fail
 go_ret3
 exact ⟨rfl, below_new _ _⟩
set_option maxHeartbeats 1000000 in
theorem pm_MGetS (t : Tr ByteArray) (k : ByteArray) (w : World) (h : AtS w t) : Calls Tryz.prog 17 #[.agg #[.pointer (pa t)], .string k] w fun e w' => e = .returned (.tuple #[.string (valOr (seek k t)), .bool (isNS (seek k t))]) ∧ Below w.heap.size w w' := by
 have HB := Lib.hid (below_new w (.cells #[.pointer (pa t)] 27))
 have H := Lib.hid (h.below HB.out rfl); clear h
 go_enter Tryz.func17, Tryz.ntmps17
 go_wp2_with fail
 generalize w.alloc (.cells #[.pointer (pa t)] 27) = w1 at *
 go_loopw [6] (fun u wr => ∃ s : Tr ByteArray, u = .pointer (pa s) ∧ Hid (AtS wr s) ∧ Hid (seek k s = seek k t) ∧ Hid (w1 = wr)) (fun u wr => hOfS wr u)
 case atStart => exact ⟨t, rfl, H, Lib.hid rfl, Lib.hid rfl⟩
 case round =>
  obtain ⟨s, rfl, HA, HE, HW⟩ := hrel
  have fin : s = seek k t → Hid (s = seek k t) := Lib.hid
  cases s with
  | nil =>
   have HQ := fin HE.out
   clear fin
   have hpn : pa (.nil : Tr ByteArray) = none := rfl
   go_wp2_with fail
   refine (pm_ValueS .nil _ HA.out).mono ?_
   rintro e w' ⟨rfl, rfl⟩
   go_wp2_with fail
   go_ret2
   rw [← HQ.out, ← HW.out]
   exact ⟨rfl, HB.out⟩
  | node b l k0 v0 r =>
   have hpn : pa (.node b l k0 v0 r : Tr ByteArray) = some ⟨b, 0, none⟩ := rfl
   obtain ⟨x0, x1, x2, x3⟩ := HA.out.cellsP (pa l) (pa r) rfl rfl
   by_cases h0 : k0 = k
   · subst h0
     have HQ := fin (by rw [← HE.out]; simp only [Pm.seek]; rw [klt_irrefl]; simp)
     clear fin
     go_wp2_with fail
     refine (pm_ValueS (.node b l k0 v0 r) _ HA.out).mono ?_
     rintro e w' ⟨rfl, rfl⟩
     go_wp2_with fail
     go_ret2
     rw [← HQ.out, ← HW.out]
     exact ⟨rfl, HB.out⟩
   · have hke : (k0.toList == k.toList) = false := by rw [eq_iff]; simp [h0]
     by_cases h1 : klt k k0 = true
     · have hk : Op.bytesLess k.toList k0.toList = true := h1
       go_wp2_with fail
       refine ⟨⟨l, rfl, Lib.hid HA.out.2.1, Lib.hid ?_, HW⟩, ?_⟩
       · rw [← HE.out]; simp only [Pm.seek]; rw [if_pos h1]
       · rw [hOf_atS HA.out, hOf_atS HA.out.2.1]; simp only [ht]; omega
     · have hk : Op.bytesLess k.toList k0.toList = false := by simpa [klt] using h1
       have h2 : klt k0 k = true := by
        cases h2 : klt k0 k with
        | true => rfl
        | false => exact absurd (klt_tri h2 (by simpa using h1)) h0
       go_wp2_with fail
       refine ⟨⟨r, rfl, Lib.hid HA.out.2.2, Lib.hid ?_, HW⟩, ?_⟩
       · rw [← HE.out]; simp only [Pm.seek]; rw [if_neg h1, if_pos h2]
       · rw [hOf_atS HA.out, hOf_atS HA.out.2.2]; simp only [ht]; omega
theorem pm_MPutS (t : Tr ByteArray) (k : ByteArray) (v : ByteArray) (N : Nat) (w : World) (hN : N ≤ w.heap.size) (h : AtS w t) (hs : sz t + 2 ≤ 1099511627776) : Calls Tryz.prog 16 #[.agg #[.pointer (pa t)], .string k, .string v] w fun e w' =>
 ∃ t', PutR N k v t t' ∧ e = .returned (.agg #[.pointer (pa t')]) ∧ AtS w' t' ∧ Below w.heap.size w w' := by
 obtain ⟨w1, hw1⟩ : ∃ w1, (w.alloc (.cells #[.pointer (pa t)] 27)).alloc (.cells #[.pointer none] 27) = w1 := ⟨_, rfl⟩
 have hb : Below w.heap.size w w1 := by rw [← hw1]; exact ((Below.refl _ w).alloc (Nat.le_refl _) _).alloc (by simp) _
 have h1 : w1.heap[w.heap.size + 1]? = some (.cells #[.pointer none] 27 (0, 0)) := by rw [← hw1]; have := heap_alloc_new (w.alloc (.cells #[.pointer (pa t)] 27)) (.cells #[.pointer none] 27); simpa using this
 have HX := Lib.hid h1
 have H := Lib.hid (h.below hb rfl)
 have HB := Lib.hid hb
 have HW := Lib.hid hw1
 clear h hb hw1 h1
 go_enter Tryz.func16, Tryz.ntmps16
 go_wp2_with fail
 rw [HW.out]
 refine (pm_putS k v t N w1 (Nat.le_trans hN HB.out.size) H.out hs).mono ?_
 rintro e w2 ⟨t', hP, rfl, hA, hb⟩
 have P1 := Lib.hid hP
 have A1 := Lib.hid hA
 have D1 : Hid (Below w.heap.size w w2) := Lib.hid (HB.out.trans (hb.mono HB.out.size))
 have X2 : Hid (w2.heap[w.heap.size + 1]? = some (.cells #[.pointer none] 27 (0, 0))) := Lib.hid (boxStays HX.out hb)
 clear hP hA hb
 have f0 := frozen_of_row _ (w.heap.size + 1) 0 _ _ X2.out
 have k0 := cell_of_one X2.out
 go_wp2_with fail
 have k1 := cell_of_one (heap_setCell_same w2 (w.heap.size + 1) 0 _ _ (.pointer (pa t')) X2.out)
 clear k0 f0
 refine bodyPost_ret (v := .agg #[.pointer (pa t')]) (by simp [results, Tryz.results16, go_sem, k1]) rfl ?_
 exact ⟨_, P1.out, rfl, A1.out.setBox X2.out (by decide) 0 _, D1.out.setCell (p := ⟨w.heap.size + 1, 0, none⟩) (by simp) _⟩
theorem pm_MTakeS (t : Tr ByteArray) (k : ByteArray) (N : Nat) (w : World) (hN : N ≤ w.heap.size) (h : AtS w t) (hs : sz t + 2 ≤ 1099511627776) : Calls Tryz.prog 66 #[.agg #[.pointer (pa t)], .string k] w fun e w' =>
 ∃ t', ((seek k t = .nil ∧ t' = t) ∨ (seek k t ≠ .nil ∧ TakeR N k t t')) ∧ e = .returned (.agg #[.pointer (pa t')]) ∧ AtS w' t' ∧ Below w.heap.size w w' := by
 obtain ⟨w1, hw1⟩ : ∃ w1, (w.alloc (.cells #[.pointer (pa t)] 27)).alloc (.cells #[.pointer none] 27) = w1 := ⟨_, rfl⟩
 have hb : Below w.heap.size w w1 := by rw [← hw1]; exact ((Below.refl _ w).alloc (Nat.le_refl _) _).alloc (by simp) _
 have h0 : w1.heap[w.heap.size]? = some (.cells #[.pointer (pa t)] 27 (0, 0)) := by rw [← hw1]; exact boxStays (heap_alloc_new w _) (below_new _ _)
 have h1 : w1.heap[w.heap.size + 1]? = some (.cells #[.pointer none] 27 (0, 0)) := by rw [← hw1]; have := heap_alloc_new (w.alloc (.cells #[.pointer (pa t)] 27)) (.cells #[.pointer none] 27); simpa using this
 have HX0 := Lib.hid h0
 have HX := Lib.hid h1
 have H := Lib.hid (h.below hb rfl)
 have HB := Lib.hid hb
 have HW := Lib.hid hw1
 clear h hb hw1 h1 h0
 go_enter Tryz.func66, Tryz.ntmps66
 go_wp2_with fail
 rw [HW.out]
 refine (pm_MGetS t k w1 H.out).mono ?_
 rintro e w2 ⟨rfl, hb⟩
 have D1 : Hid (Below w.heap.size w w2) := Lib.hid (HB.out.trans (hb.mono HB.out.size))
 have A1 := Lib.hid (H.out.below hb rfl)
 have X0 := Lib.hid (boxStays HX0.out hb)
 have X2 := Lib.hid (boxStays HX.out hb)
 clear hb H HX0 HX HB HW
 have f0 := frozen_of_row _ (w.heap.size + 1) 0 _ _ X2.out
 have k0 := cell_of_one X2.out
 have k2 := cell_of_one X0.out
 cases hsk : seek k t with
 | nil =>
  have HSK := Lib.hid hsk
  clear hsk
  have hi : isNS (.nil : Tr ByteArray) = false := rfl
  go_wp2_with fail
  have k1 := cell_of_one (heap_setCell_same w2 (w.heap.size + 1) 0 _ _ (.pointer (pa t)) X2.out)
  clear k0 f0 k2
  refine bodyPost_ret (v := .agg #[.pointer (pa t)]) (by simp [results, Tryz.results66, go_sem, k1]) rfl ?_
  exact ⟨_, .inl ⟨HSK.out, rfl⟩, rfl, A1.out.setBox X2.out (by decide) 0 _, D1.out.setCell (p := ⟨w.heap.size + 1, 0, none⟩) (by simp) _⟩
 | node b l k1 v1 r =>
  have HSK : Hid (seek k t ≠ .nil) := Lib.hid (by rw [hsk]; simp)
  clear hsk
  have hi : isNS (.node b l k1 v1 r : Tr ByteArray) = true := rfl
  go_wp2_with fail
  refine (pm_takeS k t N w2 HSK.out (Nat.le_trans hN D1.out.size) A1.out hs).mono ?_
  rintro e w3 ⟨t', hP, rfl, hA, hb⟩
  have P1 := Lib.hid hP
  have A2 := Lib.hid hA
  have D2 : Hid (Below w.heap.size w w3) := Lib.hid (D1.out.trans (hb.mono D1.out.size))
  have X3 := Lib.hid (boxStays X2.out hb)
  clear hP hA hb k0 f0 k2
  have f0 := frozen_of_row _ (w.heap.size + 1) 0 _ _ X3.out
  have k0 := cell_of_one X3.out
  go_wp2_with fail
  have k1 := cell_of_one (heap_setCell_same w3 (w.heap.size + 1) 0 _ _ (.pointer (pa t')) X3.out)
  clear k0 f0
  refine bodyPost_ret (v := .agg #[.pointer (pa t')]) (by simp [results, Tryz.results66, go_sem, k1]) rfl ?_
  exact ⟨_, .inr ⟨HSK.out, P1.out⟩, rfl, A2.out.setBox X3.out (by decide) 0 _, D2.out.setCell (p := ⟨w.heap.size + 1, 0, none⟩) (by simp) _⟩
end Go.Proofs.YtjlliohjeiclaaaGreatDoor
namespace Go.Proofs.YtjlliohjeiclaaaGreatDoor
open Go.RowKit
theorem grown_of_below {w w' : World} (h : Below w.heap.size w w') (row : Option Nat) : w.grownBy w' row := ⟨h.os, h.tape, h.output, h.size, fun k hk _ => h.block k hk⟩
theorem ownFrom_to {β : Type} {B : Nat} {I : β → World → Prop} (h : OwnFrom B I) {s : β} {A A' : World} (hs : I s A) (hb : Below A.heap.size A A') : I s A' :=
 h s A A' none hs (grown_of_below hb none) (fun r e => by cases e)
variable {P : Program} {n : Nat}
end Go.Proofs.YtjlliohjeiclaaaGreatDoor
namespace Go.Proofs.YtjlliohjeiclaaaGreatDoor
open Go.RowKit
def Iter2 {α : Type} (n : Nat) (P : Program) (g : Nat) (lb : Array Value) (encs : α → Array Value) (Kp : World → World → Prop) (X : List α → α → World → Prop) (End : World → List α → World → World → Prop) (Sp : List α → Prop) (w : World) : Prop :=
 ∀ (l : Nat) (J Jx : List α → World → Prop) (W : World), Below w.heap.size w W → w.heap.size + 2 ≤ W.heap.size →
  OwnFrom W.heap.size J → OwnFrom W.heap.size Jx →
  (∀ pre x W1, J pre W1 → X pre x W1 → YieldAt Fence.wide (n - 1) P l (encs x) W1 fun e W' =>
   (e = .returned (.bool true) ∧ J (pre ++ [x]) W' ∧ Kp W1 W') ∨ (e = .returned (.bool false) ∧ Jx (pre ++ [x]) W' ∧ Kp W1 W')) →
  J [] W →
  CallsIn Fence.wide n P g (#[.func (.yield l) #[] #[]] ++ lb) W fun e W' => (∃ v, e = .returned v) ∧ ((∃ xs W2, J xs W2 ∧ End W xs W2 W') ∨ (∃ pre, Sp pre ∧ Jx pre W'))
def bodyPostR2 {α : Type} (B : Nat) (Kp : World → World → Prop) (I : List α → World → Prop) (Ix : Code → List α → World → Prop) (xs : List α) (W : World) : Exit → Act → World → Prop
 | .normal, _, W' => KeepsFrom B W W' ∧ Kp W W' ∧ I xs W'
 | .ret, _, W' => KeepsFrom B W W' ∧ Kp W W' ∧ Ix .ret xs W'
 | .exit id, _, W' => KeepsFrom B W W' ∧ Kp W W' ∧ Ix (.exit id) xs W'
 | .goto t, _, W' => KeepsFrom B W W' ∧ Kp W W' ∧ Ix (.goto t) xs W'
 | .panic _, _, _ => False
 | .outgrown, _, _ => False
variable {P : Program} {n : Nat}
theorem range_law2 {α : Type} {g : Operand} {ps : Array Tmp} {assign body : Code} {Q : Exit → Act → World → Prop} {a : Act} {w : World} {gf : Nat} {lb : Array Value}
 (hg : a.eval g = .func (.func gf) #[] lb) (eg : ∀ args w, (callFunc gf args).run P w = .ok (.enter gf args) w)
 {encs : α → Array Value} {Kp : World → World → Prop} {X : List α → α → World → Prop} {End : World → List α → World → World → Prop} {Sp : List α → Prop} (hseq : Iter2 (n - 1) P gf lb encs Kp X End Sp w)
 (h1 : 1 ≤ n) (hKt : ∀ {A B C : World}, Kp A B → Kp B C → Kp A C) (hKb : ∀ (W : World) (o o' : Obj), W.heap[w.heap.size + 1]? = some o → o.isCells = false → Kp W (W.putObj (w.heap.size + 1) o'))
 (hps : ∀ x, (encs x).size = ps.size) (hX : ∀ pre, OwnFrom w.heap.size (X pre)) (hEnd : ∀ W1, w.heap.size + 2 ≤ W1.heap.size → ∀ xs A B, End W1 xs A B → ∀ k o, k < w.heap.size + 2 → A.heap[k]? = some o → o.isCells = false → B.heap[k]? = some o)
 (I : List α → World → Prop) (Ix : Code → List α → World → Prop) (F : List α → World → Prop) (hI : OwnFrom w.heap.size I) (hIx : ∀ c, OwnFrom w.heap.size (Ix c)) (hF : OwnFrom w.heap.size F) (hIF : ∀ W1, w.heap.size + 2 ≤ W1.heap.size → ∀ xs A B, I xs A → End W1 xs A B → F xs B)
 (h0 : I [] w) (Y : List α → α → Act → World → Prop) (hY : ∀ x a', OwnFrom w.heap.size (fun pre => Y pre x a'))
 (hassign : ∀ (l : Nat) (pre : List α) (x : α) (W : World) (K : Act → World → Prop), I pre W → X pre x W → w.heap.size ≤ W.heap.size →
  (∀ a' W', KeepsFrom w.heap.size W W' → Kp W W' → w.heap.size ≤ W'.heap.size → Y pre x a' W' → K a' W') →
  assign.wpIn (Fence.wide.inRound l) (n - 1 - 1) P (Exit.then K (fun _ _ _ => False)) { tmps := (ps.zip (encs x)).foldl (fun t (p, v) => t.setIfInBounds p v) a.tmps, defers := [] } W)
 (hbody : ∀ (l : Nat) (pre : List α) (x : α) (a' : Act) (W : World), Y pre x a' W → w.heap.size ≤ W.heap.size → body.wpIn (Fence.wide.inRound l) (n - 1 - 1) P (bodyPostR2 w.heap.size Kp I Ix (pre ++ [x]) W) a' W)
 (hdone : ∀ (D : Nat) (xs : List α) (W : World), w.heap.size ≤ D → F xs W → W.heap[D]? = some (.deferred (some [])) → Q .normal { a with defers := { target := .collected D, args := #[] } :: a.defers } W)
 (hstop : ∀ (D : Nat) (c : Code) (pre : List α) (W : World), w.heap.size ≤ D → Sp pre → Ix c pre W → W.heap[D]? = some (.deferred (some [])) → c.wpIn Fence.wide n P Q { a with defers := { target := .collected D, args := #[] } :: a.defers } W) :
 (Code.rangeFunc g ps assign body).wpIn Fence.wide n P Q a w := by
 refine wpIn_rangeFunc fun fn hfn => ?_
 obtain ⟨rec, hrec⟩ : ∃ rec : LoopState → Option Code → Loop, rec = fun st pe => { state := st, pending := pe, fn, tmps := a.tmps, params := ps, assign, body, defers := w.heap.size } := ⟨_, rfl⟩
 obtain ⟨W1, hW1⟩ : ∃ W1, (w.alloc (.deferred (some []))).alloc (.loop (rec .ready none)) = W1 := ⟨_, rfl⟩
 have hb1 : Below w.heap.size w W1 := by
  rw [← hW1]; exact (below_new w _).alloc (by simp) _
 have hL1 : W1.heap[w.heap.size + 1]? = some (.loop (rec .ready none)) := by
  have h := World.alloc_heap_new (w.alloc (.deferred (some []))) (.loop (rec .ready none))
  rw [World.size_alloc, hW1] at h
  exact h
 have hK1 : W1.heap[w.heap.size]? = some (.deferred (some [])) := by
  rw [← hW1]; exact (Below.heap_alloc _ _ _ (by simp)).trans (World.alloc_heap_new w _)
 refine ⟨w.heap.size + 1, [{ target := .collected w.heap.size, args := #[] }], W1, { target := .fn (.func gf) lb, args := #[.func (.yield (w.heap.size + 1)) #[] #[]] }, W1, gf,
  #[.func (.yield (w.heap.size + 1)) #[] #[]] ++ lb, W1, ?_, ?_, ?_, ?_, fun _ => h1, ?_⟩
 · rw [← hW1, hrec]; exact run_enterLoop_outer _ _ _ _ _
 · simp only [resolve, hg]
   simp [go_sem]
 · intro f' _; trivial
 · simp [invoke, go_sem, eg]
 · have keepRec : ∀ {A B : World} {k : Nat} {o : Obj}, A.heap[k]? = some o → Below A.heap.size A B → B.heap[k]? = some o := fun hk hb => (hb.block _ (Array.getElem?_eq_some_iff.1 hk).1).trans hk
   have hsz1 : W1.heap.size = w.heap.size + 2 := by rw [← hW1]; simp
   have key : ∀ {A A' : World} {row : Option Nat}, A.grownBy A' row → (∀ r, row = some r → W1.heap.size ≤ r ∧ ∃ o : Obj, A.heap[r]? = some o ∧ o.isCells = false) → ∀ k o, A.heap[k]? = some o → k < W1.heap.size → A'.heap[k]? = some o := fun hg hr k o hk hlt => (hg.block k (Array.getElem?_eq_some_iff.1 hk).1 (fun e => by have := (hr k e.symm).1; omega)).trans hk
   have hJo : OwnFrom W1.heap.size (fun pre W => I pre W ∧ W.heap[w.heap.size + 1]? = some (.loop (rec .ready none)) ∧ W.heap[w.heap.size]? = some (.deferred (some []))) := by
    rintro s A A' row ⟨h1, h2, h3⟩ hg hr
    exact ⟨hI s A A' row h1 hg (fun r e => ⟨by have := (hr r e).1; omega, (hr r e).2⟩), key hg hr _ _ h2 (by omega), key hg hr _ _ h3 (by omega)⟩
   have hJxo : OwnFrom W1.heap.size (fun pre W => ∃ c, Ix c pre W ∧ W.heap[w.heap.size + 1]? = some (.loop (rec .done (some c))) ∧ W.heap[w.heap.size]? = some (.deferred (some []))) := by
    rintro s A A' row ⟨c, h1, h2, h3⟩ hg hr
    exact ⟨c, hIx c s A A' row h1 hg (fun r e => ⟨by have := (hr r e).1; omega, (hr r e).2⟩), key hg hr _ _ h2 (by omega), key hg hr _ _ h3 (by omega)⟩
   refine (hseq (w.heap.size + 1)
    (fun pre W => I pre W ∧ W.heap[w.heap.size + 1]? = some (.loop (rec .ready none)) ∧ W.heap[w.heap.size]? = some (.deferred (some [])))
    (fun pre W => ∃ c, Ix c pre W ∧ W.heap[w.heap.size + 1]? = some (.loop (rec .done (some c))) ∧ W.heap[w.heap.size]? = some (.deferred (some [])))
    W1 hb1 (by omega) hJo hJxo ?_ ⟨ownFrom_to hI h0 hb1, hL1, hK1⟩).mono ?_
   · rintro pre x W ⟨hi, hl, hk⟩ hx
     have hlt : w.heap.size + 1 < W.heap.size := (Array.getElem?_eq_some_iff.1 hl).1
     have hy := run_yield (P := P) (args := encs x) hl (by rw [hrec]; exact hps x)
     rw [hrec] at hy
     refine ⟨fn, _, assign, body, hy, roundIn_of_wpIn hfn (hassign _ pre x W _ hi hx (by omega) ?_)⟩
     intro a' Wa hkoa hkpa hsa hYa
     have hla := hkoa.same _ _ (by omega) hl rfl
     have hka := hkoa.same _ _ (by omega) hk rfl
     have hlta : w.heap.size + 1 < Wa.heap.size := (Array.getElem?_eq_some_iff.1 hla).1
     refine ⟨_, run_beginRound hla (by rw [hrec]), ?_⟩
     obtain ⟨W2, hW2⟩ : ∃ W2, Wa.putObj (w.heap.size + 1) (.loop { rec .ready none with state := .busy }) = W2 := ⟨_, rfl⟩
     have hl2 : W2.heap[w.heap.size + 1]? = some (.loop { rec .ready none with state := .busy }) := by rw [← hW2]; exact World.putObj_heap_same hlta
     have hk2 : W2.heap[w.heap.size]? = some (.deferred (some [])) := by rw [← hW2]; exact (World.putObj_heap_other (by omega)).trans hka
     have hw2 : Kp W W2 := by rw [← hW2]; exact hKt hkpa (hKb _ _ _ hla rfl)
     have hY2 : Y pre x a' W2 := by rw [← hW2]; exact (hY x a').putObj _ hYa (by omega) hla rfl
     have hs2 : w.heap.size ≤ W2.heap.size := by rw [← hW2, World.putObj_size]; omega
     rw [hW2]
     refine wpIn_mono (hbody _ pre x a' _ hY2 hs2) ?_
     have fin : ∀ (jump : Option Code) (W3 : World), KeepsFrom w.heap.size W2 W3 →
      (Instr.endRound (w.heap.size + 1) jump).run P W3 = .ok (.bool jump.isNone) (W3.putObj (w.heap.size + 1) (.loop (rec (if jump.isNone then .ready else .done) jump))) ∧
      W3.heap[w.heap.size + 1]? = some (.loop { rec .ready none with state := .busy }) ∧
      (W3.putObj (w.heap.size + 1) (.loop (rec (if jump.isNone then .ready else .done) jump))).heap[w.heap.size + 1]? = some (.loop (rec (if jump.isNone then .ready else .done) jump)) ∧
      (W3.putObj (w.heap.size + 1) (.loop (rec (if jump.isNone then .ready else .done) jump))).heap[w.heap.size]? = some (.deferred (some [])) := by
      intro jump W3 hk3
      have hl3 := hk3.same _ _ (by omega) hl2 rfl
      have h4 := run_endRound (P := P) jump hl3
      rw [hrec] at h4 ⊢
      rw [hrec] at hl3
      exact ⟨h4, hl3, World.putObj_heap_same (Array.getElem?_eq_some_iff.1 hl3).1, (World.putObj_heap_other (by omega)).trans (hk3.same _ _ (by omega) hk2 rfl)⟩
     rintro e a3 W3 hp
     cases e with
     | normal =>
      obtain ⟨hk3, hkp3, hi3⟩ := hp
      obtain ⟨hr, hl3, hl4, hk4⟩ := fin none W3 hk3
      exact ⟨_, _, hr, .inl ⟨rfl, ⟨hI.putObj _ hi3 (by omega) hl3 rfl, hl4, hk4⟩, hKt (hKt hw2 hkp3) (hKb _ _ _ hl3 rfl)⟩⟩
     | ret =>
      obtain ⟨hk3, hkp3, hi3⟩ := hp
      obtain ⟨hr, hl3, hl4, hk4⟩ := fin (some .ret) W3 hk3
      exact ⟨_, _, hr, .inr ⟨rfl, ⟨.ret, (hIx _).putObj _ hi3 (by omega) hl3 rfl, hl4, hk4⟩, hKt (hKt hw2 hkp3) (hKb _ _ _ hl3 rfl)⟩⟩
     | exit id =>
      obtain ⟨hk3, hkp3, hi3⟩ := hp
      obtain ⟨hr, hl3, hl4, hk4⟩ := fin (some (.exit id)) W3 hk3
      exact ⟨_, _, hr, .inr ⟨rfl, ⟨.exit id, (hIx _).putObj _ hi3 (by omega) hl3 rfl, hl4, hk4⟩, hKt (hKt hw2 hkp3) (hKb _ _ _ hl3 rfl)⟩⟩
     | goto t =>
      obtain ⟨hk3, hkp3, hi3⟩ := hp
      obtain ⟨hr, hl3, hl4, hk4⟩ := fin (some (.goto t)) W3 hk3
      exact ⟨_, _, hr, .inr ⟨rfl, ⟨.goto t, (hIx _).putObj _ hi3 (by omega) hl3 rfl, hl4, hk4⟩, hKt (hKt hw2 hkp3) (hKb _ _ _ hl3 rfl)⟩⟩
     | panic ch => exact hp.elim
     | outgrown => exact hp.elim
   · rintro e W2 ⟨⟨v, rfl⟩, (⟨xs, W3, ⟨hi, hl, hk⟩, he⟩ | ⟨pre, hSp, c, hi, hl, hk⟩)⟩
     · have ho := hEnd _ (by omega) _ _ _ he
       have hl3 := ho _ _ (by omega) hl rfl
       have hk3 := ho _ _ (by omega) hk rfl
       exact ⟨none, _, by have h4 := run_endLoop (P := P) hl3 (by rw [hrec]; simp); rw [hrec] at h4; exact h4, hdone _ xs _ (Nat.le_refl _) (hF.putObj _ (hIF _ (by omega) _ _ _ hi he) (by omega) hl3 rfl) ((World.putObj_heap_other (by omega)).trans hk3)⟩
     · exact ⟨some c, _, by have h4 := run_endLoop (P := P) hl (by rw [hrec]; simp); rw [hrec] at h4; exact h4, hstop _ c pre _ (Nat.le_refl _) hSp ((hIx c).putObj _ hi (by omega) hl rfl) ((World.putObj_heap_other (by omega)).trans hk)⟩
end Go.Proofs.YtjlliohjeiclaaaGreatDoor
