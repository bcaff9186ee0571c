/- Words, contracts and walks that the proof stands on (PmW3S PmW4S PmW5S Tr2 PmW6S Range). -/
import Derived.LaidEqlPtr
import Derived.Laws.Cover1
import Derived.OneCell
import Derived.RangeFuncBound
import Derived.RangeFuncCalls
import Derived.RangeFuncFrom
import Derived.RangeFuncLeaves
import Derived.RangeFuncNested
import Derived.Test.YtjlliohjeiclaaaGreatDoorKF1
import Derived.Test.YtjlliohjeiclaaaGreatDoorKF4
import Derived.Test.YtjlliohjeiclaaaGreatDoorKF9
import Derived.WalkKit
namespace Go.Proofs.YtjlliohjeiclaaaGreatDoor
open Go.RowKit Pm
theorem Pm.PutR.sz_leS {N : Nat} {k : ByteArray} {v : ByteArray} {t t' : Tr ByteArray} (h : PutR N k v t t') : sz t' ≤ sz t + 1 := by
 induction h with
 | nil => simp [sz]
 | lt h1 h2 h3 ih => rw [h3.sz]; simp only [sz]; omega
 | gt h1 h2 h3 ih => rw [h3.sz]; simp only [sz]; omega
 | eq h1 h2 => simp [sz]
set_option maxRecDepth 100000 in
set_option maxHeartbeats 4000000 in
theorem pm_putS (k : ByteArray) (v : ByteArray) : ∀ (t : Tr ByteArray) (N : Nat) (w : World), N ≤ w.heap.size → AtS w t → sz t + 2 ≤ 1099511627776 →
 Calls Tryz.prog 56 #[.pointer (pa t), .string k, .string v] w fun e w' =>
  ∃ t', PutR N k v t t' ∧ e = .returned (.pointer (pa t')) ∧ AtS w' t' ∧ Below w.heap.size w w' := by
 intro t
 induction t with
 | nil =>
  intro N w hN _ _
  change Calls _ _ #[.pointer none, .string k, .string v] w _
  go_enter Tryz.func56, Tryz.ntmps56
  go_wp2_with fail
  refine (pm_nodeS N .nil .nil k v _ hN trivial trivial (by simp [sz])).mono ?_
  rintro e p1 ⟨b1, hb1, rfl, hA1, hb⟩
  have B1 := Lib.hid hb1
  have A1 := Lib.hid hA1
  have D1 := Lib.hid hb
  clear hb1 hA1 hb
  go_wp2_with fail
  go_ret
  exact ⟨_, .nil B1.out, rfl, A1.out, D1.out⟩
 | node b l k0 v0 r ih1 ih2 =>
  intro N w hN h hs
  have H := Lib.hid h
  have HZ := Lib.hid hs
  have I1 := Lib.hid ih1
  have I2 := Lib.hid ih2
  obtain ⟨x0, x1, x2, x3⟩ := h.cellsP (pa l) (pa r) rfl rfl
  clear h ih1 ih2
  have HC : Hid (Chain [w] w) := Lib.hid (Chain.one w)
  change Calls _ _ #[.pointer (some ⟨b, 0, none⟩), .string k, .string v] w _
  by_cases h1 : klt k k0 = true
  · have hk : Op.bytesLess k.toList k0.toList = true := h1
    go_enter Tryz.func56, Tryz.ntmps56
    go_wp2_with fail
    clear x0 x1 x2 x3
    refine wp_region_noPanic ?_
    refine wp_region_held_drew (S := fun w' => Below w.heap.size w w') (by kernel_rfl) (Below.refl _ _).drew (fun hS => ?_)
    refine tk (i := 0) (oi := ⟨some 20, _, _, _, _, _⟩) (v := ?_) rfl (Or.inl ⟨by rfl, ?_⟩) hS ?_
    rotate_left 1
    · intro w' hB; (go_simp <;> with_reducible rfl)
    try simp only [Act.put, zA, zB, zC]
    refine tk (i := 1) (oi := ⟨some 21, _, _, _, _, _⟩) (v := ?_) rfl (Or.inl ⟨by rfl, ?_⟩) hS ?_
    rotate_left 1
    · intro w' hB; have hd := (HC.out.to w (by simp)).trans (hB.mono (HC.out.to w (by simp)).size); obtain ⟨x0, x1, x2, x3⟩ := (H.out.below hd rfl).cellsP (pa l) (pa r) rfl rfl; clear hd; (go_simp <;> with_reducible rfl)
    try simp only [Act.put, zA, zB, zC]
    refine tk (i := 2) (oi := ⟨some 22, _, _, _, _, _⟩) (v := ?_) rfl (Or.inl ⟨by rfl, ?_⟩) hS ?_
    rotate_left 1
    · intro w' hB; (go_simp <;> with_reducible rfl)
    try simp only [Act.put, zA, zB, zC]
    refine tk (i := 3) (oi := ⟨some 23, _, _, _, _, _⟩) (v := ?_) rfl (Or.inl ⟨by rfl, ?_⟩) hS ?_
    rotate_left 1
    · intro w' hB; have hd := (HC.out.to w (by simp)).trans (hB.mono (HC.out.to w (by simp)).size); obtain ⟨x0, x1, x2, x3⟩ := (H.out.below hd rfl).cellsP (pa l) (pa r) rfl rfl; clear hd; (go_simp <;> with_reducible rfl)
    try simp only [Act.put, zA, zB, zC]
    refine tk (i := 4) (oi := ⟨some 24, _, _, _, _, _⟩) (v := ?_) rfl (Or.inl ⟨by rfl, ?_⟩) hS ?_
    rotate_left 1
    · intro w' hB; (go_simp <;> with_reducible rfl)
    try simp only [Act.put, zA, zB, zC]
    refine tk (i := 5) (oi := ⟨some 25, _, _, _, _, _⟩) (v := ?_) rfl (Or.inl ⟨by rfl, ?_⟩) hS ?_
    rotate_left 1
    · intro w' hB; (go_simp <;> with_reducible rfl)
    try simp only [Act.put, zA, zB, zC]
    refine tk (i := 7) (oi := ⟨some 27, _, _, _, _, _⟩) (v := ?_) rfl (Or.inl ⟨by rfl, ?_⟩) hS ?_
    rotate_left 1
    · intro w' hB; (go_simp <;> with_reducible rfl)
    try simp only [Act.put, zA, zB, zC]
    refine tk (i := 8) (oi := ⟨some 28, _, _, _, _, _⟩) (v := ?_) rfl (Or.inl ⟨by rfl, ?_⟩) hS ?_
    rotate_left 1
    · intro w' hB; have hd := (HC.out.to w (by simp)).trans (hB.mono (HC.out.to w (by simp)).size); obtain ⟨x0, x1, x2, x3⟩ := (H.out.below hd rfl).cellsP (pa l) (pa r) rfl rfl; clear hd; (go_simp <;> with_reducible rfl)
    try simp only [Act.put, zA, zB, zC]
    refine tk (i := 9) (oi := ⟨some 29, _, _, _, _, _⟩) (v := ?_) rfl (Or.inl ⟨by rfl, ?_⟩) hS ?_
    rotate_left 1
    · intro w' hB; (go_simp <;> with_reducible rfl)
    try simp only [Act.put, zA, zB, zC]
    refine tk (i := 10) (oi := ⟨some 30, _, _, _, _, _⟩) (v := ?_) rfl (Or.inl ⟨by rfl, ?_⟩) hS ?_
    rotate_left 1
    · intro w' hB; have hd := (HC.out.to w (by simp)).trans (hB.mono (HC.out.to w (by simp)).size); obtain ⟨x0, x1, x2, x3⟩ := (H.out.below hd rfl).cellsP (pa l) (pa r) rfl rfl; clear hd; (go_simp <;> with_reducible rfl)
    try simp only [Act.put, zA, zB, zC]
    refine tk (i := 11) (oi := ⟨some 31, _, _, _, _, _⟩) (v := ?_) rfl (Or.inl ⟨by rfl, ?_⟩) hS ?_
    rotate_left 1
    · intro w' hB; (go_simp <;> with_reducible rfl)
    try simp only [Act.put, zA, zB, zC]
    refine tk (i := 12) (oi := ⟨some 32, _, _, _, _, _⟩) (v := ?_) rfl (Or.inl ⟨by rfl, ?_⟩) hS ?_
    rotate_left 1
    · intro w' hB; have hd := (HC.out.to w (by simp)).trans (hB.mono (HC.out.to w (by simp)).size); obtain ⟨x0, x1, x2, x3⟩ := (H.out.below hd rfl).cellsP (pa l) (pa r) rfl rfl; clear hd; (go_simp <;> with_reducible rfl)
    try simp only [Act.put, zA, zB, zC]
    refine tk (i := 13) (oi := ⟨some 33, _, _, _, _, _⟩) (v := ?_) rfl (Or.inl ⟨by rfl, ?_⟩) hS ?_
    rotate_left 1
    · intro w' hB; (go_simp <;> with_reducible rfl)
    try simp only [Act.put, zA, zB, zC]
    refine tk (i := 14) (oi := ⟨some 34, _, _, _, _, _⟩) (v := ?_) rfl (Or.inl ⟨by rfl, ?_⟩) hS ?_
    rotate_left 1
    · intro w' hB; have hd := (HC.out.to w (by simp)).trans (hB.mono (HC.out.to w (by simp)).size); obtain ⟨x0, x1, x2, x3⟩ := (H.out.below hd rfl).cellsP (pa l) (pa r) rfl rfl; clear hd; (go_simp <;> with_reducible rfl)
    try simp only [Act.put, zA, zB, zC]
    refine tk (i := 15) (oi := ⟨some 35, _, _, _, _, _⟩) (v := ?_) rfl (Or.inl ⟨by rfl, ?_⟩) hS ?_
    rotate_left 1
    · intro w' hB; (go_simp <;> with_reducible rfl)
    try simp only [Act.put, zA, zB, zC]
    refine tk (i := 16) (oi := ⟨some 36, _, _, _, _, _⟩) (v := ?_) rfl (Or.inl ⟨by rfl, ?_⟩) hS ?_
    rotate_left 1
    · intro w' hB; have hd := (HC.out.to w (by simp)).trans (hB.mono (HC.out.to w (by simp)).size); obtain ⟨x0, x1, x2, x3⟩ := (H.out.below hd rfl).cellsP (pa l) (pa r) rfl rfl; clear hd; (go_simp <;> with_reducible rfl)
    try simp only [Act.put, zA, zB, zC]
    refine tk (i := 17) (oi := ⟨some 37, _, _, _, _, _⟩) (v := ?_) rfl (Or.inl ⟨by rfl, ?_⟩) hS ?_
    rotate_left 1
    · intro w' hB; (go_simp <;> with_reducible rfl)
    try simp only [Act.put, zA, zB, zC]
    refine tk (i := 18) (oi := ⟨some 38, _, _, _, _, _⟩) (v := ?_) rfl (Or.inl ⟨by rfl, ?_⟩) hS ?_
    rotate_left 1
    · intro w' hB; have hd := (HC.out.to w (by simp)).trans (hB.mono (HC.out.to w (by simp)).size); obtain ⟨x0, x1, x2, x3⟩ := (H.out.below hd rfl).cellsP (pa l) (pa r) rfl rfl; clear hd; (go_simp <;> with_reducible rfl)
    try simp only [Act.put, zA, zB, zC]
    refine wpAnyH_ready (rs := [6]) (by kernel_rfl) (by simp) (AllReadyH.cons (o := ⟨some 26, _, _, _, _, _⟩) rfl (fun K hK => ?_) AllReadyH.nil)
    go_simp
    refine (I1.out N _ (Nat.le_trans hN (HC.out.le hS (by simp))) (H.out.2.1.chain HC.out hS (by simp)) (by have := HZ.out; simp only [sz] at this ⊢; omega)).mono ?_
    rintro e p1 ⟨l', hP, rfl, hA, hb⟩
    refine hK.out _ _ (hS.trans (hb.mono hS.size)) (fun _ => ?_)
    clear hK K
    have hB := hS.trans (hb.mono hS.size)
    refine wpAnyH_now hB ?_
    clear hS
    have hS := Below.refl p1.heap.size p1
    replace HC := Lib.hid (HC.out.push hB)
    have P1 := Lib.hid hP
    have A1 := Lib.hid hA
    clear hP hA
    clear hB hb
    try simp only [Act.put, zA, zB, zC]
    refine wpAnyH_ready (rs := [19]) (by kernel_rfl) (by simp) (AllReadyH.cons (o := ⟨some 39, _, _, _, _, _⟩) rfl (fun K hK => ?_) AllReadyH.nil)
    go_simp
    refine (pm_balancedS N l' r k0 v0 _ (Nat.le_trans hN (HC.out.le hS (by simp))) (A1.out.chain HC.out hS (by simp)) (H.out.2.2.chain HC.out hS (by simp)) (by have := HZ.out; have := P1.out.sz_leS; simp only [sz] at *; omega)).mono ?_
    rintro e p2 ⟨t', hP, rfl, hA, hb⟩
    refine hK.out _ _ (hS.trans (hb.mono hS.size)) (fun _ => ?_)
    clear hK K
    have hB := hS.trans (hb.mono hS.size)
    refine wpAnyH_now hB ?_
    clear hS
    have hS := Below.refl p2.heap.size p2
    replace HC := Lib.hid (HC.out.push hB)
    have P2 := Lib.hid hP
    have A2 := Lib.hid hA
    clear hP hA
    clear hB hb
    try simp only [Act.put, zA, zB, zC]
    refine tk (i := 20) (oi := ⟨some 6, _, _, _, _, _⟩) (v := ?_) rfl (Or.inl ⟨by rfl, ?_⟩) hS ?_
    rotate_left 1
    · intro w' hB; have hd := (HC.out.to w (by simp)).trans (hB.mono (HC.out.to w (by simp)).size); obtain ⟨x0, x1, x2, x3⟩ := (H.out.below hd rfl).cellsP (pa l) (pa r) rfl rfl; clear hd; (go_simp <;> with_reducible rfl)
    try simp only [Act.put, zA, zB, zC]
    refine wpAnyH_done (by kernel_rfl) (NoPanic.normal ?_) _
    clear hS
    go_wp2_with fail
    go_ret
    exact ⟨_, .lt h1 P1.out P2.out, rfl, A2.out, HC.out.to w (by simp)⟩
  · by_cases h2 : klt k0 k = true
    · have hk : Op.bytesLess k.toList k0.toList = false := by simpa [klt] using h1
      have hke : (k.toList == k0.toList) = false := by rw [eq_iff]; simp; exact Ne.symm (klt_ne h2)
      go_enter Tryz.func56, Tryz.ntmps56
      go_wp2_with fail
      clear x0 x1 x2 x3
      refine wp_region_noPanic ?_
      refine wp_region_held_drew (S := fun w' => Below w.heap.size w w') (by kernel_rfl) (Below.refl _ _).drew (fun hS => ?_)
      refine tk (i := 0) (oi := ⟨some 47, _, _, _, _, _⟩) (v := ?_) rfl (Or.inl ⟨by rfl, ?_⟩) hS ?_
      rotate_left 1
      · intro w' hB; (go_simp <;> with_reducible rfl)
      try simp only [Act.put, zA, zB, zC]
      refine tk (i := 1) (oi := ⟨some 48, _, _, _, _, _⟩) (v := ?_) rfl (Or.inl ⟨by rfl, ?_⟩) hS ?_
      rotate_left 1
      · intro w' hB; have hd := (HC.out.to w (by simp)).trans (hB.mono (HC.out.to w (by simp)).size); obtain ⟨x0, x1, x2, x3⟩ := (H.out.below hd rfl).cellsP (pa l) (pa r) rfl rfl; clear hd; (go_simp <;> with_reducible rfl)
      try simp only [Act.put, zA, zB, zC]
      refine tk (i := 2) (oi := ⟨some 49, _, _, _, _, _⟩) (v := ?_) rfl (Or.inl ⟨by rfl, ?_⟩) hS ?_
      rotate_left 1
      · intro w' hB; (go_simp <;> with_reducible rfl)
      try simp only [Act.put, zA, zB, zC]
      refine tk (i := 3) (oi := ⟨some 50, _, _, _, _, _⟩) (v := ?_) rfl (Or.inl ⟨by rfl, ?_⟩) hS ?_
      rotate_left 1
      · intro w' hB; have hd := (HC.out.to w (by simp)).trans (hB.mono (HC.out.to w (by simp)).size); obtain ⟨x0, x1, x2, x3⟩ := (H.out.below hd rfl).cellsP (pa l) (pa r) rfl rfl; clear hd; (go_simp <;> with_reducible rfl)
      try simp only [Act.put, zA, zB, zC]
      refine tk (i := 4) (oi := ⟨some 51, _, _, _, _, _⟩) (v := ?_) rfl (Or.inl ⟨by rfl, ?_⟩) hS ?_
      rotate_left 1
      · intro w' hB; (go_simp <;> with_reducible rfl)
      try simp only [Act.put, zA, zB, zC]
      refine tk (i := 5) (oi := ⟨some 52, _, _, _, _, _⟩) (v := ?_) rfl (Or.inl ⟨by rfl, ?_⟩) hS ?_
      rotate_left 1
      · intro w' hB; have hd := (HC.out.to w (by simp)).trans (hB.mono (HC.out.to w (by simp)).size); obtain ⟨x0, x1, x2, x3⟩ := (H.out.below hd rfl).cellsP (pa l) (pa r) rfl rfl; clear hd; (go_simp <;> with_reducible rfl)
      try simp only [Act.put, zA, zB, zC]
      refine tk (i := 6) (oi := ⟨some 53, _, _, _, _, _⟩) (v := ?_) rfl (Or.inl ⟨by rfl, ?_⟩) hS ?_
      rotate_left 1
      · intro w' hB; (go_simp <;> with_reducible rfl)
      try simp only [Act.put, zA, zB, zC]
      refine tk (i := 7) (oi := ⟨some 54, _, _, _, _, _⟩) (v := ?_) rfl (Or.inl ⟨by rfl, ?_⟩) hS ?_
      rotate_left 1
      · intro w' hB; have hd := (HC.out.to w (by simp)).trans (hB.mono (HC.out.to w (by simp)).size); obtain ⟨x0, x1, x2, x3⟩ := (H.out.below hd rfl).cellsP (pa l) (pa r) rfl rfl; clear hd; (go_simp <;> with_reducible rfl)
      try simp only [Act.put, zA, zB, zC]
      refine tk (i := 8) (oi := ⟨some 55, _, _, _, _, _⟩) (v := ?_) rfl (Or.inl ⟨by rfl, ?_⟩) hS ?_
      rotate_left 1
      · intro w' hB; (go_simp <;> with_reducible rfl)
      try simp only [Act.put, zA, zB, zC]
      refine tk (i := 9) (oi := ⟨some 56, _, _, _, _, _⟩) (v := ?_) rfl (Or.inl ⟨by rfl, ?_⟩) hS ?_
      rotate_left 1
      · intro w' hB; have hd := (HC.out.to w (by simp)).trans (hB.mono (HC.out.to w (by simp)).size); obtain ⟨x0, x1, x2, x3⟩ := (H.out.below hd rfl).cellsP (pa l) (pa r) rfl rfl; clear hd; (go_simp <;> with_reducible rfl)
      try simp only [Act.put, zA, zB, zC]
      refine tk (i := 10) (oi := ⟨some 57, _, _, _, _, _⟩) (v := ?_) rfl (Or.inl ⟨by rfl, ?_⟩) hS ?_
      rotate_left 1
      · intro w' hB; (go_simp <;> with_reducible rfl)
      try simp only [Act.put, zA, zB, zC]
      refine tk (i := 11) (oi := ⟨some 58, _, _, _, _, _⟩) (v := ?_) rfl (Or.inl ⟨by rfl, ?_⟩) hS ?_
      rotate_left 1
      · intro w' hB; have hd := (HC.out.to w (by simp)).trans (hB.mono (HC.out.to w (by simp)).size); obtain ⟨x0, x1, x2, x3⟩ := (H.out.below hd rfl).cellsP (pa l) (pa r) rfl rfl; clear hd; (go_simp <;> with_reducible rfl)
      try simp only [Act.put, zA, zB, zC]
      refine tk (i := 12) (oi := ⟨some 59, _, _, _, _, _⟩) (v := ?_) rfl (Or.inl ⟨by rfl, ?_⟩) hS ?_
      rotate_left 1
      · intro w' hB; (go_simp <;> with_reducible rfl)
      try simp only [Act.put, zA, zB, zC]
      refine tk (i := 13) (oi := ⟨some 60, _, _, _, _, _⟩) (v := ?_) rfl (Or.inl ⟨by rfl, ?_⟩) hS ?_
      rotate_left 1
      · intro w' hB; have hd := (HC.out.to w (by simp)).trans (hB.mono (HC.out.to w (by simp)).size); obtain ⟨x0, x1, x2, x3⟩ := (H.out.below hd rfl).cellsP (pa l) (pa r) rfl rfl; clear hd; (go_simp <;> with_reducible rfl)
      try simp only [Act.put, zA, zB, zC]
      refine tk (i := 14) (oi := ⟨some 61, _, _, _, _, _⟩) (v := ?_) rfl (Or.inl ⟨by rfl, ?_⟩) hS ?_
      rotate_left 1
      · intro w' hB; (go_simp <;> with_reducible rfl)
      try simp only [Act.put, zA, zB, zC]
      refine tk (i := 15) (oi := ⟨some 62, _, _, _, _, _⟩) (v := ?_) rfl (Or.inl ⟨by rfl, ?_⟩) hS ?_
      rotate_left 1
      · intro w' hB; have hd := (HC.out.to w (by simp)).trans (hB.mono (HC.out.to w (by simp)).size); obtain ⟨x0, x1, x2, x3⟩ := (H.out.below hd rfl).cellsP (pa l) (pa r) rfl rfl; clear hd; (go_simp <;> with_reducible rfl)
      try simp only [Act.put, zA, zB, zC]
      refine tk (i := 16) (oi := ⟨some 63, _, _, _, _, _⟩) (v := ?_) rfl (Or.inl ⟨by rfl, ?_⟩) hS ?_
      rotate_left 1
      · intro w' hB; (go_simp <;> with_reducible rfl)
      try simp only [Act.put, zA, zB, zC]
      refine tk (i := 17) (oi := ⟨some 64, _, _, _, _, _⟩) (v := ?_) rfl (Or.inl ⟨by rfl, ?_⟩) hS ?_
      rotate_left 1
      · intro w' hB; (go_simp <;> with_reducible rfl)
      try simp only [Act.put, zA, zB, zC]
      refine wpAnyH_ready (rs := [18]) (by kernel_rfl) (by simp) (AllReadyH.cons (o := ⟨some 65, _, _, _, _, _⟩) rfl (fun K hK => ?_) AllReadyH.nil)
      go_simp
      refine (I2.out N _ (Nat.le_trans hN (HC.out.le hS (by simp))) (H.out.2.2.chain HC.out hS (by simp)) (by have := HZ.out; simp only [sz] at this ⊢; omega)).mono ?_
      rintro e p1 ⟨r', hP, rfl, hA, hb⟩
      refine hK.out _ _ (hS.trans (hb.mono hS.size)) (fun _ => ?_)
      clear hK K
      have hB := hS.trans (hb.mono hS.size)
      refine wpAnyH_now hB ?_
      clear hS
      have hS := Below.refl p1.heap.size p1
      replace HC := Lib.hid (HC.out.push hB)
      have P1 := Lib.hid hP
      have A1 := Lib.hid hA
      clear hP hA
      clear hB hb
      try simp only [Act.put, zA, zB, zC]
      refine wpAnyH_ready (rs := [19]) (by kernel_rfl) (by simp) (AllReadyH.cons (o := ⟨some 66, _, _, _, _, _⟩) rfl (fun K hK => ?_) AllReadyH.nil)
      go_simp
      refine (pm_balancedS N l r' k0 v0 _ (Nat.le_trans hN (HC.out.le hS (by simp))) (H.out.2.1.chain HC.out hS (by simp)) (A1.out.chain HC.out hS (by simp)) (by have := HZ.out; have := P1.out.sz_leS; simp only [sz] at *; omega)).mono ?_
      rintro e p2 ⟨t', hP, rfl, hA, hb⟩
      refine hK.out _ _ (hS.trans (hb.mono hS.size)) (fun _ => ?_)
      clear hK K
      have hB := hS.trans (hb.mono hS.size)
      refine wpAnyH_now hB ?_
      clear hS
      have hS := Below.refl p2.heap.size p2
      replace HC := Lib.hid (HC.out.push hB)
      have P2 := Lib.hid hP
      have A2 := Lib.hid hA
      clear hP hA
      clear hB hb
      try simp only [Act.put, zA, zB, zC]
      refine tk (i := 20) (oi := ⟨some 6, _, _, _, _, _⟩) (v := ?_) rfl (Or.inl ⟨by rfl, ?_⟩) hS ?_
      rotate_left 1
      · intro w' hB; have hd := (HC.out.to w (by simp)).trans (hB.mono (HC.out.to w (by simp)).size); obtain ⟨x0, x1, x2, x3⟩ := (H.out.below hd rfl).cellsP (pa l) (pa r) rfl rfl; clear hd; (go_simp <;> with_reducible rfl)
      try simp only [Act.put, zA, zB, zC]
      refine wpAnyH_done (by kernel_rfl) (NoPanic.normal ?_) _
      clear hS
      go_wp2_with fail
      go_ret
      exact ⟨_, .gt h2 P1.out P2.out, rfl, A2.out, HC.out.to w (by simp)⟩
    · obtain rfl := klt_tri (a := k) (b := k0) (by simpa using h1) (by simpa using h2)
      have hk : Op.bytesLess k.toList k.toList = false := klt_irrefl k
      go_enter Tryz.func56, Tryz.ntmps56
      go_wp2_with fail
      clear x0 x1 x2 x3
      refine wp_region_noPanic ?_
      refine wp_region_held_drew (S := fun w' => Below w.heap.size w w') (by kernel_rfl) (Below.refl _ _).drew (fun hS => ?_)
      refine tk (i := 0) (oi := ⟨some 67, _, _, _, _, _⟩) (v := ?_) rfl (Or.inl ⟨by rfl, ?_⟩) hS ?_
      rotate_left 1
      · intro w' hB; (go_simp <;> with_reducible rfl)
      try simp only [Act.put, zA, zB, zC]
      refine tk (i := 1) (oi := ⟨some 68, _, _, _, _, _⟩) (v := ?_) rfl (Or.inl ⟨by rfl, ?_⟩) hS ?_
      rotate_left 1
      · intro w' hB; have hd := (HC.out.to w (by simp)).trans (hB.mono (HC.out.to w (by simp)).size); obtain ⟨x0, x1, x2, x3⟩ := (H.out.below hd rfl).cellsP (pa l) (pa r) rfl rfl; clear hd; (go_simp <;> with_reducible rfl)
      try simp only [Act.put, zA, zB, zC]
      refine tk (i := 2) (oi := ⟨some 69, _, _, _, _, _⟩) (v := ?_) rfl (Or.inl ⟨by rfl, ?_⟩) hS ?_
      rotate_left 1
      · intro w' hB; (go_simp <;> with_reducible rfl)
      try simp only [Act.put, zA, zB, zC]
      refine tk (i := 3) (oi := ⟨some 70, _, _, _, _, _⟩) (v := ?_) rfl (Or.inl ⟨by rfl, ?_⟩) hS ?_
      rotate_left 1
      · intro w' hB; have hd := (HC.out.to w (by simp)).trans (hB.mono (HC.out.to w (by simp)).size); obtain ⟨x0, x1, x2, x3⟩ := (H.out.below hd rfl).cellsP (pa l) (pa r) rfl rfl; clear hd; (go_simp <;> with_reducible rfl)
      try simp only [Act.put, zA, zB, zC]
      refine tk (i := 4) (oi := ⟨some 71, _, _, _, _, _⟩) (v := ?_) rfl (Or.inl ⟨by rfl, ?_⟩) hS ?_
      rotate_left 1
      · intro w' hB; (go_simp <;> with_reducible rfl)
      try simp only [Act.put, zA, zB, zC]
      refine tk (i := 5) (oi := ⟨some 72, _, _, _, _, _⟩) (v := ?_) rfl (Or.inl ⟨by rfl, ?_⟩) hS ?_
      rotate_left 1
      · intro w' hB; (go_simp <;> with_reducible rfl)
      try simp only [Act.put, zA, zB, zC]
      refine tk (i := 6) (oi := ⟨some 73, _, _, _, _, _⟩) (v := ?_) rfl (Or.inl ⟨by rfl, ?_⟩) hS ?_
      rotate_left 1
      · intro w' hB; (go_simp <;> with_reducible rfl)
      try simp only [Act.put, zA, zB, zC]
      refine tk (i := 7) (oi := ⟨some 74, _, _, _, _, _⟩) (v := ?_) rfl (Or.inl ⟨by rfl, ?_⟩) hS ?_
      rotate_left 1
      · intro w' hB; have hd := (HC.out.to w (by simp)).trans (hB.mono (HC.out.to w (by simp)).size); obtain ⟨x0, x1, x2, x3⟩ := (H.out.below hd rfl).cellsP (pa l) (pa r) rfl rfl; clear hd; (go_simp <;> with_reducible rfl)
      try simp only [Act.put, zA, zB, zC]
      refine tk (i := 8) (oi := ⟨some 75, _, _, _, _, _⟩) (v := ?_) rfl (Or.inl ⟨by rfl, ?_⟩) hS ?_
      rotate_left 1
      · intro w' hB; (go_simp <;> with_reducible rfl)
      try simp only [Act.put, zA, zB, zC]
      refine tk (i := 9) (oi := ⟨some 76, _, _, _, _, _⟩) (v := ?_) rfl (Or.inl ⟨by rfl, ?_⟩) hS ?_
      rotate_left 1
      · intro w' hB; have hd := (HC.out.to w (by simp)).trans (hB.mono (HC.out.to w (by simp)).size); obtain ⟨x0, x1, x2, x3⟩ := (H.out.below hd rfl).cellsP (pa l) (pa r) rfl rfl; clear hd; (go_simp <;> with_reducible rfl)
      try simp only [Act.put, zA, zB, zC]
      refine wpAnyH_ready (rs := [10]) (by kernel_rfl) (by simp) (AllReadyH.cons (o := ⟨some 77, _, _, _, _, _⟩) rfl (fun K hK => ?_) AllReadyH.nil)
      go_simp
      refine (pm_nodeS N l r k v _ (Nat.le_trans hN (HC.out.le hS (by simp))) (H.out.2.1.chain HC.out hS (by simp)) (H.out.2.2.chain HC.out hS (by simp)) (by have := HZ.out; simp only [sz] at *; omega)).mono ?_
      rintro e p2 ⟨b2, hb2, rfl, hA, hb⟩
      refine hK.out _ _ (hS.trans (hb.mono hS.size)) (fun _ => ?_)
      clear hK K
      have hB := hS.trans (hb.mono hS.size)
      refine wpAnyH_now hB ?_
      clear hS
      have hS := Below.refl p2.heap.size p2
      replace HC := Lib.hid (HC.out.push hB)
      have B2 := Lib.hid hb2
      have A2 := Lib.hid hA
      clear hb2 hA
      clear hB hb
      try simp only [Act.put, zA, zB, zC]
      refine tk (i := 11) (oi := ⟨some 6, _, _, _, _, _⟩) (v := ?_) rfl (Or.inl ⟨by rfl, ?_⟩) hS ?_
      rotate_left 1
      · intro w' hB; have hd := (HC.out.to w (by simp)).trans (hB.mono (HC.out.to w (by simp)).size); obtain ⟨x0, x1, x2, x3⟩ := (H.out.below hd rfl).cellsP (pa l) (pa r) rfl rfl; clear hd; (go_simp <;> with_reducible rfl)
      try simp only [Act.put, zA, zB, zC]
      refine wpAnyH_done (by kernel_rfl) (NoPanic.normal ?_) _
      clear hS
      go_wp2_with fail
      go_ret
      exact ⟨_, .eq rfl B2.out, rfl, A2.out, HC.out.to w (by simp)⟩
end Go.Proofs.YtjlliohjeiclaaaGreatDoor
namespace Go.Proofs.YtjlliohjeiclaaaGreatDoor
open Go.RowKit Pm
theorem Pm.FirstR.szS {N : Nat} {t t' : Tr ByteArray} {k : ByteArray} {v : ByteArray} (h : FirstR N t k v t') : sz t = sz t' + 1 := by
 rw [← sz_items, h.items, ← sz_items]; rfl
theorem Pm.TakeR.sz_leS {N : Nat} {k : ByteArray} {t t' : Tr ByteArray} (h : TakeR N k t t') : sz t' + 1 ≤ sz t := by
 induction h with
 | lt h1 h2 h3 ih => rw [h3.sz]; simp only [sz]; omega
 | gt h1 h2 h3 ih => rw [h3.sz]; simp only [sz]; omega
 | last h1 => simp [sz]
 | eq h1 h2 h3 => rw [h3.sz]; have := h2.szS; simp only [sz]; omega
set_option maxRecDepth 100000 in
set_option maxHeartbeats 4000000 in
theorem pm_firstS : ∀ (t : Tr ByteArray) (N : Nat) (w : World), t ≠ .nil → N ≤ w.heap.size → AtS w t → sz t + 2 ≤ 1099511627776 →
 Calls Tryz.prog 144 #[.pointer (pa t)] w fun e w' =>
  ∃ k v t', FirstR N t k v t' ∧ e = .returned (.tuple #[.string k, .string v, .pointer (pa t')]) ∧ AtS w' t' ∧ Below w.heap.size w w' := by
 intro t
 induction t with
 | nil => intro N w h; exact absurd rfl h
 | node b l k0 v0 r ih1 _ =>
  intro N w _ hN h hs
  have H := Lib.hid h
  have HZ := Lib.hid hs
  have I1 := Lib.hid ih1
  clear h ih1
  have HC : Hid (Chain [w] w) := Lib.hid (Chain.one w)
  change Calls _ _ #[.pointer (some ⟨b, 0, none⟩)] w _
  cases l with
  | nil =>
   obtain ⟨x0, x1, x2, x3⟩ := H.out.cellsP none (pa r) rfl rfl
   go_enter Tryz.func144, Tryz.ntmps144
   go_wp2_with fail
   clear x0 x1 x2 x3
   refine wp_region_noPanic ?_
   refine wp_region_held_drew (S := fun w' => Below w.heap.size w w') (by kernel_rfl) (Below.refl _ _).drew (fun hS => ?_)
   refine tk (i := 0) (oi := ⟨some 13, _, _, _, _, _⟩) (v := ?_) rfl (Or.inl ⟨by rfl, ?_⟩) hS ?_
   rotate_left 1
   · intro w' hB; (go_simp <;> with_reducible rfl)
   try simp only [Act.put, zA, zB, zC]
   refine tk (i := 1) (oi := ⟨some 14, _, _, _, _, _⟩) (v := ?_) rfl (Or.inl ⟨by rfl, ?_⟩) hS ?_
   rotate_left 1
   · intro w' hB; have hd := (HC.out.to w (by simp)).trans (hB.mono (HC.out.to w (by simp)).size); obtain ⟨x0, x1, x2, x3⟩ := (H.out.below hd rfl).cellsP none (pa r) rfl rfl; clear hd; (go_simp <;> with_reducible rfl)
   try simp only [Act.put, zA, zB, zC]
   refine tk (i := 2) (oi := ⟨some 15, _, _, _, _, _⟩) (v := ?_) rfl (Or.inl ⟨by rfl, ?_⟩) hS ?_
   rotate_left 1
   · intro w' hB; (go_simp <;> with_reducible rfl)
   try simp only [Act.put, zA, zB, zC]
   refine tk (i := 3) (oi := ⟨some 16, _, _, _, _, _⟩) (v := ?_) rfl (Or.inl ⟨by rfl, ?_⟩) hS ?_
   rotate_left 1
   · intro w' hB; have hd := (HC.out.to w (by simp)).trans (hB.mono (HC.out.to w (by simp)).size); obtain ⟨x0, x1, x2, x3⟩ := (H.out.below hd rfl).cellsP none (pa r) rfl rfl; clear hd; (go_simp <;> with_reducible rfl)
   try simp only [Act.put, zA, zB, zC]
   refine tk (i := 4) (oi := ⟨some 17, _, _, _, _, _⟩) (v := ?_) rfl (Or.inl ⟨by rfl, ?_⟩) hS ?_
   rotate_left 1
   · intro w' hB; (go_simp <;> with_reducible rfl)
   try simp only [Act.put, zA, zB, zC]
   refine tk (i := 5) (oi := ⟨some 18, _, _, _, _, _⟩) (v := ?_) rfl (Or.inl ⟨by rfl, ?_⟩) hS ?_
   rotate_left 1
   · intro w' hB; have hd := (HC.out.to w (by simp)).trans (hB.mono (HC.out.to w (by simp)).size); obtain ⟨x0, x1, x2, x3⟩ := (H.out.below hd rfl).cellsP none (pa r) rfl rfl; clear hd; (go_simp <;> with_reducible rfl)
   try simp only [Act.put, zA, zB, zC]
   refine tk (i := 6) (oi := ⟨some 19, _, _, _, _, _⟩) (v := ?_) rfl (Or.inl ⟨by rfl, ?_⟩) hS ?_
   rotate_left 1
   · intro w' hB; (go_simp <;> with_reducible rfl)
   try simp only [Act.put, zA, zB, zC]
   refine tk (i := 7) (oi := ⟨some 20, _, _, _, _, _⟩) (v := ?_) rfl (Or.inl ⟨by rfl, ?_⟩) hS ?_
   rotate_left 1
   · intro w' hB; have hd := (HC.out.to w (by simp)).trans (hB.mono (HC.out.to w (by simp)).size); obtain ⟨x0, x1, x2, x3⟩ := (H.out.below hd rfl).cellsP none (pa r) rfl rfl; clear hd; (go_simp <;> with_reducible rfl)
   try simp only [Act.put, zA, zB, zC]
   refine tk (i := 8) (oi := ⟨some 21, _, _, _, _, _⟩) (v := ?_) rfl (Or.inl ⟨by rfl, ?_⟩) hS ?_
   rotate_left 1
   · intro w' hB; (go_simp <;> with_reducible rfl)
   try simp only [Act.put, zA, zB, zC]
   refine tk (i := 9) (oi := ⟨some 22, _, _, _, _, _⟩) (v := ?_) rfl (Or.inl ⟨by rfl, ?_⟩) hS ?_
   rotate_left 1
   · intro w' hB; have hd := (HC.out.to w (by simp)).trans (hB.mono (HC.out.to w (by simp)).size); obtain ⟨x0, x1, x2, x3⟩ := (H.out.below hd rfl).cellsP none (pa r) rfl rfl; clear hd; (go_simp <;> with_reducible rfl)
   try simp only [Act.put, zA, zB, zC]
   refine tk (i := 10) (oi := ⟨some 23, _, _, _, _, _⟩) (v := ?_) rfl (Or.inl ⟨by rfl, ?_⟩) hS ?_
   rotate_left 1
   · intro w' hB; (go_simp <;> with_reducible rfl)
   try simp only [Act.put, zA, zB, zC]
   refine tk (i := 11) (oi := ⟨some 24, _, _, _, _, _⟩) (v := ?_) rfl (Or.inl ⟨by rfl, ?_⟩) hS ?_
   rotate_left 1
   · intro w' hB; have hd := (HC.out.to w (by simp)).trans (hB.mono (HC.out.to w (by simp)).size); obtain ⟨x0, x1, x2, x3⟩ := (H.out.below hd rfl).cellsP none (pa r) rfl rfl; clear hd; (go_simp <;> with_reducible rfl)
   try simp only [Act.put, zA, zB, zC]
   refine tk (i := 12) (oi := ⟨some 2, _, _, _, _, _⟩) (v := ?_) rfl (Or.inl ⟨by rfl, ?_⟩) hS ?_
   rotate_left 1
   · intro w' hB; have hd := (HC.out.to w (by simp)).trans (hB.mono (HC.out.to w (by simp)).size); obtain ⟨x0, x1, x2, x3⟩ := (H.out.below hd rfl).cellsP none (pa r) rfl rfl; clear hd; (go_simp <;> with_reducible rfl)
   try simp only [Act.put, zA, zB, zC]
   refine tk (i := 13) (oi := ⟨some 3, _, _, _, _, _⟩) (v := ?_) rfl (Or.inl ⟨by rfl, ?_⟩) hS ?_
   rotate_left 1
   · intro w' hB; have hd := (HC.out.to w (by simp)).trans (hB.mono (HC.out.to w (by simp)).size); obtain ⟨x0, x1, x2, x3⟩ := (H.out.below hd rfl).cellsP none (pa r) rfl rfl; clear hd; (go_simp <;> with_reducible rfl)
   try simp only [Act.put, zA, zB, zC]
   refine tk (i := 14) (oi := ⟨some 4, _, _, _, _, _⟩) (v := ?_) rfl (Or.inl ⟨by rfl, ?_⟩) hS ?_
   rotate_left 1
   · intro w' hB; have hd := (HC.out.to w (by simp)).trans (hB.mono (HC.out.to w (by simp)).size); obtain ⟨x0, x1, x2, x3⟩ := (H.out.below hd rfl).cellsP none (pa r) rfl rfl; clear hd; (go_simp <;> with_reducible rfl)
   try simp only [Act.put, zA, zB, zC]
   refine wpAnyH_done (by kernel_rfl) (NoPanic.normal ?_) _
   go_wp2_with fail
   go_ret3
   exact ⟨_, _, _, .here, rfl, H.out.2.2.below hS rfl, hS⟩
  | node bl ll lk lv lr =>
   obtain ⟨x0, x1, x2, x3⟩ := H.out.cellsP (some ⟨bl, 0, none⟩) (pa r) rfl rfl
   go_enter Tryz.func144, Tryz.ntmps144
   go_wp2_with fail
   refine (I1.out N w (by simp) hN H.out.2.1 (by have := HZ.out; simp only [sz] at this ⊢; omega)).mono ?_
   rintro e p1 ⟨k1, v1, l', hP, rfl, hA, hb⟩
   have P1 := Lib.hid hP
   have A1 := Lib.hid hA
   replace HC := Lib.hid (HC.out.push hb)
   clear hP hA hb x0 x1 x2 x3
   go_wp2_with fail
   refine wp_region_noPanic ?_
   refine wp_region_held_drew (S := fun w' => Below p1.heap.size p1 w') (by kernel_rfl) (Below.refl _ _).drew (fun hS => ?_)
   refine tk (i := 0) (oi := ⟨some 34, _, _, _, _, _⟩) (v := ?_) rfl (Or.inl ⟨by rfl, ?_⟩) hS ?_
   rotate_left 1
   · intro w' hB; (go_simp <;> with_reducible rfl)
   try simp only [Act.put, zA, zB, zC]
   refine tk (i := 1) (oi := ⟨some 35, _, _, _, _, _⟩) (v := ?_) rfl (Or.inl ⟨by rfl, ?_⟩) hS ?_
   rotate_left 1
   · intro w' hB; (go_simp <;> with_reducible rfl)
   try simp only [Act.put, zA, zB, zC]
   refine tk (i := 2) (oi := ⟨some 36, _, _, _, _, _⟩) (v := ?_) rfl (Or.inl ⟨by rfl, ?_⟩) hS ?_
   rotate_left 1
   · intro w' hB; (go_simp <;> with_reducible rfl)
   try simp only [Act.put, zA, zB, zC]
   refine tk (i := 3) (oi := ⟨some 37, _, _, _, _, _⟩) (v := ?_) rfl (Or.inl ⟨by rfl, ?_⟩) hS ?_
   rotate_left 1
   · intro w' hB; (go_simp <;> with_reducible rfl)
   try simp only [Act.put, zA, zB, zC]
   refine tk (i := 4) (oi := ⟨some 38, _, _, _, _, _⟩) (v := ?_) rfl (Or.inl ⟨by rfl, ?_⟩) hS ?_
   rotate_left 1
   · intro w' hB; have hd := (HC.out.to w (by simp)).trans (hB.mono (HC.out.to w (by simp)).size); obtain ⟨x0, x1, x2, x3⟩ := (H.out.below hd rfl).cellsP (some ⟨bl, 0, none⟩) (pa r) rfl rfl; clear hd; (go_simp <;> with_reducible rfl)
   try simp only [Act.put, zA, zB, zC]
   refine tk (i := 5) (oi := ⟨some 39, _, _, _, _, _⟩) (v := ?_) rfl (Or.inl ⟨by rfl, ?_⟩) hS ?_
   rotate_left 1
   · intro w' hB; (go_simp <;> with_reducible rfl)
   try simp only [Act.put, zA, zB, zC]
   refine tk (i := 6) (oi := ⟨some 40, _, _, _, _, _⟩) (v := ?_) rfl (Or.inl ⟨by rfl, ?_⟩) hS ?_
   rotate_left 1
   · intro w' hB; have hd := (HC.out.to w (by simp)).trans (hB.mono (HC.out.to w (by simp)).size); obtain ⟨x0, x1, x2, x3⟩ := (H.out.below hd rfl).cellsP (some ⟨bl, 0, none⟩) (pa r) rfl rfl; clear hd; (go_simp <;> with_reducible rfl)
   try simp only [Act.put, zA, zB, zC]
   refine tk (i := 7) (oi := ⟨some 41, _, _, _, _, _⟩) (v := ?_) rfl (Or.inl ⟨by rfl, ?_⟩) hS ?_
   rotate_left 1
   · intro w' hB; (go_simp <;> with_reducible rfl)
   try simp only [Act.put, zA, zB, zC]
   refine tk (i := 8) (oi := ⟨some 42, _, _, _, _, _⟩) (v := ?_) rfl (Or.inl ⟨by rfl, ?_⟩) hS ?_
   rotate_left 1
   · intro w' hB; have hd := (HC.out.to w (by simp)).trans (hB.mono (HC.out.to w (by simp)).size); obtain ⟨x0, x1, x2, x3⟩ := (H.out.below hd rfl).cellsP (some ⟨bl, 0, none⟩) (pa r) rfl rfl; clear hd; (go_simp <;> with_reducible rfl)
   try simp only [Act.put, zA, zB, zC]
   refine tk (i := 9) (oi := ⟨some 43, _, _, _, _, _⟩) (v := ?_) rfl (Or.inl ⟨by rfl, ?_⟩) hS ?_
   rotate_left 1
   · intro w' hB; (go_simp <;> with_reducible rfl)
   try simp only [Act.put, zA, zB, zC]
   refine tk (i := 10) (oi := ⟨some 44, _, _, _, _, _⟩) (v := ?_) rfl (Or.inl ⟨by rfl, ?_⟩) hS ?_
   rotate_left 1
   · intro w' hB; have hd := (HC.out.to w (by simp)).trans (hB.mono (HC.out.to w (by simp)).size); obtain ⟨x0, x1, x2, x3⟩ := (H.out.below hd rfl).cellsP (some ⟨bl, 0, none⟩) (pa r) rfl rfl; clear hd; (go_simp <;> with_reducible rfl)
   try simp only [Act.put, zA, zB, zC]
   refine tk (i := 11) (oi := ⟨some 45, _, _, _, _, _⟩) (v := ?_) rfl (Or.inl ⟨by rfl, ?_⟩) hS ?_
   rotate_left 1
   · intro w' hB; (go_simp <;> with_reducible rfl)
   try simp only [Act.put, zA, zB, zC]
   refine tk (i := 12) (oi := ⟨some 46, _, _, _, _, _⟩) (v := ?_) rfl (Or.inl ⟨by rfl, ?_⟩) hS ?_
   rotate_left 1
   · intro w' hB; have hd := (HC.out.to w (by simp)).trans (hB.mono (HC.out.to w (by simp)).size); obtain ⟨x0, x1, x2, x3⟩ := (H.out.below hd rfl).cellsP (some ⟨bl, 0, none⟩) (pa r) rfl rfl; clear hd; (go_simp <;> with_reducible rfl)
   try simp only [Act.put, zA, zB, zC]
   refine tk (i := 13) (oi := ⟨some 47, _, _, _, _, _⟩) (v := ?_) rfl (Or.inl ⟨by rfl, ?_⟩) hS ?_
   rotate_left 1
   · intro w' hB; (go_simp <;> with_reducible rfl)
   try simp only [Act.put, zA, zB, zC]
   refine tk (i := 14) (oi := ⟨some 48, _, _, _, _, _⟩) (v := ?_) rfl (Or.inl ⟨by rfl, ?_⟩) hS ?_
   rotate_left 1
   · intro w' hB; have hd := (HC.out.to w (by simp)).trans (hB.mono (HC.out.to w (by simp)).size); obtain ⟨x0, x1, x2, x3⟩ := (H.out.below hd rfl).cellsP (some ⟨bl, 0, none⟩) (pa r) rfl rfl; clear hd; (go_simp <;> with_reducible rfl)
   try simp only [Act.put, zA, zB, zC]
   refine wpAnyH_ready (rs := [15]) (by kernel_rfl) (by simp) (AllReadyH.cons (o := ⟨some 49, _, _, _, _, _⟩) rfl (fun K hK => ?_) AllReadyH.nil)
   go_simp
   refine (pm_balancedS N l' r k0 v0 _ (Nat.le_trans hN (HC.out.le hS (by simp))) (A1.out.chain HC.out hS (by simp)) (H.out.2.2.chain HC.out hS (by simp)) (by have := HZ.out; have := P1.out.szS; simp only [sz] at *; omega)).mono ?_
   rintro e p2 ⟨t', hP, rfl, hA, hb⟩
   refine hK.out _ _ (hS.trans (hb.mono hS.size)) (fun _ => ?_)
   clear hK K
   have hB := hS.trans (hb.mono hS.size)
   refine wpAnyH_now hB ?_
   clear hS
   have hS := Below.refl p2.heap.size p2
   replace HC := Lib.hid (HC.out.push hB)
   have P2 := Lib.hid hP
   have A2 := Lib.hid hA
   clear hP hA
   clear hB hb
   try simp only [Act.put, zA, zB, zC]
   refine tk (i := 16) (oi := ⟨some 2, _, _, _, _, _⟩) (v := ?_) rfl (Or.inl ⟨by rfl, ?_⟩) hS ?_
   rotate_left 1
   · intro w' hB; have hd := (HC.out.to w (by simp)).trans (hB.mono (HC.out.to w (by simp)).size); obtain ⟨x0, x1, x2, x3⟩ := (H.out.below hd rfl).cellsP (some ⟨bl, 0, none⟩) (pa r) rfl rfl; clear hd; (go_simp <;> with_reducible rfl)
   try simp only [Act.put, zA, zB, zC]
   refine tk (i := 17) (oi := ⟨some 3, _, _, _, _, _⟩) (v := ?_) rfl (Or.inl ⟨by rfl, ?_⟩) hS ?_
   rotate_left 1
   · intro w' hB; have hd := (HC.out.to w (by simp)).trans (hB.mono (HC.out.to w (by simp)).size); obtain ⟨x0, x1, x2, x3⟩ := (H.out.below hd rfl).cellsP (some ⟨bl, 0, none⟩) (pa r) rfl rfl; clear hd; (go_simp <;> with_reducible rfl)
   try simp only [Act.put, zA, zB, zC]
   refine tk (i := 18) (oi := ⟨some 4, _, _, _, _, _⟩) (v := ?_) rfl (Or.inl ⟨by rfl, ?_⟩) hS ?_
   rotate_left 1
   · intro w' hB; have hd := (HC.out.to w (by simp)).trans (hB.mono (HC.out.to w (by simp)).size); obtain ⟨x0, x1, x2, x3⟩ := (H.out.below hd rfl).cellsP (some ⟨bl, 0, none⟩) (pa r) rfl rfl; clear hd; (go_simp <;> with_reducible rfl)
   try simp only [Act.put, zA, zB, zC]
   refine wpAnyH_done (by kernel_rfl) (NoPanic.normal ?_) _
   clear hS
   go_wp2_with fail
   go_ret3
   exact ⟨_, _, _, .left P1.out P2.out, rfl, A2.out, HC.out.to w (by simp)⟩
set_option maxRecDepth 100000 in
set_option maxHeartbeats 4000000 in
theorem pm_takeS (k : ByteArray) : ∀ (t : Tr ByteArray) (N : Nat) (w : World), seek k t ≠ .nil → N ≤ w.heap.size → AtS w t → sz t + 2 ≤ 1099511627776 →
 Calls Tryz.prog 112 #[.pointer (pa t), .string k] w fun e w' =>
  ∃ t', TakeR N k t t' ∧ e = .returned (.pointer (pa t')) ∧ AtS w' t' ∧ Below w.heap.size w w' := by
 intro t
 induction t with
 | nil => intro N w h; exact absurd rfl h
 | node b l k0 v0 r ih1 ih2 =>
  intro N w hlk hN h hs
  have H := Lib.hid h
  have HZ := Lib.hid hs
  have I1 := Lib.hid ih1
  have I2 := Lib.hid ih2
  clear h ih1 ih2
  simp only [seek] at hlk
  have HC : Hid (Chain [w] w) := Lib.hid (Chain.one w)
  change Calls _ _ #[.pointer (some ⟨b, 0, none⟩), .string k] w _
  by_cases h1 : klt k k0 = true
  · have hk : Op.bytesLess k.toList k0.toList = true := h1
    rw [if_pos h1] at hlk
    have HK := Lib.hid hlk
    clear hlk
    obtain ⟨x0, x1, x2, x3⟩ := H.out.cellsP (pa l) (pa r) rfl rfl
    go_enter Tryz.func112, Tryz.ntmps112
    go_wp2_with fail
    clear x0 x1 x2 x3
    refine wp_region_noPanic ?_
    refine wp_region_held_drew (S := fun w' => Below w.heap.size w w') (by kernel_rfl) (Below.refl _ _).drew (fun hS => ?_)
    refine tk (i := 0) (oi := ⟨some 15, _, _, _, _, _⟩) (v := ?_) rfl (Or.inl ⟨by rfl, ?_⟩) hS ?_
    rotate_left 1
    · intro w' hB; (go_simp <;> with_reducible rfl)
    try simp only [Act.put, zA, zB, zC]
    refine tk (i := 1) (oi := ⟨some 16, _, _, _, _, _⟩) (v := ?_) rfl (Or.inl ⟨by rfl, ?_⟩) hS ?_
    rotate_left 1
    · intro w' hB; have hd := (HC.out.to w (by simp)).trans (hB.mono (HC.out.to w (by simp)).size); obtain ⟨x0, x1, x2, x3⟩ := (H.out.below hd rfl).cellsP (pa l) (pa r) rfl rfl; clear hd; (go_simp <;> with_reducible rfl)
    try simp only [Act.put, zA, zB, zC]
    refine tk (i := 2) (oi := ⟨some 17, _, _, _, _, _⟩) (v := ?_) rfl (Or.inl ⟨by rfl, ?_⟩) hS ?_
    rotate_left 1
    · intro w' hB; (go_simp <;> with_reducible rfl)
    try simp only [Act.put, zA, zB, zC]
    refine tk (i := 3) (oi := ⟨some 18, _, _, _, _, _⟩) (v := ?_) rfl (Or.inl ⟨by rfl, ?_⟩) hS ?_
    rotate_left 1
    · intro w' hB; have hd := (HC.out.to w (by simp)).trans (hB.mono (HC.out.to w (by simp)).size); obtain ⟨x0, x1, x2, x3⟩ := (H.out.below hd rfl).cellsP (pa l) (pa r) rfl rfl; clear hd; (go_simp <;> with_reducible rfl)
    try simp only [Act.put, zA, zB, zC]
    refine tk (i := 4) (oi := ⟨some 19, _, _, _, _, _⟩) (v := ?_) rfl (Or.inl ⟨by rfl, ?_⟩) hS ?_
    rotate_left 1
    · intro w' hB; (go_simp <;> with_reducible rfl)
    try simp only [Act.put, zA, zB, zC]
    refine tk (i := 6) (oi := ⟨some 21, _, _, _, _, _⟩) (v := ?_) rfl (Or.inl ⟨by rfl, ?_⟩) hS ?_
    rotate_left 1
    · intro w' hB; (go_simp <;> with_reducible rfl)
    try simp only [Act.put, zA, zB, zC]
    refine tk (i := 7) (oi := ⟨some 22, _, _, _, _, _⟩) (v := ?_) rfl (Or.inl ⟨by rfl, ?_⟩) hS ?_
    rotate_left 1
    · intro w' hB; have hd := (HC.out.to w (by simp)).trans (hB.mono (HC.out.to w (by simp)).size); obtain ⟨x0, x1, x2, x3⟩ := (H.out.below hd rfl).cellsP (pa l) (pa r) rfl rfl; clear hd; (go_simp <;> with_reducible rfl)
    try simp only [Act.put, zA, zB, zC]
    refine tk (i := 8) (oi := ⟨some 23, _, _, _, _, _⟩) (v := ?_) rfl (Or.inl ⟨by rfl, ?_⟩) hS ?_
    rotate_left 1
    · intro w' hB; (go_simp <;> with_reducible rfl)
    try simp only [Act.put, zA, zB, zC]
    refine tk (i := 9) (oi := ⟨some 24, _, _, _, _, _⟩) (v := ?_) rfl (Or.inl ⟨by rfl, ?_⟩) hS ?_
    rotate_left 1
    · intro w' hB; have hd := (HC.out.to w (by simp)).trans (hB.mono (HC.out.to w (by simp)).size); obtain ⟨x0, x1, x2, x3⟩ := (H.out.below hd rfl).cellsP (pa l) (pa r) rfl rfl; clear hd; (go_simp <;> with_reducible rfl)
    try simp only [Act.put, zA, zB, zC]
    refine tk (i := 10) (oi := ⟨some 25, _, _, _, _, _⟩) (v := ?_) rfl (Or.inl ⟨by rfl, ?_⟩) hS ?_
    rotate_left 1
    · intro w' hB; (go_simp <;> with_reducible rfl)
    try simp only [Act.put, zA, zB, zC]
    refine tk (i := 11) (oi := ⟨some 26, _, _, _, _, _⟩) (v := ?_) rfl (Or.inl ⟨by rfl, ?_⟩) hS ?_
    rotate_left 1
    · intro w' hB; have hd := (HC.out.to w (by simp)).trans (hB.mono (HC.out.to w (by simp)).size); obtain ⟨x0, x1, x2, x3⟩ := (H.out.below hd rfl).cellsP (pa l) (pa r) rfl rfl; clear hd; (go_simp <;> with_reducible rfl)
    try simp only [Act.put, zA, zB, zC]
    refine tk (i := 12) (oi := ⟨some 27, _, _, _, _, _⟩) (v := ?_) rfl (Or.inl ⟨by rfl, ?_⟩) hS ?_
    rotate_left 1
    · intro w' hB; (go_simp <;> with_reducible rfl)
    try simp only [Act.put, zA, zB, zC]
    refine tk (i := 13) (oi := ⟨some 28, _, _, _, _, _⟩) (v := ?_) rfl (Or.inl ⟨by rfl, ?_⟩) hS ?_
    rotate_left 1
    · intro w' hB; have hd := (HC.out.to w (by simp)).trans (hB.mono (HC.out.to w (by simp)).size); obtain ⟨x0, x1, x2, x3⟩ := (H.out.below hd rfl).cellsP (pa l) (pa r) rfl rfl; clear hd; (go_simp <;> with_reducible rfl)
    try simp only [Act.put, zA, zB, zC]
    refine tk (i := 14) (oi := ⟨some 29, _, _, _, _, _⟩) (v := ?_) rfl (Or.inl ⟨by rfl, ?_⟩) hS ?_
    rotate_left 1
    · intro w' hB; (go_simp <;> with_reducible rfl)
    try simp only [Act.put, zA, zB, zC]
    refine tk (i := 15) (oi := ⟨some 30, _, _, _, _, _⟩) (v := ?_) rfl (Or.inl ⟨by rfl, ?_⟩) hS ?_
    rotate_left 1
    · intro w' hB; have hd := (HC.out.to w (by simp)).trans (hB.mono (HC.out.to w (by simp)).size); obtain ⟨x0, x1, x2, x3⟩ := (H.out.below hd rfl).cellsP (pa l) (pa r) rfl rfl; clear hd; (go_simp <;> with_reducible rfl)
    try simp only [Act.put, zA, zB, zC]
    refine tk (i := 16) (oi := ⟨some 31, _, _, _, _, _⟩) (v := ?_) rfl (Or.inl ⟨by rfl, ?_⟩) hS ?_
    rotate_left 1
    · intro w' hB; (go_simp <;> with_reducible rfl)
    try simp only [Act.put, zA, zB, zC]
    refine tk (i := 17) (oi := ⟨some 32, _, _, _, _, _⟩) (v := ?_) rfl (Or.inl ⟨by rfl, ?_⟩) hS ?_
    rotate_left 1
    · intro w' hB; have hd := (HC.out.to w (by simp)).trans (hB.mono (HC.out.to w (by simp)).size); obtain ⟨x0, x1, x2, x3⟩ := (H.out.below hd rfl).cellsP (pa l) (pa r) rfl rfl; clear hd; (go_simp <;> with_reducible rfl)
    try simp only [Act.put, zA, zB, zC]
    refine wpAnyH_ready (rs := [5]) (by kernel_rfl) (by simp) (AllReadyH.cons (o := ⟨some 20, _, _, _, _, _⟩) rfl (fun K hK => ?_) AllReadyH.nil)
    go_simp
    refine (I1.out N _ HK.out (Nat.le_trans hN (HC.out.le hS (by simp))) (H.out.2.1.chain HC.out hS (by simp)) (by have := HZ.out; simp only [sz] at this ⊢; omega)).mono ?_
    rintro e p1 ⟨l', hP, rfl, hA, hb⟩
    refine hK.out _ _ (hS.trans (hb.mono hS.size)) (fun _ => ?_)
    clear hK K
    have hB := hS.trans (hb.mono hS.size)
    refine wpAnyH_now hB ?_
    clear hS
    have hS := Below.refl p1.heap.size p1
    replace HC := Lib.hid (HC.out.push hB)
    have P1 := Lib.hid hP
    have A1 := Lib.hid hA
    clear hP hA
    clear hB hb
    try simp only [Act.put, zA, zB, zC]
    refine wpAnyH_ready (rs := [18]) (by kernel_rfl) (by simp) (AllReadyH.cons (o := ⟨some 33, _, _, _, _, _⟩) rfl (fun K hK => ?_) AllReadyH.nil)
    go_simp
    refine (pm_balancedS N l' r k0 v0 _ (Nat.le_trans hN (HC.out.le hS (by simp))) (A1.out.chain HC.out hS (by simp)) (H.out.2.2.chain HC.out hS (by simp)) (by have := HZ.out; have := P1.out.sz_leS; simp only [sz] at *; omega)).mono ?_
    rintro e p2 ⟨t', hP, rfl, hA, hb⟩
    refine hK.out _ _ (hS.trans (hb.mono hS.size)) (fun _ => ?_)
    clear hK K
    have hB := hS.trans (hb.mono hS.size)
    refine wpAnyH_now hB ?_
    clear hS
    have hS := Below.refl p2.heap.size p2
    replace HC := Lib.hid (HC.out.push hB)
    have P2 := Lib.hid hP
    have A2 := Lib.hid hA
    clear hP hA
    clear hB hb
    try simp only [Act.put, zA, zB, zC]
    refine tk (i := 19) (oi := ⟨some 4, _, _, _, _, _⟩) (v := ?_) rfl (Or.inl ⟨by rfl, ?_⟩) hS ?_
    rotate_left 1
    · intro w' hB; have hd := (HC.out.to w (by simp)).trans (hB.mono (HC.out.to w (by simp)).size); obtain ⟨x0, x1, x2, x3⟩ := (H.out.below hd rfl).cellsP (pa l) (pa r) rfl rfl; clear hd; (go_simp <;> with_reducible rfl)
    try simp only [Act.put, zA, zB, zC]
    refine wpAnyH_done (by kernel_rfl) (NoPanic.normal ?_) _
    clear hS
    go_wp2_with fail
    go_ret
    exact ⟨_, .lt h1 P1.out P2.out, rfl, A2.out, HC.out.to w (by simp)⟩
  · rw [if_neg h1] at hlk
    by_cases h2 : klt k0 k = true
    · have hk : Op.bytesLess k.toList k0.toList = false := by simpa [klt] using h1
      have hke : (k.toList == k0.toList) = false := by rw [eq_iff]; simp; exact Ne.symm (klt_ne h2)
      rw [if_pos h2] at hlk
      have HK := Lib.hid hlk
      clear hlk
      obtain ⟨x0, x1, x2, x3⟩ := H.out.cellsP (pa l) (pa r) rfl rfl
      go_enter Tryz.func112, Tryz.ntmps112
      go_wp2_with fail
      clear x0 x1 x2 x3
      refine wp_region_noPanic ?_
      refine wp_region_held_drew (S := fun w' => Below w.heap.size w w') (by kernel_rfl) (Below.refl _ _).drew (fun hS => ?_)
      refine tk (i := 0) (oi := ⟨some 41, _, _, _, _, _⟩) (v := ?_) rfl (Or.inl ⟨by rfl, ?_⟩) hS ?_
      rotate_left 1
      · intro w' hB; (go_simp <;> with_reducible rfl)
      try simp only [Act.put, zA, zB, zC]
      refine tk (i := 1) (oi := ⟨some 42, _, _, _, _, _⟩) (v := ?_) rfl (Or.inl ⟨by rfl, ?_⟩) hS ?_
      rotate_left 1
      · intro w' hB; have hd := (HC.out.to w (by simp)).trans (hB.mono (HC.out.to w (by simp)).size); obtain ⟨x0, x1, x2, x3⟩ := (H.out.below hd rfl).cellsP (pa l) (pa r) rfl rfl; clear hd; (go_simp <;> with_reducible rfl)
      try simp only [Act.put, zA, zB, zC]
      refine tk (i := 2) (oi := ⟨some 43, _, _, _, _, _⟩) (v := ?_) rfl (Or.inl ⟨by rfl, ?_⟩) hS ?_
      rotate_left 1
      · intro w' hB; (go_simp <;> with_reducible rfl)
      try simp only [Act.put, zA, zB, zC]
      refine tk (i := 3) (oi := ⟨some 44, _, _, _, _, _⟩) (v := ?_) rfl (Or.inl ⟨by rfl, ?_⟩) hS ?_
      rotate_left 1
      · intro w' hB; have hd := (HC.out.to w (by simp)).trans (hB.mono (HC.out.to w (by simp)).size); obtain ⟨x0, x1, x2, x3⟩ := (H.out.below hd rfl).cellsP (pa l) (pa r) rfl rfl; clear hd; (go_simp <;> with_reducible rfl)
      try simp only [Act.put, zA, zB, zC]
      refine tk (i := 4) (oi := ⟨some 45, _, _, _, _, _⟩) (v := ?_) rfl (Or.inl ⟨by rfl, ?_⟩) hS ?_
      rotate_left 1
      · intro w' hB; (go_simp <;> with_reducible rfl)
      try simp only [Act.put, zA, zB, zC]
      refine tk (i := 5) (oi := ⟨some 46, _, _, _, _, _⟩) (v := ?_) rfl (Or.inl ⟨by rfl, ?_⟩) hS ?_
      rotate_left 1
      · intro w' hB; have hd := (HC.out.to w (by simp)).trans (hB.mono (HC.out.to w (by simp)).size); obtain ⟨x0, x1, x2, x3⟩ := (H.out.below hd rfl).cellsP (pa l) (pa r) rfl rfl; clear hd; (go_simp <;> with_reducible rfl)
      try simp only [Act.put, zA, zB, zC]
      refine tk (i := 6) (oi := ⟨some 47, _, _, _, _, _⟩) (v := ?_) rfl (Or.inl ⟨by rfl, ?_⟩) hS ?_
      rotate_left 1
      · intro w' hB; (go_simp <;> with_reducible rfl)
      try simp only [Act.put, zA, zB, zC]
      refine tk (i := 7) (oi := ⟨some 48, _, _, _, _, _⟩) (v := ?_) rfl (Or.inl ⟨by rfl, ?_⟩) hS ?_
      rotate_left 1
      · intro w' hB; have hd := (HC.out.to w (by simp)).trans (hB.mono (HC.out.to w (by simp)).size); obtain ⟨x0, x1, x2, x3⟩ := (H.out.below hd rfl).cellsP (pa l) (pa r) rfl rfl; clear hd; (go_simp <;> with_reducible rfl)
      try simp only [Act.put, zA, zB, zC]
      refine tk (i := 8) (oi := ⟨some 49, _, _, _, _, _⟩) (v := ?_) rfl (Or.inl ⟨by rfl, ?_⟩) hS ?_
      rotate_left 1
      · intro w' hB; (go_simp <;> with_reducible rfl)
      try simp only [Act.put, zA, zB, zC]
      refine tk (i := 9) (oi := ⟨some 50, _, _, _, _, _⟩) (v := ?_) rfl (Or.inl ⟨by rfl, ?_⟩) hS ?_
      rotate_left 1
      · intro w' hB; have hd := (HC.out.to w (by simp)).trans (hB.mono (HC.out.to w (by simp)).size); obtain ⟨x0, x1, x2, x3⟩ := (H.out.below hd rfl).cellsP (pa l) (pa r) rfl rfl; clear hd; (go_simp <;> with_reducible rfl)
      try simp only [Act.put, zA, zB, zC]
      refine tk (i := 10) (oi := ⟨some 51, _, _, _, _, _⟩) (v := ?_) rfl (Or.inl ⟨by rfl, ?_⟩) hS ?_
      rotate_left 1
      · intro w' hB; (go_simp <;> with_reducible rfl)
      try simp only [Act.put, zA, zB, zC]
      refine tk (i := 11) (oi := ⟨some 52, _, _, _, _, _⟩) (v := ?_) rfl (Or.inl ⟨by rfl, ?_⟩) hS ?_
      rotate_left 1
      · intro w' hB; have hd := (HC.out.to w (by simp)).trans (hB.mono (HC.out.to w (by simp)).size); obtain ⟨x0, x1, x2, x3⟩ := (H.out.below hd rfl).cellsP (pa l) (pa r) rfl rfl; clear hd; (go_simp <;> with_reducible rfl)
      try simp only [Act.put, zA, zB, zC]
      refine tk (i := 12) (oi := ⟨some 53, _, _, _, _, _⟩) (v := ?_) rfl (Or.inl ⟨by rfl, ?_⟩) hS ?_
      rotate_left 1
      · intro w' hB; (go_simp <;> with_reducible rfl)
      try simp only [Act.put, zA, zB, zC]
      refine tk (i := 13) (oi := ⟨some 54, _, _, _, _, _⟩) (v := ?_) rfl (Or.inl ⟨by rfl, ?_⟩) hS ?_
      rotate_left 1
      · intro w' hB; have hd := (HC.out.to w (by simp)).trans (hB.mono (HC.out.to w (by simp)).size); obtain ⟨x0, x1, x2, x3⟩ := (H.out.below hd rfl).cellsP (pa l) (pa r) rfl rfl; clear hd; (go_simp <;> with_reducible rfl)
      try simp only [Act.put, zA, zB, zC]
      refine tk (i := 14) (oi := ⟨some 55, _, _, _, _, _⟩) (v := ?_) rfl (Or.inl ⟨by rfl, ?_⟩) hS ?_
      rotate_left 1
      · intro w' hB; (go_simp <;> with_reducible rfl)
      try simp only [Act.put, zA, zB, zC]
      refine tk (i := 15) (oi := ⟨some 56, _, _, _, _, _⟩) (v := ?_) rfl (Or.inl ⟨by rfl, ?_⟩) hS ?_
      rotate_left 1
      · intro w' hB; have hd := (HC.out.to w (by simp)).trans (hB.mono (HC.out.to w (by simp)).size); obtain ⟨x0, x1, x2, x3⟩ := (H.out.below hd rfl).cellsP (pa l) (pa r) rfl rfl; clear hd; (go_simp <;> with_reducible rfl)
      try simp only [Act.put, zA, zB, zC]
      refine tk (i := 16) (oi := ⟨some 57, _, _, _, _, _⟩) (v := ?_) rfl (Or.inl ⟨by rfl, ?_⟩) hS ?_
      rotate_left 1
      · intro w' hB; (go_simp <;> with_reducible rfl)
      try simp only [Act.put, zA, zB, zC]
      refine wpAnyH_ready (rs := [17]) (by kernel_rfl) (by simp) (AllReadyH.cons (o := ⟨some 58, _, _, _, _, _⟩) rfl (fun K hK => ?_) AllReadyH.nil)
      go_simp
      refine (I2.out N _ HK.out (Nat.le_trans hN (HC.out.le hS (by simp))) (H.out.2.2.chain HC.out hS (by simp)) (by have := HZ.out; simp only [sz] at this ⊢; omega)).mono ?_
      rintro e p1 ⟨r', hP, rfl, hA, hb⟩
      refine hK.out _ _ (hS.trans (hb.mono hS.size)) (fun _ => ?_)
      clear hK K
      have hB := hS.trans (hb.mono hS.size)
      refine wpAnyH_now hB ?_
      clear hS
      have hS := Below.refl p1.heap.size p1
      replace HC := Lib.hid (HC.out.push hB)
      have P1 := Lib.hid hP
      have A1 := Lib.hid hA
      clear hP hA
      clear hB hb
      try simp only [Act.put, zA, zB, zC]
      refine wpAnyH_ready (rs := [18]) (by kernel_rfl) (by simp) (AllReadyH.cons (o := ⟨some 59, _, _, _, _, _⟩) rfl (fun K hK => ?_) AllReadyH.nil)
      go_simp
      refine (pm_balancedS N l r' k0 v0 _ (Nat.le_trans hN (HC.out.le hS (by simp))) (H.out.2.1.chain HC.out hS (by simp)) (A1.out.chain HC.out hS (by simp)) (by have := HZ.out; have := P1.out.sz_leS; simp only [sz] at *; omega)).mono ?_
      rintro e p2 ⟨t', hP, rfl, hA, hb⟩
      refine hK.out _ _ (hS.trans (hb.mono hS.size)) (fun _ => ?_)
      clear hK K
      have hB := hS.trans (hb.mono hS.size)
      refine wpAnyH_now hB ?_
      clear hS
      have hS := Below.refl p2.heap.size p2
      replace HC := Lib.hid (HC.out.push hB)
      have P2 := Lib.hid hP
      have A2 := Lib.hid hA
      clear hP hA
      clear hB hb
      try simp only [Act.put, zA, zB, zC]
      refine tk (i := 19) (oi := ⟨some 4, _, _, _, _, _⟩) (v := ?_) rfl (Or.inl ⟨by rfl, ?_⟩) hS ?_
      rotate_left 1
      · intro w' hB; have hd := (HC.out.to w (by simp)).trans (hB.mono (HC.out.to w (by simp)).size); obtain ⟨x0, x1, x2, x3⟩ := (H.out.below hd rfl).cellsP (pa l) (pa r) rfl rfl; clear hd; (go_simp <;> with_reducible rfl)
      try simp only [Act.put, zA, zB, zC]
      refine wpAnyH_done (by kernel_rfl) (NoPanic.normal ?_) _
      clear hS
      go_wp2_with fail
      go_ret
      exact ⟨_, .gt h2 P1.out P2.out, rfl, A2.out, HC.out.to w (by simp)⟩
    · clear hlk
      obtain rfl := klt_tri (a := k) (b := k0) (by simpa using h1) (by simpa using h2)
      have hk : Op.bytesLess k.toList k.toList = false := klt_irrefl k
      cases r with
      | nil =>
       obtain ⟨x0, x1, x2, x3⟩ := H.out.cellsP (pa l) none rfl rfl
       go_enter Tryz.func112, Tryz.ntmps112
       go_wp2_with fail
       go_ret
       exact ⟨_, .last rfl, rfl, H.out.2.1, Below.refl _ _⟩
      | node br rl rk rv rr =>
       obtain ⟨x0, x1, x2, x3⟩ := H.out.cellsP (pa l) (some ⟨br, 0, none⟩) rfl rfl
       go_enter Tryz.func112, Tryz.ntmps112
       go_wp2_with fail
       refine (pm_firstS (.node br rl rk rv rr) N w (by simp) hN H.out.2.2 (by have := HZ.out; simp only [sz] at this ⊢; omega)).mono ?_
       rintro e p1 ⟨k1, v1, r', hP, rfl, hA, hb⟩
       have P1 := Lib.hid hP
       have A1 := Lib.hid hA
       replace HC := Lib.hid (HC.out.push hb)
       clear hP hA x0 x1 x2 x3
       obtain ⟨x0, x1, x2, x3⟩ := (H.out.below hb rfl).cellsP (pa l) (some ⟨br, 0, none⟩) rfl rfl
       clear hb
       go_wp2_with fail
       refine (pm_balancedS N l r' k1 v1 p1 (Nat.le_trans hN (HC.out.to w (by simp)).size) (H.out.2.1.below (HC.out.to w (by simp)) rfl) A1.out (by have := HZ.out; have := P1.out.szS; simp only [sz] at *; omega)).mono ?_
       rintro e p2 ⟨t', hP, rfl, hA, hb⟩
       have P2 := Lib.hid hP
       have A2 := Lib.hid hA
       replace HC := Lib.hid (HC.out.push hb)
       clear hP hA hb x0 x1 x2 x3
       go_wp2_with fail
       go_ret
       exact ⟨_, .eq rfl P1.out P2.out, rfl, A2.out, HC.out.to w (by simp)⟩
end Go.Proofs.YtjlliohjeiclaaaGreatDoor
namespace Go.Proofs.YtjlliohjeiclaaaGreatDoor
open Go.RowKit Pm
theorem Pm.JoinR.szS {N : Nat} {k : ByteArray} {v : ByteArray} {l r t : Tr ByteArray} (h : JoinR N k v l r t) : sz t = sz l + sz r + 1 := by
 rw [← sz_items, h.items, ← sz_items l, ← sz_items r]; simp only [List.length_append, List.length_cons]; omega
theorem Pm.SplitR.szS {N : Nat} {k : ByteArray} {t a x c : Tr ByteArray} (h : SplitR N k t a x c) : sz a + sz c ≤ sz t := by
 rw [← sz_items t, h.items, ← sz_items a, ← sz_items c]; simp only [List.length_append]; omega
end Go.Proofs.YtjlliohjeiclaaaGreatDoor
namespace Go.Proofs.YtjlliohjeiclaaaGreatDoor
namespace Pm
section
variable {α : Type}
def endR : Tr α → Tr α
 | .nil => .nil
 | .node b l k v .nil => .node b l k v .nil
 | .node _ _ _ _ (.node b' l' k' v' r') => endR (.node b' l' k' v' r')
def fromL (key : ByteArray) : Tr α → List (ByteArray × α)
 | .nil => []
 | .node _ l k v r => if klt k key then fromL key r else fromL key l ++ (k, v) :: fromL key r
theorem fromL_all (t : Tr α) : fromL ⟨#[]⟩ t = items t := by
 induction t with
 | nil => rfl
 | node b l k v r ih1 ih2 =>
  have : klt k ⟨#[]⟩ = false := by
   cases h : klt k ⟨#[]⟩ with
   | false => rfl
   | true => exact absurd ((klt_iff _ _).1 h) (by simp)
  simp only [fromL, items]
  rw [if_neg (by rw [this]; simp), ih1, ih2]
theorem fromL_filter (key : ByteArray) (t : Tr α) (hs : Srt (items t)) : fromL key t = (items t).filter fun x => !klt x.1 key := by
 induction t with
 | nil => rfl
 | node b l k v r ih1 ih2 =>
  obtain ⟨s1, s2, s3⟩ := srt_append.1 hs
  obtain ⟨s4, s5⟩ := srt_cons.1 s2
  simp only [fromL, items]
  rw [List.filter_append, ih1 s1, ih2 s5]
  by_cases h : klt k key = true
  · rw [if_pos h]
    have e : (items l).filter (fun x => !klt x.1 key) = [] := by
     rw [List.filter_eq_nil_iff]
     intro x hx
     simp [klt_trans (s3 x hx _ List.mem_cons_self) h]
    rw [e, List.filter_cons, if_neg (by simp [h])]; rfl
  · rw [if_neg h, List.filter_cons, if_pos (by simpa using h)]
theorem endR_items : ∀ (t : Tr α), t ≠ .nil → ∃ b l k v r, endR t = .node b l k v r ∧ (items t)[sz t - 1]? = some (k, v)
 | .nil, h => absurd rfl h
 | .node b l k v .nil, _ => ⟨b, l, k, v, .nil, rfl, by
  rw [items, List.getElem?_append_right (by rw [sz_items]; simp [sz]), sz_items]; simp [sz]⟩
 | .node b l k v (.node b' l' k' v' r'), _ => by
  obtain ⟨b1, l1, k1, v1, r1, h1, h2⟩ := endR_items (.node b' l' k' v' r') (by simp)
  refine ⟨b1, l1, k1, v1, r1, h1, ?_⟩
  have hp : 1 ≤ sz (.node b' l' k' v' r' : Tr α) := by simp [sz]
  generalize (.node b' l' k' v' r' : Tr α) = q at *
  rw [items, List.getElem?_append_right (by rw [sz_items]; simp only [sz]; omega), sz_items]
  rw [show sz (.node b l k v q) - 1 - sz l = (sz q - 1) + 1 by simp only [sz]; omega, List.getElem?_cons_succ]
  exact h2
end
end Pm
end Go.Proofs.YtjlliohjeiclaaaGreatDoor
namespace Go.Proofs.YtjlliohjeiclaaaGreatDoor
open Go.RowKit Pm
def Pm.isNS : Tr ByteArray → Bool
 | .nil => false
 | .node _ _ _ _ _ => true
def hOfS (w : World) (v : Value) : Nat := match v with
 | .pointer (some a) => match w.cell? ⟨a.block, 4, none⟩ with
  | some (.int _ n) => n.toNat
  | _ => 0
 | _ => 0
theorem hOf_atS {w : World} {t : Tr ByteArray} (h : AtS w t) : hOfS w (.pointer (pa t)) = ht t := by
 cases t with
 | nil => rfl
 | node b l k v r =>
  obtain ⟨_, _, _, _, c4, _⟩ := h.cells
  simp [hOfS, pa, c4]
theorem pm_MLenS (t : Tr ByteArray) (w : World) (h : AtS w t) : Calls Tryz.prog 12 #[.agg #[.pointer (pa t)]] w fun e w' => e = .returned (.int .i64 (sz t : Int)) ∧ Below w.heap.size w w' := by
 have H := Lib.hid h; clear h
 go_enter Tryz.func12, Tryz.ntmps12
 go_wp2_with fail
 refine (pm_LenS t _ (H.out.below (below_new _ _) rfl)).mono ?_
 rintro e w' ⟨rfl, rfl⟩
 go_wp2_with fail
 go_ret
 exact ⟨rfl, below_new _ _⟩
theorem infoNodeS : (Tryz.prog.info? 111).map (fun i => i.size) = some 6 := by kernel_rfl
theorem ptr_eqlS (w : World) (t o : Tr ByteArray) (h1 : AtS w t) (h2 : AtS w o) : (binOp .eql 25 (.pointer (pa t)) (.pointer (pa o))).run Tryz.prog w = .ok (.bool (decide (pa t = pa o))) w := by
 have hp := Tryz.underlying25
 obtain ⟨j, hj, hs⟩ : ∃ j, Tryz.prog.info? 111 = some j ∧ j.size = 6 := by
  have h := infoNodeS
  cases hi : Tryz.prog.info? 111 with
  | none => rw [hi] at h; cases h
  | some j => rw [hi] at h; exact ⟨j, rfl, by simpa using h⟩
 cases o with
 | nil =>
  cases t with
  | nil =>
   have h : ∀ d : Nat, (Op.equalIn (d + 1) 25 (.pointer none) (.pointer none)).run Tryz.prog w = .ok true w := fun d => by simp [Op.equalIn, run_underlying hp]
   simp only [binOp, pa]
   simp [Op.equal, Op.maxDepth, h 9999]
  | node b l k v r =>
   have h : ∀ d : Nat, (Op.equalIn (d + 1) 25 (.pointer (some ⟨b, 0, none⟩)) (.pointer none)).run Tryz.prog w = .ok false w := fun d => by simp [Op.equalIn, run_underlying hp]
   simp only [binOp, pa]
   simp [Op.equal, Op.maxDepth, h 9999]
 | node b' l' k' v' r' =>
  cases t with
  | nil =>
   have h : ∀ d : Nat, (Op.equalIn (d + 1) 25 (.pointer none) (.pointer (some ⟨b', 0, none⟩))).run Tryz.prog w = .ok false w := fun d => by simp [Op.equalIn, run_underlying hp]
   simp only [binOp, pa]
   simp [Op.equal, Op.maxDepth, h 9999]
  | node b l k v r =>
   by_cases hb : b = b'
   · subst hb
     have h := run_eql_ptr_same w ⟨b, 0, none⟩ hp hj
     simp only [pa, decide_true]
     exact h
   · have h := run_eql_ptr_other w hp hj (by omega) (a := ⟨b, 0, none⟩) (b := ⟨b', 0, none⟩) (by simp [hb]) h1.1 h2.1
     simp only [pa]
     rw [h]
     simp [hb]
theorem pm_MSameS (t o : Tr ByteArray) (w : World) (h1 : AtS w t) (h2 : AtS w o) : Calls Tryz.prog 55 #[.agg #[.pointer (pa t)], .agg #[.pointer (pa o)]] w fun e w' => e = .returned (.bool (decide (pa t = pa o))) ∧ Below w.heap.size w w' := by
 have hb : Below w.heap.size w ((w.alloc (.cells #[.pointer (pa t)] 27)).alloc (.cells #[.pointer (pa o)] 27)) := (below_new w _).trans ((below_new _ _).mono (by simp))
 have he := ptr_eqlS _ t o (h1.below hb rfl) (h2.below hb rfl)
 clear h1 h2
 have HB := Lib.hid hb
 clear hb
 obtain ⟨q, hq⟩ : ∃ q, decide (pa t = pa o) = q := ⟨_, rfl⟩
 rw [hq] at he
 have HQ := Lib.hid hq
 clear hq
 go_enter Tryz.func55, Tryz.ntmps55
 go_wp2_with fail
 go_ret
 rw [HQ.out]
 exact ⟨rfl, HB.out⟩
theorem AtS.endR {w : World} : ∀ {t : Tr ByteArray}, AtS w t → AtS w (endR t)
 | .nil, _ => trivial
 | .node _ _ _ _ .nil, h => h
 | .node _ _ _ _ (.node b l k v r), h => AtS.endR (t := .node b l k v r) h.2.2
theorem AtS.seek {w : World} {k : ByteArray} : ∀ {t : Tr ByteArray}, AtS w t → AtS w (seek k t)
 | .nil, _ => trivial
 | .node b l k0 v0 r, h => by
  simp only [Pm.seek]
  split
  · exact AtS.seek h.2.1
  · split
    · exact AtS.seek h.2.2
    · exact h
set_option maxHeartbeats 1000000 in
theorem pm_MGetS (t : Tr ByteArray) (k : ByteArray) (w : World) (h : AtS w t) : Calls Tryz.prog 17 #[.agg #[.pointer (pa t)], .string k] w fun e w' => e = .returned (.tuple #[.string (valOr (seek k t)), .bool (isNS (seek k t))]) ∧ Below w.heap.size w w' := by
 have HB := Lib.hid (below_new w (.cells #[.pointer (pa t)] 27))
 have H := Lib.hid (h.below HB.out rfl); clear h
 go_enter Tryz.func17, Tryz.ntmps17
 go_wp2_with fail
 generalize w.alloc (.cells #[.pointer (pa t)] 27) = w1 at *
 go_loopw [6] (fun u wr => ∃ s : Tr ByteArray, u = .pointer (pa s) ∧ Hid (AtS wr s) ∧ Hid (seek k s = seek k t) ∧ Hid (w1 = wr)) (fun u wr => hOfS wr u)
 case atStart => exact ⟨t, rfl, H, Lib.hid rfl, Lib.hid rfl⟩
 case round =>
  obtain ⟨s, rfl, HA, HE, HW⟩ := hrel
  have fin : s = seek k t → Hid (s = seek k t) := Lib.hid
  cases s with
  | nil =>
   have HQ := fin HE.out
   clear fin
   have hpn : pa (.nil : Tr ByteArray) = none := rfl
   go_wp2_with fail
   refine (pm_ValueS .nil _ HA.out).mono ?_
   rintro e w' ⟨rfl, rfl⟩
   go_wp2_with fail
   go_ret2
   rw [← HQ.out, ← HW.out]
   exact ⟨rfl, HB.out⟩
  | node b l k0 v0 r =>
   have hpn : pa (.node b l k0 v0 r : Tr ByteArray) = some ⟨b, 0, none⟩ := rfl
   obtain ⟨x0, x1, x2, x3⟩ := HA.out.cellsP (pa l) (pa r) rfl rfl
   by_cases h0 : k0 = k
   · subst h0
     have HQ := fin (by rw [← HE.out]; simp only [Pm.seek]; rw [klt_irrefl]; simp)
     clear fin
     go_wp2_with fail
     refine (pm_ValueS (.node b l k0 v0 r) _ HA.out).mono ?_
     rintro e w' ⟨rfl, rfl⟩
     go_wp2_with fail
     go_ret2
     rw [← HQ.out, ← HW.out]
     exact ⟨rfl, HB.out⟩
   · have hke : (k0.toList == k.toList) = false := by rw [eq_iff]; simp [h0]
     by_cases h1 : klt k k0 = true
     · have hk : Op.bytesLess k.toList k0.toList = true := h1
       go_wp2_with fail
       refine ⟨⟨l, rfl, Lib.hid HA.out.2.1, Lib.hid ?_, HW⟩, ?_⟩
       · rw [← HE.out]; simp only [Pm.seek]; rw [if_pos h1]
       · rw [hOf_atS HA.out, hOf_atS HA.out.2.1]; simp only [ht]; omega
     · have hk : Op.bytesLess k.toList k0.toList = false := by simpa [klt] using h1
       have h2 : klt k0 k = true := by
        cases h2 : klt k0 k with
        | true => rfl
        | false => exact absurd (klt_tri h2 (by simpa using h1)) h0
       go_wp2_with fail
       refine ⟨⟨r, rfl, Lib.hid HA.out.2.2, Lib.hid ?_, HW⟩, ?_⟩
       · rw [← HE.out]; simp only [Pm.seek]; rw [if_neg h1, if_pos h2]
       · rw [hOf_atS HA.out, hOf_atS HA.out.2.2]; simp only [ht]; omega
theorem pm_MPutS (t : Tr ByteArray) (k : ByteArray) (v : ByteArray) (N : Nat) (w : World) (hN : N ≤ w.heap.size) (h : AtS w t) (hs : sz t + 2 ≤ 1099511627776) : Calls Tryz.prog 16 #[.agg #[.pointer (pa t)], .string k, .string v] w fun e w' =>
 ∃ t', PutR N k v t t' ∧ e = .returned (.agg #[.pointer (pa t')]) ∧ AtS w' t' ∧ Below w.heap.size w w' := by
 obtain ⟨w1, hw1⟩ : ∃ w1, (w.alloc (.cells #[.pointer (pa t)] 27)).alloc (.cells #[.pointer none] 27) = w1 := ⟨_, rfl⟩
 have hb : Below w.heap.size w w1 := by rw [← hw1]; exact ((Below.refl _ w).alloc (Nat.le_refl _) _).alloc (by simp) _
 have h1 : w1.heap[w.heap.size + 1]? = some (.cells #[.pointer none] 27 (0, 0)) := by rw [← hw1]; have := heap_alloc_new (w.alloc (.cells #[.pointer (pa t)] 27)) (.cells #[.pointer none] 27); simpa using this
 have HX := Lib.hid h1
 have H := Lib.hid (h.below hb rfl)
 have HB := Lib.hid hb
 have HW := Lib.hid hw1
 clear h hb hw1 h1
 go_enter Tryz.func16, Tryz.ntmps16
 go_wp2_with fail
 rw [HW.out]
 refine (pm_putS k v t N w1 (Nat.le_trans hN HB.out.size) H.out hs).mono ?_
 rintro e w2 ⟨t', hP, rfl, hA, hb⟩
 have P1 := Lib.hid hP
 have A1 := Lib.hid hA
 have D1 : Hid (Below w.heap.size w w2) := Lib.hid (HB.out.trans (hb.mono HB.out.size))
 have X2 : Hid (w2.heap[w.heap.size + 1]? = some (.cells #[.pointer none] 27 (0, 0))) := Lib.hid (boxStays HX.out hb)
 clear hP hA hb
 have f0 := frozen_of_row _ (w.heap.size + 1) 0 _ _ X2.out
 have k0 := cell_of_one X2.out
 go_wp2_with fail
 have k1 := cell_of_one (heap_setCell_same w2 (w.heap.size + 1) 0 _ _ (.pointer (pa t')) X2.out)
 clear k0 f0
 refine bodyPost_ret (v := .agg #[.pointer (pa t')]) (by simp [results, Tryz.results16, go_sem, k1]) rfl ?_
 exact ⟨_, P1.out, rfl, A1.out.setBox X2.out (by decide) 0 _, D1.out.setCell (p := ⟨w.heap.size + 1, 0, none⟩) (by simp) _⟩
theorem pm_MTakeS (t : Tr ByteArray) (k : ByteArray) (N : Nat) (w : World) (hN : N ≤ w.heap.size) (h : AtS w t) (hs : sz t + 2 ≤ 1099511627776) : Calls Tryz.prog 66 #[.agg #[.pointer (pa t)], .string k] w fun e w' =>
 ∃ t', ((seek k t = .nil ∧ t' = t) ∨ (seek k t ≠ .nil ∧ TakeR N k t t')) ∧ e = .returned (.agg #[.pointer (pa t')]) ∧ AtS w' t' ∧ Below w.heap.size w w' := by
 obtain ⟨w1, hw1⟩ : ∃ w1, (w.alloc (.cells #[.pointer (pa t)] 27)).alloc (.cells #[.pointer none] 27) = w1 := ⟨_, rfl⟩
 have hb : Below w.heap.size w w1 := by rw [← hw1]; exact ((Below.refl _ w).alloc (Nat.le_refl _) _).alloc (by simp) _
 have h0 : w1.heap[w.heap.size]? = some (.cells #[.pointer (pa t)] 27 (0, 0)) := by rw [← hw1]; exact boxStays (heap_alloc_new w _) (below_new _ _)
 have h1 : w1.heap[w.heap.size + 1]? = some (.cells #[.pointer none] 27 (0, 0)) := by rw [← hw1]; have := heap_alloc_new (w.alloc (.cells #[.pointer (pa t)] 27)) (.cells #[.pointer none] 27); simpa using this
 have HX0 := Lib.hid h0
 have HX := Lib.hid h1
 have H := Lib.hid (h.below hb rfl)
 have HB := Lib.hid hb
 have HW := Lib.hid hw1
 clear h hb hw1 h1 h0
 go_enter Tryz.func66, Tryz.ntmps66
 go_wp2_with fail
 rw [HW.out]
 refine (pm_MGetS t k w1 H.out).mono ?_
 rintro e w2 ⟨rfl, hb⟩
 have D1 : Hid (Below w.heap.size w w2) := Lib.hid (HB.out.trans (hb.mono HB.out.size))
 have A1 := Lib.hid (H.out.below hb rfl)
 have X0 := Lib.hid (boxStays HX0.out hb)
 have X2 := Lib.hid (boxStays HX.out hb)
 clear hb H HX0 HX HB HW
 have f0 := frozen_of_row _ (w.heap.size + 1) 0 _ _ X2.out
 have k0 := cell_of_one X2.out
 have k2 := cell_of_one X0.out
 cases hsk : seek k t with
 | nil =>
  have HSK := Lib.hid hsk
  clear hsk
  have hi : isNS (.nil : Tr ByteArray) = false := rfl
  go_wp2_with fail
  have k1 := cell_of_one (heap_setCell_same w2 (w.heap.size + 1) 0 _ _ (.pointer (pa t)) X2.out)
  clear k0 f0 k2
  refine bodyPost_ret (v := .agg #[.pointer (pa t)]) (by simp [results, Tryz.results66, go_sem, k1]) rfl ?_
  exact ⟨_, .inl ⟨HSK.out, rfl⟩, rfl, A1.out.setBox X2.out (by decide) 0 _, D1.out.setCell (p := ⟨w.heap.size + 1, 0, none⟩) (by simp) _⟩
 | node b l k1 v1 r =>
  have HSK : Hid (seek k t ≠ .nil) := Lib.hid (by rw [hsk]; simp)
  clear hsk
  have hi : isNS (.node b l k1 v1 r : Tr ByteArray) = true := rfl
  go_wp2_with fail
  refine (pm_takeS k t N w2 HSK.out (Nat.le_trans hN D1.out.size) A1.out hs).mono ?_
  rintro e w3 ⟨t', hP, rfl, hA, hb⟩
  have P1 := Lib.hid hP
  have A2 := Lib.hid hA
  have D2 : Hid (Below w.heap.size w w3) := Lib.hid (D1.out.trans (hb.mono D1.out.size))
  have X3 := Lib.hid (boxStays X2.out hb)
  clear hP hA hb k0 f0 k2
  have f0 := frozen_of_row _ (w.heap.size + 1) 0 _ _ X3.out
  have k0 := cell_of_one X3.out
  go_wp2_with fail
  have k1 := cell_of_one (heap_setCell_same w3 (w.heap.size + 1) 0 _ _ (.pointer (pa t')) X3.out)
  clear k0 f0
  refine bodyPost_ret (v := .agg #[.pointer (pa t')]) (by simp [results, Tryz.results66, go_sem, k1]) rfl ?_
  exact ⟨_, .inr ⟨HSK.out, P1.out⟩, rfl, A2.out.setBox X3.out (by decide) 0 _, D2.out.setCell (p := ⟨w.heap.size + 1, 0, none⟩) (by simp) _⟩
end Go.Proofs.YtjlliohjeiclaaaGreatDoor
namespace Go.Proofs.YtjlliohjeiclaaaGreatDoor
open Go.RowKit
theorem grown_of_below {w w' : World} (h : Below w.heap.size w w') (row : Option Nat) : w.grownBy w' row := ⟨h.os, h.tape, h.output, h.size, fun k hk _ => h.block k hk⟩
theorem ownFrom_to {β : Type} {B : Nat} {I : β → World → Prop} (h : OwnFrom B I) {s : β} {A A' : World} (hs : I s A) (hb : Below A.heap.size A A') : I s A' :=
 h s A A' none hs (grown_of_below hb none) (fun r e => by cases e)
variable {P : Program} {n : Nat}
end Go.Proofs.YtjlliohjeiclaaaGreatDoor
