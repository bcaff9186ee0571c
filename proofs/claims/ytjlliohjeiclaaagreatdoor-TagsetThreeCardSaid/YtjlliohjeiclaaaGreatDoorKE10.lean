/- Words, contracts and walks that the proof stands on (PmW3S PmW4S). -/
import Derived.Test.YtjlliohjeiclaaaGreatDoorKE1
import Derived.Laws.Cover1
import Derived.Test.YtjlliohjeiclaaaGreatDoorKE9
namespace Go.Proofs.YtjlliohjeiclaaaGreatDoor
open Go.RowKit Pm
theorem Pm.PutR.sz_leS {N : Nat} {k : ByteArray} {v : ByteArray} {t t' : Tr ByteArray} (h : PutR N k v t t') : sz t' ≤ sz t + 1 := by
 induction h with
 | nil => simp [sz]
 | lt h1 h2 h3 ih => rw [h3.sz]; simp only [sz]; omega
 | gt h1 h2 h3 ih => rw [h3.sz]; simp only [sz]; omega
 | eq h1 h2 => simp [sz]
set_option maxRecDepth 100000 in
set_option maxHeartbeats 4000000 in
theorem pm_putS (k : ByteArray) (v : ByteArray) : ∀ (t : Tr ByteArray) (N : Nat) (w : World), N ≤ w.heap.size → AtS w t → sz t + 2 ≤ 1099511627776 →
 Calls Tryz.prog 56 #[.pointer (pa t), .string k, .string v] w fun e w' =>
  ∃ t', PutR N k v t t' ∧ e = .returned (.pointer (pa t')) ∧ AtS w' t' ∧ Below w.heap.size w w' := by
 intro t
 induction t with
 | nil =>
  intro N w hN _ _
  change Calls _ _ #[.pointer none, .string k, .string v] w _
  go_enter Tryz.func56, Tryz.ntmps56
  go_wp2_with fail
  refine (pm_nodeS N .nil .nil k v _ hN trivial trivial (by simp [sz])).mono ?_
  rintro e p1 ⟨b1, hb1, rfl, hA1, hb⟩
  have B1 := Lib.hid hb1
  have A1 := Lib.hid hA1
  have D1 := Lib.hid hb
  clear hb1 hA1 hb
  go_wp2_with fail
  go_ret
  exact ⟨_, .nil B1.out, rfl, A1.out, D1.out⟩
 | node b l k0 v0 r ih1 ih2 =>
  intro N w hN h hs
  have H := Lib.hid h
  have HZ := Lib.hid hs
  have I1 := Lib.hid ih1
  have I2 := Lib.hid ih2
  obtain ⟨x0, x1, x2, x3⟩ := h.cellsP (pa l) (pa r) rfl rfl
  clear h ih1 ih2
  have HC : Hid (Chain [w] w) := Lib.hid (Chain.one w)
  change Calls _ _ #[.pointer (some ⟨b, 0, none⟩), .string k, .string v] w _
  by_cases h1 : klt k k0 = true
  · have hk : Op.bytesLess k.toList k0.toList = true := h1
    go_enter Tryz.func56, Tryz.ntmps56
    go_wp2_with fail
    clear x0 x1 x2 x3
    refine wp_region_noPanic ?_
    refine wp_region_held_drew (S := fun w' => Below w.heap.size w w') (by kernel_rfl) (Below.refl _ _).drew (fun hS => ?_)
    refine tk (i := 0) (oi := ⟨some 20, _, _, _, _, _⟩) (v := ?_) rfl (Or.inl ⟨by rfl, ?_⟩) hS ?_
    rotate_left 1
    · intro w' hB; (go_simp <;> with_reducible rfl)
    try simp only [Act.put, zA, zB, zC]
    refine tk (i := 1) (oi := ⟨some 21, _, _, _, _, _⟩) (v := ?_) rfl (Or.inl ⟨by rfl, ?_⟩) hS ?_
    rotate_left 1
    · intro w' hB; have hd := (HC.out.to w (by simp)).trans (hB.mono (HC.out.to w (by simp)).size); obtain ⟨x0, x1, x2, x3⟩ := (H.out.below hd rfl).cellsP (pa l) (pa r) rfl rfl; clear hd; (go_simp <;> with_reducible rfl)
    try simp only [Act.put, zA, zB, zC]
    refine tk (i := 2) (oi := ⟨some 22, _, _, _, _, _⟩) (v := ?_) rfl (Or.inl ⟨by rfl, ?_⟩) hS ?_
    rotate_left 1
    · intro w' hB; (go_simp <;> with_reducible rfl)
    try simp only [Act.put, zA, zB, zC]
    refine tk (i := 3) (oi := ⟨some 23, _, _, _, _, _⟩) (v := ?_) rfl (Or.inl ⟨by rfl, ?_⟩) hS ?_
    rotate_left 1
    · intro w' hB; have hd := (HC.out.to w (by simp)).trans (hB.mono (HC.out.to w (by simp)).size); obtain ⟨x0, x1, x2, x3⟩ := (H.out.below hd rfl).cellsP (pa l) (pa r) rfl rfl; clear hd; (go_simp <;> with_reducible rfl)
    try simp only [Act.put, zA, zB, zC]
    refine tk (i := 4) (oi := ⟨some 24, _, _, _, _, _⟩) (v := ?_) rfl (Or.inl ⟨by rfl, ?_⟩) hS ?_
    rotate_left 1
    · intro w' hB; (go_simp <;> with_reducible rfl)
    try simp only [Act.put, zA, zB, zC]
    refine tk (i := 5) (oi := ⟨some 25, _, _, _, _, _⟩) (v := ?_) rfl (Or.inl ⟨by rfl, ?_⟩) hS ?_
    rotate_left 1
    · intro w' hB; (go_simp <;> with_reducible rfl)
    try simp only [Act.put, zA, zB, zC]
    refine tk (i := 7) (oi := ⟨some 27, _, _, _, _, _⟩) (v := ?_) rfl (Or.inl ⟨by rfl, ?_⟩) hS ?_
    rotate_left 1
    · intro w' hB; (go_simp <;> with_reducible rfl)
    try simp only [Act.put, zA, zB, zC]
    refine tk (i := 8) (oi := ⟨some 28, _, _, _, _, _⟩) (v := ?_) rfl (Or.inl ⟨by rfl, ?_⟩) hS ?_
    rotate_left 1
    · intro w' hB; have hd := (HC.out.to w (by simp)).trans (hB.mono (HC.out.to w (by simp)).size); obtain ⟨x0, x1, x2, x3⟩ := (H.out.below hd rfl).cellsP (pa l) (pa r) rfl rfl; clear hd; (go_simp <;> with_reducible rfl)
    try simp only [Act.put, zA, zB, zC]
    refine tk (i := 9) (oi := ⟨some 29, _, _, _, _, _⟩) (v := ?_) rfl (Or.inl ⟨by rfl, ?_⟩) hS ?_
    rotate_left 1
    · intro w' hB; (go_simp <;> with_reducible rfl)
    try simp only [Act.put, zA, zB, zC]
    refine tk (i := 10) (oi := ⟨some 30, _, _, _, _, _⟩) (v := ?_) rfl (Or.inl ⟨by rfl, ?_⟩) hS ?_
    rotate_left 1
    · intro w' hB; have hd := (HC.out.to w (by simp)).trans (hB.mono (HC.out.to w (by simp)).size); obtain ⟨x0, x1, x2, x3⟩ := (H.out.below hd rfl).cellsP (pa l) (pa r) rfl rfl; clear hd; (go_simp <;> with_reducible rfl)
    try simp only [Act.put, zA, zB, zC]
    refine tk (i := 11) (oi := ⟨some 31, _, _, _, _, _⟩) (v := ?_) rfl (Or.inl ⟨by rfl, ?_⟩) hS ?_
    rotate_left 1
    · intro w' hB; (go_simp <;> with_reducible rfl)
    try simp only [Act.put, zA, zB, zC]
    refine tk (i := 12) (oi := ⟨some 32, _, _, _, _, _⟩) (v := ?_) rfl (Or.inl ⟨by rfl, ?_⟩) hS ?_
    rotate_left 1
    · intro w' hB; have hd := (HC.out.to w (by simp)).trans (hB.mono (HC.out.to w (by simp)).size); obtain ⟨x0, x1, x2, x3⟩ := (H.out.below hd rfl).cellsP (pa l) (pa r) rfl rfl; clear hd; (go_simp <;> with_reducible rfl)
    try simp only [Act.put, zA, zB, zC]
    refine tk (i := 13) (oi := ⟨some 33, _, _, _, _, _⟩) (v := ?_) rfl (Or.inl ⟨by rfl, ?_⟩) hS ?_
    rotate_left 1
    · intro w' hB; (go_simp <;> with_reducible rfl)
    try simp only [Act.put, zA, zB, zC]
    refine tk (i := 14) (oi := ⟨some 34, _, _, _, _, _⟩) (v := ?_) rfl (Or.inl ⟨by rfl, ?_⟩) hS ?_
    rotate_left 1
    · intro w' hB; have hd := (HC.out.to w (by simp)).trans (hB.mono (HC.out.to w (by simp)).size); obtain ⟨x0, x1, x2, x3⟩ := (H.out.below hd rfl).cellsP (pa l) (pa r) rfl rfl; clear hd; (go_simp <;> with_reducible rfl)
    try simp only [Act.put, zA, zB, zC]
    refine tk (i := 15) (oi := ⟨some 35, _, _, _, _, _⟩) (v := ?_) rfl (Or.inl ⟨by rfl, ?_⟩) hS ?_
    rotate_left 1
    · intro w' hB; (go_simp <;> with_reducible rfl)
    try simp only [Act.put, zA, zB, zC]
    refine tk (i := 16) (oi := ⟨some 36, _, _, _, _, _⟩) (v := ?_) rfl (Or.inl ⟨by rfl, ?_⟩) hS ?_
    rotate_left 1
    · intro w' hB; have hd := (HC.out.to w (by simp)).trans (hB.mono (HC.out.to w (by simp)).size); obtain ⟨x0, x1, x2, x3⟩ := (H.out.below hd rfl).cellsP (pa l) (pa r) rfl rfl; clear hd; (go_simp <;> with_reducible rfl)
    try simp only [Act.put, zA, zB, zC]
    refine tk (i := 17) (oi := ⟨some 37, _, _, _, _, _⟩) (v := ?_) rfl (Or.inl ⟨by rfl, ?_⟩) hS ?_
    rotate_left 1
    · intro w' hB; (go_simp <;> with_reducible rfl)
    try simp only [Act.put, zA, zB, zC]
    refine tk (i := 18) (oi := ⟨some 38, _, _, _, _, _⟩) (v := ?_) rfl (Or.inl ⟨by rfl, ?_⟩) hS ?_
    rotate_left 1
    · intro w' hB; have hd := (HC.out.to w (by simp)).trans (hB.mono (HC.out.to w (by simp)).size); obtain ⟨x0, x1, x2, x3⟩ := (H.out.below hd rfl).cellsP (pa l) (pa r) rfl rfl; clear hd; (go_simp <;> with_reducible rfl)
    try simp only [Act.put, zA, zB, zC]
    refine wpAnyH_ready (rs := [6]) (by kernel_rfl) (by simp) (AllReadyH.cons (o := ⟨some 26, _, _, _, _, _⟩) rfl (fun K hK => ?_) AllReadyH.nil)
    go_simp
    refine (I1.out N _ (Nat.le_trans hN (HC.out.le hS (by simp))) (H.out.2.1.chain HC.out hS (by simp)) (by have := HZ.out; simp only [sz] at this ⊢; omega)).mono ?_
    rintro e p1 ⟨l', hP, rfl, hA, hb⟩
    refine hK.out _ _ (hS.trans (hb.mono hS.size)) (fun _ => ?_)
    clear hK K
    have hB := hS.trans (hb.mono hS.size)
    refine wpAnyH_now hB ?_
    clear hS
    have hS := Below.refl p1.heap.size p1
    replace HC := Lib.hid (HC.out.push hB)
    have P1 := Lib.hid hP
    have A1 := Lib.hid hA
    clear hP hA
    clear hB hb
    try simp only [Act.put, zA, zB, zC]
    refine wpAnyH_ready (rs := [19]) (by kernel_rfl) (by simp) (AllReadyH.cons (o := ⟨some 39, _, _, _, _, _⟩) rfl (fun K hK => ?_) AllReadyH.nil)
    go_simp
    refine (pm_balancedS N l' r k0 v0 _ (Nat.le_trans hN (HC.out.le hS (by simp))) (A1.out.chain HC.out hS (by simp)) (H.out.2.2.chain HC.out hS (by simp)) (by have := HZ.out; have := P1.out.sz_leS; simp only [sz] at *; omega)).mono ?_
    rintro e p2 ⟨t', hP, rfl, hA, hb⟩
    refine hK.out _ _ (hS.trans (hb.mono hS.size)) (fun _ => ?_)
    clear hK K
    have hB := hS.trans (hb.mono hS.size)
    refine wpAnyH_now hB ?_
    clear hS
    have hS := Below.refl p2.heap.size p2
    replace HC := Lib.hid (HC.out.push hB)
    have P2 := Lib.hid hP
    have A2 := Lib.hid hA
    clear hP hA
    clear hB hb
    try simp only [Act.put, zA, zB, zC]
    refine tk (i := 20) (oi := ⟨some 6, _, _, _, _, _⟩) (v := ?_) rfl (Or.inl ⟨by rfl, ?_⟩) hS ?_
    rotate_left 1
    · intro w' hB; have hd := (HC.out.to w (by simp)).trans (hB.mono (HC.out.to w (by simp)).size); obtain ⟨x0, x1, x2, x3⟩ := (H.out.below hd rfl).cellsP (pa l) (pa r) rfl rfl; clear hd; (go_simp <;> with_reducible rfl)
    try simp only [Act.put, zA, zB, zC]
    refine wpAnyH_done (by kernel_rfl) (NoPanic.normal ?_) _
    clear hS
    go_wp2_with fail
    go_ret
    exact ⟨_, .lt h1 P1.out P2.out, rfl, A2.out, HC.out.to w (by simp)⟩
  · by_cases h2 : klt k0 k = true
    · have hk : Op.bytesLess k.toList k0.toList = false := by simpa [klt] using h1
      have hke : (k.toList == k0.toList) = false := by rw [eq_iff]; simp; exact Ne.symm (klt_ne h2)
      go_enter Tryz.func56, Tryz.ntmps56
      go_wp2_with fail
      clear x0 x1 x2 x3
      refine wp_region_noPanic ?_
      refine wp_region_held_drew (S := fun w' => Below w.heap.size w w') (by kernel_rfl) (Below.refl _ _).drew (fun hS => ?_)
      refine tk (i := 0) (oi := ⟨some 47, _, _, _, _, _⟩) (v := ?_) rfl (Or.inl ⟨by rfl, ?_⟩) hS ?_
      rotate_left 1
      · intro w' hB; (go_simp <;> with_reducible rfl)
      try simp only [Act.put, zA, zB, zC]
      refine tk (i := 1) (oi := ⟨some 48, _, _, _, _, _⟩) (v := ?_) rfl (Or.inl ⟨by rfl, ?_⟩) hS ?_
      rotate_left 1
      · intro w' hB; have hd := (HC.out.to w (by simp)).trans (hB.mono (HC.out.to w (by simp)).size); obtain ⟨x0, x1, x2, x3⟩ := (H.out.below hd rfl).cellsP (pa l) (pa r) rfl rfl; clear hd; (go_simp <;> with_reducible rfl)
      try simp only [Act.put, zA, zB, zC]
      refine tk (i := 2) (oi := ⟨some 49, _, _, _, _, _⟩) (v := ?_) rfl (Or.inl ⟨by rfl, ?_⟩) hS ?_
      rotate_left 1
      · intro w' hB; (go_simp <;> with_reducible rfl)
      try simp only [Act.put, zA, zB, zC]
      refine tk (i := 3) (oi := ⟨some 50, _, _, _, _, _⟩) (v := ?_) rfl (Or.inl ⟨by rfl, ?_⟩) hS ?_
      rotate_left 1
      · intro w' hB; have hd := (HC.out.to w (by simp)).trans (hB.mono (HC.out.to w (by simp)).size); obtain ⟨x0, x1, x2, x3⟩ := (H.out.below hd rfl).cellsP (pa l) (pa r) rfl rfl; clear hd; (go_simp <;> with_reducible rfl)
      try simp only [Act.put, zA, zB, zC]
      refine tk (i := 4) (oi := ⟨some 51, _, _, _, _, _⟩) (v := ?_) rfl (Or.inl ⟨by rfl, ?_⟩) hS ?_
      rotate_left 1
      · intro w' hB; (go_simp <;> with_reducible rfl)
      try simp only [Act.put, zA, zB, zC]
      refine tk (i := 5) (oi := ⟨some 52, _, _, _, _, _⟩) (v := ?_) rfl (Or.inl ⟨by rfl, ?_⟩) hS ?_
      rotate_left 1
      · intro w' hB; have hd := (HC.out.to w (by simp)).trans (hB.mono (HC.out.to w (by simp)).size); obtain ⟨x0, x1, x2, x3⟩ := (H.out.below hd rfl).cellsP (pa l) (pa r) rfl rfl; clear hd; (go_simp <;> with_reducible rfl)
      try simp only [Act.put, zA, zB, zC]
      refine tk (i := 6) (oi := ⟨some 53, _, _, _, _, _⟩) (v := ?_) rfl (Or.inl ⟨by rfl, ?_⟩) hS ?_
      rotate_left 1
      · intro w' hB; (go_simp <;> with_reducible rfl)
      try simp only [Act.put, zA, zB, zC]
      refine tk (i := 7) (oi := ⟨some 54, _, _, _, _, _⟩) (v := ?_) rfl (Or.inl ⟨by rfl, ?_⟩) hS ?_
      rotate_left 1
      · intro w' hB; have hd := (HC.out.to w (by simp)).trans (hB.mono (HC.out.to w (by simp)).size); obtain ⟨x0, x1, x2, x3⟩ := (H.out.below hd rfl).cellsP (pa l) (pa r) rfl rfl; clear hd; (go_simp <;> with_reducible rfl)
      try simp only [Act.put, zA, zB, zC]
      refine tk (i := 8) (oi := ⟨some 55, _, _, _, _, _⟩) (v := ?_) rfl (Or.inl ⟨by rfl, ?_⟩) hS ?_
      rotate_left 1
      · intro w' hB; (go_simp <;> with_reducible rfl)
      try simp only [Act.put, zA, zB, zC]
      refine tk (i := 9) (oi := ⟨some 56, _, _, _, _, _⟩) (v := ?_) rfl (Or.inl ⟨by rfl, ?_⟩) hS ?_
      rotate_left 1
      · intro w' hB; have hd := (HC.out.to w (by simp)).trans (hB.mono (HC.out.to w (by simp)).size); obtain ⟨x0, x1, x2, x3⟩ := (H.out.below hd rfl).cellsP (pa l) (pa r) rfl rfl; clear hd; (go_simp <;> with_reducible rfl)
      try simp only [Act.put, zA, zB, zC]
      refine tk (i := 10) (oi := ⟨some 57, _, _, _, _, _⟩) (v := ?_) rfl (Or.inl ⟨by rfl, ?_⟩) hS ?_
      rotate_left 1
      · intro w' hB; (go_simp <;> with_reducible rfl)
      try simp only [Act.put, zA, zB, zC]
      refine tk (i := 11) (oi := ⟨some 58, _, _, _, _, _⟩) (v := ?_) rfl (Or.inl ⟨by rfl, ?_⟩) hS ?_
      rotate_left 1
      · intro w' hB; have hd := (HC.out.to w (by simp)).trans (hB.mono (HC.out.to w (by simp)).size); obtain ⟨x0, x1, x2, x3⟩ := (H.out.below hd rfl).cellsP (pa l) (pa r) rfl rfl; clear hd; (go_simp <;> with_reducible rfl)
      try simp only [Act.put, zA, zB, zC]
      refine tk (i := 12) (oi := ⟨some 59, _, _, _, _, _⟩) (v := ?_) rfl (Or.inl ⟨by rfl, ?_⟩) hS ?_
      rotate_left 1
      · intro w' hB; (go_simp <;> with_reducible rfl)
      try simp only [Act.put, zA, zB, zC]
      refine tk (i := 13) (oi := ⟨some 60, _, _, _, _, _⟩) (v := ?_) rfl (Or.inl ⟨by rfl, ?_⟩) hS ?_
      rotate_left 1
      · intro w' hB; have hd := (HC.out.to w (by simp)).trans (hB.mono (HC.out.to w (by simp)).size); obtain ⟨x0, x1, x2, x3⟩ := (H.out.below hd rfl).cellsP (pa l) (pa r) rfl rfl; clear hd; (go_simp <;> with_reducible rfl)
      try simp only [Act.put, zA, zB, zC]
      refine tk (i := 14) (oi := ⟨some 61, _, _, _, _, _⟩) (v := ?_) rfl (Or.inl ⟨by rfl, ?_⟩) hS ?_
      rotate_left 1
      · intro w' hB; (go_simp <;> with_reducible rfl)
      try simp only [Act.put, zA, zB, zC]
      refine tk (i := 15) (oi := ⟨some 62, _, _, _, _, _⟩) (v := ?_) rfl (Or.inl ⟨by rfl, ?_⟩) hS ?_
      rotate_left 1
      · intro w' hB; have hd := (HC.out.to w (by simp)).trans (hB.mono (HC.out.to w (by simp)).size); obtain ⟨x0, x1, x2, x3⟩ := (H.out.below hd rfl).cellsP (pa l) (pa r) rfl rfl; clear hd; (go_simp <;> with_reducible rfl)
      try simp only [Act.put, zA, zB, zC]
      refine tk (i := 16) (oi := ⟨some 63, _, _, _, _, _⟩) (v := ?_) rfl (Or.inl ⟨by rfl, ?_⟩) hS ?_
      rotate_left 1
      · intro w' hB; (go_simp <;> with_reducible rfl)
      try simp only [Act.put, zA, zB, zC]
      refine tk (i := 17) (oi := ⟨some 64, _, _, _, _, _⟩) (v := ?_) rfl (Or.inl ⟨by rfl, ?_⟩) hS ?_
      rotate_left 1
      · intro w' hB; (go_simp <;> with_reducible rfl)
      try simp only [Act.put, zA, zB, zC]
      refine wpAnyH_ready (rs := [18]) (by kernel_rfl) (by simp) (AllReadyH.cons (o := ⟨some 65, _, _, _, _, _⟩) rfl (fun K hK => ?_) AllReadyH.nil)
      go_simp
      refine (I2.out N _ (Nat.le_trans hN (HC.out.le hS (by simp))) (H.out.2.2.chain HC.out hS (by simp)) (by have := HZ.out; simp only [sz] at this ⊢; omega)).mono ?_
      rintro e p1 ⟨r', hP, rfl, hA, hb⟩
      refine hK.out _ _ (hS.trans (hb.mono hS.size)) (fun _ => ?_)
      clear hK K
      have hB := hS.trans (hb.mono hS.size)
      refine wpAnyH_now hB ?_
      clear hS
      have hS := Below.refl p1.heap.size p1
      replace HC := Lib.hid (HC.out.push hB)
      have P1 := Lib.hid hP
      have A1 := Lib.hid hA
      clear hP hA
      clear hB hb
      try simp only [Act.put, zA, zB, zC]
      refine wpAnyH_ready (rs := [19]) (by kernel_rfl) (by simp) (AllReadyH.cons (o := ⟨some 66, _, _, _, _, _⟩) rfl (fun K hK => ?_) AllReadyH.nil)
      go_simp
      refine (pm_balancedS N l r' k0 v0 _ (Nat.le_trans hN (HC.out.le hS (by simp))) (H.out.2.1.chain HC.out hS (by simp)) (A1.out.chain HC.out hS (by simp)) (by have := HZ.out; have := P1.out.sz_leS; simp only [sz] at *; omega)).mono ?_
      rintro e p2 ⟨t', hP, rfl, hA, hb⟩
      refine hK.out _ _ (hS.trans (hb.mono hS.size)) (fun _ => ?_)
      clear hK K
      have hB := hS.trans (hb.mono hS.size)
      refine wpAnyH_now hB ?_
      clear hS
      have hS := Below.refl p2.heap.size p2
      replace HC := Lib.hid (HC.out.push hB)
      have P2 := Lib.hid hP
      have A2 := Lib.hid hA
      clear hP hA
      clear hB hb
      try simp only [Act.put, zA, zB, zC]
      refine tk (i := 20) (oi := ⟨some 6, _, _, _, _, _⟩) (v := ?_) rfl (Or.inl ⟨by rfl, ?_⟩) hS ?_
      rotate_left 1
      · intro w' hB; have hd := (HC.out.to w (by simp)).trans (hB.mono (HC.out.to w (by simp)).size); obtain ⟨x0, x1, x2, x3⟩ := (H.out.below hd rfl).cellsP (pa l) (pa r) rfl rfl; clear hd; (go_simp <;> with_reducible rfl)
      try simp only [Act.put, zA, zB, zC]
      refine wpAnyH_done (by kernel_rfl) (NoPanic.normal ?_) _
      clear hS
      go_wp2_with fail
      go_ret
      exact ⟨_, .gt h2 P1.out P2.out, rfl, A2.out, HC.out.to w (by simp)⟩
    · obtain rfl := klt_tri (a := k) (b := k0) (by simpa using h1) (by simpa using h2)
      have hk : Op.bytesLess k.toList k.toList = false := klt_irrefl k
      go_enter Tryz.func56, Tryz.ntmps56
      go_wp2_with fail
      clear x0 x1 x2 x3
      refine wp_region_noPanic ?_
      refine wp_region_held_drew (S := fun w' => Below w.heap.size w w') (by kernel_rfl) (Below.refl _ _).drew (fun hS => ?_)
      refine tk (i := 0) (oi := ⟨some 67, _, _, _, _, _⟩) (v := ?_) rfl (Or.inl ⟨by rfl, ?_⟩) hS ?_
      rotate_left 1
      · intro w' hB; (go_simp <;> with_reducible rfl)
      try simp only [Act.put, zA, zB, zC]
      refine tk (i := 1) (oi := ⟨some 68, _, _, _, _, _⟩) (v := ?_) rfl (Or.inl ⟨by rfl, ?_⟩) hS ?_
      rotate_left 1
      · intro w' hB; have hd := (HC.out.to w (by simp)).trans (hB.mono (HC.out.to w (by simp)).size); obtain ⟨x0, x1, x2, x3⟩ := (H.out.below hd rfl).cellsP (pa l) (pa r) rfl rfl; clear hd; (go_simp <;> with_reducible rfl)
      try simp only [Act.put, zA, zB, zC]
      refine tk (i := 2) (oi := ⟨some 69, _, _, _, _, _⟩) (v := ?_) rfl (Or.inl ⟨by rfl, ?_⟩) hS ?_
      rotate_left 1
      · intro w' hB; (go_simp <;> with_reducible rfl)
      try simp only [Act.put, zA, zB, zC]
      refine tk (i := 3) (oi := ⟨some 70, _, _, _, _, _⟩) (v := ?_) rfl (Or.inl ⟨by rfl, ?_⟩) hS ?_
      rotate_left 1
      · intro w' hB; have hd := (HC.out.to w (by simp)).trans (hB.mono (HC.out.to w (by simp)).size); obtain ⟨x0, x1, x2, x3⟩ := (H.out.below hd rfl).cellsP (pa l) (pa r) rfl rfl; clear hd; (go_simp <;> with_reducible rfl)
      try simp only [Act.put, zA, zB, zC]
      refine tk (i := 4) (oi := ⟨some 71, _, _, _, _, _⟩) (v := ?_) rfl (Or.inl ⟨by rfl, ?_⟩) hS ?_
      rotate_left 1
      · intro w' hB; (go_simp <;> with_reducible rfl)
      try simp only [Act.put, zA, zB, zC]
      refine tk (i := 5) (oi := ⟨some 72, _, _, _, _, _⟩) (v := ?_) rfl (Or.inl ⟨by rfl, ?_⟩) hS ?_
      rotate_left 1
      · intro w' hB; (go_simp <;> with_reducible rfl)
      try simp only [Act.put, zA, zB, zC]
      refine tk (i := 6) (oi := ⟨some 73, _, _, _, _, _⟩) (v := ?_) rfl (Or.inl ⟨by rfl, ?_⟩) hS ?_
      rotate_left 1
      · intro w' hB; (go_simp <;> with_reducible rfl)
      try simp only [Act.put, zA, zB, zC]
      refine tk (i := 7) (oi := ⟨some 74, _, _, _, _, _⟩) (v := ?_) rfl (Or.inl ⟨by rfl, ?_⟩) hS ?_
      rotate_left 1
      · intro w' hB; have hd := (HC.out.to w (by simp)).trans (hB.mono (HC.out.to w (by simp)).size); obtain ⟨x0, x1, x2, x3⟩ := (H.out.below hd rfl).cellsP (pa l) (pa r) rfl rfl; clear hd; (go_simp <;> with_reducible rfl)
      try simp only [Act.put, zA, zB, zC]
      refine tk (i := 8) (oi := ⟨some 75, _, _, _, _, _⟩) (v := ?_) rfl (Or.inl ⟨by rfl, ?_⟩) hS ?_
      rotate_left 1
      · intro w' hB; (go_simp <;> with_reducible rfl)
      try simp only [Act.put, zA, zB, zC]
      refine tk (i := 9) (oi := ⟨some 76, _, _, _, _, _⟩) (v := ?_) rfl (Or.inl ⟨by rfl, ?_⟩) hS ?_
      rotate_left 1
      · intro w' hB; have hd := (HC.out.to w (by simp)).trans (hB.mono (HC.out.to w (by simp)).size); obtain ⟨x0, x1, x2, x3⟩ := (H.out.below hd rfl).cellsP (pa l) (pa r) rfl rfl; clear hd; (go_simp <;> with_reducible rfl)
      try simp only [Act.put, zA, zB, zC]
      refine wpAnyH_ready (rs := [10]) (by kernel_rfl) (by simp) (AllReadyH.cons (o := ⟨some 77, _, _, _, _, _⟩) rfl (fun K hK => ?_) AllReadyH.nil)
      go_simp
      refine (pm_nodeS N l r k v _ (Nat.le_trans hN (HC.out.le hS (by simp))) (H.out.2.1.chain HC.out hS (by simp)) (H.out.2.2.chain HC.out hS (by simp)) (by have := HZ.out; simp only [sz] at *; omega)).mono ?_
      rintro e p2 ⟨b2, hb2, rfl, hA, hb⟩
      refine hK.out _ _ (hS.trans (hb.mono hS.size)) (fun _ => ?_)
      clear hK K
      have hB := hS.trans (hb.mono hS.size)
      refine wpAnyH_now hB ?_
      clear hS
      have hS := Below.refl p2.heap.size p2
      replace HC := Lib.hid (HC.out.push hB)
      have B2 := Lib.hid hb2
      have A2 := Lib.hid hA
      clear hb2 hA
      clear hB hb
      try simp only [Act.put, zA, zB, zC]
      refine tk (i := 11) (oi := ⟨some 6, _, _, _, _, _⟩) (v := ?_) rfl (Or.inl ⟨by rfl, ?_⟩) hS ?_
      rotate_left 1
      · intro w' hB; have hd := (HC.out.to w (by simp)).trans (hB.mono (HC.out.to w (by simp)).size); obtain ⟨x0, x1, x2, x3⟩ := (H.out.below hd rfl).cellsP (pa l) (pa r) rfl rfl; clear hd; (go_simp <;> with_reducible rfl)
      try simp only [Act.put, zA, zB, zC]
      refine wpAnyH_done (by kernel_rfl) (NoPanic.normal ?_) _
      clear hS
      go_wp2_with fail
      go_ret
      exact ⟨_, .eq rfl B2.out, rfl, A2.out, HC.out.to w (by simp)⟩
end Go.Proofs.YtjlliohjeiclaaaGreatDoor
namespace Go.Proofs.YtjlliohjeiclaaaGreatDoor
open Go.RowKit Pm
theorem Pm.FirstR.szS {N : Nat} {t t' : Tr ByteArray} {k : ByteArray} {v : ByteArray} (h : FirstR N t k v t') : sz t = sz t' + 1 := by
 rw [← sz_items, h.items, ← sz_items]; rfl
theorem Pm.TakeR.sz_leS {N : Nat} {k : ByteArray} {t t' : Tr ByteArray} (h : TakeR N k t t') : sz t' + 1 ≤ sz t := by
 induction h with
 | lt h1 h2 h3 ih => rw [h3.sz]; simp only [sz]; omega
 | gt h1 h2 h3 ih => rw [h3.sz]; simp only [sz]; omega
 | last h1 => simp [sz]
 | eq h1 h2 h3 => rw [h3.sz]; have := h2.szS; simp only [sz]; omega
set_option maxRecDepth 100000 in
set_option maxHeartbeats 4000000 in
theorem pm_firstS : ∀ (t : Tr ByteArray) (N : Nat) (w : World), t ≠ .nil → N ≤ w.heap.size → AtS w t → sz t + 2 ≤ 1099511627776 →
 Calls Tryz.prog 144 #[.pointer (pa t)] w fun e w' =>
  ∃ k v t', FirstR N t k v t' ∧ e = .returned (.tuple #[.string k, .string v, .pointer (pa t')]) ∧ AtS w' t' ∧ Below w.heap.size w w' := by
 intro t
 induction t with
 | nil => intro N w h; exact absurd rfl h
 | node b l k0 v0 r ih1 _ =>
  intro N w _ hN h hs
  have H := Lib.hid h
  have HZ := Lib.hid hs
  have I1 := Lib.hid ih1
  clear h ih1
  have HC : Hid (Chain [w] w) := Lib.hid (Chain.one w)
  change Calls _ _ #[.pointer (some ⟨b, 0, none⟩)] w _
  cases l with
  | nil =>
   obtain ⟨x0, x1, x2, x3⟩ := H.out.cellsP none (pa r) rfl rfl
   go_enter Tryz.func144, Tryz.ntmps144
   go_wp2_with fail
   clear x0 x1 x2 x3
   refine wp_region_noPanic ?_
   refine wp_region_held_drew (S := fun w' => Below w.heap.size w w') (by kernel_rfl) (Below.refl _ _).drew (fun hS => ?_)
   refine tk (i := 0) (oi := ⟨some 13, _, _, _, _, _⟩) (v := ?_) rfl (Or.inl ⟨by rfl, ?_⟩) hS ?_
   rotate_left 1
   · intro w' hB; (go_simp <;> with_reducible rfl)
   try simp only [Act.put, zA, zB, zC]
   refine tk (i := 1) (oi := ⟨some 14, _, _, _, _, _⟩) (v := ?_) rfl (Or.inl ⟨by rfl, ?_⟩) hS ?_
   rotate_left 1
   · intro w' hB; have hd := (HC.out.to w (by simp)).trans (hB.mono (HC.out.to w (by simp)).size); obtain ⟨x0, x1, x2, x3⟩ := (H.out.below hd rfl).cellsP none (pa r) rfl rfl; clear hd; (go_simp <;> with_reducible rfl)
   try simp only [Act.put, zA, zB, zC]
   refine tk (i := 2) (oi := ⟨some 15, _, _, _, _, _⟩) (v := ?_) rfl (Or.inl ⟨by rfl, ?_⟩) hS ?_
   rotate_left 1
   · intro w' hB; (go_simp <;> with_reducible rfl)
   try simp only [Act.put, zA, zB, zC]
   refine tk (i := 3) (oi := ⟨some 16, _, _, _, _, _⟩) (v := ?_) rfl (Or.inl ⟨by rfl, ?_⟩) hS ?_
   rotate_left 1
   · intro w' hB; have hd := (HC.out.to w (by simp)).trans (hB.mono (HC.out.to w (by simp)).size); obtain ⟨x0, x1, x2, x3⟩ := (H.out.below hd rfl).cellsP none (pa r) rfl rfl; clear hd; (go_simp <;> with_reducible rfl)
   try simp only [Act.put, zA, zB, zC]
   refine tk (i := 4) (oi := ⟨some 17, _, _, _, _, _⟩) (v := ?_) rfl (Or.inl ⟨by rfl, ?_⟩) hS ?_
   rotate_left 1
   · intro w' hB; (go_simp <;> with_reducible rfl)
   try simp only [Act.put, zA, zB, zC]
   refine tk (i := 5) (oi := ⟨some 18, _, _, _, _, _⟩) (v := ?_) rfl (Or.inl ⟨by rfl, ?_⟩) hS ?_
   rotate_left 1
   · intro w' hB; have hd := (HC.out.to w (by simp)).trans (hB.mono (HC.out.to w (by simp)).size); obtain ⟨x0, x1, x2, x3⟩ := (H.out.below hd rfl).cellsP none (pa r) rfl rfl; clear hd; (go_simp <;> with_reducible rfl)
   try simp only [Act.put, zA, zB, zC]
   refine tk (i := 6) (oi := ⟨some 19, _, _, _, _, _⟩) (v := ?_) rfl (Or.inl ⟨by rfl, ?_⟩) hS ?_
   rotate_left 1
   · intro w' hB; (go_simp <;> with_reducible rfl)
   try simp only [Act.put, zA, zB, zC]
   refine tk (i := 7) (oi := ⟨some 20, _, _, _, _, _⟩) (v := ?_) rfl (Or.inl ⟨by rfl, ?_⟩) hS ?_
   rotate_left 1
   · intro w' hB; have hd := (HC.out.to w (by simp)).trans (hB.mono (HC.out.to w (by simp)).size); obtain ⟨x0, x1, x2, x3⟩ := (H.out.below hd rfl).cellsP none (pa r) rfl rfl; clear hd; (go_simp <;> with_reducible rfl)
   try simp only [Act.put, zA, zB, zC]
   refine tk (i := 8) (oi := ⟨some 21, _, _, _, _, _⟩) (v := ?_) rfl (Or.inl ⟨by rfl, ?_⟩) hS ?_
   rotate_left 1
   · intro w' hB; (go_simp <;> with_reducible rfl)
   try simp only [Act.put, zA, zB, zC]
   refine tk (i := 9) (oi := ⟨some 22, _, _, _, _, _⟩) (v := ?_) rfl (Or.inl ⟨by rfl, ?_⟩) hS ?_
   rotate_left 1
   · intro w' hB; have hd := (HC.out.to w (by simp)).trans (hB.mono (HC.out.to w (by simp)).size); obtain ⟨x0, x1, x2, x3⟩ := (H.out.below hd rfl).cellsP none (pa r) rfl rfl; clear hd; (go_simp <;> with_reducible rfl)
   try simp only [Act.put, zA, zB, zC]
   refine tk (i := 10) (oi := ⟨some 23, _, _, _, _, _⟩) (v := ?_) rfl (Or.inl ⟨by rfl, ?_⟩) hS ?_
   rotate_left 1
   · intro w' hB; (go_simp <;> with_reducible rfl)
   try simp only [Act.put, zA, zB, zC]
   refine tk (i := 11) (oi := ⟨some 24, _, _, _, _, _⟩) (v := ?_) rfl (Or.inl ⟨by rfl, ?_⟩) hS ?_
   rotate_left 1
   · intro w' hB; have hd := (HC.out.to w (by simp)).trans (hB.mono (HC.out.to w (by simp)).size); obtain ⟨x0, x1, x2, x3⟩ := (H.out.below hd rfl).cellsP none (pa r) rfl rfl; clear hd; (go_simp <;> with_reducible rfl)
   try simp only [Act.put, zA, zB, zC]
   refine tk (i := 12) (oi := ⟨some 2, _, _, _, _, _⟩) (v := ?_) rfl (Or.inl ⟨by rfl, ?_⟩) hS ?_
   rotate_left 1
   · intro w' hB; have hd := (HC.out.to w (by simp)).trans (hB.mono (HC.out.to w (by simp)).size); obtain ⟨x0, x1, x2, x3⟩ := (H.out.below hd rfl).cellsP none (pa r) rfl rfl; clear hd; (go_simp <;> with_reducible rfl)
   try simp only [Act.put, zA, zB, zC]
   refine tk (i := 13) (oi := ⟨some 3, _, _, _, _, _⟩) (v := ?_) rfl (Or.inl ⟨by rfl, ?_⟩) hS ?_
   rotate_left 1
   · intro w' hB; have hd := (HC.out.to w (by simp)).trans (hB.mono (HC.out.to w (by simp)).size); obtain ⟨x0, x1, x2, x3⟩ := (H.out.below hd rfl).cellsP none (pa r) rfl rfl; clear hd; (go_simp <;> with_reducible rfl)
   try simp only [Act.put, zA, zB, zC]
   refine tk (i := 14) (oi := ⟨some 4, _, _, _, _, _⟩) (v := ?_) rfl (Or.inl ⟨by rfl, ?_⟩) hS ?_
   rotate_left 1
   · intro w' hB; have hd := (HC.out.to w (by simp)).trans (hB.mono (HC.out.to w (by simp)).size); obtain ⟨x0, x1, x2, x3⟩ := (H.out.below hd rfl).cellsP none (pa r) rfl rfl; clear hd; (go_simp <;> with_reducible rfl)
   try simp only [Act.put, zA, zB, zC]
   refine wpAnyH_done (by kernel_rfl) (NoPanic.normal ?_) _
   go_wp2_with fail
   go_ret3
   exact ⟨_, _, _, .here, rfl, H.out.2.2.below hS rfl, hS⟩
  | node bl ll lk lv lr =>
   obtain ⟨x0, x1, x2, x3⟩ := H.out.cellsP (some ⟨bl, 0, none⟩) (pa r) rfl rfl
   go_enter Tryz.func144, Tryz.ntmps144
   go_wp2_with fail
   refine (I1.out N w (by simp) hN H.out.2.1 (by have := HZ.out; simp only [sz] at this ⊢; omega)).mono ?_
   rintro e p1 ⟨k1, v1, l', hP, rfl, hA, hb⟩
   have P1 := Lib.hid hP
   have A1 := Lib.hid hA
   replace HC := Lib.hid (HC.out.push hb)
   clear hP hA hb x0 x1 x2 x3
   go_wp2_with fail
   refine wp_region_noPanic ?_
   refine wp_region_held_drew (S := fun w' => Below p1.heap.size p1 w') (by kernel_rfl) (Below.refl _ _).drew (fun hS => ?_)
   refine tk (i := 0) (oi := ⟨some 34, _, _, _, _, _⟩) (v := ?_) rfl (Or.inl ⟨by rfl, ?_⟩) hS ?_
   rotate_left 1
   · intro w' hB; (go_simp <;> with_reducible rfl)
   try simp only [Act.put, zA, zB, zC]
   refine tk (i := 1) (oi := ⟨some 35, _, _, _, _, _⟩) (v := ?_) rfl (Or.inl ⟨by rfl, ?_⟩) hS ?_
   rotate_left 1
   · intro w' hB; (go_simp <;> with_reducible rfl)
   try simp only [Act.put, zA, zB, zC]
   refine tk (i := 2) (oi := ⟨some 36, _, _, _, _, _⟩) (v := ?_) rfl (Or.inl ⟨by rfl, ?_⟩) hS ?_
   rotate_left 1
   · intro w' hB; (go_simp <;> with_reducible rfl)
   try simp only [Act.put, zA, zB, zC]
   refine tk (i := 3) (oi := ⟨some 37, _, _, _, _, _⟩) (v := ?_) rfl (Or.inl ⟨by rfl, ?_⟩) hS ?_
   rotate_left 1
   · intro w' hB; (go_simp <;> with_reducible rfl)
   try simp only [Act.put, zA, zB, zC]
   refine tk (i := 4) (oi := ⟨some 38, _, _, _, _, _⟩) (v := ?_) rfl (Or.inl ⟨by rfl, ?_⟩) hS ?_
   rotate_left 1
   · intro w' hB; have hd := (HC.out.to w (by simp)).trans (hB.mono (HC.out.to w (by simp)).size); obtain ⟨x0, x1, x2, x3⟩ := (H.out.below hd rfl).cellsP (some ⟨bl, 0, none⟩) (pa r) rfl rfl; clear hd; (go_simp <;> with_reducible rfl)
   try simp only [Act.put, zA, zB, zC]
   refine tk (i := 5) (oi := ⟨some 39, _, _, _, _, _⟩) (v := ?_) rfl (Or.inl ⟨by rfl, ?_⟩) hS ?_
   rotate_left 1
   · intro w' hB; (go_simp <;> with_reducible rfl)
   try simp only [Act.put, zA, zB, zC]
   refine tk (i := 6) (oi := ⟨some 40, _, _, _, _, _⟩) (v := ?_) rfl (Or.inl ⟨by rfl, ?_⟩) hS ?_
   rotate_left 1
   · intro w' hB; have hd := (HC.out.to w (by simp)).trans (hB.mono (HC.out.to w (by simp)).size); obtain ⟨x0, x1, x2, x3⟩ := (H.out.below hd rfl).cellsP (some ⟨bl, 0, none⟩) (pa r) rfl rfl; clear hd; (go_simp <;> with_reducible rfl)
   try simp only [Act.put, zA, zB, zC]
   refine tk (i := 7) (oi := ⟨some 41, _, _, _, _, _⟩) (v := ?_) rfl (Or.inl ⟨by rfl, ?_⟩) hS ?_
   rotate_left 1
   · intro w' hB; (go_simp <;> with_reducible rfl)
   try simp only [Act.put, zA, zB, zC]
   refine tk (i := 8) (oi := ⟨some 42, _, _, _, _, _⟩) (v := ?_) rfl (Or.inl ⟨by rfl, ?_⟩) hS ?_
   rotate_left 1
   · intro w' hB; have hd := (HC.out.to w (by simp)).trans (hB.mono (HC.out.to w (by simp)).size); obtain ⟨x0, x1, x2, x3⟩ := (H.out.below hd rfl).cellsP (some ⟨bl, 0, none⟩) (pa r) rfl rfl; clear hd; (go_simp <;> with_reducible rfl)
   try simp only [Act.put, zA, zB, zC]
   refine tk (i := 9) (oi := ⟨some 43, _, _, _, _, _⟩) (v := ?_) rfl (Or.inl ⟨by rfl, ?_⟩) hS ?_
   rotate_left 1
   · intro w' hB; (go_simp <;> with_reducible rfl)
   try simp only [Act.put, zA, zB, zC]
   refine tk (i := 10) (oi := ⟨some 44, _, _, _, _, _⟩) (v := ?_) rfl (Or.inl ⟨by rfl, ?_⟩) hS ?_
   rotate_left 1
   · intro w' hB; have hd := (HC.out.to w (by simp)).trans (hB.mono (HC.out.to w (by simp)).size); obtain ⟨x0, x1, x2, x3⟩ := (H.out.below hd rfl).cellsP (some ⟨bl, 0, none⟩) (pa r) rfl rfl; clear hd; (go_simp <;> with_reducible rfl)
   try simp only [Act.put, zA, zB, zC]
   refine tk (i := 11) (oi := ⟨some 45, _, _, _, _, _⟩) (v := ?_) rfl (Or.inl ⟨by rfl, ?_⟩) hS ?_
   rotate_left 1
   · intro w' hB; (go_simp <;> with_reducible rfl)
   try simp only [Act.put, zA, zB, zC]
   refine tk (i := 12) (oi := ⟨some 46, _, _, _, _, _⟩) (v := ?_) rfl (Or.inl ⟨by rfl, ?_⟩) hS ?_
   rotate_left 1
   · intro w' hB; have hd := (HC.out.to w (by simp)).trans (hB.mono (HC.out.to w (by simp)).size); obtain ⟨x0, x1, x2, x3⟩ := (H.out.below hd rfl).cellsP (some ⟨bl, 0, none⟩) (pa r) rfl rfl; clear hd; (go_simp <;> with_reducible rfl)
   try simp only [Act.put, zA, zB, zC]
   refine tk (i := 13) (oi := ⟨some 47, _, _, _, _, _⟩) (v := ?_) rfl (Or.inl ⟨by rfl, ?_⟩) hS ?_
   rotate_left 1
   · intro w' hB; (go_simp <;> with_reducible rfl)
   try simp only [Act.put, zA, zB, zC]
   refine tk (i := 14) (oi := ⟨some 48, _, _, _, _, _⟩) (v := ?_) rfl (Or.inl ⟨by rfl, ?_⟩) hS ?_
   rotate_left 1
   · intro w' hB; have hd := (HC.out.to w (by simp)).trans (hB.mono (HC.out.to w (by simp)).size); obtain ⟨x0, x1, x2, x3⟩ := (H.out.below hd rfl).cellsP (some ⟨bl, 0, none⟩) (pa r) rfl rfl; clear hd; (go_simp <;> with_reducible rfl)
   try simp only [Act.put, zA, zB, zC]
   refine wpAnyH_ready (rs := [15]) (by kernel_rfl) (by simp) (AllReadyH.cons (o := ⟨some 49, _, _, _, _, _⟩) rfl (fun K hK => ?_) AllReadyH.nil)
   go_simp
   refine (pm_balancedS N l' r k0 v0 _ (Nat.le_trans hN (HC.out.le hS (by simp))) (A1.out.chain HC.out hS (by simp)) (H.out.2.2.chain HC.out hS (by simp)) (by have := HZ.out; have := P1.out.szS; simp only [sz] at *; omega)).mono ?_
   rintro e p2 ⟨t', hP, rfl, hA, hb⟩
   refine hK.out _ _ (hS.trans (hb.mono hS.size)) (fun _ => ?_)
   clear hK K
   have hB := hS.trans (hb.mono hS.size)
   refine wpAnyH_now hB ?_
   clear hS
   have hS := Below.refl p2.heap.size p2
   replace HC := Lib.hid (HC.out.push hB)
   have P2 := Lib.hid hP
   have A2 := Lib.hid hA
   clear hP hA
   clear hB hb
   try simp only [Act.put, zA, zB, zC]
   refine tk (i := 16) (oi := ⟨some 2, _, _, _, _, _⟩) (v := ?_) rfl (Or.inl ⟨by rfl, ?_⟩) hS ?_
   rotate_left 1
   · intro w' hB; have hd := (HC.out.to w (by simp)).trans (hB.mono (HC.out.to w (by simp)).size); obtain ⟨x0, x1, x2, x3⟩ := (H.out.below hd rfl).cellsP (some ⟨bl, 0, none⟩) (pa r) rfl rfl; clear hd; (go_simp <;> with_reducible rfl)
   try simp only [Act.put, zA, zB, zC]
   refine tk (i := 17) (oi := ⟨some 3, _, _, _, _, _⟩) (v := ?_) rfl (Or.inl ⟨by rfl, ?_⟩) hS ?_
   rotate_left 1
   · intro w' hB; have hd := (HC.out.to w (by simp)).trans (hB.mono (HC.out.to w (by simp)).size); obtain ⟨x0, x1, x2, x3⟩ := (H.out.below hd rfl).cellsP (some ⟨bl, 0, none⟩) (pa r) rfl rfl; clear hd; (go_simp <;> with_reducible rfl)
   try simp only [Act.put, zA, zB, zC]
   refine tk (i := 18) (oi := ⟨some 4, _, _, _, _, _⟩) (v := ?_) rfl (Or.inl ⟨by rfl, ?_⟩) hS ?_
   rotate_left 1
   · intro w' hB; have hd := (HC.out.to w (by simp)).trans (hB.mono (HC.out.to w (by simp)).size); obtain ⟨x0, x1, x2, x3⟩ := (H.out.below hd rfl).cellsP (some ⟨bl, 0, none⟩) (pa r) rfl rfl; clear hd; (go_simp <;> with_reducible rfl)
   try simp only [Act.put, zA, zB, zC]
   refine wpAnyH_done (by kernel_rfl) (NoPanic.normal ?_) _
   clear hS
   go_wp2_with fail
   go_ret3
   exact ⟨_, _, _, .left P1.out P2.out, rfl, A2.out, HC.out.to w (by simp)⟩
set_option maxRecDepth 100000 in
set_option maxHeartbeats 4000000 in
theorem pm_takeS (k : ByteArray) : ∀ (t : Tr ByteArray) (N : Nat) (w : World), seek k t ≠ .nil → N ≤ w.heap.size → AtS w t → sz t + 2 ≤ 1099511627776 →
 Calls Tryz.prog 112 #[.pointer (pa t), .string k] w fun e w' =>
  ∃ t', TakeR N k t t' ∧ e = .returned (.pointer (pa t')) ∧ AtS w' t' ∧ Below w.heap.size w w' := by
 intro t
 induction t with
 | nil => intro N w h; exact absurd rfl h
 | node b l k0 v0 r ih1 ih2 =>
  intro N w hlk hN h hs
  have H := Lib.hid h
  have HZ := Lib.hid hs
  have I1 := Lib.hid ih1
  have I2 := Lib.hid ih2
  clear h ih1 ih2
  simp only [seek] at hlk
  have HC : Hid (Chain [w] w) := Lib.hid (Chain.one w)
  change Calls _ _ #[.pointer (some ⟨b, 0, none⟩), .string k] w _
  by_cases h1 : klt k k0 = true
  · have hk : Op.bytesLess k.toList k0.toList = true := h1
    rw [if_pos h1] at hlk
    have HK := Lib.hid hlk
    clear hlk
    obtain ⟨x0, x1, x2, x3⟩ := H.out.cellsP (pa l) (pa r) rfl rfl
    go_enter Tryz.func112, Tryz.ntmps112
    go_wp2_with fail
    clear x0 x1 x2 x3
    refine wp_region_noPanic ?_
    refine wp_region_held_drew (S := fun w' => Below w.heap.size w w') (by kernel_rfl) (Below.refl _ _).drew (fun hS => ?_)
    refine tk (i := 0) (oi := ⟨some 15, _, _, _, _, _⟩) (v := ?_) rfl (Or.inl ⟨by rfl, ?_⟩) hS ?_
    rotate_left 1
    · intro w' hB; (go_simp <;> with_reducible rfl)
    try simp only [Act.put, zA, zB, zC]
    refine tk (i := 1) (oi := ⟨some 16, _, _, _, _, _⟩) (v := ?_) rfl (Or.inl ⟨by rfl, ?_⟩) hS ?_
    rotate_left 1
    · intro w' hB; have hd := (HC.out.to w (by simp)).trans (hB.mono (HC.out.to w (by simp)).size); obtain ⟨x0, x1, x2, x3⟩ := (H.out.below hd rfl).cellsP (pa l) (pa r) rfl rfl; clear hd; (go_simp <;> with_reducible rfl)
    try simp only [Act.put, zA, zB, zC]
    refine tk (i := 2) (oi := ⟨some 17, _, _, _, _, _⟩) (v := ?_) rfl (Or.inl ⟨by rfl, ?_⟩) hS ?_
    rotate_left 1
    · intro w' hB; (go_simp <;> with_reducible rfl)
    try simp only [Act.put, zA, zB, zC]
    refine tk (i := 3) (oi := ⟨some 18, _, _, _, _, _⟩) (v := ?_) rfl (Or.inl ⟨by rfl, ?_⟩) hS ?_
    rotate_left 1
    · intro w' hB; have hd := (HC.out.to w (by simp)).trans (hB.mono (HC.out.to w (by simp)).size); obtain ⟨x0, x1, x2, x3⟩ := (H.out.below hd rfl).cellsP (pa l) (pa r) rfl rfl; clear hd; (go_simp <;> with_reducible rfl)
    try simp only [Act.put, zA, zB, zC]
    refine tk (i := 4) (oi := ⟨some 19, _, _, _, _, _⟩) (v := ?_) rfl (Or.inl ⟨by rfl, ?_⟩) hS ?_
    rotate_left 1
    · intro w' hB; (go_simp <;> with_reducible rfl)
    try simp only [Act.put, zA, zB, zC]
    refine tk (i := 6) (oi := ⟨some 21, _, _, _, _, _⟩) (v := ?_) rfl (Or.inl ⟨by rfl, ?_⟩) hS ?_
    rotate_left 1
    · intro w' hB; (go_simp <;> with_reducible rfl)
    try simp only [Act.put, zA, zB, zC]
    refine tk (i := 7) (oi := ⟨some 22, _, _, _, _, _⟩) (v := ?_) rfl (Or.inl ⟨by rfl, ?_⟩) hS ?_
    rotate_left 1
    · intro w' hB; have hd := (HC.out.to w (by simp)).trans (hB.mono (HC.out.to w (by simp)).size); obtain ⟨x0, x1, x2, x3⟩ := (H.out.below hd rfl).cellsP (pa l) (pa r) rfl rfl; clear hd; (go_simp <;> with_reducible rfl)
    try simp only [Act.put, zA, zB, zC]
    refine tk (i := 8) (oi := ⟨some 23, _, _, _, _, _⟩) (v := ?_) rfl (Or.inl ⟨by rfl, ?_⟩) hS ?_
    rotate_left 1
    · intro w' hB; (go_simp <;> with_reducible rfl)
    try simp only [Act.put, zA, zB, zC]
    refine tk (i := 9) (oi := ⟨some 24, _, _, _, _, _⟩) (v := ?_) rfl (Or.inl ⟨by rfl, ?_⟩) hS ?_
    rotate_left 1
    · intro w' hB; have hd := (HC.out.to w (by simp)).trans (hB.mono (HC.out.to w (by simp)).size); obtain ⟨x0, x1, x2, x3⟩ := (H.out.below hd rfl).cellsP (pa l) (pa r) rfl rfl; clear hd; (go_simp <;> with_reducible rfl)
    try simp only [Act.put, zA, zB, zC]
    refine tk (i := 10) (oi := ⟨some 25, _, _, _, _, _⟩) (v := ?_) rfl (Or.inl ⟨by rfl, ?_⟩) hS ?_
    rotate_left 1
    · intro w' hB; (go_simp <;> with_reducible rfl)
    try simp only [Act.put, zA, zB, zC]
    refine tk (i := 11) (oi := ⟨some 26, _, _, _, _, _⟩) (v := ?_) rfl (Or.inl ⟨by rfl, ?_⟩) hS ?_
    rotate_left 1
    · intro w' hB; have hd := (HC.out.to w (by simp)).trans (hB.mono (HC.out.to w (by simp)).size); obtain ⟨x0, x1, x2, x3⟩ := (H.out.below hd rfl).cellsP (pa l) (pa r) rfl rfl; clear hd; (go_simp <;> with_reducible rfl)
    try simp only [Act.put, zA, zB, zC]
    refine tk (i := 12) (oi := ⟨some 27, _, _, _, _, _⟩) (v := ?_) rfl (Or.inl ⟨by rfl, ?_⟩) hS ?_
    rotate_left 1
    · intro w' hB; (go_simp <;> with_reducible rfl)
    try simp only [Act.put, zA, zB, zC]
    refine tk (i := 13) (oi := ⟨some 28, _, _, _, _, _⟩) (v := ?_) rfl (Or.inl ⟨by rfl, ?_⟩) hS ?_
    rotate_left 1
    · intro w' hB; have hd := (HC.out.to w (by simp)).trans (hB.mono (HC.out.to w (by simp)).size); obtain ⟨x0, x1, x2, x3⟩ := (H.out.below hd rfl).cellsP (pa l) (pa r) rfl rfl; clear hd; (go_simp <;> with_reducible rfl)
    try simp only [Act.put, zA, zB, zC]
    refine tk (i := 14) (oi := ⟨some 29, _, _, _, _, _⟩) (v := ?_) rfl (Or.inl ⟨by rfl, ?_⟩) hS ?_
    rotate_left 1
    · intro w' hB; (go_simp <;> with_reducible rfl)
    try simp only [Act.put, zA, zB, zC]
    refine tk (i := 15) (oi := ⟨some 30, _, _, _, _, _⟩) (v := ?_) rfl (Or.inl ⟨by rfl, ?_⟩) hS ?_
    rotate_left 1
    · intro w' hB; have hd := (HC.out.to w (by simp)).trans (hB.mono (HC.out.to w (by simp)).size); obtain ⟨x0, x1, x2, x3⟩ := (H.out.below hd rfl).cellsP (pa l) (pa r) rfl rfl; clear hd; (go_simp <;> with_reducible rfl)
    try simp only [Act.put, zA, zB, zC]
    refine tk (i := 16) (oi := ⟨some 31, _, _, _, _, _⟩) (v := ?_) rfl (Or.inl ⟨by rfl, ?_⟩) hS ?_
    rotate_left 1
    · intro w' hB; (go_simp <;> with_reducible rfl)
    try simp only [Act.put, zA, zB, zC]
    refine tk (i := 17) (oi := ⟨some 32, _, _, _, _, _⟩) (v := ?_) rfl (Or.inl ⟨by rfl, ?_⟩) hS ?_
    rotate_left 1
    · intro w' hB; have hd := (HC.out.to w (by simp)).trans (hB.mono (HC.out.to w (by simp)).size); obtain ⟨x0, x1, x2, x3⟩ := (H.out.below hd rfl).cellsP (pa l) (pa r) rfl rfl; clear hd; (go_simp <;> with_reducible rfl)
    try simp only [Act.put, zA, zB, zC]
    refine wpAnyH_ready (rs := [5]) (by kernel_rfl) (by simp) (AllReadyH.cons (o := ⟨some 20, _, _, _, _, _⟩) rfl (fun K hK => ?_) AllReadyH.nil)
    go_simp
    refine (I1.out N _ HK.out (Nat.le_trans hN (HC.out.le hS (by simp))) (H.out.2.1.chain HC.out hS (by simp)) (by have := HZ.out; simp only [sz] at this ⊢; omega)).mono ?_
    rintro e p1 ⟨l', hP, rfl, hA, hb⟩
    refine hK.out _ _ (hS.trans (hb.mono hS.size)) (fun _ => ?_)
    clear hK K
    have hB := hS.trans (hb.mono hS.size)
    refine wpAnyH_now hB ?_
    clear hS
    have hS := Below.refl p1.heap.size p1
    replace HC := Lib.hid (HC.out.push hB)
    have P1 := Lib.hid hP
    have A1 := Lib.hid hA
    clear hP hA
    clear hB hb
    try simp only [Act.put, zA, zB, zC]
    refine wpAnyH_ready (rs := [18]) (by kernel_rfl) (by simp) (AllReadyH.cons (o := ⟨some 33, _, _, _, _, _⟩) rfl (fun K hK => ?_) AllReadyH.nil)
    go_simp
    refine (pm_balancedS N l' r k0 v0 _ (Nat.le_trans hN (HC.out.le hS (by simp))) (A1.out.chain HC.out hS (by simp)) (H.out.2.2.chain HC.out hS (by simp)) (by have := HZ.out; have := P1.out.sz_leS; simp only [sz] at *; omega)).mono ?_
    rintro e p2 ⟨t', hP, rfl, hA, hb⟩
    refine hK.out _ _ (hS.trans (hb.mono hS.size)) (fun _ => ?_)
    clear hK K
    have hB := hS.trans (hb.mono hS.size)
    refine wpAnyH_now hB ?_
    clear hS
    have hS := Below.refl p2.heap.size p2
    replace HC := Lib.hid (HC.out.push hB)
    have P2 := Lib.hid hP
    have A2 := Lib.hid hA
    clear hP hA
    clear hB hb
    try simp only [Act.put, zA, zB, zC]
    refine tk (i := 19) (oi := ⟨some 4, _, _, _, _, _⟩) (v := ?_) rfl (Or.inl ⟨by rfl, ?_⟩) hS ?_
    rotate_left 1
    · intro w' hB; have hd := (HC.out.to w (by simp)).trans (hB.mono (HC.out.to w (by simp)).size); obtain ⟨x0, x1, x2, x3⟩ := (H.out.below hd rfl).cellsP (pa l) (pa r) rfl rfl; clear hd; (go_simp <;> with_reducible rfl)
    try simp only [Act.put, zA, zB, zC]
    refine wpAnyH_done (by kernel_rfl) (NoPanic.normal ?_) _
    clear hS
    go_wp2_with fail
    go_ret
    exact ⟨_, .lt h1 P1.out P2.out, rfl, A2.out, HC.out.to w (by simp)⟩
  · rw [if_neg h1] at hlk
    by_cases h2 : klt k0 k = true
    · have hk : Op.bytesLess k.toList k0.toList = false := by simpa [klt] using h1
      have hke : (k.toList == k0.toList) = false := by rw [eq_iff]; simp; exact Ne.symm (klt_ne h2)
      rw [if_pos h2] at hlk
      have HK := Lib.hid hlk
      clear hlk
      obtain ⟨x0, x1, x2, x3⟩ := H.out.cellsP (pa l) (pa r) rfl rfl
      go_enter Tryz.func112, Tryz.ntmps112
      go_wp2_with fail
      clear x0 x1 x2 x3
      refine wp_region_noPanic ?_
      refine wp_region_held_drew (S := fun w' => Below w.heap.size w w') (by kernel_rfl) (Below.refl _ _).drew (fun hS => ?_)
      refine tk (i := 0) (oi := ⟨some 41, _, _, _, _, _⟩) (v := ?_) rfl (Or.inl ⟨by rfl, ?_⟩) hS ?_
      rotate_left 1
      · intro w' hB; (go_simp <;> with_reducible rfl)
      try simp only [Act.put, zA, zB, zC]
      refine tk (i := 1) (oi := ⟨some 42, _, _, _, _, _⟩) (v := ?_) rfl (Or.inl ⟨by rfl, ?_⟩) hS ?_
      rotate_left 1
      · intro w' hB; have hd := (HC.out.to w (by simp)).trans (hB.mono (HC.out.to w (by simp)).size); obtain ⟨x0, x1, x2, x3⟩ := (H.out.below hd rfl).cellsP (pa l) (pa r) rfl rfl; clear hd; (go_simp <;> with_reducible rfl)
      try simp only [Act.put, zA, zB, zC]
      refine tk (i := 2) (oi := ⟨some 43, _, _, _, _, _⟩) (v := ?_) rfl (Or.inl ⟨by rfl, ?_⟩) hS ?_
      rotate_left 1
      · intro w' hB; (go_simp <;> with_reducible rfl)
      try simp only [Act.put, zA, zB, zC]
      refine tk (i := 3) (oi := ⟨some 44, _, _, _, _, _⟩) (v := ?_) rfl (Or.inl ⟨by rfl, ?_⟩) hS ?_
      rotate_left 1
      · intro w' hB; have hd := (HC.out.to w (by simp)).trans (hB.mono (HC.out.to w (by simp)).size); obtain ⟨x0, x1, x2, x3⟩ := (H.out.below hd rfl).cellsP (pa l) (pa r) rfl rfl; clear hd; (go_simp <;> with_reducible rfl)
      try simp only [Act.put, zA, zB, zC]
      refine tk (i := 4) (oi := ⟨some 45, _, _, _, _, _⟩) (v := ?_) rfl (Or.inl ⟨by rfl, ?_⟩) hS ?_
      rotate_left 1
      · intro w' hB; (go_simp <;> with_reducible rfl)
      try simp only [Act.put, zA, zB, zC]
      refine tk (i := 5) (oi := ⟨some 46, _, _, _, _, _⟩) (v := ?_) rfl (Or.inl ⟨by rfl, ?_⟩) hS ?_
      rotate_left 1
      · intro w' hB; have hd := (HC.out.to w (by simp)).trans (hB.mono (HC.out.to w (by simp)).size); obtain ⟨x0, x1, x2, x3⟩ := (H.out.below hd rfl).cellsP (pa l) (pa r) rfl rfl; clear hd; (go_simp <;> with_reducible rfl)
      try simp only [Act.put, zA, zB, zC]
      refine tk (i := 6) (oi := ⟨some 47, _, _, _, _, _⟩) (v := ?_) rfl (Or.inl ⟨by rfl, ?_⟩) hS ?_
      rotate_left 1
      · intro w' hB; (go_simp <;> with_reducible rfl)
      try simp only [Act.put, zA, zB, zC]
      refine tk (i := 7) (oi := ⟨some 48, _, _, _, _, _⟩) (v := ?_) rfl (Or.inl ⟨by rfl, ?_⟩) hS ?_
      rotate_left 1
      · intro w' hB; have hd := (HC.out.to w (by simp)).trans (hB.mono (HC.out.to w (by simp)).size); obtain ⟨x0, x1, x2, x3⟩ := (H.out.below hd rfl).cellsP (pa l) (pa r) rfl rfl; clear hd; (go_simp <;> with_reducible rfl)
      try simp only [Act.put, zA, zB, zC]
      refine tk (i := 8) (oi := ⟨some 49, _, _, _, _, _⟩) (v := ?_) rfl (Or.inl ⟨by rfl, ?_⟩) hS ?_
      rotate_left 1
      · intro w' hB; (go_simp <;> with_reducible rfl)
      try simp only [Act.put, zA, zB, zC]
      refine tk (i := 9) (oi := ⟨some 50, _, _, _, _, _⟩) (v := ?_) rfl (Or.inl ⟨by rfl, ?_⟩) hS ?_
      rotate_left 1
      · intro w' hB; have hd := (HC.out.to w (by simp)).trans (hB.mono (HC.out.to w (by simp)).size); obtain ⟨x0, x1, x2, x3⟩ := (H.out.below hd rfl).cellsP (pa l) (pa r) rfl rfl; clear hd; (go_simp <;> with_reducible rfl)
      try simp only [Act.put, zA, zB, zC]
      refine tk (i := 10) (oi := ⟨some 51, _, _, _, _, _⟩) (v := ?_) rfl (Or.inl ⟨by rfl, ?_⟩) hS ?_
      rotate_left 1
      · intro w' hB; (go_simp <;> with_reducible rfl)
      try simp only [Act.put, zA, zB, zC]
      refine tk (i := 11) (oi := ⟨some 52, _, _, _, _, _⟩) (v := ?_) rfl (Or.inl ⟨by rfl, ?_⟩) hS ?_
      rotate_left 1
      · intro w' hB; have hd := (HC.out.to w (by simp)).trans (hB.mono (HC.out.to w (by simp)).size); obtain ⟨x0, x1, x2, x3⟩ := (H.out.below hd rfl).cellsP (pa l) (pa r) rfl rfl; clear hd; (go_simp <;> with_reducible rfl)
      try simp only [Act.put, zA, zB, zC]
      refine tk (i := 12) (oi := ⟨some 53, _, _, _, _, _⟩) (v := ?_) rfl (Or.inl ⟨by rfl, ?_⟩) hS ?_
      rotate_left 1
      · intro w' hB; (go_simp <;> with_reducible rfl)
      try simp only [Act.put, zA, zB, zC]
      refine tk (i := 13) (oi := ⟨some 54, _, _, _, _, _⟩) (v := ?_) rfl (Or.inl ⟨by rfl, ?_⟩) hS ?_
      rotate_left 1
      · intro w' hB; have hd := (HC.out.to w (by simp)).trans (hB.mono (HC.out.to w (by simp)).size); obtain ⟨x0, x1, x2, x3⟩ := (H.out.below hd rfl).cellsP (pa l) (pa r) rfl rfl; clear hd; (go_simp <;> with_reducible rfl)
      try simp only [Act.put, zA, zB, zC]
      refine tk (i := 14) (oi := ⟨some 55, _, _, _, _, _⟩) (v := ?_) rfl (Or.inl ⟨by rfl, ?_⟩) hS ?_
      rotate_left 1
      · intro w' hB; (go_simp <;> with_reducible rfl)
      try simp only [Act.put, zA, zB, zC]
      refine tk (i := 15) (oi := ⟨some 56, _, _, _, _, _⟩) (v := ?_) rfl (Or.inl ⟨by rfl, ?_⟩) hS ?_
      rotate_left 1
      · intro w' hB; have hd := (HC.out.to w (by simp)).trans (hB.mono (HC.out.to w (by simp)).size); obtain ⟨x0, x1, x2, x3⟩ := (H.out.below hd rfl).cellsP (pa l) (pa r) rfl rfl; clear hd; (go_simp <;> with_reducible rfl)
      try simp only [Act.put, zA, zB, zC]
      refine tk (i := 16) (oi := ⟨some 57, _, _, _, _, _⟩) (v := ?_) rfl (Or.inl ⟨by rfl, ?_⟩) hS ?_
      rotate_left 1
      · intro w' hB; (go_simp <;> with_reducible rfl)
      try simp only [Act.put, zA, zB, zC]
      refine wpAnyH_ready (rs := [17]) (by kernel_rfl) (by simp) (AllReadyH.cons (o := ⟨some 58, _, _, _, _, _⟩) rfl (fun K hK => ?_) AllReadyH.nil)
      go_simp
      refine (I2.out N _ HK.out (Nat.le_trans hN (HC.out.le hS (by simp))) (H.out.2.2.chain HC.out hS (by simp)) (by have := HZ.out; simp only [sz] at this ⊢; omega)).mono ?_
      rintro e p1 ⟨r', hP, rfl, hA, hb⟩
      refine hK.out _ _ (hS.trans (hb.mono hS.size)) (fun _ => ?_)
      clear hK K
      have hB := hS.trans (hb.mono hS.size)
      refine wpAnyH_now hB ?_
      clear hS
      have hS := Below.refl p1.heap.size p1
      replace HC := Lib.hid (HC.out.push hB)
      have P1 := Lib.hid hP
      have A1 := Lib.hid hA
      clear hP hA
      clear hB hb
      try simp only [Act.put, zA, zB, zC]
      refine wpAnyH_ready (rs := [18]) (by kernel_rfl) (by simp) (AllReadyH.cons (o := ⟨some 59, _, _, _, _, _⟩) rfl (fun K hK => ?_) AllReadyH.nil)
      go_simp
      refine (pm_balancedS N l r' k0 v0 _ (Nat.le_trans hN (HC.out.le hS (by simp))) (H.out.2.1.chain HC.out hS (by simp)) (A1.out.chain HC.out hS (by simp)) (by have := HZ.out; have := P1.out.sz_leS; simp only [sz] at *; omega)).mono ?_
      rintro e p2 ⟨t', hP, rfl, hA, hb⟩
      refine hK.out _ _ (hS.trans (hb.mono hS.size)) (fun _ => ?_)
      clear hK K
      have hB := hS.trans (hb.mono hS.size)
      refine wpAnyH_now hB ?_
      clear hS
      have hS := Below.refl p2.heap.size p2
      replace HC := Lib.hid (HC.out.push hB)
      have P2 := Lib.hid hP
      have A2 := Lib.hid hA
      clear hP hA
      clear hB hb
      try simp only [Act.put, zA, zB, zC]
      refine tk (i := 19) (oi := ⟨some 4, _, _, _, _, _⟩) (v := ?_) rfl (Or.inl ⟨by rfl, ?_⟩) hS ?_
      rotate_left 1
      · intro w' hB; have hd := (HC.out.to w (by simp)).trans (hB.mono (HC.out.to w (by simp)).size); obtain ⟨x0, x1, x2, x3⟩ := (H.out.below hd rfl).cellsP (pa l) (pa r) rfl rfl; clear hd; (go_simp <;> with_reducible rfl)
      try simp only [Act.put, zA, zB, zC]
      refine wpAnyH_done (by kernel_rfl) (NoPanic.normal ?_) _
      clear hS
      go_wp2_with fail
      go_ret
      exact ⟨_, .gt h2 P1.out P2.out, rfl, A2.out, HC.out.to w (by simp)⟩
    · clear hlk
      obtain rfl := klt_tri (a := k) (b := k0) (by simpa using h1) (by simpa using h2)
      have hk : Op.bytesLess k.toList k.toList = false := klt_irrefl k
      cases r with
      | nil =>
       obtain ⟨x0, x1, x2, x3⟩ := H.out.cellsP (pa l) none rfl rfl
       go_enter Tryz.func112, Tryz.ntmps112
       go_wp2_with fail
       go_ret
       exact ⟨_, .last rfl, rfl, H.out.2.1, Below.refl _ _⟩
      | node br rl rk rv rr =>
       obtain ⟨x0, x1, x2, x3⟩ := H.out.cellsP (pa l) (some ⟨br, 0, none⟩) rfl rfl
       go_enter Tryz.func112, Tryz.ntmps112
       go_wp2_with fail
       refine (pm_firstS (.node br rl rk rv rr) N w (by simp) hN H.out.2.2 (by have := HZ.out; simp only [sz] at this ⊢; omega)).mono ?_
       rintro e p1 ⟨k1, v1, r', hP, rfl, hA, hb⟩
       have P1 := Lib.hid hP
       have A1 := Lib.hid hA
       replace HC := Lib.hid (HC.out.push hb)
       clear hP hA x0 x1 x2 x3
       obtain ⟨x0, x1, x2, x3⟩ := (H.out.below hb rfl).cellsP (pa l) (some ⟨br, 0, none⟩) rfl rfl
       clear hb
       go_wp2_with fail
       refine (pm_balancedS N l r' k1 v1 p1 (Nat.le_trans hN (HC.out.to w (by simp)).size) (H.out.2.1.below (HC.out.to w (by simp)) rfl) A1.out (by have := HZ.out; have := P1.out.szS; simp only [sz] at *; omega)).mono ?_
       rintro e p2 ⟨t', hP, rfl, hA, hb⟩
       have P2 := Lib.hid hP
       have A2 := Lib.hid hA
       replace HC := Lib.hid (HC.out.push hb)
       clear hP hA hb x0 x1 x2 x3
       go_wp2_with fail
       go_ret
       exact ⟨_, .eq rfl P1.out P2.out, rfl, A2.out, HC.out.to w (by simp)⟩
end Go.Proofs.YtjlliohjeiclaaaGreatDoor
