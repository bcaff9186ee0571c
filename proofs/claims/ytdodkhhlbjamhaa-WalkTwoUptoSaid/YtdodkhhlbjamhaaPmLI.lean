
/- Walks: Join, Split, At. -/
import Derived.Test.YtdodkhhlbjamhaaPmKI
namespace Go.Proofs.Ytdodkhhlbjamhaa
open Go.RowKit Pm
/-- A key stands between two trees. -/
def Pm.joinOKI (l : Tr Int) (k : ByteArray) (r : Tr Int) : Prop := (isNI (endR l) = true → klt (keyOr (endR l)) k = true) ∧ (isNI (endL r) = true → klt k (keyOr (endL r)) = true)
/-- What Join answers. -/
def JoinOutI (N : Nat) (l : Tr Int) (k : ByteArray) (v : Int) (r : Tr Int) (w : World) (e : Ending) (w' : World) : Prop :=
  ∃ (t' : Tr Int) (n : Nat), ((joinOKI l k r ∧ JoinR N k v l r t' ∧ n = 0) ∨ (¬ joinOKI l k r ∧ t' = .nil ∧ n = 2)) ∧ e = .returned (.tuple #[.agg #[.pointer (pa t')], .int .i64 (n : Int)]) ∧ AtI w' t' ∧ Below w.heap.size w w'
set_option maxRecDepth 100000 in
set_option maxHeartbeats 4000000 in
theorem pm_JoinI (l r : Tr Int) (k : ByteArray) (v : Int) (N : Nat) (w : World) (hN : N ≤ w.heap.size) (hl : AtI w l) (hr : AtI w r) (hs : sz l + sz r + 2 ≤ 1099511627776) :
    Calls Try.prog 32 #[.agg #[.pointer (pa l)], .string k, .int .i64 v, .agg #[.pointer (pa r)]] w (JoinOutI N l k v r w) := by
  obtain ⟨w1, hw1⟩ : ∃ w1, ((w.alloc (.cells #[.pointer (pa l)] 29)).alloc (.cells #[.pointer (pa r)] 29)).alloc (.cells #[.pointer none] 29) = w1 := ⟨_, rfl⟩
  have hb : Below w.heap.size w w1 := by rw [← hw1]; exact (((Below.refl _ w).alloc (Nat.le_refl _) _).alloc (by simp) _).alloc (by simp; omega) _
  have x0 : w1.heap[w.heap.size]? = some (.cells #[.pointer (pa l)] 29 (0, 0)) := by rw [← hw1]; exact boxStays (boxStays (heap_alloc_new w _) (below_new _ _)) (below_new _ _)
  have x1 : w1.heap[w.heap.size + 1]? = some (.cells #[.pointer (pa r)] 29 (0, 0)) := by
    rw [← hw1]
    have := heap_alloc_new (w.alloc (.cells #[.pointer (pa l)] 29)) (.cells #[.pointer (pa r)] 29)
    exact boxStays (by simpa using this) (below_new _ _)
  have x2 : w1.heap[w.heap.size + 1 + 1]? = some (.cells #[.pointer none] 29 (0, 0)) := by
    rw [← hw1]
    have := heap_alloc_new ((w.alloc (.cells #[.pointer (pa l)] 29)).alloc (.cells #[.pointer (pa r)] 29)) (.cells #[.pointer none] 29)
    simpa using this
  have X0 := Lib.hid x0
  have X1 := Lib.hid x1
  have X2 := Lib.hid x2
  have HL := Lib.hid (hl.below hb rfl)
  have HR := Lib.hid (hr.below hb rfl)
  have HB := Lib.hid hb
  have HW := Lib.hid hw1
  have HZ := Lib.hid hs
  clear hl hr hb hw1 x0 x1 x2 hs
  go_enter Try.func32, Try.ntmps32
  go_wp2_with fail
  rw [HW.out]
  refine (pm_MLastI l w1 HL.out).mono ?_
  rintro e w2 ⟨rfl, hb⟩
  have HC : Hid (Chain [w2, w1] w2) := Lib.hid ((Chain.one w1).push hb)
  have k1 := cell_of_one (boxStays X1.out hb)
  clear hb
  go_wp2_with fail
  refine (pm_MFirstI r w2 (HR.out.below (HC.out.to w1 (by simp)) rfl)).mono ?_
  rintro e w3 ⟨rfl, hb⟩
  replace HC := Lib.hid (HC.out.push hb)
  clear hb k1
  have D3 : Hid (Below w.heap.size w w3) := Lib.hid (HB.out.trans ((HC.out.to w1 (by simp)).mono HB.out.size))
  have Y0 := Lib.hid (boxStays X0.out (HC.out.to w1 (by simp)))
  have Y1 := Lib.hid (boxStays X1.out (HC.out.to w1 (by simp)))
  have Y2 := Lib.hid (boxStays X2.out (HC.out.to w1 (by simp)))
  have AL := Lib.hid (HL.out.below (HC.out.to w1 (by simp)) rfl)
  have AR := Lib.hid (HR.out.below (HC.out.to w1 (by simp)) rfl)
  clear X0 X1 X2 HL HR HC HW HB
  obtain ⟨q1, hq1⟩ : ∃ q, isNI (endR l) = q := ⟨_, rfl⟩
  obtain ⟨q2, hq2⟩ : ∃ q, isNI (endL r) = q := ⟨_, rfl⟩
  obtain ⟨a, ha⟩ : ∃ q, keyOr (endR l) = q := ⟨_, rfl⟩
  obtain ⟨b, hb⟩ : ∃ q, keyOr (endL r) = q := ⟨_, rfl⟩
  have HOK : Hid (joinOKI l k r ↔ (q1 = true → klt a k = true) ∧ (q2 = true → klt k b = true)) := Lib.hid (by unfold joinOKI; rw [hq1, hq2, ha, hb])
  rw [hq1, hq2, ha, hb]
  clear hq1 hq2 ha hb
  have f0 := frozen_of_row _ (w.heap.size + 1 + 1) 0 _ _ Y2.out
  have k0 := cell_of_one Y0.out
  have k1 := cell_of_one Y1.out
  have k2 := cell_of_one Y2.out
  have hcase : (q1 = true ∧ klt a k = false) ∨ ((q1 = false ∨ (q1 = true ∧ klt a k = true)) ∧ (q2 = false ∨ (q2 = true ∧ klt k b = true) ∨ (q2 = true ∧ klt k b = false ∧ klt b k = true) ∨ (q2 = true ∧ b = k))) := by
    cases q1 <;> cases q2 <;> cases h1 : klt a k <;> cases h2 : klt k b <;> cases h3 : klt b k <;> simp_all
    all_goals exact (klt_tri h2 h3).symm
  rcases hcase with ⟨rfl, h1⟩ | ⟨hl, hr⟩
  · have e1 : Op.bytesLess a.toList k.toList = false := h1
    go_wp2_with fail
    have k3 := cell_of_one (heap_setCell_same w3 (w.heap.size + 1 + 1) 0 _ _ (.pointer none) Y2.out)
    refine bodyPost_ret (v := .tuple #[.agg #[.pointer none], .int .i64 2]) (by simp [results, Try.results32, go_sem, k3]) rfl ?_
    exact ⟨.nil, 2, .inr ⟨by rw [HOK.out, h1]; simp, rfl, rfl⟩, rfl, trivial, D3.out.setCell (p := ⟨w.heap.size + 1 + 1, 0, none⟩) (by simp; omega) _⟩
  · have bad : ∀ (hn : ¬ joinOKI l k r), JoinOutI N l k v r w (.returned (.tuple #[.agg #[.pointer none], .int .i64 2])) (w3.setCell ⟨w.heap.size + 1 + 1, 0, none⟩ (.pointer none)) := fun hn =>
      ⟨.nil, 2, .inr ⟨hn, rfl, rfl⟩, rfl, trivial, D3.out.setCell (p := ⟨w.heap.size + 1 + 1, 0, none⟩) (by simp; omega) _⟩
    have BAD := Lib.hid bad
    clear bad
    rcases hl with rfl | ⟨rfl, h1⟩ <;> rcases hr with rfl | ⟨rfl, h2⟩ | ⟨rfl, h2, h3⟩ | ⟨rfl, rfl⟩
    all_goals (try (have e1 : Op.bytesLess a.toList k.toList = true := h1))
    all_goals (try (have e2 : Op.bytesLess b.toList k.toList = false := klt_asymm h2; have e3 : (b.toList == k.toList) = false := (by rw [eq_iff]; simp; exact Ne.symm (klt_ne h2))))
    all_goals (try (have e2 : Op.bytesLess b.toList k.toList = true := h3))
    all_goals (try (have e2 : Op.bytesLess b.toList b.toList = false := klt_irrefl b))
    all_goals (go_wp2_with fail)
    all_goals first
      | (have hnok : ¬ joinOKI l k r := (by rw [HOK.out]; simp [h2])
         have k3 := cell_of_one (heap_setCell_same w3 (w.heap.size + 1 + 1) 0 _ _ (.pointer none) Y2.out)
         refine bodyPost_ret (v := .tuple #[.agg #[.pointer none], .int .i64 2]) (by simp [results, Try.results32, go_sem, k3]) rfl ?_
         exact BAD.out hnok)
      | (have hnok : ¬ joinOKI l b r := (by rw [HOK.out]; simp [klt_irrefl])
         have k3 := cell_of_one (heap_setCell_same w3 (w.heap.size + 1 + 1) 0 _ _ (.pointer none) Y2.out)
         refine bodyPost_ret (v := .tuple #[.agg #[.pointer none], .int .i64 2]) (by simp [results, Try.results32, go_sem, k3]) rfl ?_
         exact BAD.out hnok)
      | (refine (pm_joinI k v _ l r N w3 (Nat.le_refl _) (Nat.le_trans hN D3.out.size) AL.out AR.out HZ.out).mono ?_
         rintro e w4 ⟨t', hP, rfl, hA, hb⟩
         have P1 := Lib.hid hP
         have A1 := Lib.hid hA
         have D4 : Hid (Below w.heap.size w w4) := Lib.hid (D3.out.trans (hb.mono D3.out.size))
         have Y4 := Lib.hid (boxStays Y2.out hb)
         clear hP hA hb f0 k0 k1 k2
         have f0 := frozen_of_row _ (w.heap.size + 1 + 1) 0 _ _ Y4.out
         have k2 := cell_of_one Y4.out
         go_wp2_with fail
         have k3 := cell_of_one (heap_setCell_same w4 (w.heap.size + 1 + 1) 0 _ _ (.pointer (pa t')) Y4.out)
         clear f0 k2
         refine bodyPost_ret (v := .tuple #[.agg #[.pointer (pa t')], .int .i64 0]) (by simp [results, Try.results32, go_sem, k3]) rfl ?_
         exact ⟨t', 0, .inl ⟨by rw [HOK.out]; simp [*], P1.out, rfl⟩, rfl, A1.out.setBox Y4.out (by decide) 0 _, D4.out.setCell (p := ⟨w.heap.size + 1 + 1, 0, none⟩) (by simp; omega) _⟩)
def Pm.isSomeI (x : Tr Int) : Bool := isNI x
/-- What Split answers. -/
def SplitOutI (N : Nat) (t : Tr Int) (k : ByteArray) (w : World) (e : Ending) (w' : World) : Prop :=
  ∃ a x c, SplitR N k t a x c ∧ e = .returned (.tuple #[.agg #[.pointer (pa a)], .int .i64 (valOr x), .bool (isNI x), .agg #[.pointer (pa c)]]) ∧ AtI w' a ∧ AtI w' c ∧ Below w.heap.size w w'
set_option maxRecDepth 100000 in
set_option maxHeartbeats 4000000 in
theorem pm_MSplitI (t : Tr Int) (k : ByteArray) (N : Nat) (w : World) (hN : N ≤ w.heap.size) (h : AtI w t) (hs : sz t + 2 ≤ 1099511627776) :
    Calls Try.prog 30 #[.agg #[.pointer (pa t)], .string k] w (SplitOutI N t k w) := by
  obtain ⟨w1, hw1⟩ : ∃ w1, ((w.alloc (.cells #[.pointer (pa t)] 29)).alloc (.cells #[.pointer none] 29)).alloc (.cells #[.pointer none] 29) = w1 := ⟨_, rfl⟩
  have hb : Below w.heap.size w w1 := by rw [← hw1]; exact (((Below.refl _ w).alloc (Nat.le_refl _) _).alloc (by simp) _).alloc (by simp; omega) _
  have x1 : w1.heap[w.heap.size + 1]? = some (.cells #[.pointer none] 29 (0, 0)) := by
    rw [← hw1]
    have := heap_alloc_new (w.alloc (.cells #[.pointer (pa t)] 29)) (.cells #[.pointer none] 29)
    exact boxStays (by simpa using this) (below_new _ _)
  have x2 : w1.heap[w.heap.size + 1 + 1]? = some (.cells #[.pointer none] 29 (0, 0)) := by
    rw [← hw1]
    have := heap_alloc_new ((w.alloc (.cells #[.pointer (pa t)] 29)).alloc (.cells #[.pointer none] 29)) (.cells #[.pointer none] 29)
    simpa using this
  have X1 := Lib.hid x1
  have X2 := Lib.hid x2
  have H := Lib.hid (h.below hb rfl)
  have HB := Lib.hid hb
  have HW := Lib.hid hw1
  clear h hb hw1 x1 x2
  go_enter Try.func30, Try.ntmps30
  go_wp2_with fail
  rw [HW.out]
  refine (pm_splitI k t N w1 (Nat.le_trans hN HB.out.size) H.out hs).mono ?_
  rintro e w2 ⟨a, x, c, hP, rfl, hA1, hA2, hA3, hb⟩
  have P1 := Lib.hid hP
  have A1 := Lib.hid hA1
  have A2 := Lib.hid hA2
  have A3 := Lib.hid hA3
  have D2 : Hid (Below w.heap.size w w2) := Lib.hid (HB.out.trans (hb.mono HB.out.size))
  have Y1 := Lib.hid (boxStays X1.out hb)
  have Y2 := Lib.hid (boxStays X2.out hb)
  clear hP hA1 hA2 hA3 hb X1 X2 HW H HB
  obtain ⟨q, hq⟩ : ∃ q, isNI x = q := ⟨_, rfl⟩
  have hn : (!(pa x).isNone) = q := by rw [← hq]; cases x <;> rfl
  have HQ := Lib.hid hq
  clear hq
  have f1 := frozen_of_row _ (w.heap.size + 1) 0 _ _ Y1.out
  have k1 := cell_of_one Y1.out
  have f2 := frozen_of_row _ (w.heap.size + 1 + 1) 0 _ _ Y2.out
  have k2 := cell_of_one Y2.out
  go_wp2_with (refine (pm_ValueI x _ A2.out).mono ?_; rintro e w' ⟨rfl, rfl⟩)
  have z1 := heap_setCell_same w2 (w.heap.size + 1) 0 _ _ (.pointer (pa a)) Y1.out
  have z2 : (w2.setCell ⟨w.heap.size + 1, 0, none⟩ (.pointer (pa a))).heap[w.heap.size + 1 + 1]? = some (.cells #[.pointer none] 29 (0, 0)) := (Below.heap_setCell _ _ _ _ (by simp)).trans Y2.out
  have z3 := heap_setCell_same _ (w.heap.size + 1 + 1) 0 _ _ (.pointer (pa c)) z2
  have z4 := (Below.heap_setCell (w2.setCell ⟨w.heap.size + 1, 0, none⟩ (.pointer (pa a))) ⟨w.heap.size + 1 + 1, 0, none⟩ (.pointer (pa c)) (w.heap.size + 1) (by simp)).trans z1
  have k3 := cell_of_one z3
  have k4 := cell_of_one z4
  clear k1 k2 f1 f2
  refine bodyPost_ret (v := .tuple #[.agg #[.pointer (pa a)], .int .i64 (valOr x), .bool q, .agg #[.pointer (pa c)]]) (by simp [results, Try.results30, go_sem, k3, k4]) rfl ?_
  exact ⟨a, x, c, P1.out, by rw [HQ.out], (A1.out.setBox Y1.out (by decide) 0 _).setBox z2 (by decide) 0 _, (A3.out.setBox Y1.out (by decide) 0 _).setBox z2 (by decide) 0 _, (D2.out.setCell (p := ⟨w.heap.size + 1, 0, none⟩) (by simp) _).setCell (p := ⟨w.heap.size + 1 + 1, 0, none⟩) (by simp; omega) _⟩
end Go.Proofs.Ytdodkhhlbjamhaa

