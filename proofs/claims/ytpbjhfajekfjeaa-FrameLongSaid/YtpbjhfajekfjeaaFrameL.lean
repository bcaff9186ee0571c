
/- The walk of the law FrameLong. -/
import Derived.Test.YtpbjhfajekfjeaaFrameP
namespace Go.Proofs.Ytpbjhfajekfjeaa
open Go.RowKit Frm
theorem Frm.kn5 : scanF (9 + 1) [0, 1, 0, 0, 1, 0, 0, 0, 0] 0 = ([], 0, 141) := by decide +kernel
theorem Frm.kn6 : scanF (9 + 1) [0, 1, 0, 0, 0, 0, 0, 0, 0] 0 = ([], 0, 140) := by decide +kernel
theorem Frm.kn7 : chk 0 16777217 = 3 := by decide +kernel
theorem Frm.kn8 : chk (-1) 0 = 2 := by decide +kernel
theorem Frm.kn9 : chk 1 0 = 0 := by decide +kernel
theorem box4n (w : World) (x0 x1 x2 x3 : Value) (t : TypeId) : (w.alloc (.cells #[x0, x1, x2, x3] t)).cell? ⟨w.heap.size, 0, none⟩ = some x0 ∧ (w.alloc (.cells #[x0, x1, x2, x3] t)).cell? ⟨w.heap.size, 1, none⟩ = some x1 ∧ (w.alloc (.cells #[x0, x1, x2, x3] t)).cell? ⟨w.heap.size, 2, none⟩ = some x2 ∧ (w.alloc (.cells #[x0, x1, x2, x3] t)).cell? ⟨w.heap.size, 3, none⟩ = some x3 :=
  box4 (World.alloc_heap_new w (.cells #[x0, x1, x2, x3] t)) (Below.refl _ _)
set_option maxRecDepth 100000 in
set_option maxHeartbeats 1000000 in
theorem long_walk (w : World) : Calls Try.prog 4 #[] w fun e w' => e = .returned (.bool true) ∧ Below w.heap.size w w' := by
  have BT := Lib.hid byteT
  go_enter Try.func4, Try.ntmps4
  obtain ⟨m, hm⟩ : ∃ m : Nat, m = 16777217 := ⟨_, rfl⟩
  have HM := Lib.hid hm
  have hmi : (16777217 : Int) = (m : Int) := by rw [hm]; rfl
  rw [hmi]
  have HMI := Lib.hid hmi
  clear hm hmi
  go_wp2_with (refine wpList_mkn rfl _ _ 22 rfl 5 (.int .u8 0) 1 1 BT.out .i64 .i64 m m m rfl rfl rfl rfl (by rw [HM.out]; omega) (by rw [HM.out]; omega) ?_; intro w1 ho hb; clear ho; have D1 := Lib.hid hb; clear hb)
  have HCK : Hid (chk 0 m = 3) := Lib.hid (by rw [HM.out]; exact kn7)
  have HM2 : Hid (m ≤ 1099511627776) := Lib.hid (by rw [HM.out]; omega)
  refine (frame_Put_no 0 _ m m w1 HM2.out (by rw [HCK.out]; omega)).mono ?_
  rintro e w2 ⟨rfl, rfl⟩
  rw [HCK.out]
  go_wp2_with fail
  obtain ⟨g0, g1, g2, g3⟩ := box4n w1 (.int .i64 1) (.slice none 0 0) (.int .i64 0) (.slice (some ⟨w.heap.size, 0, none⟩) m m) 36
  refine (putAll_two 1 0 0 m 0 m none (some ⟨w.heap.size, 0, none⟩) _ _ (by omega) HM2.out g0 g1 g2 g3 (.inl ⟨kn9, HCK.out⟩)).mono ?_
  rintro e w3 ⟨rfl, hb⟩
  have D3 := Lib.hid (D1.out.trans (((below_new w1 _).trans (hb.mono (by simp))).mono D1.out.size))
  clear hb g0 g1 g2 g3
  rw [HCK.out]
  go_wp2_with fail
  obtain ⟨g0, g1, g2, g3⟩ := box4n w3 (.int .i64 0) (.slice (some ⟨w.heap.size, 0, none⟩) m m) (.int .i64 (-1)) (.slice none 0 0) 36
  refine (putAll_two 0 (-1) m 0 m 0 (some ⟨w.heap.size, 0, none⟩) none _ _ HM2.out (by omega) g0 g1 g2 g3 (.inr ⟨HCK.out, kn8⟩)).mono ?_
  rintro e w4 ⟨rfl, hb⟩
  have D4 := Lib.hid (D3.out.trans (((below_new w3 _).trans (hb.mono (by simp))).mono D3.out.size))
  clear hb g0 g1 g2 g3
  rw [kn8]
  go_wp2_with fail
  refine (frame_Scan [0, 1, 0, 0, 1, 0, 0, 0, 0] _ 9 _ (BytesAt.fresh w4 5 (0, 0) [0, 1, 0, 0, 1, 0, 0, 0, 0] _ rfl) (by simp) (by simp)).mono ?_
  rintro e w5 ⟨v5, xs, rfl, _, _, hb⟩
  rw [show ([0, 1, 0, 0, 1, 0, 0, 0, 0] : List UInt8).length = 9 from rfl, kn5]
  have D5 := Lib.hid (D4.out.trans (((below_new w4 _).trans (hb.mono (by simp))).mono D4.out.size))
  clear hb
  dsimp only
  go_wp2_with fail
  refine (frame_Scan [0, 1, 0, 0, 0, 0, 0, 0, 0] _ 9 _ (BytesAt.fresh w5 5 (0, 0) [0, 1, 0, 0, 0, 0, 0, 0, 0] _ rfl) (by simp) (by simp)).mono ?_
  rintro e w6 ⟨v6, xs, rfl, _, _, hb⟩
  rw [show ([0, 1, 0, 0, 0, 0, 0, 0, 0] : List UInt8).length = 9 from rfl, kn6]
  have D6 := Lib.hid (D5.out.trans (((below_new w5 _).trans (hb.mono (by simp))).mono D5.out.size))
  clear hb
  dsimp only
  go_wp2_with fail
  have HC : Hid (Chain [w6, w] w6) := Lib.hid ((Chain.one w).push D6.out)
  clear D1 D3 D4 D5 D6
  refine (fnum _ _).mono ?_
  rintro e w7 ⟨rfl, rfl⟩
  go_wp2_with fail
  refine (fnum _ _).mono ?_
  rintro e w7 ⟨rfl, rfl⟩
  go_wp2_with fail
  refine (fnum _ _).mono ?_
  rintro e w7 ⟨rfl, rfl⟩
  go_wp2_with fail
  refine (fnum _ _).mono ?_
  rintro e w7 ⟨rfl, rfl⟩
  go_wp2_with fail
  refine (fnum _ _).mono ?_
  rintro e w7 ⟨rfl, rfl⟩
  go_wp2_with fail
  refine (frame_known _).mono ?_
  rintro e w7 ⟨rfl, hb⟩
  replace HC := Lib.hid (HC.out.next hb trivial); clear hb
  go_wp2_with fail
  go_ret
  exact ⟨rfl, HC.out.to w (by simp)⟩
end Go.Proofs.Ytpbjhfajekfjeaa

