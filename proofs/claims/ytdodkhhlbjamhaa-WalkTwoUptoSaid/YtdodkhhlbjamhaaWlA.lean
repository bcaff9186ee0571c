
/- Walks of law 08: part, stays. -/
import Derived.Test.YtdodkhhlbjamhaaWkBI
namespace Go.Proofs.Ytdodkhhlbjamhaa
open Go.RowKit Pm
def staysF (p q r : Int × Bool) : Bool := q.2 && r.2 || (q.2 || r.2) && !p.2
set_option maxRecDepth 100000 in
set_option maxHeartbeats 2000000 in
theorem wk_stays (p q r : Int × Bool) (w : World) :
    Calls Try.prog 18 #[prtVI p, prtVI q, prtVI r] w fun e w' => e = .returned (.bool (staysF p q r)) ∧ Below w.heap.size w w' := by
  obtain ⟨p1, p2⟩ := p
  obtain ⟨q1, q2⟩ := q
  obtain ⟨r1, r2⟩ := r
  unfold prtVI
  have hb : Below w.heap.size w (((w.alloc (.cells #[.int .i64 p1, .bool p2] 33)).alloc (.cells #[.int .i64 q1, .bool q2] 33)).alloc (.cells #[.int .i64 r1, .bool r2] 33)) := (((Below.refl _ w).alloc (Nat.le_refl _) _).alloc (by simp) _).alloc (by simp; omega) _
  have HB := Lib.hid hb
  clear hb
  cases p2 <;> cases q2 <;> cases r2
  all_goals
    go_enter Try.func18, Try.ntmps18
    go_wp2_with fail
    go_ret
    exact ⟨by simp [staysF], HB.out⟩
set_option maxRecDepth 100000 in
set_option maxHeartbeats 2000000 in
theorem wk_part (t : Tr Int) (key : ByteArray) (w : World) (h : AtI w t) :
    Calls Try.prog 15 #[.agg #[.pointer (pa t)], .string key] w fun e w' => e = .returned (prtVI (prtTI t key)) ∧ Below w.heap.size w w' := by
  obtain ⟨w1, hw1⟩ : ∃ W, (w.alloc (.cells #[.pointer (pa t)] 29)).alloc (.cells #[.int .i64 0, .bool false] 33) = W := ⟨_, rfl⟩
  have hb : Below w.heap.size w w1 := by rw [← hw1]; exact ((Below.refl _ w).alloc (Nat.le_refl _) _).alloc (by simp) _
  have x0 : w1.heap[w.heap.size]? = some (.cells #[.pointer (pa t)] 29 (0, 0)) := by rw [← hw1]; exact boxStays (heap_alloc_new w _) (below_new _ _)
  have x1 : w1.heap[w.heap.size + 1]? = some (.cells #[.int .i64 0, .bool false] 33 (0, 0)) := by rw [← hw1]; have := heap_alloc_new (w.alloc (.cells #[.pointer (pa t)] 29)) (.cells #[.int .i64 0, .bool false] 33); simpa using this
  have HW := Lib.hid hw1
  have HB := Lib.hid hb
  have X1 := Lib.hid x1
  have HA := Lib.hid (h.below hb rfl)
  have k0 := cell_of_one x0
  clear hw1 hb x0 x1 h
  go_enter Try.func15, Try.ntmps15
  go_wp2_with fail
  rw [HW.out]
  refine (pm_MGetI t key w1 HA.out).mono ?_
  rintro e w2 ⟨rfl, hb⟩
  obtain ⟨v, hv⟩ : ∃ v, valOr (seek key t) = v := ⟨_, rfl⟩
  obtain ⟨b, hbb⟩ : ∃ v, isNI (seek key t) = v := ⟨_, rfl⟩
  have HP : Hid (prtTI t key = (v, b)) := Lib.hid (by unfold prtTI; rw [hv, hbb])
  rw [hv, hbb]
  have D2 : Hid (Below w.heap.size w w2) := Lib.hid (HB.out.trans (hb.mono HB.out.size))
  have X2 := Lib.hid (boxStays X1.out hb)
  clear hb hv hbb k0
  have k1 := box2 X2.out
  have f1 := frozen_of_row _ (w.heap.size + 1) 0 _ _ X2.out
  have f2 := frozen_of_row _ (w.heap.size + 1) 1 _ _ X2.out
  have X3 := heap_setCell_same w2 (w.heap.size + 1) 0 _ _ (.int .i64 v) X2.out
  have X4 := heap_setCell_same _ (w.heap.size + 1) 1 _ _ (.bool b) X3
  have HX4 := Lib.hid X4
  clear X3 X4
  go_wp2_with fail
  have k4 := box2 (x0 := .int .i64 v) (x1 := .bool b) (by simpa using HX4.out)
  refine bodyPost_ret (v := .agg #[.int .i64 v, .bool b]) (by simp [results, Try.results15, go_sem, k4]) rfl ⟨by rw [HP.out]; rfl, (D2.out.setCell (p := ⟨w.heap.size + 1, 0, none⟩) (by simp) _).setCell (p := ⟨w.heap.size + 1, 1, none⟩) (by simp) _⟩
end Go.Proofs.Ytdodkhhlbjamhaa

