
/- Walks: One. -/
import Derived.Test.YtpbjhfajekfjeaaFrameS2
namespace Go.Proofs.Ytpbjhfajekfjeaa
open Go.RowKit Frm
/-- What One answers: the kind, the body, the error. -/
def oneF (l : List UInt8) : Nat × List UInt8 × Nat := if (begF l).2.2.2 = 0 ∧ (begF l).2.2.1 = l.length then ((begF l).1, (begF l).2.1, 0) else (0, [], 4)
set_option maxRecDepth 20000 in
set_option maxHeartbeats 1000000 in
theorem frame_One (l : List UInt8) (a : Option Addr) (cap : Nat) (w : World) (h : BytesAt w a l) (hcap : l.length ≤ cap) (hl : l.length ≤ 1048576) :
    Calls Try.prog 11 #[.slice a l.length cap] w fun e w' =>
      ∃ v, e = .returned (.tuple #[.agg #[.int .i64 ((oneF l).1 : Int), v], .int .i64 ((oneF l).2.2 : Int)]) ∧ w'.ownsRow w.heap.size 5 1 v (oneF l).2.1.length (bvs (oneF l).2.1) ∧ Below w.heap.size w w' := by
  have H := Lib.hid h; clear h
  obtain ⟨q, hq⟩ : ∃ q, begF l = q := ⟨_, rfl⟩
  have HO1 : Hid (oneF l = if q.2.2.2 = 0 ∧ q.2.2.1 = l.length then (q.1, q.2.1, 0) else (0, [], 4)) := Lib.hid (by unfold oneF; rw [hq])
  have HQ := Lib.hid hq
  clear hq
  have HX0 := Lib.hid (heap_alloc_new w (.cells #[.int .i64 0, .slice none 0 0] 36))
  go_enter Try.func11, Try.ntmps11
  go_wp2_with fail
  refine (frame_begin l a cap _ (H.out.below (below_new _ _) rfl) hcap hl).mono ?_
  rintro e w2 ⟨v, rfl, hown, hb⟩
  rw [HQ.out] at hown ⊢
  obtain ⟨k, body, m, err⟩ := q
  dsimp only at hown HO1 ⊢
  obtain ⟨va, vc, rfl⟩ := own_shape hown
  generalize hvn : body.length = vn at *
  have HVN := Lib.hid hvn
  clear hvn
  have HO := Lib.hid hown
  have HX2 : Hid (w2.heap[w.heap.size]? = some (.cells #[.int .i64 0, .slice none 0 0] 36 (0, 0))) := Lib.hid ((hb.block _ (by simp)).trans HX0.out)
  have D2 : Hid (Below w.heap.size w w2) := Lib.hid ((below_new _ _).trans (hb.mono (by simp)))
  clear hown hb
  have HX3 : Hid ((w2.alloc (.cells #[.int .i64 (k : Int), .slice va vn vc] 36)).heap[w.heap.size]? = some (.cells #[.int .i64 0, .slice none 0 0] 36 (0, 0))) := Lib.hid (boxStays HX2.out (below_new _ _))
  have D3 : Hid (Below w.heap.size w (w2.alloc (.cells #[.int .i64 (k : Int), .slice va vn vc] 36))) := Lib.hid (D2.out.alloc D2.out.size _)
  have HO3 : Hid ((w2.alloc (.cells #[.int .i64 (k : Int), .slice va vn vc] 36)).ownsRow (w.heap.size + 1) 5 1 (.slice va vn vc) vn (bvs body)) := Lib.hid (by have := HO.out.alloc (.cells #[.int .i64 (k : Int), .slice va vn vc] 36); rw [World.size_alloc] at this; exact this)
  obtain ⟨a0, a1⟩ := box2 (World.alloc_heap_new w2 (.cells #[.int .i64 (k : Int), .slice va vn vc] 36))
  have f0 := frozen_of_row _ w.heap.size 0 _ _ HX3.out
  have f1 := frozen_of_row _ w.heap.size 1 _ _ HX3.out
  obtain ⟨k0, k1⟩ := box2 HX3.out
  by_cases hg : err = 0 ∧ m = l.length
  · have HO2 : Hid (oneF l = (k, body, 0)) := Lib.hid (by rw [HO1.out]; exact if_pos hg)
    obtain ⟨rfl, rfl⟩ := hg
    rw [show (((0:Nat)):Int) = 0 from rfl]
    have HS2 := Lib.hid (set2 HX3.out (.int .i64 (k : Int)) (.slice va vn vc))
    have HB2 := Lib.hid (below_set2 D3.out (Nat.le_refl _) (.int .i64 (k : Int)) (.slice va vn vc))
    have HO9 := Lib.hid (own_grown (own_grown HO3.out (set_grown _ w.heap.size 0 (.int .i64 (k : Int))) (fun j hj e => by have := (HO3.out.lt j hj).1; cases e; omega)) (set_grown _ w.heap.size 1 (.slice va vn vc)) (fun j hj e => by have := (HO3.out.lt j hj).1; cases e; omega))
    go_wp2_with fail
    clear f0 f1 k0 k1
    generalize ((w2.alloc (.cells #[.int .i64 (k : Int), .slice va vn vc] 36)).setCell ⟨w.heap.size, 0, none⟩ (.int .i64 (k : Int))).setCell ⟨w.heap.size, 1, none⟩ (.slice va vn vc) = w9 at *
    obtain ⟨k0, k1⟩ := box2 HS2.out
    refine bodyPost_ret (v := .tuple #[.agg #[.int .i64 (k : Int), .slice va vn vc], .int .i64 0]) (by simp [results, Try.results11, go_sem, k0, k1]) rfl ?_
    rw [HO2.out]
    exact ⟨_, rfl, own_mono (own_len2 HO9.out HVN.out) (by omega), HB2.out⟩
  · have HO2 : Hid (oneF l = (0, [], 4)) := Lib.hid (by rw [HO1.out]; exact if_neg hg)
    have HS2 := Lib.hid (set2 HX3.out (.int .i64 0) (.slice none 0 0))
    have HB2 := Lib.hid (below_set2 D3.out (Nat.le_refl _) (.int .i64 0) (.slice none 0 0))
    by_cases he : err = 0
    · subst he
      rw [show (((0:Nat)):Int) = 0 from rfl]
      have hml : ¬ (m : Int) = (l.length : Int) := fun h => hg ⟨rfl, by omega⟩
      have hmb : ((m : Int) != (l.length : Int)) = true := by simp; omega
      clear hg
      go_wp2_with fail
      clear f0 f1 k0 k1
      generalize ((w2.alloc (.cells #[.int .i64 (k : Int), .slice va vn vc] 36)).setCell ⟨w.heap.size, 0, none⟩ (.int .i64 0)).setCell ⟨w.heap.size, 1, none⟩ (.slice none 0 0) = w9 at *
      obtain ⟨k0, k1⟩ := box2 HS2.out
      refine bodyPost_ret (v := .tuple #[.agg #[.int .i64 0, .slice none 0 0], .int .i64 4]) (by simp [results, Try.results11, go_sem, k0, k1]) rfl ?_
      rw [HO2.out]
      exact ⟨_, rfl, World.ownsRow_nil _ _ _ _, HB2.out⟩
    · have heb : ((err : Int) != 0) = true := by simp; omega
      clear hg
      go_wp2_with fail
      clear f0 f1 k0 k1
      generalize ((w2.alloc (.cells #[.int .i64 (k : Int), .slice va vn vc] 36)).setCell ⟨w.heap.size, 0, none⟩ (.int .i64 0)).setCell ⟨w.heap.size, 1, none⟩ (.slice none 0 0) = w9 at *
      obtain ⟨k0, k1⟩ := box2 HS2.out
      refine bodyPost_ret (v := .tuple #[.agg #[.int .i64 0, .slice none 0 0], .int .i64 4]) (by simp [results, Try.results11, go_sem, k0, k1]) rfl ?_
      rw [HO2.out]
      exact ⟨_, rfl, World.ownsRow_nil _ _ _ _, HB2.out⟩
end Go.Proofs.Ytpbjhfajekfjeaa

