
/- Walks: PutAll of two frames of which one may not be. -/
import Derived.Test.YtpbjhfajekfjeaaFrameK
namespace Go.Proofs.Ytpbjhfajekfjeaa
open Go.RowKit Frm
set_option maxRecDepth 100000 in
set_option maxHeartbeats 1000000 in
theorem putAll_two (k1 k2 : Int) (n1 n2 p1 p2 : Nat) (a1 a2 : Option Addr) (b : Nat) (w : World) (hn1 : n1 ≤ 1099511627776) (hn2 : n2 ≤ 1099511627776)
    (g0 : w.cell? ⟨b, 0, none⟩ = some (.int .i64 k1)) (g1 : w.cell? ⟨b, 1, none⟩ = some (.slice a1 n1 p1)) (g2 : w.cell? ⟨b, 2, none⟩ = some (.int .i64 k2)) (g3 : w.cell? ⟨b, 3, none⟩ = some (.slice a2 n2 p2))
    (hc : (chk k1 n1 = 0 ∧ chk k2 n2 = 3) ∨ (chk k1 n1 = 3 ∧ chk k2 n2 = 2)) :
    Calls Try.prog 14 #[.slice (some ⟨b, 0, none⟩) 2 2] w fun e w' => e = .returned (.tuple #[.slice none 0 0, .int .i64 (chk k2 n2 : Int)]) ∧ Below w.heap.size w w' := by
  have HC := Lib.hid hc; clear hc
  obtain ⟨x1, hx1⟩ : ∃ x, chk k1 n1 = x := ⟨_, rfl⟩
  obtain ⟨x2, hx2⟩ : ∃ x, chk k2 n2 = x := ⟨_, rfl⟩
  rw [hx1, hx2] at HC
  rw [hx2]
  have HX1 := Lib.hid hx1; have HX2 := Lib.hid hx2; clear hx1 hx2
  have hbl := block_lt_of_cell g0
  go_enter Try.func14, Try.ntmps14
  go_wp2_with fail
  go_loopw [4, 15] (fun late i wr => Hid (Below w.heap.size w wr) ∧ ((i = .int .i64 0 ∧ late = .int .i64 0) ∨ (i = .int .i64 1 ∧ late = .int .i64 (x1 : Int)) ∨ (i = .int .i64 2 ∧ late = .int .i64 3 ∧ x2 = 3)))
    (fun _ i _ => 2 - (intOf i).toNat)
  case atStart => exact ⟨Lib.hid (Below.refl _ _), .inl ⟨rfl, rfl⟩⟩
  case round =>
    obtain ⟨HB, hcase⟩ := hrel
    have g0 := (HB.out.cell (p := ⟨b, 0, none⟩) hbl).trans g0
    have g1 := (HB.out.cell (p := ⟨b, 1, none⟩) hbl).trans g1
    have g2 := (HB.out.cell (p := ⟨b, 2, none⟩) hbl).trans g2
    have g3 := (HB.out.cell (p := ⟨b, 3, none⟩) hbl).trans g3
    rcases hcase with ⟨rfl, rfl⟩ | ⟨rfl, rfl⟩ | ⟨rfl, rfl, rfl⟩
    · go_wp2_with fail
      refine (frame_check k1 a1 n1 p1 _ hn1).mono ?_
      rintro e w2 ⟨rfl, rfl⟩
      rw [HX1.out]
      have HB2 : Hid (Below w.heap.size w (wr.alloc (.cells #[.int .i64 k1, .slice a1 n1 p1] 36))) := Lib.hid (HB.out.alloc HB.out.size _)
      rcases HC.out with ⟨h1, h2⟩ | ⟨h1, h2⟩
      · have HC1 := Lib.hid h1
        rw [h1, show (((0:Nat)):Int) = 0 from rfl]
        clear h1 h2
        go_wp2_with fail
        exact ⟨⟨HB2, .inr (.inl ⟨rfl, by rw [HC1.out]; rfl⟩)⟩, by simp [intOf]⟩
      · have HC1 := Lib.hid h1
        rw [h1, show (((3:Nat)):Int) = 3 from rfl]
        clear h1 h2
        go_wp2_with fail
        exact ⟨⟨HB2, .inr (.inl ⟨rfl, by rw [HC1.out]; rfl⟩)⟩, by simp [intOf]⟩
    · go_wp2_with fail
      refine (frame_check k2 a2 n2 p2 _ hn2).mono ?_
      rintro e w2 ⟨rfl, rfl⟩
      rw [HX2.out]
      have HB2 : Hid (Below w.heap.size w (wr.alloc (.cells #[.int .i64 k2, .slice a2 n2 p2] 36))) := Lib.hid (HB.out.alloc HB.out.size _)
      rcases HC.out with ⟨h1, h2⟩ | ⟨h1, h2⟩
      · have HC2 := Lib.hid h2
        rw [h2, show (((3:Nat)):Int) = 3 from rfl]
        clear h1 h2
        go_wp2_with fail
        exact ⟨⟨HB2, .inr (.inr ⟨rfl, rfl, HC2.out⟩)⟩, by simp [intOf]⟩
      · have HC2 := Lib.hid h2
        rw [h2, show (((2:Nat)):Int) = 2 from rfl]
        clear h1 h2
        go_wp2_with fail
        go_ret2
        exact ⟨by rw [HC2.out]; rfl, HB2.out⟩
    · go_wp2_with fail
      go_ret2
      exact ⟨by simp, HB.out⟩
end Go.Proofs.Ytpbjhfajekfjeaa

