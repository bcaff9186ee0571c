/- Walks: a list of pairs, written. -/
import Derived.Test.YtbgnkdbbkkoinaaWireL2
namespace Go.Proofs.Ytbgnkdbbkkoinaa
open Go.RowKit Wire
theorem penc_take_succ (qs : List (Nat × Nat)) (k : Nat) (h : k < qs.length) : penc (qs.take (k + 1)) = penc (qs.take k) ++ (enc qs[k].1 ++ enc qs[k].2) := by
  rw [List.take_succ_eq_append_getElem h, penc_append]
  simp [penc]
theorem penc_take_le (qs : List (Nat × Nat)) (k : Nat) : (penc (qs.take k)).length ≤ 20 * qs.length := by
  have := penc_le (qs.take k)
  have : (qs.take k).length ≤ qs.length := by simp; omega
  omega
set_option maxRecDepth 20000 in
set_option maxHeartbeats 400000 in
theorem put_ok (qs : List (Nat × Nat)) (a : Option Addr) (cap : Nat) (w : World) (h : PairsAt .u64 w a (pI qs)) (hl : qs.length ≤ 1048576) (hq : ∀ q ∈ qs, q.1 < 18446744073709551616 ∧ q.2 < 18446744073709551616) :
    Calls Try.prog 27 #[.slice a qs.length cap, .func (.func 28) #[] #[]] w fun e w' =>
      ∃ v, e = .returned (.tuple #[v, .int .i64 0]) ∧ w'.ownsRow w.heap.size 5 1 v (lenc qs).length (bvs (lenc qs)) ∧ Below w.heap.size w w' := by
  have H := Lib.hid h; clear h
  have HQ := Lib.hid hq; clear hq
  have BT := Lib.hid byteT
  have hEN := enc_length qs.length
  have en := eql_func Try.underlying53
  go_enter Try.func27, Try.ntmps27
  go_wp2_with fail
  refine (wire_Number _ qs.length _ rfl (by omega)).mono ?_
  rintro e w1 ⟨v1, rfl, ho, hb⟩
  have HO1 := Lib.hid ho; clear ho
  have HB1 := Lib.hid hb; clear hb
  go_wp2_with fail
  go_loopw [6, 17] (fun v i wr => ∃ k : Nat, k ≤ qs.length ∧ i = .int .i64 (k : Int) ∧ wr.ownsRow w.heap.size 5 1 v (enc qs.length ++ penc (qs.take k)).length (bvs (enc qs.length ++ penc (qs.take k))) ∧ Below w.heap.size w wr) (fun _ i _ => qs.length - (intOf i).toNat)
  case atStart => exact ⟨0, Nat.zero_le _, rfl, by simpa [penc] using HO1.out, HB1.out⟩
  case round =>
    obtain ⟨k, hk, rfl, hown, hb⟩ := hrel
    have HO := Lib.hid hown; clear hown
    have HB := Lib.hid hb; clear hb
    have HZ := Lib.hid HB.out.size
    by_cases hlt : k < qs.length
    · obtain ⟨ba, off, rfl, c0, c1⟩ := (H.out.below HB.out rfl) k (by rw [pI_length]; exact hlt)
      have HS := Lib.hid (penc_take_succ qs k hlt)
      have HPL := Lib.hid (penc_take_le qs k)
      have hq := HQ.out _ (List.getElem_mem hlt)
      have HQK := Lib.hid hq; clear hq
      simp only [pI, List.getElem_map] at c0 c1
      generalize hqk : qs[k] = q at *
      clear hqk
      obtain ⟨x, y⟩ := q
      simp only at c0 c1 HQK HS
      have hi0 : (0 : Int) ≤ (k : Int) := by omega
      have hi1 : (k : Int) < (qs.length : Int) := by omega
      go_wp2_with fail
      refine (form_ok _ _ x y _ rfl rfl HQK.out.1 HQK.out.2).mono ?_
      rintro e w2 ⟨v2, rfl, ho, hb2⟩
      have HB2 : Hid (Below wr.heap.size wr w2) := Lib.hid ((below_new wr _).trans (hb2.mono (by simp))); clear hb2
      obtain ⟨a2, c2, rfl, h2⟩ := own_bytesAt ho
      have H2 : Hid (Src Try.prog 1 23 (.slice a2 ((enc x).length + (enc y).length) c2) (enc x ++ enc y).length (bvs (enc x ++ enc y)) w2) := Lib.hid (by have := h2.src Try.underlying23 c2; rw [List.length_append] at this ⊢; exact this); clear h2 ho
      have HO2 := Lib.hid (own_later HO.out HB2.out (Nat.le_refl _))
      have hEX := enc_length x
      have hEY := enc_length y
      clear c0 c1
      go_wp2_with (at_builtin; refine wpList_appb rfl _ _ 23 23 rfl w.heap.size 5 BT.out u6 (enc qs.length ++ penc (qs.take k)) rfl HO2.out (.slice a2 ((enc x).length + (enc y).length) c2) (enc x ++ enc y) rfl H2.out (by have := HPL.out; simp; omega) (Nat.le_trans HZ.out HB2.out.size) ?_; intro v3 w3 hown3 _ hb3 _)
      rw [List.append_assoc, ← HS.out] at hown3
      have HO3 := Lib.hid hown3; clear hown3
      have HB3 := Lib.hid ((HB.out.trans (HB2.out.mono HZ.out)).trans hb3); clear hb3
      go_wp2_with fail
      go_roundw
      case rel => exact ⟨k + 1, by omega, by go_num, HO3.out, HB3.out⟩
      case measure => simp [intOf]; omega
    · obtain rfl : k = qs.length := by omega
      go_wp2_with fail
      go_ret2
      refine ⟨_, rfl, ?_, HB.out⟩
      have := HO.out
      rw [List.take_length] at this
      exact this
end Go.Proofs.Ytbgnkdbbkkoinaa

