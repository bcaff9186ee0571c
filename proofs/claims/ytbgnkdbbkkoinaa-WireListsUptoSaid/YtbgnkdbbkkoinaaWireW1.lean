/- Walks: the writers of numbers, the program's and the reference's. -/
import Derived.Test.YtbgnkdbbkkoinaaMem2
import Derived.Test.YtbgnkdbbkkoinaaWirePlain
namespace Go.Proofs.Ytbgnkdbbkkoinaa
open Go.RowKit
theorem info_byte : (Try.prog.info? 5).map (fun i => (i.zero, i.size, i.bytes)) = some (some (.int .u8 0), 1, 1) := by kernel_rfl
namespace Wire
theorem encF_step (r m : Nat) (h : 127 < m) : encF (r + 1) m = UInt8.ofNat (m % 128 + 128) :: encF r (m / 128) := by
  conv => lhs; unfold encF
  rw [if_pos h]
theorem encF_last (r m : Nat) (h : ¬ 127 < m) : encF (r + 1) m = [UInt8.ofNat m] := by
  conv => lhs; unfold encF
  rw [if_neg h]
theorem digit_or (m : Nat) : bits .or .u8 ((m : Int) % 256) 128 = ((UInt8.ofNat (m % 128 + 128)).toNat : Int) := by
  have e : (m : Int) % 256 = ((m % 256 : Nat) : Int) := by omega
  have h1 : m % 256 < 256 := Nat.mod_lt _ (by decide)
  rw [e, show (128 : Int) = ((128 : Nat) : Int) from rfl, u8_or_nat _ _ h1 (by decide), byte_of _ (by omega)]
  have h2 : ∀ j : Fin 256, j.val ||| 128 = j.val % 128 + 128 := by decide +kernel
  have h3 := h2 ⟨m % 256, h1⟩
  simp only at h3
  rw [h3]
  omega
theorem digit_sum (m : Nat) : ((m : Int) % 128 + 128) % 256 = ((UInt8.ofNat (m % 128 + 128)).toNat : Int) := by
  rw [byte_of _ (by omega)]; omega
theorem digit_sum' (m : Nat) : (m : Int) % 128 + 128 = ((UInt8.ofNat (m % 128 + 128)).toNat : Int) := by
  rw [byte_of _ (by omega)]; omega
theorem digit_last (m : Nat) (h : ¬ 127 < m) : (m : Int) % 256 = ((UInt8.ofNat m).toNat : Int) := by
  rw [byte_of _ (by omega)]; omega
theorem digit_last' (m : Nat) (h : ¬ 127 < m) : (m : Int) = ((UInt8.ofNat m).toNat : Int) := by
  rw [byte_of _ (by omega)]
end Wire
open Wire
/-- A call hands back these bytes, in a row of its own; what was there stays. -/
def GivesB (w : World) (l : List UInt8) (e : Ending) (w' : World) : Prop := ∃ v, e = .returned v ∧ w'.ownsRow w.heap.size 5 1 v l.length (bvs l) ∧ Below w.heap.size w w'
theorem byteT : ElemT Try.prog 23 5 (.int .u8 0) 1 1 := ElemT.mk Try.underlying23 info_byte rfl
set_option maxHeartbeats 400000 in
theorem wire_Number (x : Int) (n : Nat) (w : World) (hx : x = n) (hn : n < 18446744073709551616) :
    Calls Try.prog 9 #[.int .u64 x] w (GivesB w (enc n)) := by
  subst hx
  have BT := Lib.hid byteT
  go_enter Try.func9, Try.ntmps9
  go_wp2_with (at_make; refine wpList_mk0 rfl _ _ 23 rfl 5 (.int .u8 0) 1 1 BT.out _ _ _ 10 rfl rfl rfl (by omega) (by omega) ?_; intro w0 hown0 D0)
  have HD0 := Lib.hid D0; clear D0
  have HO0 := Lib.hid hown0; clear hown0
  go_loopw [0, 3] (fun x v wr => ∃ (r m : Nat) (pre : List UInt8), x = .int .u64 m ∧ m < 2 * 128 ^ r ∧ r ≤ 9 ∧ pre.length + r = 9 ∧ pre ++ encF (r + 1) m = enc n ∧ wr.ownsRow w.heap.size 5 1 v pre.length (bvs pre) ∧ Below w.heap.size w wr) (fun x _ _ => (intOf x).toNat)
  case atStart => exact ⟨9, n, [], rfl, by omega, by omega, rfl, rfl, HO0.out, HD0.out⟩
  case round =>
    obtain ⟨r, m, pre, rfl, hm, hr, hpr, henc, hown, hb⟩ := hrel
    have HO := Lib.hid hown; clear hown
    have HB := Lib.hid hb; clear hb
    have HE := Lib.hid henc; clear henc
    have hm64 : m < 18446744073709551616 := by
      have : 128 ^ r ≤ 128 ^ 9 := Nat.pow_le_pow_right (by decide) hr
      omega
    have HM := Lib.hid hm; clear hm
    have HBS := Lib.hid HB.out.size
    by_cases h127 : 127 < m
    · obtain ⟨r', rfl⟩ : ∃ r', r = r' + 1 := by
        cases r with
        | zero => have := HM.out; omega
        | succ r' => exact ⟨r', rfl⟩
      go_wp2_with (at_builtin; refine wpList_appb rfl _ _ 23 23 rfl w.heap.size 5 BT.out u3 pre rfl (HO.out.alloc _) _ [UInt8.ofNat (m % 128 + 128)] rfl (src_one Try.underlying23 wr 5 (UInt8.ofNat (m % 128 + 128)) _ (digit_or m)) (by simp; omega) (by have := HBS.out; simp; omega) ?_; intro v' w1 hown1 _ hbel1 _)
      have HO1 := Lib.hid hown1; clear hown1
      have HB1 := Lib.hid ((HB.out.alloc HB.out.size (.cells #[.int .u8 (bits .or .u8 ((m : Int) % 256) 128)] 5)).trans hbel1); clear hbel1
      have hmm : m / 128 < m := by omega
      have HM1 : Hid (m / 128 < 2 * 128 ^ r') := Lib.hid (by have := HM.out; rw [Nat.pow_succ] at this; omega)
      go_wp2_with fail
      go_roundw
      case rel => exact ⟨r', m / 128, pre ++ [UInt8.ofNat (m % 128 + 128)], by go_num, HM1.out, by omega, by simp; omega, by rw [← HE.out, encF_step _ _ h127]; simp, HO1.out, HB1.out⟩
      case measure => simp [intOf]; omega
    · go_wp2_with (at_builtin; refine wpList_appb rfl _ _ 23 23 rfl w.heap.size 5 BT.out u3 pre rfl (HO.out.alloc _) _ [UInt8.ofNat m] rfl (src_one Try.underlying23 wr 5 (UInt8.ofNat m) _ (digit_last' m h127)) (by simp; omega) (by have := HBS.out; simp; omega) ?_; intro v' w1 hown1 _ hbel1 _)
      have HB1 := Lib.hid ((HB.out.alloc HB.out.size (.cells #[.int .u8 (m : Int)] 5)).trans hbel1); clear hbel1
      rw [show pre ++ [UInt8.ofNat m] = enc n from by rw [← HE.out, encF_last _ _ h127]] at hown1
      have HO1 := Lib.hid hown1; clear hown1
      go_wp2_with fail
      go_ret
      exact ⟨_, rfl, HO1.out, HB1.out⟩
end Go.Proofs.Ytbgnkdbbkkoinaa
