
/- Walks: the reference's More, Sum, Zeros. -/
import Derived.Test.YtpbjhfajekfjeaaMem
import Derived.Test.YtpbjhfajekfjeaaCrcW1
namespace Go.Proofs.Ytpbjhfajekfjeaa
open Go.RowKit Crc

theorem ref_More (n : Int) (x : W) (l : List UInt8) (a : Option Addr) (len cap : Nat) (w : World) (hn : n = x.toNat) (hl : BytesAt w a l) (hlen : len = l.length) (hm : l.length ≤ 9223372036854775807) :
    Calls Try.prog 29 #[.int .u32 n, .slice a len cap] w fun e w' => e = .returned (.int .u32 (Crc.more x l).toNat) ∧ w = w' := by
  subst hn hlen
  go_enter Try.func29, Try.ntmps29
  have H := Lib.hid hl; clear hl
  go_wp2_with fail
  go_loop [5, 6] (fun s i => ∃ k : Nat, k ≤ l.length ∧ i = .int .i64 k ∧ s = .int .u32 (runl (~~~ x) (l.take k)).toNat) (fun _ i => l.length - (intOf i).toNat)
  case atStart => exact ⟨0, by omega, rfl, u32_eq (not_int x)⟩
  case round =>
    obtain ⟨k, hk, rfl, rfl⟩ := hrel
    by_cases hlt : k < l.length
    · have HS := Lib.hid (runl_take_succ (~~~ x) l k hlt)
      obtain ⟨b, off, rfl, hc⟩ := H.out k hlt
      have hb := l[k].toNat_lt
      generalize runl (~~~ x) (l.take k) = y at *
      have hy := y.isLt
      generalize l[k] = c at *
      go_wp2_with fail
      refine (ref_step _ (y ^^^ byte c) _ (xor_byte_int y c)).mono ?_
      rintro e w' ⟨rfl, rfl⟩
      go_wp2_with fail
      go_round
      case rel => exact ⟨k + 1, by omega, by go_num, u32_eq (by rw [HS.out])⟩
      case measure => simp [intOf]; omega
    · obtain rfl : k = l.length := by omega
      go_wp2_with fail
      go_ret
      exact ⟨ret_u32 (not_int _), rfl⟩

theorem ref_Sum (l : List UInt8) (a : Option Addr) (len cap : Nat) (w : World) (hl : BytesAt w a l) (hlen : len = l.length) (hm : l.length ≤ 9223372036854775807) :
    Calls Try.prog 26 #[.slice a len cap] w fun e w' => e = .returned (.int .u32 (Crc.sum l).toNat) ∧ w = w' := by
  go_enter Try.func26, Try.ntmps26
  have H := Lib.hid hl; clear hl
  have HL := Lib.hid hlen; clear hlen
  go_wp2_with fail
  refine (ref_More _ 0#32 l _ _ _ _ rfl H.out HL.out hm).mono ?_
  rintro e w' ⟨rfl, rfl⟩
  go_wp2_with fail
  go_ret
  exact ⟨rfl, rfl⟩

end Go.Proofs.Ytpbjhfajekfjeaa
