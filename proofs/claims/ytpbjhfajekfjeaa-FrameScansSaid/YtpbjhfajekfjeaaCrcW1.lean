
/- Walks: the reference's step, More, Sum, Zeros; the program's table. -/
import Derived.Test.YtpbjhfajekfjeaaRows
import Derived.Test.YtpbjhfajekfjeaaCrcPlain
import Derived.WalkKit
import Derived.Outline
import Derived.Lib.Hide
namespace Go.Proofs.Ytpbjhfajekfjeaa
open Go.RowKit
namespace Crc
/-- A 32-bit word as a value. -/
theorem lsb_int (x : W) : ((x.toNat : Int) % 2 == 1) = x.getLsbD 0 := by
  rw [BitVec.getLsbD, Nat.testBit_zero]
  rw [Bool.eq_iff_iff]; simp; omega
theorem xor_int (a b : W) : bits .xor .u32 (a.toNat : Int) (b.toNat : Int) = ((a ^^^ b).toNat : Int) := by
  rw [u32_xor_nat _ _ a.isLt b.isLt, BitVec.toNat_xor]
theorem shr_int (x : W) (n : Nat) : (x.toNat : Int) / (2 ^ n : Nat) = ((x >>> n).toNat : Int) := by
  rw [BitVec.toNat_ushiftRight, Nat.shiftRight_eq_div_pow]; rfl
theorem sh_odd_int (x : W) (h : ((x.toNat : Int) % 2 == 1) = true) : bits .xor .u32 ((x.toNat : Int) / 2) 2197175160 = ((sh x).toNat : Int) := by
  rw [lsb_int] at h
  have e := shr_int x 1
  have p : (2197175160 : Int) = ((poly).toNat : Int) := rfl
  rw [show ((2 ^ 1 : Nat) : Int) = 2 from rfl] at e
  rw [e, p, xor_int]
  unfold sh mask; rw [h]; rfl
theorem sh_even_int (x : W) (h : ((x.toNat : Int) % 2 == 1) = false) : (x.toNat : Int) / 2 = ((sh x).toNat : Int) := by
  rw [lsb_int] at h
  have e := shr_int x 1
  rw [show ((2 ^ 1 : Nat) : Int) = 2 from rfl] at e
  rw [e, sh_even _ h]
theorem not_int (x : W) : bits .xor .u32 (x.toNat : Int) 4294967295 = ((~~~ x).toNat : Int) := by
  rw [show (4294967295 : Int) = ((4294967295#32).toNat : Int) from rfl, xor_int]
  have e : x ^^^ 4294967295#32 = ~~~ x := by
    rw [show (4294967295#32 : W) = BitVec.allOnes 32 from by decide, BitVec.xor_allOnes]
  rw [e]
theorem byte_int (c : UInt8) : ((c.toNat : Int)) = ((byte c).toNat : Int) := by
  unfold byte
  rw [BitVec.toNat_ofNat, Nat.mod_eq_of_lt]
  have := c.toNat_lt; omega
theorem xor_byte_int (x : W) (c : UInt8) : bits .xor .u32 (x.toNat : Int) (c.toNat : Int) = ((x ^^^ byte c).toNat : Int) := by
  rw [byte_int, xor_int]
theorem runl_take_succ (s : W) (l : List UInt8) (k : Nat) (h : k < l.length) : runl s (l.take (k + 1)) = step (runl s (l.take k) ^^^ byte l[k]) := by
  rw [List.take_succ_eq_append_getElem h, runl_snoc]
theorem u32_eq {a b : Int} (h : a = b) : Value.int .u32 a = Value.int .u32 b := by rw [h]
theorem ret_u32 {a b : Int} (h : a = b) : Ending.returned (.int .u32 a) = .returned (.int .u32 b) := by rw [h]
end Crc
open Crc

theorem ref_step (n : Int) (x : W) (w : World) (hn : n = x.toNat) :
    Calls Try.prog 31 #[.int .u32 n] w fun e w' => e = .returned (.int .u32 (Crc.step x).toNat) ∧ w = w' := by
  subst hn
  go_enter Try.func31, Try.ntmps31
  go_wp2
  go_loop [0, 3] (fun s i => ∃ k : Nat, k ≤ 8 ∧ i = .int .i64 k ∧ s = .int .u32 (itn sh k x).toNat) (fun _ i => 8 - (intOf i).toNat)
  case atStart => exact ⟨0, by omega, rfl, rfl⟩
  case round =>
    obtain ⟨k, hk, rfl, rfl⟩ := hrel
    have hm := (itn sh k x).isLt
    by_cases hlt : k < 8
    · have hs : itn sh (k + 1) x = sh (itn sh k x) := itn_succ' sh k x
      have HS := Lib.hid hs; clear hs
      generalize itn sh k x = y at *
      go_wp2
      · rename_i hh
        go_round
        case rel => exact ⟨k + 1, by omega, by go_num, u32_eq (by rw [HS.out]; exact sh_odd_int y hh)⟩
        case measure => simp [intOf]; omega
      · rename_i hh
        go_round
        case rel => exact ⟨k + 1, by omega, by go_num, u32_eq (by rw [HS.out]; exact sh_even_int y hh)⟩
        case measure => simp [intOf]; omega
    · obtain rfl : k = 8 := by omega
      go_wp2
      go_ret
      exact ⟨rfl, rfl⟩
end Go.Proofs.Ytpbjhfajekfjeaa
