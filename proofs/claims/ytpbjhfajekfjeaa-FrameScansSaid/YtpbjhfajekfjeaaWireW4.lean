
/- Walks: what a reader reads, but lists. -/
import Derived.Test.YtpbjhfajekfjeaaWireW3
import Derived.Laws.DeepNot64
import Derived.Deep.RegionHeld3
import Derived.Deep.RegionLaw
namespace Go.Proofs.Ytpbjhfajekfjeaa
open Go.RowKit Wire
section
variable {w : World} {g : Nat} {ad : Addr} {cap : Nat} {l : List UInt8} {p : Nat}
theorem numOut_lt (l : List UInt8) (p : Nat) : (numOut l p).1 < 18446744073709551616 := by
  unfold numOut
  cases h : rd (l.drop p) 0 0 with
  | none => simp
  | some x => obtain ⟨v, j⟩ := x; have := rd_back _ _ _ h; simp only; omega
theorem numOut_ge (l : List UInt8) (p : Nat) : p ≤ (numOut l p).2.1 := by
  unfold numOut
  cases h : rd (l.drop p) 0 0 with
  | none => simp
  | some x => simp
theorem numOut_err (l : List UInt8) (p : Nat) : (numOut l p).2.2 = 0 ∨ numOut l p = (0, p, 4) := by
  unfold numOut
  cases h : rd (l.drop p) 0 0 with
  | none => simp
  | some x => simp
theorem unfold_bits (u : Nat) (hu : u < 18446744073709551616) : bits .xor .i64 ((u : Int) / 2) (wrap64 (-wrap64 (bits .and .u64 (u : Int) 1))) = unfoldN u := by
  have e1 : bits .and .u64 (u : Int) 1 = ((u % 2 : Nat) : Int) := by
    rw [show (1 : Int) = ((1 : Nat) : Int) from rfl, u64_and_nat _ _ hu (by decide), show (1 : Nat) = 2 ^ 1 - 1 from rfl, Nat.and_two_pow_sub_one_eq_mod]
  have e2 : (u : Int) / 2 = ((u / 2 : Nat) : Int) := by omega
  rw [e1, e2]
  unfold unfoldN
  by_cases h : u % 2 = 1
  · rw [if_pos h, h]
    have e3 : wrap64 (-wrap64 ((1 : Nat) : Int)) = -1 := by simp [wrap64]
    rw [e3]
    have e4 : bits .xor .i64 ((u / 2 : Nat) : Int) (-1) = bits .xor .i64 (-1) ((u / 2 : Nat) : Int) := by
      show IntKind.i64.wrap ((BitVec.ofInt 64 ((u / 2 : Nat) : Int) ^^^ BitVec.ofInt 64 (-1)).toNat : Int) = IntKind.i64.wrap ((BitVec.ofInt 64 (-1) ^^^ BitVec.ofInt 64 ((u / 2 : Nat) : Int)).toNat : Int)
      rw [BitVec.xor_comm]
    rw [e4, i64_not _ (by omega)]
    omega
  · rw [if_neg h, show u % 2 = 0 from by omega]
    have e3 : wrap64 (-wrap64 ((0 : Nat) : Int)) = 0 := by simp [wrap64]
    rw [e3]
    show IntKind.i64.wrap ((BitVec.ofInt 64 ((u / 2 : Nat) : Int) ^^^ BitVec.ofInt 64 0).toNat : Int) = _
    have h1 : BitVec.ofInt 64 0 = 0#64 := by decide
    rw [h1, BitVec.xor_zero, ofInt_u64 _ (by omega)]
    simp [IntKind.wrap, IntKind.bits, IntKind.signed]
    omega
theorem i64_tup {a b x y : Int} (h : a = b) (h' : x = y) : Ending.returned (.tuple #[.int .i64 a, .int .i64 x]) = .returned (.tuple #[.int .i64 b, .int .i64 y]) := by rw [h, h']
/-- What Flag answers. -/
def flagOut (l : List UInt8) (p : Nat) : Bool × Nat × Nat := if h : p < l.length then (if 1 < (l[p]).toNat then (false, p, 4) else (decide ((l[p]).toNat = 1), p + 1, 0)) else (false, p, 4)
/-- What count answers. -/
def cntOut (l : List UInt8) (p : Nat) (m : Int) : Nat × Nat × Nat :=
  if m < 0 then (0, p, 2) else if (numOut l p).2.2 = 0 then (if m < (numOut l p).1 then (0, (numOut l p).2.1, 3) else numOut l p) else (0, p, (numOut l p).2.2)
theorem i64_wrap {a : Int} (h1 : -9223372036854775808 ≤ a) (h2 : a ≤ 9223372036854775807) : IntKind.i64.wrap a = a := by
  simp [IntKind.wrap, IntKind.bits, IntKind.signed]; omega
theorem cntOut_le (l : List UInt8) (p : Nat) (m : Int) : ((cntOut l p m).1 : Int) ≤ m ∨ (cntOut l p m).1 = 0 := by
  unfold cntOut
  split
  · exact .inr rfl
  · split
    · split
      · exact .inr rfl
      · exact .inl (by omega)
    · exact .inr rfl
/-- What Bytes answers. -/
def bytesOut (l : List UInt8) (p : Nat) (m : Int) : List UInt8 × Nat × Nat :=
  if (cntOut l p m).2.2 = 0 then (if l.length - (cntOut l p m).2.1 < (cntOut l p m).1 then ([], p, 4) else ((l.drop (cntOut l p m).2.1).take (cntOut l p m).1, (cntOut l p m).2.1 + (cntOut l p m).1, 0)) else ([], p, (cntOut l p m).2.2)
end
end Go.Proofs.Ytpbjhfajekfjeaa
