
/- Walks: the writers of numbers, the program's and the reference's. -/
import Derived.Test.YtpbjhfajekfjeaaMem2
import Derived.Test.YtpbjhfajekfjeaaWirePlain
namespace Go.Proofs.Ytpbjhfajekfjeaa
open Go.RowKit
theorem info_byte : (Try.prog.info? 5).map (fun i => (i.zero, i.size, i.bytes)) = some (some (.int .u8 0), 1, 1) := by kernel_rfl
namespace Wire
theorem encF_step (r m : Nat) (h : 127 < m) : encF (r + 1) m = UInt8.ofNat (m % 128 + 128) :: encF r (m / 128) := by
  conv => lhs; unfold encF
  rw [if_pos h]
theorem encF_last (r m : Nat) (h : ¬ 127 < m) : encF (r + 1) m = [UInt8.ofNat m] := by
  conv => lhs; unfold encF
  rw [if_neg h]
theorem digit_or (m : Nat) : bits .or .u8 ((m : Int) % 256) 128 = ((UInt8.ofNat (m % 128 + 128)).toNat : Int) := by
  have e : (m : Int) % 256 = ((m % 256 : Nat) : Int) := by omega
  have h1 : m % 256 < 256 := Nat.mod_lt _ (by decide)
  rw [e, show (128 : Int) = ((128 : Nat) : Int) from rfl, u8_or_nat _ _ h1 (by decide), byte_of _ (by omega)]
  have h2 : ∀ j : Fin 256, j.val ||| 128 = j.val % 128 + 128 := by decide +kernel
  have h3 := h2 ⟨m % 256, h1⟩
  simp only at h3
  rw [h3]
  omega
theorem digit_sum (m : Nat) : ((m : Int) % 128 + 128) % 256 = ((UInt8.ofNat (m % 128 + 128)).toNat : Int) := by
  rw [byte_of _ (by omega)]; omega
theorem digit_sum' (m : Nat) : (m : Int) % 128 + 128 = ((UInt8.ofNat (m % 128 + 128)).toNat : Int) := by
  rw [byte_of _ (by omega)]; omega
theorem digit_last (m : Nat) (h : ¬ 127 < m) : (m : Int) % 256 = ((UInt8.ofNat m).toNat : Int) := by
  rw [byte_of _ (by omega)]; omega
theorem digit_last' (m : Nat) (h : ¬ 127 < m) : (m : Int) = ((UInt8.ofNat m).toNat : Int) := by
  rw [byte_of _ (by omega)]
end Wire
open Wire
/-- A call hands back these bytes, in a row of its own; what was there stays. -/
def GivesB (w : World) (l : List UInt8) (e : Ending) (w' : World) : Prop := ∃ v, e = .returned v ∧ w'.ownsRow w.heap.size 5 1 v l.length (bvs l) ∧ Below w.heap.size w w'
theorem byteT : ElemT Try.prog 22 5 (.int .u8 0) 1 1 := ElemT.mk Try.underlying22 info_byte rfl
end Go.Proofs.Ytpbjhfajekfjeaa
