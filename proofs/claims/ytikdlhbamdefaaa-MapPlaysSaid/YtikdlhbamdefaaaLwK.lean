
/- Plain: a balanced tree's height, by Fibonacci's numbers. -/
import Derived.Test.YtikdlhbamdefaaaLwF
namespace Go.Proofs.Ytikdlhbamdefaaa
open Go.RowKit Pm
def fibF : Nat → Nat
  | 0 => 1
  | 1 => 1
  | n + 2 => fibF n + fibF (n + 1)
theorem fibF_step (n : Nat) : fibF n ≤ fibF (n + 1) := by
  cases n with
  | zero => exact Nat.le_refl _
  | succ n => show fibF (n + 1) ≤ fibF n + fibF (n + 1); omega
theorem fibF_mono {m n : Nat} (h : m ≤ n) : fibF m ≤ fibF n := by
  induction h with
  | refl => exact Nat.le_refl _
  | step _ ih => exact Nat.le_trans ih (fibF_step _)
theorem bal_fib : ∀ (t : Tr Int), Bal t → fibF (ht t + 1) ≤ sz t + 1
  | .nil, _ => by simp [ht, sz, fibF]
  | .node b l k v r, h => by
    obtain ⟨h1, h2, h3, h4⟩ := h
    have i1 := bal_fib l h1
    have i2 := bal_fib r h2
    simp only [ht, sz]
    show fibF (max (ht l) (ht r)) + fibF (max (ht l) (ht r) + 1) ≤ _
    by_cases hlr : ht l ≤ ht r
    · have e : max (ht l) (ht r) = ht r := by omega
      rw [e]
      have := fibF_mono (show ht r ≤ ht l + 1 by omega)
      omega
    · have e : max (ht l) (ht r) = ht l := by omega
      rw [e]
      have := fibF_mono (show ht l ≤ ht r + 1 by omega)
      omega
end Go.Proofs.Ytikdlhbamdefaaa
