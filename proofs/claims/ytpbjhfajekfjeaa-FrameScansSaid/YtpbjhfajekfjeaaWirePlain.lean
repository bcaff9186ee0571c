
/- Plain facts on the wire's forms: a number's form, its reading, there and back. No program in sight. -/
namespace Go.Proofs.Ytpbjhfajekfjeaa.Wire

/-- A number's form, in at most so many bytes. -/
def encF : Nat → Nat → List UInt8
  | 0, _ => []
  | f + 1, n => if 127 < n then UInt8.ofNat (n % 128 + 128) :: encF f (n / 128) else [UInt8.ofNat n]
def enc (n : Nat) : List UInt8 := encF 10 n

theorem encF_length_le (f n : Nat) : (encF f n).length ≤ f := by
  induction f generalizing n with
  | zero => simp [encF]
  | succ f ih => unfold encF; split
                 · simp only [List.length_cons]; have := ih (n / 128); omega
                 · simp
theorem encF_pos (f n : Nat) : 0 < (encF (f + 1) n).length := by
  unfold encF; split <;> simp
theorem enc_length (n : Nat) : (enc n).length ≤ 10 := encF_length_le 10 n

/-- Reading: digit k, with what is read so far. -/
def rd : List UInt8 → Nat → Nat → Option (Nat × Nat)
  | [], _, _ => none
  | c :: r, k, acc =>
    if (k = 9 ∧ 1 < c.toNat) ∨ (0 < k ∧ c.toNat = 0) ∨ 9 < k then none
    else if c.toNat < 128 then some (acc + c.toNat % 128 * 2 ^ (7 * k), k + 1)
    else rd r (k + 1) (acc + c.toNat % 128 * 2 ^ (7 * k))

theorem byte_of (n : Nat) (h : n < 256) : (UInt8.ofNat n).toNat = n := by
  rw [UInt8.toNat_ofNat']; omega

theorem pow_split (k : Nat) : 2 ^ (7 * (k + 1)) = 128 * 2 ^ (7 * k) := by
  rw [show 7 * (k + 1) = 7 * k + 7 from by omega, Nat.pow_add, Nat.mul_comm]
theorem pow_rest (k : Nat) (h : k < 9) : 2 ^ (64 - 7 * k) = 128 * 2 ^ (64 - 7 * (k + 1)) := by
  rw [show 64 - 7 * k = 7 + (64 - 7 * (k + 1)) from by omega, Nat.pow_add]

/-- What was written is read. -/
theorem rd_encF (r : Nat) : ∀ (k m acc : Nat) (rest : List UInt8), k + r = 9 → m < 2 ^ (64 - 7 * k) → (0 < k → m ≠ 0) →
    rd (encF (r + 1) m ++ rest) k acc = some (acc + m * 2 ^ (7 * k), k + (encF (r + 1) m).length) := by
  induction r with
  | zero =>
    intro k m acc rest hk hm h0
    have hk9 : k = 9 := by omega
    subst hk9
    have hm2 : m < 2 := by simpa using hm
    have h127 : ¬ 127 < m := by omega
    unfold encF
    rw [if_neg h127]
    have hb := byte_of m (by omega)
    have := h0 (by omega)
    simp only [List.cons_append, List.nil_append, rd, hb]
    rw [if_neg (by omega), if_pos (by omega)]
    rw [Nat.mod_eq_of_lt (by omega)]; rfl
  | succ r ih =>
    intro k m acc rest hk hm h0
    unfold encF
    by_cases h : 127 < m
    · rw [if_pos h]
      have hb := byte_of (m % 128 + 128) (by omega)
      simp only [List.cons_append, rd, hb]
      rw [if_neg (by omega), if_neg (by omega)]
      have hm' : m / 128 < 2 ^ (64 - 7 * (k + 1)) := by
        rw [pow_rest k (by omega)] at hm
        omega
      rw [ih (k + 1) (m / 128) _ rest (by omega) hm' (by omega), pow_split]
      have e : (m % 128 + 128) % 128 = m % 128 := by omega
      rw [e, List.length_cons]
      have e2 : acc + m % 128 * 2 ^ (7 * k) + m / 128 * (128 * 2 ^ (7 * k)) = acc + m * 2 ^ (7 * k) := by
        have : m * 2 ^ (7 * k) = (m % 128 + 128 * (m / 128)) * 2 ^ (7 * k) := by rw [Nat.mod_add_div]
        rw [this, Nat.add_mul, Nat.mul_comm 128 (m / 128), Nat.mul_assoc]
        omega
      rw [e2]
      congr 2; omega
    · rw [if_neg h]
      have hb := byte_of m (by omega)
      simp only [List.cons_append, List.nil_append, rd, hb]
      have h00 : 0 < k → m ≠ 0 := h0
      rw [if_neg (by omega), if_pos (by omega), Nat.mod_eq_of_lt (by omega)]; rfl

theorem rd_enc (n : Nat) (h : n < 2 ^ 64) (rest : List UInt8) : rd (enc n ++ rest) 0 0 = some (n, (enc n).length) := by
  have := rd_encF 9 0 n 0 rest (by omega) (by simpa using h) (by omega)
  simpa [enc] using this

/-- A form that is cut short is none. -/
theorem rd_cut (r : Nat) : ∀ (k m acc j : Nat), k + r = 9 → j < (encF (r + 1) m).length → rd ((encF (r + 1) m).take j) k acc = none := by
  induction r with
  | zero =>
    intro k m acc j hk hj
    have : j = 0 := by have := encF_length_le (0 + 1) m; omega
    subst this; rfl
  | succ r ih =>
    intro k m acc j hk hj
    cases j with
    | zero => rfl
    | succ j =>
      unfold encF at hj ⊢
      by_cases h : 127 < m
      · rw [if_pos h] at hj ⊢
        have hb := byte_of (m % 128 + 128) (by omega)
        simp only [List.take_succ_cons, rd, hb]
        rw [if_neg (by omega), if_neg (by omega)]
        exact ih (k + 1) _ _ j (by omega) (by simpa using hj)
      · rw [if_neg h] at hj
        simp at hj

/-- What is read has just the form that was read. -/
theorem rd_form (r : Nat) : ∀ (l : List UInt8) (k acc v j : Nat), k + r = 9 → rd l k acc = some (v, j) →
    ∃ m, v = acc + m * 2 ^ (7 * k) ∧ k < j ∧ j - k ≤ l.length ∧ l.take (j - k) = encF (r + 1) m ∧ m < 2 ^ (64 - 7 * k) ∧ (0 < k → m ≠ 0) := by
  induction r with
  | zero =>
    intro l k acc v j hk h
    have hk9 : k = 9 := by omega
    subst hk9
    cases l with
    | nil => simp [rd] at h
    | cons c l =>
      simp only [rd] at h
      split at h
      · cases h
      · rename_i h1
        have h2 : ¬ 1 < c.toNat := fun hh => h1 (.inl ⟨trivial, hh⟩)
        have h3 : c.toNat ≠ 0 := fun hh => h1 (.inr (.inl ⟨by decide, hh⟩))
        have hc : c.toNat = 1 := by omega
        rw [if_pos (by omega)] at h
        simp only [Option.some.injEq, Prod.mk.injEq] at h
        refine ⟨1, by rw [← h.1, hc], by omega, by simp; omega, ?_, by decide, by omega⟩
        rw [← h.2]
        unfold encF
        have : c = UInt8.ofNat 1 := by
          apply UInt8.toNat_inj.1; rw [hc]; rfl
        simp [this]
  | succ r ih =>
    intro l k acc v j hk h
    cases l with
    | nil => simp [rd] at h
    | cons c l =>
      have hc256 := c.toNat_lt
      have hcof : c = UInt8.ofNat c.toNat := by simp
      simp only [rd] at h
      split at h
      · cases h
      · rename_i h1
        split at h
        · rename_i h2
          simp only [Option.some.injEq, Prod.mk.injEq] at h
          have hpow : 2 ^ 7 ≤ 2 ^ (64 - 7 * k) := Nat.pow_le_pow_right (by decide) (by omega)
          refine ⟨c.toNat, by rw [← h.1, Nat.mod_eq_of_lt (by omega)], by omega, by simp; omega, ?_, by omega, by omega⟩
          rw [← h.2, show k + 1 - k = 1 from by omega]
          unfold encF
          rw [if_neg (by omega), ← hcof]; rfl
        · rename_i h2
          obtain ⟨m, h3, h4, h5, h6, h7, h8⟩ := ih l (k + 1) _ v j (by omega) h
          have hm0 := h8 (by omega)
          refine ⟨c.toNat % 128 + 128 * m, ?_, by omega, by simp; omega, ?_, ?_, by omega⟩
          · rw [h3, pow_split, Nat.add_mul, Nat.mul_comm 128 m, Nat.mul_assoc]; omega
          · rw [show j - k = (j - (k + 1)) + 1 from by omega, List.take_succ_cons, h6]
            conv => rhs; unfold encF
            rw [if_pos (by omega)]
            have e1 : (c.toNat % 128 + 128 * m) / 128 = m := by omega
            have e2 : (c.toNat % 128 + 128 * m) % 128 + 128 = c.toNat := by omega
            rw [e1, e2, ← hcof]
          · rw [pow_rest k (by omega)]; omega

theorem rd_back (l : List UInt8) (v j : Nat) (h : rd l 0 0 = some (v, j)) : 0 < j ∧ j ≤ l.length ∧ l.take j = enc v ∧ v < 2 ^ 64 := by
  obtain ⟨m, h1, h2, h3, h4, h5, _⟩ := rd_form 9 l 0 0 v j (by omega) h
  have hv : v = m := by simpa using h1
  subst hv
  exact ⟨h2, h3, h4, by simpa using h5⟩

/-- One step of the reading, seen from the whole. -/
theorem rd_cons (c : UInt8) (r : List UInt8) (k acc : Nat) : rd (c :: r) k acc =
    if (k = 9 ∧ 1 < c.toNat) ∨ (0 < k ∧ c.toNat = 0) ∨ 9 < k then none
    else if c.toNat < 128 then some (acc + c.toNat % 128 * 2 ^ (7 * k), k + 1)
    else rd r (k + 1) (acc + c.toNat % 128 * 2 ^ (7 * k)) := rfl

/-- Signed numbers. -/
def fold (n : Int) : Nat := if n < 0 then 2 * (-(n + 1)).toNat + 1 else 2 * n.toNat
def unfoldN (u : Nat) : Int := if u % 2 = 1 then -((u / 2 : Nat) : Int) - 1 else ((u / 2 : Nat) : Int)
theorem unfold_fold (n : Int) : unfoldN (fold n) = n := by
  unfold unfoldN fold
  split <;> split <;> omega
theorem fold_lt (n : Int) (h1 : -9223372036854775808 ≤ n) (h2 : n ≤ 9223372036854775807) : fold n < 2 ^ 64 := by
  unfold fold
  split <;> omega

end Go.Proofs.Ytpbjhfajekfjeaa.Wire
