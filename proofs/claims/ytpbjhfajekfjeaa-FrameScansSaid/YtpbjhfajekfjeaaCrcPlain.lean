
/-
  Plain facts on CRC-32C over 32-bit words: the register's step is linear over xor; a step by nibbles is a step by bits; a linear map is told by its 32 images. No program in sight.
-/
namespace Go.Proofs.Ytpbjhfajekfjeaa.Crc

abbrev W := BitVec 32
def poly : W := 0x82f63b78#32
def mask (b : Bool) (x : W) : W := if b then x else 0#32
def sh (x : W) : W := (x >>> 1) ^^^ mask (x.getLsbD 0) poly

theorem mask_xor (a b : Bool) (x : W) : mask (a ^^ b) x = mask a x ^^^ mask b x := by
  cases a <;> cases b <;> simp [mask]

theorem xor_shr (a b : W) (n : Nat) : (a ^^^ b) >>> n = (a >>> n) ^^^ (b >>> n) := by
  ext i hi; simp

theorem sh_xor (a b : W) : sh (a ^^^ b) = sh a ^^^ sh b := by
  unfold sh
  rw [xor_shr, BitVec.getLsbD_xor, mask_xor]
  ac_rfl

theorem sh_zero : sh 0#32 = 0#32 := by decide

def itn (f : W → W) : Nat → W → W
  | 0, x => x
  | n + 1, x => itn f n (f x)

def Lin (f : W → W) : Prop := ∀ a b, f (a ^^^ b) = f a ^^^ f b

theorem lin_sh : Lin sh := sh_xor

theorem lin_zero {f : W → W} (h : Lin f) : f 0#32 = 0#32 := by
  have e := h 0#32 0#32
  rw [BitVec.xor_self, BitVec.xor_self] at e
  exact e

theorem lin_itn {f : W → W} (h : Lin f) : ∀ n, Lin (itn f n)
  | 0 => fun _ _ => rfl
  | n + 1 => fun a b => by show itn f n (f (a ^^^ b)) = _; rw [h, lin_itn h n]; rfl

theorem itn_add (f : W → W) (m n : Nat) (x : W) : itn f (m + n) x = itn f n (itn f m x) := by
  induction m generalizing x with
  | zero => simp [itn]
  | succ m ih => rw [Nat.succ_add]; exact ih (f x)

theorem itn_succ' (f : W → W) (n : Nat) (x : W) : itn f (n + 1) x = f (itn f n x) := by
  rw [itn_add]; rfl

/-- A byte's eight steps, a nibble's four. -/
def step (x : W) : W := itn sh 8 x
def nib (x : W) : W := itn sh 4 x

theorem lin_step : Lin step := lin_itn lin_sh 8
theorem lin_nib : Lin nib := lin_itn lin_sh 4
theorem step_nib (x : W) : step x = nib (nib x) := itn_add sh 4 4 x

theorem sh_even (x : W) (h : x.getLsbD 0 = false) : sh x = x >>> 1 := by
  unfold sh mask
  rw [h]
  simp

theorem split4 (x : W) : x = (x >>> 4) <<< 4 ^^^ (x &&& 15#32) := by
  ext i hi
  have h15 : (15#32).getLsbD i = decide (i < 4) := by
    have : ∀ j : Fin 32, (15#32).getLsbD j.val = decide (j.val < 4) := by decide
    exact this ⟨i, hi⟩
  by_cases h : i < 4
  · simp [h, ← BitVec.getLsbD_eq_getElem, h15]
  · have e : 4 + (i - 4) = i := by omega
    simp [h, ← BitVec.getLsbD_eq_getElem, h15, e]
    intro _; exact hi

theorem nib_high (x : W) (h : x.toNat < 2 ^ 28) : nib (x <<< 4) = x := by
  have g : ∀ k, k < 4 → ((x <<< 4) >>> k).getLsbD 0 = false := by
    intro k hk
    simp only [BitVec.getLsbD_ushiftRight, BitVec.getLsbD_shiftLeft]
    have : k + 0 < 4 := by omega
    simp [hk]
  have s : ∀ k, k < 4 → sh ((x <<< 4) >>> k) = (x <<< 4) >>> (k + 1) := by
    intro k hk
    rw [sh_even _ (g k hk), ← BitVec.shiftRight_add]
  have e0 : x <<< 4 = (x <<< 4) >>> 0 := by simp
  show sh (sh (sh (sh (x <<< 4)))) = x
  rw [e0, s 0 (by omega), s 1 (by omega), s 2 (by omega), s 3 (by omega)]
  apply BitVec.eq_of_toNat_eq
  simp only [BitVec.toNat_ushiftRight, BitVec.toNat_shiftLeft, Nat.shiftLeft_eq, Nat.shiftRight_eq_div_pow]
  omega

theorem nib_table (x : W) : nib x = (x >>> 4) ^^^ nib (x &&& 15#32) := by
  conv => lhs; rw [split4 x, lin_nib]
  rw [nib_high]
  simp only [BitVec.toNat_ushiftRight, Nat.shiftRight_eq_div_pow]
  have := x.isLt
  omega

/-! ### A row of 32 images -/
def thr (m : Nat → W) (x : W) : Nat → W
  | 0 => 0#32
  | i + 1 => thr m x i ^^^ mask (x.getLsbD i) (m i)

theorem thr_congr (m m' : Nat → W) (x : W) : ∀ n, (∀ i, i < n → m i = m' i) → thr m x n = thr m' x n
  | 0, _ => rfl
  | n + 1, h => by rw [thr, thr, thr_congr m m' x n (fun i hi => h i (by omega)), h n (by omega)]

/-- The low n bits of a word. -/
def low (x : W) (n : Nat) : W := x &&& (BitVec.ofNat 32 (2 ^ n - 1))

theorem getLsbD_low (x : W) (n i : Nat) (hn : n ≤ 32) : (low x n).getLsbD i = (x.getLsbD i && decide (i < n)) := by
  unfold low
  rw [BitVec.getLsbD_and, BitVec.getLsbD_ofNat, Nat.testBit_two_pow_sub_one]
  by_cases h : i < 32
  · simp [h]
  · have : ¬ i < n := by omega
    simp [h, this]

theorem low_succ (x : W) (n : Nat) (hn : n < 32) : low x (n + 1) = low x n ^^^ mask (x.getLsbD n) (1#32 <<< n) := by
  apply BitVec.eq_of_getLsbD_eq
  intro i hi
  have hm : (mask (x.getLsbD n) (1#32 <<< n)).getLsbD i = (x.getLsbD n && decide (i = n)) := by
    unfold mask
    cases x.getLsbD n
    · simp
    · simp only [if_true, BitVec.getLsbD_shiftLeft, Bool.true_and]
      by_cases h : i = n
      · subst h; simp [hi]
      · by_cases h2 : i < n
        · simp [h, h2]
        · have : i - n ≠ 0 := by omega
          simp [h, h2, this]
  rw [BitVec.getLsbD_xor, hm, getLsbD_low _ _ _ (by omega), getLsbD_low _ _ _ (by omega)]
  by_cases h : i = n
  · subst h; simp
  · by_cases h2 : i < n
    · have : i < n + 1 := by omega
      simp [h, h2, this]
    · have : ¬ i < n + 1 := by omega
      simp [h, h2, this]

theorem low_all (x : W) : low x 32 = x := by
  unfold low
  apply BitVec.eq_of_toNat_eq
  have e : (2 ^ 32 - 1) % 2 ^ 32 = 2 ^ 32 - 1 := by decide
  rw [BitVec.toNat_and, BitVec.toNat_ofNat, e, Nat.and_two_pow_sub_one_eq_mod]
  exact Nat.mod_eq_of_lt x.isLt

theorem mask_app {f : W → W} (h : Lin f) (b : Bool) (x : W) : f (mask b x) = mask b (f x) := by
  cases b
  · simp [mask, lin_zero h]
  · simp [mask]

/-- A linear map is told by the images of the 32 bits. -/
theorem thr_lin {f : W → W} (h : Lin f) (x : W) : ∀ n, n ≤ 32 → thr (fun i => f (1#32 <<< i)) x n = f (low x n)
  | 0, _ => by
    have : low x 0 = 0#32 := by unfold low; simp
    rw [this, lin_zero h]; rfl
  | n + 1, hn => by
    rw [thr, thr_lin h x n (by omega), low_succ x n (by omega), h, mask_app h]

theorem thr_all {f : W → W} (h : Lin f) (x : W) : thr (fun i => f (1#32 <<< i)) x 32 = f x := by
  rw [thr_lin h x 32 (by omega), low_all]

/-! ### Far: behind n bytes 0 -/
def pw (k : Nat) : W → W := itn step (2 ^ k)
theorem lin_pw (k : Nat) : Lin (pw k) := lin_itn lin_step _
theorem pw_succ (k : Nat) (x : W) : pw (k + 1) x = pw k (pw k x) := by
  unfold pw
  rw [show 2 ^ (k + 1) = 2 ^ k + 2 ^ k from by rw [Nat.pow_succ]; omega, itn_add]

/-- The row of squares, k times squared. -/
def sq (k i : Nat) : W := pw k (1#32 <<< i)
theorem thr_sq (k : Nat) (x : W) : thr (sq k) x 32 = pw k x := thr_all (lin_pw k) x
theorem sq_succ (k i : Nat) : sq (k + 1) i = thr (sq k) (sq k i) 32 := by
  rw [thr_sq]; exact pw_succ k _
theorem sq_zero (i : Nat) : sq 0 i = step (1#32 <<< i) := rfl

/-- What the loop over n's bits comes to. -/
theorem itn_itn (f : W → W) (a b : Nat) (x : W) : itn (itn f a) b x = itn f (a * b) x := by
  induction b generalizing x with
  | zero => simp [itn]
  | succ b ih => rw [itn, ih, Nat.mul_succ, Nat.add_comm, itn_add]

theorem far_odd (k n : Nat) (x : W) (h : n % 2 = 1) : itn (pw k) n x = itn (pw (k + 1)) (n / 2) (thr (sq k) x 32) := by
  rw [thr_sq]
  have e : n = 1 + 2 * (n / 2) := by omega
  conv => lhs; rw [e, itn_add]
  show itn (pw k) (2 * (n / 2)) (pw k x) = _
  rw [← itn_itn (pw k) 2]
  congr 1
  funext y
  exact (pw_succ k y).symm

theorem far_even (k n : Nat) (x : W) (h : ¬ n % 2 = 1) : itn (pw k) n x = itn (pw (k + 1)) (n / 2) x := by
  have e : n = 2 * (n / 2) := by omega
  conv => lhs; rw [e]
  rw [← itn_itn (pw k) 2]
  congr 1
  funext y
  exact (pw_succ k y).symm

/-! ### Sums -/
def byte (c : UInt8) : W := BitVec.ofNat 32 c.toNat
def runl (s : W) (l : List UInt8) : W := l.foldl (fun s c => step (s ^^^ byte c)) s
theorem runl_append (s : W) (l m : List UInt8) : runl s (l ++ m) = runl (runl s l) m := by simp [runl]
theorem runl_snoc (s : W) (l : List UInt8) (c : UInt8) : runl s (l ++ [c]) = step (runl s l ^^^ byte c) := by simp [runl]
def far (s : W) (n : Nat) : W := itn step n s
def zeros (s : W) (n : Nat) : W := ~~~ far (~~~ s) n
def joinS (a b : W) (n : Nat) : W := far a n ^^^ b
def more (s : W) (l : List UInt8) : W := ~~~ runl (~~~ s) l
def sum (l : List UInt8) : W := more 0#32 l
end Go.Proofs.Ytpbjhfajekfjeaa.Crc
