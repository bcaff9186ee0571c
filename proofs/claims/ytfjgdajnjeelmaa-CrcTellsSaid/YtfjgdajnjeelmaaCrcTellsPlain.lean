/- Plain facts for CrcTells: an odd number of flipped bits, and flipped bits within 32 that follow each other, turn the sum; sums are linear. -/
import Derived.Test.YtfjgdajnjeelmaaCrcPlain
namespace Go.Proofs.Ytfjgdajnjeelmaa.Crc

/-! ### The step is injective -/
theorem sh_inj_zero (x : W) (h : sh x = 0#32) : x = 0#32 := by
  unfold sh mask at h
  cases hb : x.getLsbD 0 with
  | false =>
    rw [hb] at h
    simp only [Bool.false_eq_true, if_false, BitVec.xor_zero] at h
    apply BitVec.eq_of_getLsbD_eq
    intro i hi
    cases i with
    | zero => rw [hb]; simp
    | succ i =>
      have := congrArg (fun y => y.getLsbD i) h
      simp only [BitVec.getLsbD_ushiftRight] at this
      rw [Nat.add_comm] at this
      rw [this]; simp
  | true =>
    rw [hb] at h
    simp only [if_true] at h
    have := congrArg (fun y => y.getLsbD 31) h
    simp only [BitVec.getLsbD_xor, BitVec.getLsbD_ushiftRight] at this
    have e1 : x.getLsbD (1 + 31) = false := BitVec.getLsbD_of_ge _ _ (by decide)
    rw [e1] at this
    have e2 : poly.getLsbD 31 = true := by decide
    rw [e2] at this
    simp at this
theorem itn_inj_zero {f : W → W} (hf : ∀ x, f x = 0#32 → x = 0#32) : ∀ n x, itn f n x = 0#32 → x = 0#32
  | 0, _, h => h
  | n + 1, x, h => hf x (itn_inj_zero hf n (f x) h)

/-! ### Parity -/
def par (x : W) : Nat → Bool
  | 0 => false
  | n + 1 => par x n ^^ x.getLsbD n
theorem par_xor (a b : W) : ∀ n, par (a ^^^ b) n = (par a n ^^ par b n)
  | 0 => rfl
  | n + 1 => by
    rw [par, par, par, par_xor a b n, BitVec.getLsbD_xor]
    cases par a n <;> cases par b n <;> cases a.getLsbD n <;> cases b.getLsbD n <;> rfl
theorem par_shr (x : W) : ∀ n, par (x >>> 1) n = (par x (n + 1) ^^ x.getLsbD 0)
  | 0 => by simp [par]
  | n + 1 => by
    show (par (x >>> 1) n ^^ (x >>> 1).getLsbD n) = ((par x (n + 1) ^^ x.getLsbD (n + 1)) ^^ x.getLsbD 0)
    rw [par_shr x n, BitVec.getLsbD_ushiftRight, Nat.add_comm 1 n]
    cases par x (n + 1) <;> cases x.getLsbD 0 <;> cases x.getLsbD (n + 1) <;> rfl
theorem par_poly : par poly 32 = true := by decide
theorem par_sh (x : W) : par (sh x) 32 = par x 32 := by
  unfold sh
  rw [par_xor, par_shr]
  have e : par x (32 + 1) = par x 32 := by
    rw [par, BitVec.getLsbD_of_ge x 32 (Nat.le_refl _)]
    cases par x 32 <;> rfl
  rw [e]
  unfold mask
  cases x.getLsbD 0
  · have : par 0#32 32 = false := by decide
    rw [if_neg (by decide), this]
    cases par x 32 <;> rfl
  · rw [if_pos rfl, par_poly]
    cases par x 32 <;> rfl
theorem par_itn (n : Nat) (x : W) : par (itn sh n x) 32 = par x 32 := by
  induction n generalizing x with
  | zero => rfl
  | succ n ih => rw [itn, ih, par_sh]

/-! ### Flipped bits -/
theorem runl_xor_state (s t : W) (l : List UInt8) : runl (s ^^^ t) l = runl s l ^^^ itn step l.length t := by
  induction l generalizing s t with
  | nil => rfl
  | cons c l ih =>
    show runl (step (s ^^^ t ^^^ byte c)) l = runl (step (s ^^^ byte c)) l ^^^ itn step (l.length + 1) t
    have e : s ^^^ t ^^^ byte c = (s ^^^ byte c) ^^^ t := by ac_rfl
    rw [e, lin_step, ih]; rfl
theorem byte_xor (c d : UInt8) : byte (c ^^^ d) = byte c ^^^ byte d := by
  unfold byte
  apply BitVec.eq_of_toNat_eq
  have hc := c.toNat_lt
  have hd := d.toNat_lt
  rw [BitVec.toNat_xor, BitVec.toNat_ofNat, BitVec.toNat_ofNat, BitVec.toNat_ofNat, UInt8.toNat_xor]
  have : c.toNat ^^^ d.toNat < 2 ^ 8 := Nat.xor_lt_two_pow hc hd
  rw [Nat.mod_eq_of_lt (by omega), Nat.mod_eq_of_lt (by omega), Nat.mod_eq_of_lt (by omega)]
def bit8 (j : Nat) : UInt8 := UInt8.ofNat (2 ^ j)
theorem byte_bit (j : Nat) (h : j < 8) : byte (bit8 j) = 1#32 <<< j := by
  have : ∀ j : Fin 8, byte (bit8 j.val) = 1#32 <<< j.val := by decide
  exact this ⟨j, h⟩
theorem sh_one (j : Nat) (h : j < 32) : itn sh j (1#32 <<< j) = 1#32 := by
  have : ∀ j : Fin 32, itn sh j.val (1#32 <<< j.val) = 1#32 := by decide
  exact this ⟨j, h⟩
theorem itn_one (M i : Nat) (h : i ≤ M) (hi : i < 32) : itn sh (M - i) 1#32 = itn sh M (1#32 <<< i) := by
  have e : M = i + (M - i) := by omega
  conv => rhs; rw [e, itn_add, sh_one i hi]
theorem itn_step (n : Nat) (x : W) : itn step n x = itn sh (8 * n) x := by
  have : step = itn sh 8 := rfl
  rw [this, itn_itn]

def flipb (l : List UInt8) (k : Nat) : List UInt8 := l.set (k / 8) ((l[k / 8]?.getD 0) ^^^ bit8 (k % 8))
theorem flipb_length (l : List UInt8) (k : Nat) : (flipb l k).length = l.length := by simp [flipb]
theorem runl_flipb (s : W) (l : List UInt8) (k : Nat) (h : k < 8 * l.length) : runl s (flipb l k) = runl s l ^^^ itn sh (8 * l.length - k) 1#32 := by
  have hq : k / 8 < l.length := by omega
  have e1 : l = l.take (k / 8) ++ l[k / 8] :: l.drop (k / 8 + 1) := by
    rw [← List.drop_eq_getElem_cons hq, List.take_append_drop]
  have e2 : flipb l k = l.take (k / 8) ++ (l[k / 8] ^^^ bit8 (k % 8)) :: l.drop (k / 8 + 1) := by
    unfold flipb
    rw [List.getElem?_eq_getElem hq, Option.getD_some, List.set_eq_take_append_cons_drop, if_pos hq]
  have e3 : (l.drop (k / 8 + 1)).length + 1 = l.length - k / 8 := by rw [List.length_drop]; omega
  rw [e2]
  conv => rhs; rw [e1]
  rw [runl_append, runl_append]
  generalize runl s (l.take (k / 8)) = t
  show runl (step (t ^^^ byte (l[k / 8] ^^^ bit8 (k % 8)))) _ = runl (step (t ^^^ byte l[k / 8])) _ ^^^ _
  rw [byte_xor, byte_bit _ (by omega)]
  have e4 : t ^^^ (byte l[k / 8] ^^^ 1#32 <<< (k % 8)) = (t ^^^ byte l[k / 8]) ^^^ 1#32 <<< (k % 8) := by ac_rfl
  rw [e4, lin_step, runl_xor_state]
  congr 1
  show itn step (List.length _ + 1) (1#32 <<< (k % 8)) = _
  rw [e3, itn_step, ← itn_one _ _ (by omega) (by omega)]
  rw [← e1]
  congr 1; omega

theorem xor_cancel {a b : W} (h : a = a ^^^ b) : b = 0#32 := by
  have := congrArg (fun y => a ^^^ y) h
  simp only [← BitVec.xor_assoc, BitVec.xor_self, BitVec.zero_xor] at this
  exact this.symm

/-- THREE FLIPPED BITS turn the sum. -/
theorem three_flips (l : List UInt8) (i j k : Nat) (hi : i < 8 * l.length) (hj : j < 8 * l.length) (hk : k < 8 * l.length) : sum (flipb (flipb (flipb l i) j) k) ≠ sum l := by
  intro h
  unfold sum more at h
  have h2 : runl (~~~ 0#32) (flipb (flipb (flipb l i) j) k) = runl (~~~ 0#32) l := by
    have := congrArg (fun y => ~~~ y) h
    simpa using this
  rw [runl_flipb _ _ _ (by simpa [flipb_length] using hk), runl_flipb _ _ _ (by simpa [flipb_length] using hj), runl_flipb _ _ _ hi] at h2
  have h3 := congrArg (fun y => par y 32) h2
  simp only [par_xor, par_itn] at h3
  have e : par 1#32 32 = true := by decide
  rw [e] at h3
  cases par (runl (~~~ 0#32) l) 32 <;> simp at h3

/-- What the burst's loop keeps. -/
structure Burst (l : List UInt8) (k : Nat) (b : W) (i : Nat) (y : List UInt8) : Prop where
  len : y.length = l.length
  run : ∀ s, runl s y = runl s l ^^^ itn sh (8 * l.length - k) (low b i)
  same : low b i = 0#32 → y = l
theorem low_zero (b : W) : low b 0 = 0#32 := by unfold low; simp
theorem Burst.start (l : List UInt8) (k : Nat) (b : W) : Burst l k b 0 l :=
  ⟨rfl, fun s => by rw [low_zero, lin_zero (lin_itn lin_sh _)]; simp, fun _ => rfl⟩
theorem Burst.yes {l y : List UInt8} {k i : Nat} {b : W} (h : Burst l k b i y) (hi : i < 32) (hk : k + i < 8 * l.length) (hb : b.getLsbD i = true) : Burst l k b (i + 1) (flipb y (k + i)) := by
  have e : low b (i + 1) = low b i ^^^ 1#32 <<< i := by rw [low_succ b i hi, hb]; rfl
  refine ⟨by rw [flipb_length, h.len], fun s => ?_, fun hz => ?_⟩
  · rw [runl_flipb _ _ _ (by rw [h.len]; exact hk), h.run, h.len, e, lin_itn lin_sh, BitVec.xor_assoc]
    congr 2
    rw [← itn_one _ i (by omega) hi]
    congr 1; omega
  · exfalso
    have := congrArg (fun y => y.getLsbD i) hz
    rw [getLsbD_low b (i + 1) i (by omega), hb] at this
    simp at this
theorem Burst.no {l y : List UInt8} {k i : Nat} {b : W} (h : Burst l k b i y) (hi : i < 32) (hb : b.getLsbD i = false) : Burst l k b (i + 1) y := by
  have e : low b (i + 1) = low b i := by rw [low_succ b i hi, hb]; simp [mask]
  exact ⟨h.len, fun s => by rw [e]; exact h.run s, fun hz => h.same (by rw [← e]; exact hz)⟩
theorem Burst.sums {l y : List UInt8} {k i : Nat} {b : W} (h : Burst l k b i y) (hs : sum y = sum l) : y = l := by
  apply h.same
  unfold sum more at hs
  have h2 : runl (~~~ 0#32) y = runl (~~~ 0#32) l := by
    have := congrArg (fun y => ~~~ y) hs
    simpa using this
  rw [h.run] at h2
  exact itn_inj_zero sh_inj_zero _ _ (xor_cancel h2.symm)

/-! ### Linear -/
def xor3 (a b c : List UInt8) : List UInt8 := List.zipWith (fun x y => x ^^^ y) (List.zipWith (fun x y => x ^^^ y) a b) c
theorem runl_zip (a b : List UInt8) (h : a.length = b.length) (s t : W) : runl (s ^^^ t) (List.zipWith (fun x y => x ^^^ y) a b) = runl s a ^^^ runl t b := by
  induction a generalizing b s t with
  | nil => cases b with
    | nil => rfl
    | cons _ _ => simp at h
  | cons c a ih => cases b with
    | nil => simp at h
    | cons d b =>
      show runl (step ((s ^^^ t) ^^^ byte (c ^^^ d))) _ = runl (step (s ^^^ byte c)) a ^^^ runl (step (t ^^^ byte d)) b
      have e : (s ^^^ t) ^^^ byte (c ^^^ d) = (s ^^^ byte c) ^^^ (t ^^^ byte d) := by rw [byte_xor]; ac_rfl
      rw [e, lin_step, ih b (by simpa using h)]
theorem sum_xor3 (a b c : List UInt8) (h : a.length = b.length) (h2 : a.length = c.length) : sum a ^^^ sum b ^^^ sum c = sum (xor3 a b c) := by
  unfold sum more xor3
  have e : (~~~ 0#32 : W) = (~~~ 0#32 ^^^ ~~~ 0#32) ^^^ ~~~ 0#32 := by decide
  have r : runl (~~~ 0#32) (List.zipWith (fun x y => x ^^^ y) (List.zipWith (fun x y => x ^^^ y) a b) c) = runl (~~~ 0#32) a ^^^ runl (~~~ 0#32) b ^^^ runl (~~~ 0#32) c := by
    conv => lhs; rw [e]
    rw [runl_zip _ _ (by simp; omega), runl_zip _ _ h]
  rw [r]
  generalize runl (~~~ 0#32) a = x
  generalize runl (~~~ 0#32) b = y
  generalize runl (~~~ 0#32) c = z
  apply BitVec.eq_of_getLsbD_eq
  intro i hi
  simp only [BitVec.getLsbD_xor, BitVec.getLsbD_not, hi, decide_true, Bool.true_and]
  cases x.getLsbD i <;> cases y.getLsbD i <;> cases z.getLsbD i <;> rfl
end Go.Proofs.Ytfjgdajnjeelmaa.Crc
