
/- Walks: the program's table of sixteen words. -/
import Derived.Test.YtpbjhfajekfjeaaMem
import Derived.Test.YtpbjhfajekfjeaaCrcW1
namespace Go.Proofs.Ytpbjhfajekfjeaa
open Go.RowKit Crc
namespace Crc
def wrow (m : Nat → W) (n : Nat) : Array Value := ((List.range n).map fun i => Value.int .u32 ((m i).toNat : Int)).toArray
theorem wrow_size (m : Nat → W) (n : Nat) : (wrow m n).size = n := by simp [wrow]
theorem wrow_get (m : Nat → W) (n i : Nat) (h : i < n) : (wrow m n)[i]? = some (.int .u32 ((m i).toNat : Int)) := by simp [wrow, h]
theorem wrow_set (m m' : Nat → W) (n i : Nat) (x : Int) (hx : x = ((m' i).toNat : Int)) (h : ∀ j, j ≠ i → m' j = m j) : (wrow m n).setIfInBounds i (.int .u32 x) = wrow m' n := by
  subst hx
  apply Array.ext_getElem?
  intro j
  rw [Array.getElem?_setIfInBounds]
  by_cases hj : j < n
  · rw [wrow_get _ _ _ hj, wrow_size]
    by_cases e : i = j
    · subst e; rw [wrow_get _ _ _ hj]; simp [hj]
    · rw [if_neg e, wrow_get _ _ _ hj, h j (fun q => e q.symm)]
  · have h1 : (wrow m n)[j]? = none := by simp [wrow]; omega
    have h2 : (wrow m' n)[j]? = none := by simp [wrow]; omega
    rw [h1, h2, wrow_size]
    by_cases e : i = j
    · subst e; simp [hj]
    · simp [e]
theorem wrow_one (m : Nat → W) (n : Nat) : (wrow m n).all (·.oneCell') = true := by
  rw [Array.all_eq_true]
  intro i hi
  have := wrow_get m n i (by simpa [wrow_size] using hi)
  rw [Array.getElem?_eq_getElem hi] at this
  rw [Option.some.inj this]; rfl

/-- Block b holds a row of words, and nothing is frozen in it. -/
def RowAt (w : World) (b : Nat) (t : TypeId) (m : Nat → W) (n : Nat) : Prop := w.heap[b]? = some (.cells (wrow m n) t (0, 0))
theorem RowAt.cell {w : World} {b t n : Nat} {m : Nat → W} (h : RowAt w b t m n) (i : Nat) (hi : i < n) : w.cell? ⟨b, i, none⟩ = some (.int .u32 ((m i).toNat : Int)) := by
  rw [cell_of_row w b i _ _ _ h, wrow_get _ _ _ hi]
theorem RowAt.free {w : World} {b t n : Nat} {m : Nat → W} (h : RowAt w b t m n) (i : Nat) : w.frozen? ⟨b, i, none⟩ = false := frozen_of_row w b i _ _ h
theorem RowAt.set {w : World} {b t n : Nat} {m : Nat → W} (h : RowAt w b t m n) (i : Nat) (x : Int) (m' : Nat → W) (hx : x = ((m' i).toNat : Int)) (hm : ∀ j, j ≠ i → m' j = m j) : RowAt (w.setCell ⟨b, i, none⟩ (.int .u32 x)) b t m' n := by
  unfold RowAt at *
  rw [heap_setCell_same w b i _ _ _ h, wrow_set m m' n i x hx hm]
theorem RowAt.below {w w' : World} {b t n B : Nat} {m : Nat → W} (h : RowAt w b t m n) (hb : Below B w w') (hB : b < B) : RowAt w' b t m n := by
  unfold RowAt at *; rw [hb.block b hB]; exact h
theorem RowAt.lt {w : World} {b t n : Nat} {m : Nat → W} (h : RowAt w b t m n) : b < w.heap.size := (Array.getElem?_eq_some_iff.1 h).1
theorem RowAt.congr {w : World} {b t n : Nat} {m m' : Nat → W} (h : RowAt w b t m n) (e : ∀ i, i < n → m i = m' i) : RowAt w b t m' n := by
  unfold RowAt at *; rw [h]
  have : wrow m n = wrow m' n := by
    unfold wrow
    congr 1
    apply List.map_congr_left
    intro i hi; rw [e i (by simpa using hi)]
  rw [this]

/-- The table, as far as it is filled. -/
def half1 (k i : Nat) : W := if i < k then nib (BitVec.ofNat 32 i) else 0#32
end Crc

theorem zeros_row (n : Nat) : wrow (fun _ => 0#32) n = (List.replicate n (Value.int .u32 0)).toArray := by
  unfold wrow
  congr 1
  apply List.ext_getElem
  · simp
  · intro i h1 h2; simp
theorem half1_succ (k : Nat) : half1 (k + 1) k = nib (BitVec.ofNat 32 k) := by simp [half1]
theorem half1_other (k j : Nat) (h : j ≠ k) : half1 (k + 1) j = half1 k j := by
  unfold half1
  by_cases h2 : j < k
  · rw [if_pos h2, if_pos (by omega)]
  · rw [if_neg h2, if_neg (by omega)]
/-- The table's words. -/
def tb (i : Nat) : W := nib (BitVec.ofNat 32 i)
theorem half1_all : wrow (half1 16) 16 = wrow tb 16 := by
  have e : (List.range 16).map (fun i => Value.int .u32 ((half1 16 i).toNat : Int)) = (List.range 16).map (fun i => Value.int .u32 ((tb i).toNat : Int)) := by
    apply List.map_congr_left
    intro i hi
    have : i < 16 := by simpa using hi
    unfold half1 tb; rw [if_pos this]
  unfold wrow; rw [e]
theorem ofNat_int (k : Nat) (h : k < 4294967296) : (k : Int) = ((BitVec.ofNat 32 k).toNat : Int) := by
  rw [BitVec.toNat_ofNat, Nat.mod_eq_of_lt h]
/-- One bit's step as the program's text has it: 'odd := s & 1; s >>= 1; s ^= poly * odd'. -/
theorem sh_int (y : W) : bits .xor .u32 ((y.toNat : Int) / 2) (IntKind.u32.wrap (2197175160 * bits .and .u32 (y.toNat : Int) 1)) = ((sh y).toNat : Int) := by
  have e1 : bits .and .u32 (y.toNat : Int) 1 = ((y.toNat % 2 : Nat) : Int) := by
    rw [show (1 : Int) = ((1 : Nat) : Int) from rfl, u32_and_nat _ _ y.isLt (by decide), nat_mask1]
  have e2 := shr_int y 1
  rw [show ((2 ^ 1 : Nat) : Int) = 2 from rfl] at e2
  rw [e1, e2]
  have hb : y.getLsbD 0 = decide (y.toNat % 2 = 1) := by rw [BitVec.getLsbD, Nat.testBit_zero]
  unfold sh mask
  rw [hb]
  rcases Nat.mod_two_eq_zero_or_one y.toNat with h | h
  · rw [h]
    have : (IntKind.u32.wrap (2197175160 * ((0 : Nat) : Int))) = ((0#32).toNat : Int) := by decide
    rw [this, xor_int]; rfl
  · rw [h]
    have : (IntKind.u32.wrap (2197175160 * ((1 : Nat) : Int))) = ((poly).toNat : Int) := by decide
    rw [this, xor_int]; rfl
set_option maxHeartbeats 400000 in
theorem crc_half (w : World) : Calls Try.prog 30 #[] w fun e w' => e = .returned (.agg (wrow tb 16)) ∧ Below w.heap.size w w' := by
  go_enter Try.func30, Try.ntmps30
  go_wp2_with fail
  go_loopw [5] (fun i wr => ∃ k : Nat, k ≤ 16 ∧ i = .int .i64 k ∧ RowAt wr (w.heap.size + 1) 64 (half1 k) 16 ∧ RowAt wr w.heap.size 64 (fun _ => 0#32) 16 ∧ Below w.heap.size w wr) (fun i _ => 16 - (intOf i).toNat)
  case atStart =>
    refine ⟨0, by omega, rfl, ?_, ?_, ((Below.refl _ _).alloc (Nat.le_refl _) _).alloc (by simp) _⟩
    · have e : half1 0 = fun _ => 0#32 := by funext i; rfl
      unfold RowAt; rw [e, zeros_row]; exact heap_alloc2_new _ _ _
    · unfold RowAt; rw [zeros_row]; exact heap_alloc2_old _ _ _
  case round =>
    rename_i wr _
    obtain ⟨k, hk, rfl, hr1, hr0, hb⟩ := hrel
    by_cases hlt : k < 16
    · have h1 := hr1.cell k hlt
      have h2 := hr1.free k
      have HE := Lib.hid (ofNat_int k (by omega))
      go_wp2_with fail
      go_loop [3, 10] (fun s j => ∃ n : Nat, n ≤ 4 ∧ j = .int .i64 n ∧ s = .int .u32 (itn sh n (BitVec.ofNat 32 k)).toNat) (fun _ j => 4 - (intOf j).toNat)
      case atStart => exact ⟨0, by omega, rfl, u32_eq HE.out⟩
      case round =>
        obtain ⟨n, hn, rfl, rfl⟩ := hrel
        by_cases hln : n < 4
        · have HS := Lib.hid (itn_succ' sh n (BitVec.ofNat 32 k))
          generalize itn sh n (BitVec.ofNat 32 k) = y at *
          have hy := y.isLt
          go_wp2_with fail
          go_round
          case rel => exact ⟨n + 1, by omega, by go_num, u32_eq (by rw [HS.out]; exact sh_int y)⟩
          case measure => simp [intOf]; omega
        · obtain rfl : n = 4 := by omega
          have hr2 := hr1.set k ((itn sh 4 (BitVec.ofNat 32 k)).toNat : Int) (half1 (k + 1)) (by rw [half1_succ]; rfl) (fun j hj => half1_other k j hj)
          have hr3 : RowAt (wr.setCell ⟨w.heap.size + 1, k, none⟩ (.int .u32 ((itn sh 4 (BitVec.ofNat 32 k)).toNat : Int))) w.heap.size 64 (fun _ => 0#32) 16 := by
            unfold RowAt; rw [heap_setCell_other _ _ _ _ (by simp)]; exact hr0
          generalize itn sh 4 (BitVec.ofNat 32 k) = y at *
          go_wp2_with fail
          go_roundw
          case rel => exact ⟨k + 1, by omega, by go_num, hr2, hr3, hb.setCell (by simp) _⟩
          case measure => simp [intOf]; omega
    · obtain rfl : k = 16 := by omega
      go_wp2_with (first
        | (refine wpList_load_row rfl 64 (.tmp 1) rfl (w.heap.size + 1) rfl 64 _ (0, 0) _ hr1 Try.underlying64 rfl (by rw [wrow_size]; kernel_rfl) ?_)
        | (refine wpList_store_row rfl 64 (.tmp 0) (.tmp 25) rfl w.heap.size _ rfl rfl 64 _ hr0 (by rw [wrow_size]; kernel_rfl) (by rw [wrow_size, wrow_size]) (wrow_one _ _) ?_))
      refine bodyPost_ret (v := .agg (wrow (half1 16) 16)) (results_cell_row rfl _ _ w.heap.size 64 _ (0, 0) _ rfl (setRow_heap _ _ _ _ _ _ hr0) Try.underlying64 rfl (by rw [wrow_size]; kernel_rfl)) rfl ?_
      exact ⟨by rw [half1_all], below_setRow hb (Nat.le_refl _) _⟩
end Go.Proofs.Ytpbjhfajekfjeaa
