/- Walks: squares, Far, Zeros, Join. -/
import Derived.Test.YtfjgdajnjeelmaaCrcW4
import Derived.RegionTactic
import Derived.BigRegion
import Derived.Deep.QuietTactic
import Derived.BigQuiet
import Derived.Deep.RegionHeld3
namespace Go.Proofs.Ytfjgdajnjeelmaa
open Go.RowKit Crc
namespace Crc
theorem thr_succ (m : Nat → W) (x : W) (k : Nat) : thr m x (k + 1) = thr m x k ^^^ mask (x.getLsbD k) (m k) := rfl
theorem bit_nat (x : W) (k : Nat) : x.getLsbD k = decide (x.toNat / 2 ^ k % 2 = 1) := by
  rw [BitVec.getLsbD, Nat.testBit_eq_decide_div_mod_eq]
theorem div_int (x : W) (k : Nat) : (x.toNat : Int) / 2 ^ k = ((x.toNat / 2 ^ k : Nat) : Int) := by simp
theorem bit_int (x : W) (k : Nat) : (((x.toNat : Int) / 2 ^ k).tmod 2 == 1) = x.getLsbD k := by
  rw [bit_nat, div_int, Int.tmod_eq_emod_of_nonneg (Int.natCast_nonneg _)]
  rw [Bool.eq_iff_iff]; simp only [beq_iff_eq, decide_eq_true_eq]; omega
theorem mulbit_int (t y x : W) (k : Nat) : bits .xor .u32 (t.toNat : Int) ((y.toNat : Int) * bits .and .u32 ((x.toNat : Int) / 2 ^ k) 1 % 4294967296) = ((t ^^^ mask (x.getLsbD k) y).toNat : Int) := by
  have hlt : x.toNat / 2 ^ k < 4294967296 := Nat.lt_of_le_of_lt (Nat.div_le_self _ _) x.isLt
  have e1 : bits .and .u32 ((x.toNat / 2 ^ k : Nat) : Int) 1 = ((x.toNat / 2 ^ k % 2 : Nat) : Int) := by
    rw [show (1 : Int) = ((1 : Nat) : Int) from rfl, u32_and_nat _ _ hlt (by decide), nat_mask1]
  rw [div_int, e1, bit_nat]
  have hy := y.isLt
  unfold mask
  rcases Nat.mod_two_eq_zero_or_one (x.toNat / 2 ^ k) with h | h
  · rw [h]
    have : ((y.toNat : Int) * ((0 : Nat) : Int) % 4294967296) = ((0#32).toNat : Int) := by simp
    rw [this, xor_int]; rfl
  · rw [h]
    have : ((y.toNat : Int) * ((1 : Nat) : Int) % 4294967296) = (y.toNat : Int) := by omega
    rw [this, xor_int]; rfl
theorem thr_yes (m : Nat → W) (x : W) (k : Nat) (h : (((x.toNat : Int) / 2 ^ k).tmod 2 == 1) = true) : bits .xor .u32 ((thr m x k).toNat : Int) ((m k).toNat : Int) = ((thr m x (k + 1)).toNat : Int) := by
  rw [bit_int] at h
  rw [xor_int, thr_succ, h]; rfl
theorem thr_no (m : Nat → W) (x : W) (k : Nat) (h : (((x.toNat : Int) / 2 ^ k).tmod 2 == 1) = false) : ((thr m x k).toNat : Int) = ((thr m x (k + 1)).toNat : Int) := by
  rw [bit_int] at h
  rw [thr_succ, h]; simp [mask]
end Crc
theorem ref_through (n : Int) (m : Nat → W) (x : W) (w : World) (hn : n = x.toNat) :
    Calls Try.prog 17 #[.agg (wrow m 32), .int .u32 n] w fun e w' => e = .returned (.int .u32 (thr m x 32).toNat) ∧ Below w.heap.size w w' := by
  subst hn
  have hx := x.isLt
  go_enter Try.func17, Try.ntmps17
  go_wp2_with fail
  have hrow : RowAt (w.alloc (Obj.cells (wrow m 32) 38)) w.heap.size 38 m 32 := heap_alloc_new _ _
  have hb := below_new w (Obj.cells (wrow m 32) 38)
  generalize w.alloc _ = W2 at *
  have HR := Lib.hid hrow; clear hrow
  have HB := Lib.hid hb; clear hb
  go_loop [5, 6] (fun s i => ∃ k : Nat, k ≤ 32 ∧ i = .int .i64 k ∧ s = .int .u32 (thr m x k).toNat) (fun _ i => 32 - (intOf i).toNat)
  case atStart => exact ⟨0, by omega, rfl, rfl⟩
  case round =>
    obtain ⟨k, hk, rfl, rfl⟩ := hrel
    by_cases hlt : k < 32
    · have hc := HR.out.cell k hlt
      go_wp2_with fail
      · rename_i hh
        go_round
        case rel => exact ⟨k + 1, by omega, by go_num, u32_eq (thr_yes m x k hh)⟩
        case measure => simp [intOf]; omega
      · rename_i hh
        go_round
        case rel => exact ⟨k + 1, by omega, by go_num, u32_eq (thr_no m x k hh)⟩
        case measure => simp [intOf]; omega
    · obtain rfl : k = 32 := by omega
      go_wp2_with fail
      go_ret
      exact ⟨rfl, HB.out⟩
theorem crc_of (n : Int) (m : Nat → W) (x : W) (w : World) (hn : n = x.toNat) :
    Calls Try.prog 20 #[.agg (wrow m 32), .int .u32 n] w fun e w' => e = .returned (.int .u32 (thr m x 32).toNat) ∧ Below w.heap.size w w' := by
  subst hn
  have hx := x.isLt
  go_enter Try.func20, Try.ntmps20
  go_wp2_with fail
  have hrow : RowAt (w.alloc (Obj.cells (wrow m 32) 43)) w.heap.size 43 m 32 := heap_alloc_new _ _
  have hb := below_new w (Obj.cells (wrow m 32) 43)
  generalize w.alloc _ = W2 at *
  have HR := Lib.hid hrow; clear hrow
  have HB := Lib.hid hb; clear hb
  go_loopw [5, 7] (fun s i wr => ∃ k q : Nat, k ≤ 32 ∧ i = .int .i64 k ∧ s = .int .u32 (thr m x k).toNat ∧ wr = W2.drewN q) (fun _ i _ => 32 - (intOf i).toNat)
  case atStart => exact ⟨0, 0, by omega, rfl, rfl, rfl⟩
  case round =>
    obtain ⟨k, q, hk, rfl, rfl, rfl⟩ := hrel
    by_cases hlt : k < 32
    · have hc := HR.out.cell k hlt
      go_wp2_with fail
      go_quiet (fail)
      go_wp2_with fail
      go_roundw
      case rel => exact ⟨k + 1, _, by omega, by go_num, u32_eq (by rw [thr_succ]; exact mulbit_int _ _ _ _), rfl⟩
      case measure => simp [intOf]; omega
    · obtain rfl : k = 32 := by omega
      go_wp2_with fail
      go_ret
      exact ⟨rfl, below_drews HB.out _⟩



theorem range_row {w : World} {b t n : Nat} {m : Nat → W} (h : RowAt w b t m n) : w.rangeAt b 0 (wrow m n).toList := fun j v hv => by
  rw [Nat.zero_add, cell_of_row w b j _ _ _ h]
  simpa using hv
theorem range_below {w w' : World} {b o B : Nat} {cs : List Value} (h : w.rangeAt b o cs) (hb : Below B w w') (hB : b < B) : w'.rangeAt b o cs := fun j v hv => by
  rw [hb.cell (p := ⟨b, o + j, none⟩) hB]; exact h j v hv
theorem range_set {w : World} {b o : Nat} {cs : List Value} (h : w.rangeAt b o cs) (a : Addr) (v : Value) (hne : b ≠ a.block) : (w.setCell a v).rangeAt b o cs := fun j v hv => by
  rw [World.cell?_of_block (w := w) (heap_setCell_other w a b _ hne)]; exact h j v hv
theorem cell_set {w : World} {b o : Nat} {u : Value} (h : w.cell? ⟨b, o, none⟩ = some u) (a : Addr) (v : Value) (hne : b ≠ a.block) : (w.setCell a v).cell? ⟨b, o, none⟩ = some u := by
  rw [World.cell?_of_block (w := w) (heap_setCell_other w a b _ hne)]; exact h
def tw (m : Nat → W) (k i : Nat) : W := if i < k then thr m (m i) 32 else 0#32
theorem tw_succ (m : Nat → W) (k : Nat) : tw m (k + 1) k = thr m (m k) 32 := by simp [tw]
theorem tw_other (m : Nat → W) (k j : Nat) (h : j ≠ k) : tw m (k + 1) j = tw m k j := by
  unfold tw
  by_cases h2 : j < k
  · rw [if_pos h2, if_pos (by omega)]
  · rw [if_neg h2, if_neg (by omega)]
theorem wrow_congr (m m' : Nat → W) (n : Nat) (h : ∀ i, i < n → m i = m' i) : wrow m n = wrow m' n := by
  have e : (List.range n).map (fun i => Value.int .u32 ((m i).toNat : Int)) = (List.range n).map (fun i => Value.int .u32 ((m' i).toNat : Int)) := by
    apply List.map_congr_left
    intro i hi
    rw [h i (by simpa using hi)]
  unfold wrow; rw [e]
theorem tw_all (m : Nat → W) : wrow (tw m 32) 32 = wrow (fun i => thr m (m i) 32) 32 := wrow_congr _ _ _ fun i hi => by unfold tw; rw [if_pos hi]
theorem crc_twice (m : Nat → W) (w : World) :
    Calls Try.prog 21 #[.agg (wrow m 32)] w fun e w' => e = .returned (.agg (wrow (fun i => thr m (m i) 32) 32)) ∧ Below w.heap.size w w' := by
  go_enter Try.func21, Try.ntmps21
  go_wp2_with fail
  go_loopw [5] (fun i wr => ∃ k : Nat, k ≤ 32 ∧ i = .int .i64 k ∧ RowAt wr (w.heap.size + 1 + 1) 43 (tw m k) 32 ∧ RowAt wr (w.heap.size + 1) 43 (fun _ => 0#32) 32 ∧ RowAt wr w.heap.size 43 m 32 ∧ Below w.heap.size w wr) (fun i _ => 32 - (intOf i).toNat)
  case atStart =>
    refine ⟨0, by omega, rfl, ?_, ?_, ?_, ((below_new w _).alloc (by simp) _).alloc (by simp; omega) _⟩
    · have e : tw m 0 = fun _ => 0#32 := by funext i; rfl
      unfold RowAt; rw [e, zeros_row]
      have := heap_alloc_new ((w.alloc (Obj.cells (wrow m 32) 43)).alloc (Obj.cells (List.replicate 32 (Value.int .u32 0)).toArray 43)) (Obj.cells (List.replicate 32 (Value.int .u32 0)).toArray 43)
      simpa using this
    · unfold RowAt; rw [zeros_row, heap_alloc_old _ _ (by simp)]
      exact heap_alloc2_new _ _ _
    · unfold RowAt; rw [heap_alloc_old _ _ (by simp; omega)]
      exact heap_alloc2_old _ _ _
  case round =>
    rename_i wr _
    obtain ⟨k, hk, rfl, hr2, hr1, hr0, hb⟩ := hrel
    by_cases hlt : k < 32
    · have h1 := hr0.cell k hlt
      have h0 := range_row hr0
      have l2 := hr2.lt
      have HR0 := Lib.hid hr0; clear hr0
      have HR1 := Lib.hid hr1; clear hr1
      have HR2 := Lib.hid hr2; clear hr2
      have HB := Lib.hid hb; clear hb
      have u1 := Try.underlying43
      have i1 : (Try.prog.info? 43).map (·.size) = some (wrow m 32).toList.length := by rw [Array.length_toList, wrow_size]; kernel_rfl
      go_wp2_with fail
      go_region_held3 (fun w' => w'.rangeAt w.heap.size 0 (wrow m 32).toList ∧ w'.cell? ⟨w.heap.size, k, none⟩ = some (.int .u32 ((m k).toNat : Int)))
        (first
          | exact ⟨h0, h1⟩
          | exact ⟨range_below h0 hb1 (by omega), (hb1.cell (p := ⟨w.heap.size, k, none⟩) (by show w.heap.size < wr.heap.size; omega)).trans h1⟩
          | exact ⟨range_set (range_below h0 hb1 (by omega)) _ _ (by simp; omega), cell_set ((hb1.cell (p := ⟨w.heap.size, k, none⟩) (by show w.heap.size < wr.heap.size; omega)).trans h1) _ _ (by simp; omega)⟩)
        (((try simp only [Array.toArray_toList]); go_at_call 20; refine (crc_of _ m (m k) _ rfl).mono ?_; rintro e w1 ⟨rfl, hb1⟩
          replace hb1 : Below wr.heap.size wr w1 := ((Below.refl _ _).drew).trans hb1
          have c2 := (HR2.out.below hb1 l2).cell k hlt
          have f2 := (HR2.out.below hb1 l2).free k))
      have r2 := (HR2.out.below hb1 l2).set k _ (tw m (k + 1)) (by rw [tw_succ]) (fun j hj => tw_other m k j hj)
      have r1 : RowAt (w1.setCell ⟨w.heap.size + 1 + 1, k, none⟩ (.int .u32 (thr m (m k) 32).toNat)) (w.heap.size + 1) 43 (fun _ => 0#32) 32 := by
        unfold RowAt; rw [heap_setCell_other _ _ _ _ (by simp)]; exact HR1.out.below hb1 (by omega)
      have r0 : RowAt (w1.setCell ⟨w.heap.size + 1 + 1, k, none⟩ (.int .u32 (thr m (m k) 32).toNat)) w.heap.size 43 m 32 := by
        unfold RowAt; rw [heap_setCell_other _ _ _ _ (by simp; omega)]; exact HR0.out.below hb1 (by omega)
      have hb2 := (HB.out.trans (hb1.mono HB.out.size)).setCell (p := ⟨w.heap.size + 1 + 1, k, none⟩) (by simp; omega) (.int .u32 (thr m (m k) 32).toNat)
      have R2 := Lib.hid r2; clear r2
      have R1 := Lib.hid r1; clear r1
      have R0 := Lib.hid r0; clear r0
      have B2 := Lib.hid hb2; clear hb2
      go_wp2_with fail
      go_roundw
      case rel => exact ⟨k + 1, by omega, by go_num, R2.out, R1.out, R0.out, B2.out⟩
      case measure => simp [intOf]; omega
    · obtain rfl : k = 32 := by omega
      go_wp2_with (first
        | (refine wpList_load_row rfl 43 (.tmp 3) rfl (w.heap.size + 1 + 1) rfl 43 _ (0, 0) _ hr2 Try.underlying43 rfl (by rw [wrow_size]; kernel_rfl) ?_)
        | (refine wpList_store_row rfl 43 (.tmp 2) (.tmp 16) rfl (w.heap.size + 1) _ rfl rfl 43 _ hr1 (by rw [wrow_size]; kernel_rfl) (by rw [wrow_size, wrow_size]) (wrow_one _ _) ?_))
      refine bodyPost_ret (v := .agg (wrow (tw m 32) 32)) (results_cell_row rfl _ _ (w.heap.size + 1) 43 _ (0, 0) _ rfl (setRow_heap _ _ _ _ _ _ hr1) Try.underlying43 rfl (by rw [wrow_size]; kernel_rfl)) rfl ?_
      exact ⟨by rw [tw_all], below_setRow hb (by omega) _⟩
end Go.Proofs.Ytfjgdajnjeelmaa
