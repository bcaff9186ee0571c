/- Walks: Far, Zeros, Join. -/
import Derived.Test.YtfjgdajnjeelmaaCrcW5
namespace Go.Proofs.Ytfjgdajnjeelmaa
open Go.RowKit Crc
namespace Crc
def s0 (k i : Nat) : W := if i < k then sq 0 i else 0#32
theorem s0_succ (k : Nat) : s0 (k + 1) k = sq 0 k := by simp [s0]
theorem s0_other (k j : Nat) (h : j ≠ k) : s0 (k + 1) j = s0 k j := by
  unfold s0
  by_cases h2 : j < k
  · rw [if_pos h2, if_pos (by omega)]
  · rw [if_neg h2, if_neg (by omega)]
theorem sq_zero' (i : Nat) : sq 0 i = runl (1#32 <<< i) [0] := by
  rw [sq_zero]; unfold runl byte; simp
theorem shl_int (k : Nat) : (2 : Int) ^ k % 4294967296 = ((1#32 <<< k).toNat : Int) := by
  rw [BitVec.toNat_shiftLeft, Nat.shiftLeft_eq, show (1#32).toNat = 1 from rfl, Nat.one_mul]
  simp
theorem far_start (x : W) (n : Nat) : Crc.far x n = itn (pw 0) n x := rfl
theorem wraps_i64 (n : Int) (h₀ : 0 ≤ n) (h₁ : n < 2 ^ 63) : IntKind.i64.wrap n = n := by rw [IntKind.wrap_i64]; omega
theorem and1_i64 (r : Nat) (h : r ≤ 9223372036854775807) : bits .and .i64 (r : Int) 1 = ((r % 2 : Nat) : Int) := by
  have := (bits_nat .i64 63 (by decide) wraps_i64 r 1 (by omega) (by decide)).1
  rw [nat_mask1] at this
  exact this
theorem odd_yes (r : Nat) (h : r ≤ 9223372036854775807) (h1 : r % 2 = 1) : (bits .and .i64 (r : Int) 1 == 1) = true := by
  rw [and1_i64 r h, h1]; rfl
theorem odd_no (r : Nat) (h : r ≤ 9223372036854775807) (h1 : ¬ r % 2 = 1) : (bits .and .i64 (r : Int) 1 == 1) = false := by
  rw [and1_i64 r h, show r % 2 = 0 from by omega]; rfl
theorem sq_row (k : Nat) : (fun i => thr (sq k) (sq k i) 32) = sq (k + 1) := by funext i; exact (sq_succ k i).symm
end Crc
theorem BytesAt.new (w : World) (t : TypeId) (fr : Nat × Nat) (l : List UInt8) (vs : List Value) (h : vs = l.map fun c => Value.int .u8 (c.toNat : Int)) :
    BytesAt (w.alloc (.cells vs.toArray t fr)) (some ⟨w.heap.size, 0, none⟩) l := by
  intro i hi
  refine ⟨w.heap.size, 0, rfl, ?_⟩
  rw [Nat.zero_add, cell_new, h]
  simp [hi]
theorem crc_far (n : Int) (x : W) (c : Int) (w : World) (hn : n = x.toNat) (hcm : c ≤ 9223372036854775807) :
    Calls Try.prog 18 #[.int .u32 n, .int .i64 c] w fun e w' => e = .returned (.int .u32 (Crc.far x c.toNat).toNat) ∧ Below w.heap.size w w' := by
  subst hn
  go_enter Try.func18, Try.ntmps18
  go_wp2_with fail
  go_loopw [7] (fun i wr => ∃ k : Nat, k ≤ 32 ∧ i = .int .i64 k ∧ RowAt wr w.heap.size 43 (s0 k) 32 ∧ Below w.heap.size w wr) (fun i _ => 32 - (intOf i).toNat)
  case atStart =>
    refine ⟨0, by omega, rfl, ?_, below_new w _⟩
    have e : s0 0 = fun _ => 0#32 := by funext i; rfl
    unfold RowAt; rw [e, zeros_row]
    exact heap_alloc_new _ _
  case round =>
    rename_i wr _
    obtain ⟨k, hk, rfl, hr, hb⟩ := hrel
    by_cases hlt : k < 32
    · have HR := Lib.hid hr; clear hr
      have HB := Lib.hid hb; clear hb
      go_wp2_with fail
      refine (crc_run _ (1#32 <<< k) [0] _ _ _ _ (shl_int k) (BytesAt.new _ _ _ [0] [_] rfl) rfl (by decide)).mono ?_
      rintro e w1 ⟨rfl, hb1⟩
      rw [← sq_zero']
      have hb2 := (below_new wr _).trans (hb1.mono (by simp))
      have hr1 := HR.out.below hb2 HR.out.lt
      have c1 := hr1.cell k hlt
      have f1 := hr1.free k
      have hr2 := hr1.set k _ (s0 (k + 1)) (by rw [s0_succ]) (fun j hj => s0_other k j hj)
      have R2 := Lib.hid hr2; clear hr2 hr1
      have hb3 := (HB.out.trans (hb2.mono HB.out.size)).setCell (p := ⟨w.heap.size, k, none⟩) (Nat.le_refl _) (.int .u32 ((sq 0 k).toNat : Int))
      have B3 := Lib.hid hb3; clear hb3 hb2 hb1
      go_wp2_with fail
      go_roundw
      case rel => exact ⟨k + 1, by omega, by go_num, R2.out, B3.out⟩
      case measure => simp [intOf]; omega
    · obtain rfl : k = 32 := by omega
      have hr := hr.congr (m' := sq 0) (fun i hi => by unfold s0; rw [if_pos hi])
      have HR := Lib.hid hr; clear hr
      have HB := Lib.hid hb; clear hb
      by_cases hc : c ≤ 0
      · have hd : (decide (0 < c)) = false := by simpa using hc
        have E : Hid (c.toNat = 0) := Lib.hid (by omega)
        have F : Hid (Crc.far x c.toNat = x) := Lib.hid (by rw [E.out]; rfl)
        go_wp2_with fail
        refine wp_loop_once ?_
        go_wp2_with fail
        go_ret
        exact ⟨ret_u32 (by rw [F.out]), HB.out⟩
      · obtain ⟨N, rfl⟩ : ∃ N : Nat, c = N := ⟨c.toNat, by omega⟩
        go_wp2_with fail
        go_loopw [0, 1] (fun s i wr => ∃ (r j : Nat) (y : W), r ≤ 9223372036854775807 ∧ i = .int .i64 r ∧ s = .int .u32 y.toNat ∧ RowAt wr w.heap.size 43 (sq j) 32 ∧ Below w.heap.size w wr ∧ itn (pw j) r y = Crc.far x N) (fun _ i _ => (intOf i).toNat)
        case atStart => exact ⟨N, 0, x, by omega, rfl, rfl, HR.out, HB.out, rfl⟩
        case round =>
          clear HR HB
          rename_i wr _
          obtain ⟨r, j, y, hrm, rfl, rfl, hr, hb, hy⟩ := hrel
          have HR := Lib.hid hr; clear hr
          have HB := Lib.hid hb; clear hb
          have HY := Lib.hid hy; clear hy
          by_cases hr0 : 0 < r
          · by_cases hodd : r % 2 = 1
            · have ht := odd_yes r hrm hodd
              have HS := Lib.hid (far_odd j r y hodd)
              go_wp2_with (refine wpList_load_row rfl 43 (.tmp 5) rfl w.heap.size rfl 43 _ (0, 0) _ HR.out Try.underlying43 rfl (by rw [wrow_size]; kernel_rfl) ?_)
              refine (crc_of _ (sq j) y _ rfl).mono ?_; rintro e w1 ⟨rfl, hb1⟩
              have HR1 := Lib.hid (HR.out.below hb1 HR.out.lt)
              have HB1 := Lib.hid (HB.out.trans (hb1.mono HB.out.size)); clear hb1
              go_wp2_with (refine wpList_load_row rfl 43 (.tmp 5) rfl w.heap.size rfl 43 _ (0, 0) _ HR1.out Try.underlying43 rfl (by rw [wrow_size]; kernel_rfl) ?_)
              refine (crc_twice (sq j) _).mono ?_; rintro e w2 ⟨rfl, hb2⟩; rw [sq_row]
              have HR2 := Lib.hid (HR1.out.below hb2 HR1.out.lt)
              have HB2 := Lib.hid (HB1.out.trans (hb2.mono HB1.out.size)); clear hb2
              go_wp2_with (refine wpList_store_row rfl 43 (.tmp 5) (.tmp 28) rfl w.heap.size _ rfl rfl 43 _ HR2.out (by rw [wrow_size]; kernel_rfl) (by rw [wrow_size, wrow_size]) (wrow_one _ _) ?_)
              have HR3 : Hid (RowAt _ _ 43 (sq (j + 1)) 32) := Lib.hid (setRow_heap _ _ _ (wrow (sq (j + 1)) 32) _ _ HR2.out)
              have HB3 := Lib.hid (below_setRow HB2.out (Nat.le_refl _) (wrow (sq (j + 1)) 32))
              go_roundw
              case rel => exact ⟨r / 2, j + 1, _, by omega, by go_num, rfl, HR3.out, HB3.out, by rw [← HS.out]; exact HY.out⟩
              case measure => simp [intOf]; omega
            · have ht := odd_no r hrm hodd
              have HS := Lib.hid (far_even j r y hodd)
              go_wp2_with (refine wpList_load_row rfl 43 (.tmp 5) rfl w.heap.size rfl 43 _ (0, 0) _ HR.out Try.underlying43 rfl (by rw [wrow_size]; kernel_rfl) ?_)
              refine (crc_twice (sq j) _).mono ?_; rintro e w2 ⟨rfl, hb2⟩; rw [sq_row]
              have HR2 := Lib.hid (HR.out.below hb2 HR.out.lt)
              have HB2 := Lib.hid (HB.out.trans (hb2.mono HB.out.size)); clear hb2
              go_wp2_with (refine wpList_store_row rfl 43 (.tmp 5) (.tmp 28) rfl w.heap.size _ rfl rfl 43 _ HR2.out (by rw [wrow_size]; kernel_rfl) (by rw [wrow_size, wrow_size]) (wrow_one _ _) ?_)
              have HR3 : Hid (RowAt _ _ 43 (sq (j + 1)) 32) := Lib.hid (setRow_heap _ _ _ (wrow (sq (j + 1)) 32) _ _ HR2.out)
              have HB3 := Lib.hid (below_setRow HB2.out (Nat.le_refl _) (wrow (sq (j + 1)) 32))
              go_roundw
              case rel => exact ⟨r / 2, j + 1, _, by omega, by go_num, rfl, HR3.out, HB3.out, by rw [← HS.out]; exact HY.out⟩
              case measure => simp [intOf]; omega
          · obtain rfl : r = 0 := by omega
            go_wp2_with fail
            go_ret
            exact ⟨ret_u32 (by rw [show ((N : Int)).toNat = N from rfl, ← HY.out]; rfl), HB.out⟩

theorem ref_Far (n : Int) (x : W) (c : Int) (w : World) (hn : n = x.toNat) (hcm : c ≤ 9223372036854775807) :
    Calls Try.prog 11 #[.int .u32 n, .int .i64 c] w fun e w' => e = .returned (.int .u32 (Crc.far x c.toNat).toNat) ∧ Below w.heap.size w w' := by
  subst hn
  go_enter Try.func11, Try.ntmps11
  go_wp2_with fail
  go_loopw [6] (fun i wr => ∃ k : Nat, k ≤ 32 ∧ i = .int .i64 k ∧ RowAt wr w.heap.size 38 (s0 k) 32 ∧ Below w.heap.size w wr) (fun i _ => 32 - (intOf i).toNat)
  case atStart =>
    refine ⟨0, by omega, rfl, ?_, below_new w _⟩
    have e : s0 0 = fun _ => 0#32 := by funext i; rfl
    unfold RowAt; rw [e, zeros_row]
    exact heap_alloc_new _ _
  case round =>
    rename_i wr _
    obtain ⟨k, hk, rfl, hr, hb⟩ := hrel
    by_cases hlt : k < 32
    · have HR := Lib.hid hr; clear hr
      have HB := Lib.hid hb; clear hb
      have c1 := HR.out.cell k hlt
      have f1 := HR.out.free k
      go_wp2_with fail
      refine (ref_step _ (1#32 <<< k) _ (shl_int k)).mono ?_
      rintro e w1 ⟨rfl, rfl⟩
      rw [← sq_zero]
      have R2 := Lib.hid (HR.out.set k _ (s0 (k + 1)) (by rw [s0_succ]) (fun j hj => s0_other k j hj))
      have B3 := Lib.hid (HB.out.setCell (p := ⟨w.heap.size, k, none⟩) (Nat.le_refl _) (.int .u32 ((sq 0 k).toNat : Int)))
      go_wp2_with fail
      go_roundw
      case rel => exact ⟨k + 1, by omega, by go_num, R2.out, B3.out⟩
      case measure => simp [intOf]; omega
    · obtain rfl : k = 32 := by omega
      have hr := hr.congr (m' := sq 0) (fun i hi => by unfold s0; rw [if_pos hi])
      have HR := Lib.hid hr; clear hr
      have HB := Lib.hid hb; clear hb
      by_cases hc : c ≤ 0
      · have hd : (decide (0 < c)) = false := by simpa using hc
        have E : Hid (c.toNat = 0) := Lib.hid (by omega)
        have F : Hid (Crc.far x c.toNat = x) := Lib.hid (by rw [E.out]; rfl)
        go_wp2_with fail
        refine wp_loop_once ?_
        go_wp2_with fail
        go_ret
        exact ⟨ret_u32 (by rw [F.out]), HB.out⟩
      · obtain ⟨N, rfl⟩ : ∃ N : Nat, c = N := ⟨c.toNat, by omega⟩
        go_wp2_with fail
        go_loopw [0, 1] (fun s i wr => ∃ (r j : Nat) (y : W), r ≤ 9223372036854775807 ∧ i = .int .i64 r ∧ s = .int .u32 y.toNat ∧ RowAt wr w.heap.size 38 (sq j) 32 ∧ Below w.heap.size w wr ∧ itn (pw j) r y = Crc.far x N) (fun _ i _ => (intOf i).toNat)
        case atStart => exact ⟨N, 0, x, by omega, rfl, rfl, HR.out, HB.out, rfl⟩
        case round =>
          clear HR HB
          rename_i wr _
          obtain ⟨r, j, y, hrm, rfl, rfl, hr, hb, hy⟩ := hrel
          have HR := Lib.hid hr; clear hr
          have HB := Lib.hid hb; clear hb
          have HY := Lib.hid hy; clear hy
          by_cases hr0 : 0 < r
          · by_cases hodd : r % 2 = 1
            · have ht : ((r : Int) % 2 == 1) = true := by rw [beq_iff_eq]; omega
              have HS := Lib.hid (far_odd j r y hodd)
              go_wp2_with (refine wpList_load_row rfl 38 (.tmp 5) rfl w.heap.size rfl 38 _ (0, 0) _ HR.out Try.underlying38 rfl (by rw [wrow_size]; kernel_rfl) ?_)
              refine (ref_through _ (sq j) y _ rfl).mono ?_; rintro e w1 ⟨rfl, hb1⟩
              have HR1 := Lib.hid (HR.out.below hb1 HR.out.lt)
              have HB1 := Lib.hid (HB.out.trans (hb1.mono HB.out.size)); clear hb1 HR HB
              go_wp2_with fail
              have hg := HR1.out.lt
              go_loopw [8] (fun i wv => ∃ k : Nat, k ≤ 32 ∧ i = .int .i64 k ∧ RowAt wv w1.heap.size 38 (tw (sq j) k) 32 ∧ RowAt wv w.heap.size 38 (sq j) 32 ∧ Below w.heap.size w wv) (fun i _ => 32 - (intOf i).toNat)
              case atStart =>
                refine ⟨0, by omega, rfl, ?_, ?_, HB1.out.alloc HB1.out.size _⟩
                · have e : tw (sq j) 0 = fun _ => 0#32 := by funext i; rfl
                  unfold RowAt; rw [e, zeros_row]; exact heap_alloc_new _ _
                · unfold RowAt; rw [heap_alloc_old _ _ HR1.out.lt]; exact HR1.out
              case round =>
                obtain ⟨k, hk, rfl, hr2, hr0, hb⟩ := hrel
                clear HR1 HB1
                by_cases hlt : k < 32
                · have h1 := hr0.cell k hlt
                  have h0 := range_row hr0
                  have l2 := hr2.lt
                  have HR0 := Lib.hid hr0; clear hr0
                  have HR2 := Lib.hid hr2; clear hr2
                  have HB := Lib.hid hb; clear hb
                  have u1 := Try.underlying38
                  have i1 : (Try.prog.info? 38).map (·.size) = some (wrow (sq j) 32).toList.length := by rw [Array.length_toList, wrow_size]; kernel_rfl
                  go_wp2_with fail
                  go_region_held3 (fun w' => w'.rangeAt w.heap.size 0 (wrow (sq j) 32).toList ∧ w'.cell? ⟨w.heap.size, k, none⟩ = some (.int .u32 ((sq j k).toNat : Int)))
                    (first
                      | exact ⟨h0, h1⟩
                      | exact ⟨range_below h0 hb1 (by omega), (hb1.cell (p := ⟨w.heap.size, k, none⟩) (by show w.heap.size < wr.heap.size; have := hg; omega)).trans h1⟩
                      | exact ⟨range_set (range_below h0 hb1 (by omega)) _ _ (by have := hg; simp; omega), cell_set ((hb1.cell (p := ⟨w.heap.size, k, none⟩) (by show w.heap.size < wr.heap.size; have := hg; omega)).trans h1) _ _ (by have := hg; simp; omega)⟩
                      | fail)
                    (((try simp only [Array.toArray_toList]); go_at_call 17; refine (ref_through _ (sq j) (sq j k) _ rfl).mono ?_; rintro e w4 ⟨rfl, hb1⟩
                      replace hb1 : Below wr.heap.size wr w4 := ((Below.refl _ _).drew).trans hb1
                      have c2 := (HR2.out.below hb1 l2).cell k hlt
                      have f2 := (HR2.out.below hb1 l2).free k))
                  have R2 := Lib.hid ((HR2.out.below hb1 l2).set k _ (tw (sq j) (k + 1)) (by rw [tw_succ]) (fun i hi => tw_other (sq j) k i hi))
                  have r0 : RowAt (w4.setCell ⟨w1.heap.size, k, none⟩ (.int .u32 (thr (sq j) (sq j k) 32).toNat)) w.heap.size 38 (sq j) 32 := by
                    unfold RowAt; rw [heap_setCell_other _ _ _ _ (by have := hg; simp; omega)]; exact HR0.out.below hb1 (by omega)
                  have R0 := Lib.hid r0; clear r0
                  have B2 := Lib.hid ((HB.out.trans (hb1.mono HB.out.size)).setCell (p := ⟨w1.heap.size, k, none⟩) (by simp; omega) (.int .u32 (thr (sq j) (sq j k) 32).toNat))
                  go_wp2_with fail
                  go_roundw
                  case rel => exact ⟨k + 1, by omega, by go_num, R2.out, R0.out, B2.out⟩
                  case measure => simp [intOf]; omega
                · obtain rfl : k = 32 := by omega
                  go_wp2_with (first
                    | (refine wpList_load_row rfl 38 (.tmp 7) rfl w1.heap.size rfl 38 _ (0, 0) _ hr2 Try.underlying38 rfl (by rw [wrow_size]; kernel_rfl) ?_)
                    | (refine wpList_store_row rfl 38 (.tmp 5) (.tmp 39) rfl w.heap.size _ rfl rfl 38 _ hr0 (by rw [wrow_size]; kernel_rfl) (by rw [wrow_size, wrow_size]) (wrow_one _ _) ?_)
                    | fail)
                  have e5 : wrow (tw (sq j) 32) 32 = wrow (sq (j + 1)) 32 := by rw [tw_all, sq_row]
                  have HR3 : Hid (RowAt _ _ 38 (sq (j + 1)) 32) := Lib.hid (setRow_heap _ _ _ (wrow (sq (j + 1)) 32) _ _ hr0)
                  have HB3 := Lib.hid (below_setRow hb (Nat.le_refl _) (wrow (sq (j + 1)) 32))
                  rw [← e5] at HR3 HB3
                  go_roundw
                  case rel => exact ⟨r / 2, j + 1, _, by omega, by go_num, rfl, HR3.out, HB3.out, by rw [← HS.out]; exact HY.out⟩
                  case measure => simp [intOf]; omega
            · have ht : ((r : Int) % 2 == 1) = false := by rw [beq_eq_false_iff_ne]; omega
              obtain ⟨wo, rfl⟩ : ∃ wo : World, wo = wr := ⟨_, rfl⟩
              have HS := Lib.hid (far_even j r y hodd)
              go_wp2_with fail
              have hg := HR.out.lt
              go_loopw [8] (fun i wv => ∃ k : Nat, k ≤ 32 ∧ i = .int .i64 k ∧ RowAt wv wo.heap.size 38 (tw (sq j) k) 32 ∧ RowAt wv w.heap.size 38 (sq j) 32 ∧ Below w.heap.size w wv) (fun i _ => 32 - (intOf i).toNat)
              case atStart =>
                refine ⟨0, by omega, rfl, ?_, ?_, HB.out.alloc HB.out.size _⟩
                · have e : tw (sq j) 0 = fun _ => 0#32 := by funext i; rfl
                  unfold RowAt; rw [e, zeros_row]; exact heap_alloc_new _ _
                · unfold RowAt; rw [heap_alloc_old _ _ HR.out.lt]; exact HR.out
              case round =>
                obtain ⟨k, hk, rfl, hr2, hr0, hb⟩ := hrel
                clear HR HB
                by_cases hlt : k < 32
                · have h1 := hr0.cell k hlt
                  have h0 := range_row hr0
                  have l2 := hr2.lt
                  have HR0 := Lib.hid hr0; clear hr0
                  have HR2 := Lib.hid hr2; clear hr2
                  have HB := Lib.hid hb; clear hb
                  have u1 := Try.underlying38
                  have i1 : (Try.prog.info? 38).map (·.size) = some (wrow (sq j) 32).toList.length := by rw [Array.length_toList, wrow_size]; kernel_rfl
                  go_wp2_with fail
                  go_region_held3 (fun w' => w'.rangeAt w.heap.size 0 (wrow (sq j) 32).toList ∧ w'.cell? ⟨w.heap.size, k, none⟩ = some (.int .u32 ((sq j k).toNat : Int)))
                    (first
                      | exact ⟨h0, h1⟩
                      | exact ⟨range_below h0 hb1 (by omega), (hb1.cell (p := ⟨w.heap.size, k, none⟩) (by show w.heap.size < wr.heap.size; have := hg; omega)).trans h1⟩
                      | exact ⟨range_set (range_below h0 hb1 (by omega)) _ _ (by have := hg; simp; omega), cell_set ((hb1.cell (p := ⟨w.heap.size, k, none⟩) (by show w.heap.size < wr.heap.size; have := hg; omega)).trans h1) _ _ (by have := hg; simp; omega)⟩
                      | fail)
                    (((try simp only [Array.toArray_toList]); go_at_call 17; refine (ref_through _ (sq j) (sq j k) _ rfl).mono ?_; rintro e w4 ⟨rfl, hb1⟩
                      replace hb1 : Below wr.heap.size wr w4 := ((Below.refl _ _).drew).trans hb1
                      have c2 := (HR2.out.below hb1 l2).cell k hlt
                      have f2 := (HR2.out.below hb1 l2).free k))
                  have R2 := Lib.hid ((HR2.out.below hb1 l2).set k _ (tw (sq j) (k + 1)) (by rw [tw_succ]) (fun i hi => tw_other (sq j) k i hi))
                  have r0 : RowAt (w4.setCell ⟨wo.heap.size, k, none⟩ (.int .u32 (thr (sq j) (sq j k) 32).toNat)) w.heap.size 38 (sq j) 32 := by
                    unfold RowAt; rw [heap_setCell_other _ _ _ _ (by have := hg; simp; omega)]; exact HR0.out.below hb1 (by omega)
                  have R0 := Lib.hid r0; clear r0
                  have B2 := Lib.hid ((HB.out.trans (hb1.mono HB.out.size)).setCell (p := ⟨wo.heap.size, k, none⟩) (by simp; omega) (.int .u32 (thr (sq j) (sq j k) 32).toNat))
                  go_wp2_with fail
                  go_roundw
                  case rel => exact ⟨k + 1, by omega, by go_num, R2.out, R0.out, B2.out⟩
                  case measure => simp [intOf]; omega
                · obtain rfl : k = 32 := by omega
                  go_wp2_with (first
                    | (refine wpList_load_row rfl 38 (.tmp 7) rfl wo.heap.size rfl 38 _ (0, 0) _ hr2 Try.underlying38 rfl (by rw [wrow_size]; kernel_rfl) ?_)
                    | (refine wpList_store_row rfl 38 (.tmp 5) (.tmp 39) rfl w.heap.size _ rfl rfl 38 _ hr0 (by rw [wrow_size]; kernel_rfl) (by rw [wrow_size, wrow_size]) (wrow_one _ _) ?_)
                    | fail)
                  have e5 : wrow (tw (sq j) 32) 32 = wrow (sq (j + 1)) 32 := by rw [tw_all, sq_row]
                  have HR3 : Hid (RowAt _ _ 38 (sq (j + 1)) 32) := Lib.hid (setRow_heap _ _ _ (wrow (sq (j + 1)) 32) _ _ hr0)
                  have HB3 := Lib.hid (below_setRow hb (Nat.le_refl _) (wrow (sq (j + 1)) 32))
                  rw [← e5] at HR3 HB3
                  go_roundw
                  case rel => exact ⟨r / 2, j + 1, _, by omega, by go_num, rfl, HR3.out, HB3.out, by rw [← HS.out]; exact HY.out⟩
                  case measure => simp [intOf]; omega
          · obtain rfl : r = 0 := by omega
            go_wp2_with fail
            go_ret
            exact ⟨ret_u32 (by rw [show ((N : Int)).toNat = N from rfl, ← HY.out]; rfl), HB.out⟩
end Go.Proofs.Ytfjgdajnjeelmaa
