/- The walk of the law CrcTells. -/
import Derived.Test.YtfjgdajnjeelmaaCrcW7
import Derived.Test.YtfjgdajnjeelmaaCrcTellsPlain
import Derived.Test.YtfjgdajnjeelmaaMem2
import Derived.RegionTactic
import Derived.BigRegion
import Derived.Deep.DeepCutAuto
import Derived.Deep.CutBlock
namespace Go.Proofs.Ytfjgdajnjeelmaa
open Go.RowKit Crc
theorem info_u8' : (Try.prog.info? 5).map (fun i => (i.zero, i.size, i.bytes)) = some (some (.int .u8 0), 1, 1) := by kernel_rfl
def three (t0 t1 t2 : Int) : Nat → Int
  | 0 => t0 | 1 => t1 | _ => t2
/-- The place of a flipped bit. -/
def place (t : Int) (L : Nat) : Nat := (t.tmod (8 * (L : Int))).natAbs
theorem place_lt (t : Int) (L : Nat) (h : 0 < L) : place t L < 8 * L := by
  unfold place
  have h1 : (t.tmod (8 * (L : Int))).natAbs < (8 * (L : Int)).natAbs := by
    rw [Int.natAbs_tmod]
    exact Nat.mod_lt _ (by omega)
  omega
theorem place_cases (t : Int) (L : Nat) : t.tmod (8 * (L : Int)) = (place t L : Int) ∨ (t.tmod (8 * (L : Int)) = -(place t L : Int) ∧ 0 < place t L) := by
  unfold place; omega
def flips (b : List UInt8) (f : Nat → Nat) : Nat → List UInt8
  | 0 => b
  | k + 1 => flipb (flips b f k) (f k)
theorem flip_int (c : UInt8) (j : Nat) (h : j < 8) : bits .xor .u8 (c.toNat : Int) (2 ^ j % 256) = ((c ^^^ bit8 j).toNat : Int) := by
  have e : ((2 : Int) ^ j % 256) = ((bit8 j).toNat : Int) := by
    have : ∀ j : Fin 8, ((2 : Int) ^ j.val % 256) = ((bit8 j.val).toNat : Int) := by decide
    exact this ⟨j, h⟩
  rw [e, u8_xor_nat _ _ c.toNat_lt (bit8 j).toNat_lt, UInt8.toNat_xor]
/-- A row that is filled from the left. -/
def fillTo (f : Nat → UInt8) (L k : Nat) : List UInt8 := (List.range L).map fun j => if j < k then f j else 0
theorem fill_length (f : Nat → UInt8) (L k : Nat) : (fillTo f L k).length = L := by simp [fillTo]
theorem fill_zero (f : Nat → UInt8) (L : Nat) : fillTo f L 0 = List.replicate L 0 := by
  unfold fillTo
  apply List.ext_getElem
  · simp
  · intro i h1 h2; simp
theorem fill_set (f : Nat → UInt8) (L k : Nat) (h : k < L) : (fillTo f L k).set k (f k) = fillTo f L (k + 1) := by
  apply List.ext_getElem
  · simp [fillTo]
  · intro i h1 h2
    rw [List.getElem_set]
    simp only [fillTo, List.getElem_map, List.getElem_range]
    by_cases e : k = i
    · subst e; simp
    · rw [if_neg e]
      by_cases h3 : i < k
      · rw [if_pos h3, if_pos (by omega)]
      · rw [if_neg h3, if_neg (by omega)]
theorem fill_same (f : Nat → UInt8) (L k : Nat) (h : f k = 0) : fillTo f L k = fillTo f L (k + 1) := by
  apply List.ext_getElem
  · simp [fillTo]
  · intro i h1 h2
    simp only [fillTo, List.getElem_map, List.getElem_range]
    by_cases h3 : i < k
    · rw [if_pos h3, if_pos (by omega)]
    · by_cases e : i = k
      · subst e; rw [if_neg h3, if_pos (by omega), h]
      · rw [if_neg h3, if_neg (by omega)]
theorem fill_all (f : Nat → UInt8) (l : List UInt8) (h : ∀ i (hi : i < l.length), f i = l[i]) : fillTo f l.length l.length = l := by
  apply List.ext_getElem
  · simp [fillTo]
  · intro i h1 h2
    simp only [fillTo, List.getElem_map, List.getElem_range]
    rw [if_pos h2, h i h2]
theorem made_bytes (n : Nat) : (madeCells (Value.int .u8 0).cells (n * 1)).toList = bvs (List.replicate n 0) := by
  apply List.ext_getElem
  · simp [madeCells, bvs]
  · intro i h1 h2
    simp [madeCells, bvs, Value.cells, Nat.mod_one]
theorem xor_bytes_int (a b : UInt8) : bits .xor .u8 (a.toNat : Int) (b.toNat : Int) = ((a ^^^ b).toNat : Int) := by
  rw [u8_xor_nat _ _ a.toNat_lt b.toNat_lt, UInt8.toNat_xor]
theorem xor3_get (a b c : List UInt8) (i : Nat) (h1 : i < a.length) (h2 : i < b.length) (h3 : i < c.length) : (xor3 a b c)[i]?.getD 0 = a[i] ^^^ b[i] ^^^ c[i] := by
  unfold xor3
  rw [List.getElem?_eq_getElem (by simp; omega), Option.getD_some]
  simp
theorem flips_length (b : List UInt8) (f : Nat → Nat) : ∀ k, (flips b f k).length = b.length
  | 0 => rfl
  | k + 1 => by rw [flips, flipb_length, flips_length b f k]
set_option maxRecDepth 100000 in
set_option maxHeartbeats 1000000 in
theorem tells_walk (b c : List UInt8) (a0 a1 : Option Addr) (c0 c1 : Nat) (t0 t1 t2 : Int) (B : W) (w : World) (hb : BytesAt w a0 b) (hc : BytesAt w a1 c) (hlb : b.length ≤ maxLen) (hlc : c.length ≤ maxLen) :
    Calls Try.prog 4 #[.agg #[.slice a0 b.length c0, .slice a1 c.length c1], .agg #[.int .i64 t0, .int .i64 t1, .int .i64 t2], .int .u32 B.toNat] w fun e w' => e = .returned (.bool true) ∧ Below w.heap.size w w' := by
  obtain ⟨i0, hi, hz0, hz1, hz2⟩ := info_parts info_u8'
  have I := Lib.hid (show Try.prog.info? 5 = some i0 from hi); clear hi
  have HZ0 := Lib.hid hz0; clear hz0
  have HZ1 := Lib.hid hz1; clear hz1
  have HZ2 := Lib.hid hz2; clear hz2
  unfold maxLen at hlb hlc
  have HBy := Lib.hid hb; clear hb
  have HCy := Lib.hid hc; clear hc
  go_enter Try.func4, Try.ntmps4
  go_wp2_with fail
  go_quiet (fail)
  have hB := below_drews (below_new2 w (Obj.cells #[Value.slice a0 b.length c0, Value.slice a1 c.length c1] 32) (Obj.cells #[Value.int IntKind.i64 t0, Value.int IntKind.i64 t1, Value.int IntKind.i64 t2] 33)) nq
  have hA : ∀ k, k < 3 → (((w.alloc (Obj.cells #[Value.slice a0 b.length c0, Value.slice a1 c.length c1] 32)).alloc (Obj.cells #[Value.int IntKind.i64 t0, Value.int IntKind.i64 t1, Value.int IntKind.i64 t2] 33)).drewN nq).cell? ⟨w.heap.size + 1, k, none⟩ = some (.int .i64 (three t0 t1 t2 k)) := by
    intro k hk
    rw [World.cell?_drewN]
    rw [cell_of_row _ _ _ _ _ _ (heap_alloc2_new w _ _)]
    have : k = 0 ∨ k = 1 ∨ k = 2 := by omega
    rcases this with rfl | rfl | rfl <;> rfl
  have hsz : (((w.alloc (Obj.cells #[Value.slice a0 b.length c0, Value.slice a1 c.length c1] 32)).alloc (Obj.cells #[Value.int IntKind.i64 t0, Value.int IntKind.i64 t1, Value.int IntKind.i64 t2] 33)).drewN nq).heap.size = w.heap.size + 2 := by simp
  generalize (World.drewN _ nq) = W1 at *
  have HA := Lib.hid hA; clear hA
  have HB := Lib.hid hB; clear hB
  have HSZ := Lib.hid hsz; clear hsz
  have HBy1 := Lib.hid (HBy.out.below HB.out rfl)
  have HCy1 := Lib.hid (HCy.out.below HB.out rfl)
  clear HBy HCy
  by_cases h0 : b.length = 0
  · have e0 : ((b.length : Int) == 0) = true := by rw [h0]; rfl
    have H0 := Lib.hid h0; clear h0
    go_wp2_with fail
    refine (crc_known _).mono ?_
    rintro e w1 ⟨rfl, hb⟩
    have B1 := Lib.hid (HB.out.trans (hb.mono HB.out.size)); clear hb
    go_wp2_with fail
    go_ret
    exact ⟨rfl, B1.out⟩
  have e0 : ((b.length : Int) == 0) = false := by rw [beq_eq_false_iff_ne]; omega
  have hpos : 0 < b.length := by omega
  clear h0
  by_cases h1 : 65536 < b.length
  · go_wp2_with fail
    refine (crc_known _).mono ?_
    rintro e w1 ⟨rfl, hb⟩
    have B1 := Lib.hid (HB.out.trans (hb.mono HB.out.size)); clear hb
    go_wp2_with fail
    go_ret
    exact ⟨rfl, B1.out⟩
  have HN := Lib.hid (BytesAt.below HBy1.out (below_new W1 (.cells #[] 5)) rfl)
  go_wp2_with (at_builtin; refine wpList_append_src _ rfl _ _ 24 24 rfl (w.heap.size + 2) 5 i0 (.int .u8 0) 1 1 Try.underlying24 I.out HZ0.out HZ1.out HZ2.out rfl (.slice (some ⟨W1.heap.size, 0, none⟩) 0 0) 0 [] rfl (own_new W1 _ 5 [] (Nat.le_of_eq HSZ.out.symm) (by simp)) (.slice a0 b.length c0) b.length (bvs b) rfl (HN.out.src Try.underlying24 c0) (by unfold maxLen; omega) (by omega) (by simp; have := HSZ.out; omega) ?_; intro v' w1 hown1 hgrow hat)
  have B1 : Hid (Below (w.heap.size + 2) W1 w1) := Lib.hid (below_grown ((Below.refl _ _).alloc (Nat.le_of_eq HSZ.out.symm) _) (own_new W1 (w.heap.size + 2) 5 [] (Nat.le_of_eq HSZ.out.symm) (by simp)) hgrow (by simp; have := HSZ.out; omega) (Nat.le_refl _))
  rw [Nat.zero_add, List.nil_append] at hown1
  clear hgrow hat HN
  obtain ⟨g, cap9, rfl, hg1, hg2, hg3, hg4⟩ := own_form hown1 hpos
  have HO := Lib.hid hown1; clear hown1
  have HSZ' : Hid (Below w.heap.size w W1 ∧ W1.heap.size = w.heap.size + 2) := Lib.hid ⟨HB.out, HSZ.out⟩
  go_loopw [10] (fun i wr => ∃ k : Nat, k ≤ 3 ∧ i = .int .i64 k ∧ wr.ownsRow (w.heap.size + 2) 5 1 (.slice (some ⟨g, 0, none⟩) b.length cap9) b.length (bvs (flips b (fun j => place (three t0 t1 t2 j) b.length) k)) ∧ Below (w.heap.size + 2) W1 wr) (fun i _ => 3 - (intOf i).toNat)
  case atStart => exact ⟨0, by omega, rfl, HO.out, B1.out⟩
  case round =>
    clear HO B1
    obtain ⟨k, hk, rfl, hown, hbel⟩ := hrel
    have HO := Lib.hid hown; clear hown
    have B1 := Lib.hid hbel; clear hbel
    by_cases hlt : k < 3
    ·
      have hA : wr.cell? ⟨w.heap.size + 1, k, none⟩ = some (.int .i64 (three t0 t1 t2 k)) := by
        rw [B1.out.cell (p := ⟨w.heap.size + 1, k, none⟩) (by simp)]; exact HA.out k hlt
      generalize htk : three t0 t1 t2 k = t at *
      have HTK := Lib.hid htk; clear htk
      obtain ⟨K, hK⟩ : ∃ K, Hid (place t b.length = K) := ⟨_, Lib.hid rfl⟩
      have hK1 : K < 8 * b.length := by rw [← hK.out]; exact place_lt t _ hpos
      have hne : ((8 * (b.length : Int)) == 0) = false := by rw [beq_eq_false_iff_ne]; omega
      have hyl : (flips b (fun j => place (three t0 t1 t2 j) b.length) k).length = b.length := flips_length _ _ _
      have hflip : flips b (fun j => place (three t0 t1 t2 j) b.length) (k + 1) = flipb (flips b (fun j => place (three t0 t1 t2 j) b.length) k) K := by
        show flipb _ (place (three t0 t1 t2 k) b.length) = _
        rw [HTK.out, hK.out]
      have HFL := Lib.hid hflip; clear hflip
      generalize flips b (fun j => place (three t0 t1 t2 j) b.length) k = y at *
      have HYL := Lib.hid hyl; clear hyl
      have hK8 : K / 8 < y.length := by have := HYL.out; omega
      obtain ⟨hcell, hfree⟩ := own_byte HO.out (K / 8) hK8
      have HP : Hid (flipb y K = y.set (K / 8) (y[K / 8] ^^^ bit8 (K % 8))) := Lib.hid (by unfold flipb; rw [List.getElem?_eq_getElem hK8]; rfl)
      have hcb := (y[K / 8]).toNat_lt
      generalize y[K / 8] = cc at *
      rcases place_cases t b.length with hp | ⟨hp, hKpos⟩
      · rw [hK.out] at hp
        go_wp2_with fail
        have j1 : (0 : Int) ≤ (K : Int) / 8 := by omega
        have j2 : (K : Int) / 8 < (b.length : Int) := by omega
        have j3 : ((K : Int) / 8).toNat = K / 8 := by omega
        go_region
        clear j1 j2 j3
        have O2 := Lib.hid (own_put HO.out (K / 8) (cc ^^^ bit8 (K % 8)) _ (flip_int cc _ (Nat.mod_lt _ (by decide))))
        have B2 := Lib.hid ((B1.out.setCell (p := ⟨g, K / 8, none⟩) hg1 (.int .u8 (bits .xor .u8 (cc.toNat : Int) (2 ^ (K % 8) % 256)))).drew)
        go_wp2_with fail
        go_roundw
        case rel => exact ⟨k + 1, by omega, by go_num, by rw [HFL.out, HP.out]; exact O2.out, B2.out⟩
        case measure => simp [intOf]; omega
      · rw [hK.out] at hp hKpos
        go_wp2_with fail
        have j1 : (0 : Int) ≤ (K : Int) / 8 := by omega
        have j2 : (K : Int) / 8 < (b.length : Int) := by omega
        have j3 : ((K : Int) / 8).toNat = K / 8 := by omega
        go_region
        clear j1 j2 j3
        have O2 := Lib.hid (own_put HO.out (K / 8) (cc ^^^ bit8 (K % 8)) _ (flip_int cc _ (Nat.mod_lt _ (by decide))))
        have B2 := Lib.hid ((B1.out.setCell (p := ⟨g, K / 8, none⟩) hg1 (.int .u8 (bits .xor .u8 (cc.toNat : Int) (2 ^ (K % 8) % 256)))).drew)
        go_wp2_with fail
        go_roundw
        case rel => exact ⟨k + 1, by omega, by go_num, by rw [HFL.out, HP.out]; exact O2.out, B2.out⟩
        case measure => simp [intOf]; omega
    · obtain rfl : k = 3 := by omega
      have hyl : (flips b (fun j => place (three t0 t1 t2 j) b.length) 3).length = b.length := flips_length _ _ _
      have hsum : Crc.sum (flips b (fun j => place (three t0 t1 t2 j) b.length) 3) ≠ Crc.sum b := three_flips b _ _ _ (place_lt _ _ hpos) (place_lt _ _ hpos) (place_lt _ _ hpos)
      generalize flips b (fun j => place (three t0 t1 t2 j) b.length) 3 = y at *
      have HS := Lib.hid hsum; clear hsum
      have HYL := Lib.hid hyl; clear hyl
      go_upto_region 12 with (fail)
      go_cut [76] (fun s76 wx => s76 = .bool false ∧ wx.ownsRow (w.heap.size + 2) 5 1 (.slice (some ⟨g, 0, none⟩) b.length cap9) b.length (bvs y) ∧ Below (w.heap.size + 2) W1 wx)
      case first =>
        have HYy := own_bytes HO.out
        have HBy2 := HBy1.out.below B1.out HSZ.out.symm
        have cv1 := conv_bytes (P := Try.prog) HYy 24 5 9 Try.underlying24 Try.underlying5 Try.underlying9 b.length cap9 HYL.out.symm
        have cv2 := conv_bytes (P := Try.prog) HBy2 24 5 9 Try.underlying24 Try.underlying5 Try.underlying9 b.length c0 rfl
        have Yy := Lib.hid HYy; clear HYy
        have By2 := Lib.hid HBy2; clear HBy2
        by_cases hyb : y = b
        · subst hyb
          go_wp2_with fail
          go_meet
          exact ⟨rfl, HO.out, B1.out⟩
        · go_wp2_with fail
          refine (crc_Sum [y] _ _ _ _ (ListsAt.one _ 24 (0, 0) _ _ _ y Yy.out HYL.out.symm (by have := HYL.out; omega)) rfl (by simp)).mono ?_
          rintro e w3 ⟨rfl, hb⟩
          have B3 := Lib.hid (B1.out.trans (((below_new wr _).trans (hb.mono (by simp))).mono (Nat.le_trans (Nat.le_of_eq HSZ.out.symm) B1.out.size)))
          have By3 := Lib.hid (HBy1.out.below B3.out HSZ.out.symm)
          have HO3 := Lib.hid (own_later HO.out ((below_new wr _).trans (hb.mono (by simp))) (Nat.le_refl _))
          clear hb
          go_wp2_with fail
          refine (crc_Sum [b] _ _ _ _ (ListsAt.one _ 24 (0, 0) _ _ _ b By3.out rfl (by omega)) rfl (by simp)).mono ?_
          rintro e w4 ⟨rfl, hb⟩
          have B4 := Lib.hid (B3.out.trans (((below_new w3 _).trans (hb.mono (by simp))).mono (Nat.le_trans (Nat.le_of_eq HSZ.out.symm) B3.out.size)))
          have HO4 := Lib.hid (own_later HO3.out ((below_new w3 _).trans (hb.mono (by simp))) (Nat.le_refl _))
          clear hb
          have hne2 : (((Crc.sum y).toNat : Int) == ((Crc.sum b).toNat : Int)) = false := by rw [eq_int, beq_eq_false_iff_ne]; exact HS.out
          simp only [List.flatten_cons, List.flatten_nil, List.append_nil]
          generalize (Crc.sum y).toNat = sy at *
          generalize (Crc.sum b).toNat = sb at *
          go_wp2_with fail
          go_meet
          exact ⟨rfl, HO4.out, B4.out⟩
      case rest =>
        clear HO B1
        obtain ⟨rfl, hown, hbel⟩ := hcut
        obtain ⟨wz, rfl⟩ : ∃ wz : World, wz = wc := ⟨_, rfl⟩
        have HO := Lib.hid hown; clear hown
        have B1 := Lib.hid hbel; clear hbel
        obtain ⟨H, hHdef⟩ : ∃ H, wz.heap.size = H := ⟨_, rfl⟩
        have HH := Lib.hid hHdef
        have hgH : g < wz.heap.size := (HO.out.lt g rfl).2
        have h2H : w.heap.size + 2 ≤ wz.heap.size := Nat.le_trans (Nat.le_of_eq HSZ.out.symm) B1.out.size
        rw [hHdef] at hgH h2H
        clear hHdef
        have HN := Lib.hid (BytesAt.below (HBy1.out.below B1.out HSZ.out.symm) (below_new wz (.cells #[] 5)) rfl)
        go_upto_region 15 with (at_builtin; refine wpList_append_src _ rfl _ _ 24 24 rfl wz.heap.size 5 i0 (.int .u8 0) 1 1 Try.underlying24 I.out HZ0.out HZ1.out HZ2.out rfl (.slice (some ⟨wz.heap.size, 0, none⟩) 0 0) 0 [] rfl (own_new wz _ 5 [] (Nat.le_refl _) (by simp)) (.slice a0 b.length c0) b.length (bvs b) rfl (HN.out.src Try.underlying24 c0) (by unfold maxLen; omega) (by omega) (by simp) ?_; intro v2 w2 hown2 hgrow2 hat2)
        have C2 : Hid (Below wz.heap.size wz w2) := Lib.hid (below_grown (below_new wz (.cells #[] 5)) (own_new wz wz.heap.size 5 [] (Nat.le_refl _) (by simp)) hgrow2 (by simp) (Nat.le_refl _))
        rw [Nat.zero_add, List.nil_append] at hown2
        clear hgrow2 hat2 HN
        obtain ⟨g2, cap12, rfl, hg21, hg22, hg23, hg24⟩ := own_form hown2 hpos
        have HO2 := Lib.hid hown2; clear hown2
        have hA0 : w2.cell? ⟨w.heap.size + 1, 0, none⟩ = some (.int .i64 t0) := by
          rw [C2.out.cell (p := ⟨w.heap.size + 1, 0, none⟩) (by show w.heap.size + 1 < wz.heap.size; rw [HH.out]; omega), B1.out.cell (p := ⟨w.heap.size + 1, 0, none⟩) (by simp)]; exact HA.out 0 (by omega)
        obtain ⟨K, hK⟩ : ∃ K, Hid (place t0 b.length = K) := ⟨_, Lib.hid rfl⟩
        have hK1 : K < 8 * b.length := by rw [← hK.out]; exact place_lt t0 _ hpos
        have hne : ((8 * (b.length : Int)) == 0) = false := by rw [beq_eq_false_iff_ne]; omega
        obtain ⟨r, hr⟩ : ∃ r, t0.tmod (8 * (b.length : Int)) = r := ⟨_, rfl⟩
        have hpc : r = (K : Int) ∨ (r = -(K : Int) ∧ 0 < K) := by
          rcases place_cases t0 b.length with hp | ⟨hp, hq⟩
          · exact .inl (by rw [← hr, hp, hK.out])
          · exact .inr ⟨by rw [← hr, hp, hK.out], by rw [← hK.out]; exact hq⟩
        have HPC := Lib.hid hpc; clear hpc
        go_upto_if 87 with (fail)
        go_cut [13] (fun s13 wx => s13 = .int .i64 K ∧ wx = w2)
        case first =>
          rcases HPC.out with rfl | ⟨rfl, hq⟩
          all_goals
            go_wp2_with fail
            go_meet
            exact ⟨rfl, rfl⟩
        case rest =>
          clear hr HPC hA0
          obtain ⟨rfl, rfl⟩ := hcut
          go_upto_block 2 with (fail)
          go_cut [] (fun wx => ∃ (k : Nat) (z : List UInt8), Burst b K B k z ∧ wx.ownsRow wz.heap.size 5 1 (.slice (some ⟨g2, 0, none⟩) b.length cap12) b.length (bvs z) ∧ Below wz.heap.size wz wx)
          case first =>
            go_wp2_with fail
            go_loopw [14] (fun i wr => ∃ (k : Nat) (z : List UInt8), k ≤ 32 ∧ i = .int .i64 k ∧ Burst b K B k z ∧ wr.ownsRow wz.heap.size 5 1 (.slice (some ⟨g2, 0, none⟩) b.length cap12) b.length (bvs z) ∧ Below wz.heap.size wz wr) (fun i _ => 32 - (intOf i).toNat)
            case atStart => exact ⟨0, b, by omega, rfl, Burst.start _ _ _, HO2.out, C2.out⟩
            case round =>
              clear HO2 C2
              obtain ⟨k, z, hk, rfl, hbu, hown, hbel⟩ := hrel
              have BU := Lib.hid hbu; clear hbu
              have HO2 := Lib.hid hown; clear hown
              have C2 := Lib.hid hbel; clear hbel
              by_cases hlt : k < 32
              · by_cases hlt2 : K + k < 8 * b.length
                · have hbx := B.isLt
                  by_cases hbit : B.getLsbD k = true
                  · have ht : (((B.toNat : Int) / 2 ^ k).tmod 2 == 1) = true := by rw [bit_int, hbit]
                    have BU1 := Lib.hid (BU.out.yes hlt hlt2 hbit); clear hbit
                    have hzl := BU.out.len
                    have hK8 : (K + k) / 8 < z.length := by omega
                    obtain ⟨hcell, hfree⟩ := own_byte HO2.out ((K + k) / 8) hK8
                    have HP : Hid (flipb z (K + k) = z.set ((K + k) / 8) (z[(K + k) / 8] ^^^ bit8 ((K + k) % 8))) := Lib.hid (by unfold flipb; rw [List.getElem?_eq_getElem hK8]; rfl)
                    have hcb := (z[(K + k) / 8]).toNat_lt
                    generalize z[(K + k) / 8] = cc at *
                    clear hzl
                    go_wp2_with fail
                    have j0 : IntKind.i64.wrap ((K : Int) + (k : Int)) = (K : Int) + (k : Int) := IntWalk.i64_in _ (by omega)
                    have j1 : (0 : Int) ≤ ((K : Int) + (k : Int)) / 8 := by omega
                    have j2 : ((K : Int) + (k : Int)) / 8 < (b.length : Int) := by omega
                    have j3 : (((K : Int) + (k : Int)) / 8).toNat = (K + k) / 8 := by omega
                    go_region
                    clear j0 j1 j2 j3
                    have O2 := Lib.hid (own_put HO2.out ((K + k) / 8) (cc ^^^ bit8 ((K + k) % 8)) _ (flip_int cc _ (Nat.mod_lt _ (by decide))))
                    have D2 := Lib.hid ((C2.out.setCell (p := ⟨g2, (K + k) / 8, none⟩) hg21 (.int .u8 (bits .xor .u8 (cc.toNat : Int) (2 ^ ((K + k) % 8) % 256)))).drew)
                    go_wp2_with fail
                    go_roundw
                    case rel => exact ⟨k + 1, _, by omega, by go_num, BU1.out, by rw [HP.out]; exact O2.out, D2.out⟩
                    case measure => simp [intOf]; omega
                  · have ht : (((B.toNat : Int) / 2 ^ k).tmod 2 == 1) = false := by rw [bit_int]; simpa using hbit
                    have BU1 := Lib.hid (BU.out.no hlt (by simpa using hbit)); clear hbit
                    go_wp2_with fail
                    go_roundw
                    case rel => exact ⟨k + 1, _, by omega, by go_num, BU1.out, HO2.out, C2.out⟩
                    case measure => simp [intOf]; omega
                · go_wp2_with fail
                  go_meet
                  exact ⟨k, z, BU.out, HO2.out, C2.out⟩
              · go_wp2_with fail
                go_meet
                exact ⟨k, z, BU.out, HO2.out, C2.out⟩
          case rest =>
            clear HO2 C2
            obtain ⟨k, z, hbu, hown, hbel⟩ := hcut
            obtain ⟨wy, rfl⟩ : ∃ wy : World, wy = wc := ⟨_, rfl⟩
            have BU := Lib.hid hbu; clear hbu
            have HO2 := Lib.hid hown; clear hown
            have C2 := Lib.hid hbel; clear hbel
            have HO1 := Lib.hid (own_later HO.out C2.out (Nat.le_refl _))
            have B2 := Lib.hid (B1.out.trans (C2.out.mono (by rw [HH.out]; exact h2H)))
            clear HO B1
            go_upto_region 23 with (fail)
            go_cut [140] (fun s140 wx => s140 = .bool false ∧ wx.ownsRow (w.heap.size + 2) 5 1 (.slice (some ⟨g, 0, none⟩) b.length cap9) b.length (bvs y) ∧ Below (w.heap.size + 2) W1 wx)
            case first =>
              have HZz := own_bytes HO2.out
              have HBy2 := HBy1.out.below B2.out HSZ.out.symm
              have cv1 := conv_bytes (P := Try.prog) HZz 24 5 9 Try.underlying24 Try.underlying5 Try.underlying9 b.length cap12 BU.out.len.symm
              have cv2 := conv_bytes (P := Try.prog) HBy2 24 5 9 Try.underlying24 Try.underlying5 Try.underlying9 b.length c0 rfl
              have Zz := Lib.hid HZz; clear HZz
              have By2 := Lib.hid HBy2; clear HBy2
              by_cases hyb : z = b
              · subst hyb
                go_wp2_with fail
                go_meet
                exact ⟨rfl, HO1.out, B2.out⟩
              · have HNE : Hid (Crc.sum z ≠ Crc.sum b) := Lib.hid (fun h => hyb (BU.out.sums h))
                go_wp2_with fail
                refine (crc_Sum [z] _ _ _ _ (ListsAt.one _ 24 (0, 0) _ _ _ z Zz.out BU.out.len.symm (by have := BU.out.len; omega)) rfl (by simp)).mono ?_
                rintro e w3 ⟨rfl, hb⟩
                have B3 := Lib.hid (B2.out.trans (((below_new wy _).trans (hb.mono (by simp))).mono (Nat.le_trans (Nat.le_of_eq HSZ.out.symm) B2.out.size)))
                have By3 := Lib.hid (HBy1.out.below B3.out HSZ.out.symm)
                have HO3 := Lib.hid (own_later HO1.out ((below_new wy _).trans (hb.mono (by simp))) (Nat.le_refl _))
                clear hb
                go_wp2_with fail
                refine (crc_Sum [b] _ _ _ _ (ListsAt.one _ 24 (0, 0) _ _ _ b By3.out rfl (by omega)) rfl (by simp)).mono ?_
                rintro e w4 ⟨rfl, hb⟩
                have B4 := Lib.hid (B3.out.trans (((below_new w3 _).trans (hb.mono (by simp))).mono (Nat.le_trans (Nat.le_of_eq HSZ.out.symm) B3.out.size)))
                have HO4 := Lib.hid (own_later HO3.out ((below_new w3 _).trans (hb.mono (by simp))) (Nat.le_refl _))
                clear hb
                have hne2 : (((Crc.sum z).toNat : Int) == ((Crc.sum b).toNat : Int)) = false := by rw [eq_int, beq_eq_false_iff_ne]; exact HNE.out
                simp only [List.flatten_cons, List.flatten_nil, List.append_nil]
                generalize (Crc.sum z).toNat = sy at *
                generalize (Crc.sum b).toNat = sb at *
                go_wp2_with fail
                go_meet
                exact ⟨rfl, HO4.out, B4.out⟩
            case rest =>
              clear HO1 B2 HO2 C2
              obtain ⟨rfl, hown, hbel⟩ := hcut
              obtain ⟨wx, rfl⟩ : ∃ wx : World, wx = wc := ⟨_, rfl⟩
              have HO := Lib.hid hown; clear hown
              have B1 := Lib.hid hbel; clear hbel
              clear hgH h2H HH BU hK hK1 hne hg21 hg22 hg23 hg24
              go_upto_region 26 with (refine wpList_make_full _ rfl _ _ 24 rfl wx.heap.size 5 i0 (.int .u8 0) 1 Try.underlying24 I.out HZ0.out HZ1.out _ _ _ _ b.length rfl rfl rfl rfl (by rw [HZ2.out]; omega) (by unfold maxLen; omega) (Nat.le_refl _) ?_; intro w5 hown5 hgrow5)
              rw [made_bytes, ← fill_zero (fun j => c[j]?.getD 0)] at hown5
              have HZR := Lib.hid hown5; clear hown5
              have D5 : Hid (Below wx.heap.size wx w5) := Lib.hid ((Below.refl _ _).grown hgrow5 (Nat.le_refl _) (fun k h => by cases h)); clear hgrow5
              have hWX : w.heap.size + 2 ≤ wx.heap.size := Nat.le_trans (Nat.le_of_eq HSZ.out.symm) B1.out.size
              have HWX := Lib.hid hWX; clear hWX
              have hgx := (HO.out.lt g rfl).2
              generalize hgz : wx.heap.size = gz at *
              have HGZ := Lib.hid hgz; clear hgz
              go_wp2_with fail
              go_loopw [16] (fun i wr => ∃ k : Nat, k ≤ b.length ∧ i = .int .i64 k ∧ wr.ownsRow gz 5 1 (.slice (some ⟨gz, 0, none⟩) b.length b.length) b.length (bvs (fillTo (fun j => c[j]?.getD 0) b.length k)) ∧ Below gz wx wr) (fun i _ => b.length - (intOf i).toNat)
              case atStart => exact ⟨0, by omega, rfl, HZR.out, D5.out⟩
              case round =>
                clear HZR D5
                obtain ⟨k, hk, rfl, hown, hbel⟩ := hrel
                have HZR := Lib.hid hown; clear hown
                have D5 := Lib.hid hbel; clear hbel
                by_cases hlt : k < b.length
                · by_cases hkc : k < c.length
                  · --<<
                    obtain ⟨bc, oc, rfl, hcc⟩ := (HCy1.out.below (B1.out.trans (D5.out.mono HWX.out)) HSZ.out.symm) k hkc
                    obtain ⟨hcell, hfree⟩ := own_byte HZR.out k (by rw [fill_length]; exact hlt)
                    have HP : Hid ((fillTo (fun j => c[j]?.getD 0) b.length k).set k c[k] = fillTo (fun j => c[j]?.getD 0) b.length (k + 1)) := Lib.hid (by
                      rw [← fill_set _ _ _ hlt]
                      congr 1
                      simp [hkc])
                    have hcb := (c[k]).toNat_lt
                    generalize (fillTo (fun j => c[j]?.getD 0) b.length k)[k]'_ = old at *
                    generalize c[k] = cc at *
                    go_wp2_with fail
                    go_roundw
                    case rel => exact ⟨k + 1, by omega, by go_num, by rw [← HP.out]; exact own_put HZR.out k cc _ rfl, D5.out.setCell (Nat.le_refl _) _⟩
                    case measure => simp [intOf]; omega
                  · have HP : Hid (fillTo (fun j => c[j]?.getD 0) b.length k = fillTo (fun j => c[j]?.getD 0) b.length (k + 1)) := Lib.hid (fill_same _ _ _ (by
                      show c[k]?.getD 0 = 0
                      rw [List.getElem?_eq_none (by omega)]; rfl))
                    go_wp2_with fail
                    go_roundw
                    case rel => exact ⟨k + 1, by omega, by go_num, by rw [← HP.out]; exact HZR.out, D5.out⟩
                    case measure => simp [intOf]; omega
                · obtain rfl : k = b.length := by omega
                  obtain ⟨z, hz⟩ : ∃ z, fillTo (fun j => c[j]?.getD 0) b.length b.length = z := ⟨_, rfl⟩
                  have hzl : z.length = b.length := by rw [← hz, fill_length]
                  rw [hz] at HZR
                  have HZL := Lib.hid hzl; clear hzl hz
                  obtain ⟨wv, rfl⟩ : ∃ wv : World, wv = wr := ⟨_, rfl⟩
                  go_upto_region 32 with (refine wpList_make_full _ rfl _ _ 24 rfl wv.heap.size 5 i0 (.int .u8 0) 1 Try.underlying24 I.out HZ0.out HZ1.out _ _ _ _ b.length rfl rfl rfl rfl (by rw [HZ2.out]; omega) (by unfold maxLen; omega) (Nat.le_refl _) ?_; intro w6 hown6 hgrow6)
                  rw [made_bytes, ← fill_zero (fun j => (xor3 b y z)[j]?.getD 0)] at hown6
                  have HW := Lib.hid hown6; clear hown6
                  have D6 : Hid (Below wv.heap.size wv w6) := Lib.hid ((Below.refl _ _).grown hgrow6 (Nat.le_refl _) (fun k h => by cases h)); clear hgrow6
                  have hgzv := (HZR.out.lt gz rfl).2
                  have hgv : g < wv.heap.size := Nat.lt_of_lt_of_le hgx (Nat.le_of_lt hgzv)
                  have HOv := Lib.hid (own_later HO.out D5.out (Nat.le_of_eq HGZ.out))
                  have BV := Lib.hid (B1.out.trans (D5.out.mono HWX.out))
                  have hv2 : w.heap.size + 2 ≤ wv.heap.size := Nat.le_trans (Nat.le_of_eq HSZ.out.symm) BV.out.size
                  have HV2 := Lib.hid hv2; clear hv2
                  clear D5 HO B1 hgx
                  generalize hgw : wv.heap.size = gw at *
                  have HGW := Lib.hid hgw; clear hgw
                  go_wp2_with fail
                  go_loopw [18] (fun i wr => ∃ k : Nat, k ≤ b.length ∧ i = .int .i64 k ∧ wr.ownsRow gw 5 1 (.slice (some ⟨gw, 0, none⟩) b.length b.length) b.length (bvs (fillTo (fun j => (xor3 b y z)[j]?.getD 0) b.length k)) ∧ Below gw wv wr) (fun i _ => b.length - (intOf i).toNat)
                  case atStart => exact ⟨0, by omega, rfl, HW.out, D6.out⟩
                  case round =>
                    clear HW D6
                    obtain ⟨k, hk, rfl, hown, hbel⟩ := hrel
                    have HW := Lib.hid hown; clear hown
                    have D6 := Lib.hid hbel; clear hbel
                    by_cases hlt : k < b.length
                    · --<<
                      have hky : k < y.length := by rw [HYL.out]; exact hlt
                      have hkz : k < z.length := by rw [HZL.out]; exact hlt
                      obtain ⟨bb, ob, rfl, hcb⟩ := (HBy1.out.below (BV.out.trans (D6.out.mono HV2.out)) HSZ.out.symm) k hlt
                      obtain ⟨hcx, _⟩ := own_byte (own_later HOv.out D6.out (Nat.le_of_eq HGW.out)) k hky
                      obtain ⟨hcz, _⟩ := own_byte (own_later HZR.out D6.out (Nat.le_of_eq HGW.out)) k hkz
                      obtain ⟨hcw, hfw⟩ := own_byte HW.out k (by rw [fill_length]; exact hlt)
                      have HX := xor3_get b y z k hlt hky hkz
                      have HP : Hid ((fillTo (fun j => (xor3 b y z)[j]?.getD 0) b.length k).set k (b[k] ^^^ y[k] ^^^ z[k]) = fillTo (fun j => (xor3 b y z)[j]?.getD 0) b.length (k + 1)) := Lib.hid (by
                        rw [← fill_set _ _ _ hlt, ← HX])
                      clear HX
                      have e1 := xor_bytes_int b[k] y[k]
                      have e2 := xor_bytes_int (b[k] ^^^ y[k]) z[k]
                      have l1 := (b[k]).toNat_lt
                      have l2 := (y[k]).toNat_lt
                      have l3 := (z[k]).toNat_lt
                      have l4 := (b[k] ^^^ y[k]).toNat_lt
                      have l5 := (b[k] ^^^ y[k] ^^^ z[k]).toNat_lt
                      generalize b[k] ^^^ y[k] ^^^ z[k] = x3 at *
                      generalize b[k] ^^^ y[k] = x2 at *
                      generalize (fillTo (fun j => (xor3 b y z)[j]?.getD 0) b.length k)[k]'_ = old at *
                      generalize b[k] = cb at *
                      generalize y[k] = cy at *
                      generalize z[k] = cz at *
                      have hk0 : (0 : Int) ≤ (k : Int) := by omega
                      have hk1 : (k : Int) < (b.length : Int) := by omega
                      go_wp2_with fail
                      go_region
                      clear e1 e2
                      go_wp2_with fail
                      go_roundw
                      case rel => exact ⟨k + 1, by omega, by go_num, by rw [← HP.out]; exact own_put HW.out k x3 _ rfl, (D6.out.setCell (Nat.le_refl _) _).drew⟩
                      case measure => simp [intOf]; omega
                    · obtain rfl : k = b.length := by omega
                      have HX : fillTo (fun j => (xor3 b y z)[j]?.getD 0) b.length b.length = xor3 b y z := by
                        have hl : (xor3 b y z).length = b.length := by unfold xor3; simp [HYL.out, HZL.out]
                        have := fill_all (fun j => (xor3 b y z)[j]?.getD 0) (xor3 b y z) (fun i hi => by simp [hi])
                        rwa [hl] at this
                      rw [HX] at HW
                      clear HX
                      have HXL : Hid ((xor3 b y z).length = b.length) := Lib.hid (by unfold xor3; simp [HYL.out, HZL.out])
                      have HSUM := Lib.hid (sum_xor3 b y z HYL.out.symm HZL.out.symm)
                      have HOw := Lib.hid (own_later HOv.out D6.out (Nat.le_of_eq HGW.out))
                      have HZw := Lib.hid (own_later HZR.out D6.out (Nat.le_of_eq HGW.out))
                      have BW := Lib.hid (BV.out.trans (D6.out.mono HV2.out))
                      generalize xor3 b y z = x3 at *
                      clear HOv HZR BV D6
                      obtain ⟨wt, rfl⟩ : ∃ wt : World, wt = wr := ⟨_, rfl⟩
                      go_wp2_with fail
                      refine (crc_Sum [b] _ _ _ _ (ListsAt.one _ 24 (0, 0) _ _ _ b (HBy1.out.below BW.out HSZ.out.symm) rfl (by omega)) rfl (by simp)).mono ?_
                      rintro e wa ⟨rfl, hb⟩
                      have E1 := Lib.hid ((below_new wt _).trans (hb.mono (by simp))); clear hb
                      go_wp2_with fail
                      refine (crc_Sum [y] _ _ _ _ (ListsAt.one _ 24 (0, 0) _ _ _ y (own_bytes (own_later HOw.out E1.out (Nat.le_refl _))) HYL.out.symm (by have := HYL.out; omega)) rfl (by simp)).mono ?_
                      rintro e wb ⟨rfl, hb⟩
                      have E2 := Lib.hid (E1.out.trans (((below_new wa _).trans (hb.mono (by simp))).mono E1.out.size)); clear hb E1
                      simp only [List.flatten_cons, List.flatten_nil, List.append_nil]
                      have x1 := xor_int (Crc.sum b) (Crc.sum y)
                      have x2 := xor_int (Crc.sum b ^^^ Crc.sum y) (Crc.sum z)
                      rw [HSUM.out] at x2
                      have l1 := (Crc.sum b).isLt
                      have l2 := (Crc.sum y).isLt
                      have l3 := (Crc.sum z).isLt
                      have l4 := (Crc.sum b ^^^ Crc.sum y).isLt
                      generalize Crc.sum b ^^^ Crc.sum y = s12 at *
                      go_wp2_with fail
                      refine (crc_Sum [z] _ _ _ _ (ListsAt.one _ 24 (0, 0) _ _ _ z (own_bytes (own_later HZw.out E2.out (Nat.le_refl _))) HZL.out.symm (by have := HZL.out; omega)) rfl (by simp)).mono ?_
                      rintro e wd ⟨rfl, hb⟩
                      have E3 := Lib.hid (E2.out.trans (((below_new wb _).trans (hb.mono (by simp))).mono E2.out.size)); clear hb E2
                      simp only [List.flatten_cons, List.flatten_nil, List.append_nil]
                      go_wp2_with fail
                      refine (crc_Sum [x3] _ _ _ _ (ListsAt.one _ 24 (0, 0) _ _ _ x3 (own_bytes (own_later HW.out E3.out (Nat.le_refl _))) HXL.out.symm (by have := HXL.out; omega)) rfl (by simp)).mono ?_
                      rintro e we ⟨rfl, hb⟩
                      have E4 := Lib.hid (E3.out.trans (((below_new wd _).trans (hb.mono (by simp))).mono E3.out.size)); clear hb E3
                      simp only [List.flatten_cons, List.flatten_nil, List.append_nil]
                      go_wp2_with fail
                      refine (crc_known _).mono ?_
                      rintro e wf ⟨rfl, hb⟩
                      have E5 := Lib.hid (E4.out.trans (hb.mono E4.out.size)); clear hb E4
                      go_wp2_with fail
                      go_ret
                      have hfin : Below w.heap.size w wf := HB.out.trans ((BW.out.trans (E5.out.mono (Nat.le_trans (Nat.le_of_eq HSZ.out.symm) BW.out.size))).mono (by omega))
                      exact ⟨rfl, hfin⟩
end Go.Proofs.Ytfjgdajnjeelmaa
