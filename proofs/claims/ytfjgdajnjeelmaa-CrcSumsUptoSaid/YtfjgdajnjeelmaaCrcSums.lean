/- The walk of the law CrcSums, where the pieces have few bytes together. -/
import Derived.Test.YtfjgdajnjeelmaaCrcW7
import Derived.Test.YtfjgdajnjeelmaaCrcW2
namespace Go.Proofs.Ytfjgdajnjeelmaa
open Go.RowKit Crc
theorem info_u8 : (Try.prog.info? 5).map (fun i => (i.zero, i.size, i.bytes)) = some (some (.int .u8 0), 1, 1) := by kernel_rfl
theorem flatten_take_succ (ll : List (List UInt8)) (k : Nat) (h : k < ll.length) : (ll.take (k + 1)).flatten = (ll.take k).flatten ++ ll[k] := by
  rw [List.take_succ_eq_append_getElem h]; simp only [List.flatten_append, List.flatten_cons, List.flatten_nil, List.append_nil]
theorem flatten_take_le (ll : List (List UInt8)) (k : Nat) : (ll.take k).flatten.length ≤ ll.flatten.length := by
  conv => rhs; rw [← List.take_append_drop k ll]
  rw [List.flatten_append, List.length_append]; omega
theorem far_zeros (x : W) (m : Nat) : bits .xor .u32 ((Crc.far (~~~ x) m).toNat : Int) 4294967295 = ((Crc.zeros x m).toNat : Int) := not_int _
theorem drop_take_flatten (ll : List (List UInt8)) (k : Nat) (h : k < ll.length) : (ll.flatten.drop (ll.take k).flatten.length).take ll[k].length = ll[k] := by
  have e : ll.flatten = (ll.take k).flatten ++ (ll.drop k).flatten := by rw [← List.flatten_append, List.take_append_drop]
  rw [e, List.drop_left, List.drop_eq_getElem_cons h, List.flatten_cons, List.take_left]
set_option maxHeartbeats 1000000 in
theorem sums_walk (ll : List (List UInt8)) (a : Option Addr) (cap : Nat) (x : W) (n : Int) (w : World) (hl : ListsAt w a ll) (hlen : ll.length ≤ 1048576) (hsum : ll.flatten.length ≤ 1048576)
    (hn0 : -9223372036854775808 ≤ n) (hn : n ≤ 9223372036854775807) :
    Calls Try.prog 3 #[.slice a ll.length cap, .int .u32 x.toNat, .int .i64 n] w fun e w' => e = .returned (.bool true) ∧ Below w.heap.size w w' := by
  obtain ⟨i0, hi, hz0, hz1, hz2⟩ := info_parts info_u8
  have I := Lib.hid (show Try.prog.info? 5 = some i0 from hi); clear hi
  have HZ0 := Lib.hid hz0; clear hz0
  have HZ1 := Lib.hid hz1; clear hz1
  have HZ2 := Lib.hid hz2; clear hz2
  go_enter Try.func3, Try.ntmps3
  have HL := Lib.hid hl; clear hl
  go_wp2_with fail
  go_loopw [7, 8] (fun v i wr => ∃ k : Nat, k ≤ ll.length ∧ i = .int .i64 k ∧ wr.ownsRow w.heap.size 5 1 v (ll.take k).flatten.length (bvs (ll.take k).flatten) ∧ Below w.heap.size w wr) (fun _ i _ => ll.length - (intOf i).toNat)
  case atStart => exact ⟨0, by omega, rfl, own_new w _ 5 [] (Nat.le_refl _) (by simp), below_new _ _⟩
  case round =>
    obtain ⟨k, hk, rfl, hown, hb⟩ := hrel
    have HO := Lib.hid hown; clear hown
    have HB := Lib.hid hb; clear hb
    by_cases hlt : k < ll.length
    · obtain ⟨b, off, a', cap', rfl, hc, hla, hlm⟩ := (HL.out.below HB.out rfl) k hlt
      have HLA := Lib.hid hla; clear hla
      have HF := Lib.hid (flatten_take_succ ll k hlt)
      have h1 := flatten_take_le ll (k + 1)
      have HF1 : Hid ((ll.take (k + 1)).flatten.length = (ll.take k).flatten.length + ll[k].length) := Lib.hid (by rw [HF.out, List.length_append])
      have h2 : (ll.take k).flatten.length + ll[k].length ≤ 1048576 := by have := HF1.out; omega
      clear h1
      go_wp2_with (at_builtin; refine wpList_append_src _ rfl _ _ 24 24 rfl w.heap.size 5 i0 (.int .u8 0) 1 1 Try.underlying24 I.out HZ0.out HZ1.out HZ2.out rfl _ _ _ rfl HO.out _ _ _ rfl (HLA.out.src Try.underlying24 cap') (by unfold maxLen; omega) (by omega) HB.out.size ?_; intro v' w1 hown1 hgrow hat)
      have HO1 : Hid (w1.ownsRow w.heap.size 5 1 v' (ll.take (k + 1)).flatten.length (bvs (ll.take (k + 1)).flatten)) := Lib.hid (by rw [HF1.out, HF.out, bvs_append]; exact hown1)
      have HB1 := Lib.hid (below_grown HB.out HO.out hgrow HB.out.size (Nat.le_refl _))
      clear hown1 hgrow hat
      go_wp2_with fail
      go_roundw
      case rel => exact ⟨k + 1, by omega, by go_num, HO1.out, HB1.out⟩
      case measure => simp [intOf]; omega
    · obtain rfl : k = ll.length := by omega
      have e : ll.take ll.length = ll := List.take_length
      have HO' := HO.out
      rw [e] at HO'
      have HK := Lib.hid (flatten_take_le ll)
      generalize hA : ll.flatten = all at *
      have HA := Lib.hid hA; clear hA
      clear HO
      obtain ⟨a7, cap7, rfl, hle7, hcm7⟩ := own_slice HO'
      have HO := Lib.hid HO'; clear HO'
      have HAll := Lib.hid (own_bytes HO.out)
      by_cases hN : 100000 < all.length
      · go_wp2_with fail
        refine (crc_known _).mono ?_
        rintro e w1 ⟨rfl, hb⟩
        have HB1 := Lib.hid (HB.out.trans (hb.mono HB.out.size)); clear hb
        go_wp2_with fail
        go_ret
        exact ⟨rfl, HB1.out⟩
      · go_wp2_with fail
        refine (crc_Sum ll _ _ _ _ (HL.out.below HB.out rfl) rfl (by omega)).mono ?_
        rintro e w1 ⟨rfl, hb⟩
        rw [HA.out]
        have HAll1 := Lib.hid (HAll.out.below hb rfl)
        have HO1 := Lib.hid (own_later HO.out hb (Nat.le_refl _))
        have HB1 := Lib.hid (HB.out.trans (hb.mono HB.out.size)); clear hb HB HO HAll
        go_wp2_with fail
        refine (ref_Sum all _ _ _ _ HAll1.out rfl (by omega)).mono ?_
        rintro e w1 ⟨rfl, rfl⟩
        go_wp2_with fail
        refine (crc_More _ x all _ _ _ _ rfl HAll1.out rfl (by omega)).mono ?_
        rintro e w2 ⟨rfl, hb⟩
        have HAll2 := Lib.hid (HAll1.out.below hb rfl)
        have HO2 := Lib.hid (own_later HO1.out hb (Nat.le_refl _))
        have HB2 := Lib.hid (HB1.out.trans (hb.mono HB1.out.size)); clear hb HB1 HO1 HAll1
        go_wp2_with fail
        refine (ref_More _ x all _ _ _ _ rfl HAll2.out rfl (by omega)).mono ?_
        rintro e w2 ⟨rfl, rfl⟩
        go_wp2_with fail
        refine (crc_Holds _ (Crc.sum all) all _ _ _ _ rfl HAll2.out rfl (by omega)).mono ?_
        rintro e w3 ⟨rfl, hb⟩
        have HAll3 := Lib.hid (HAll2.out.below hb rfl)
        have HO3 := Lib.hid (own_later HO2.out hb (Nat.le_refl _))
        have HB3 := Lib.hid (HB2.out.trans (hb.mono HB2.out.size)); clear hb HB2 HO2 HAll2
        rw [show (Crc.sum all == Crc.sum all) = true from by simp]
        go_wp2_with fail
        refine (crc_Holds _ x all _ _ _ _ rfl HAll3.out rfl (by omega)).mono ?_
        rintro e w4 ⟨rfl, hb⟩
        have HAll4 := Lib.hid (HAll3.out.below hb rfl)
        have HO4 := Lib.hid (own_later HO3.out hb (Nat.le_refl _))
        have HB4 := Lib.hid (HB3.out.trans (hb.mono HB3.out.size)); clear hb HB3 HO3 HAll3
        have HE := eq_int x (Crc.sum all)
        rw [show (Crc.sum all == x) = (x == Crc.sum all) from BEq.comm]
        generalize (x == Crc.sum all) = bb at *
        go_wp2_with fail
        clear e hk hlt
        go_loopw [10, 11] (fun i o wr => ∃ k q : Nat, k ≤ ll.length ∧ i = .int .i64 k ∧ o = .int .i64 (ll.take k).flatten.length ∧ wr = w4.drewN q) (fun i _ _ => ll.length - (intOf i).toNat)
        case atStart => exact ⟨0, 0, by omega, rfl, rfl, rfl⟩
        case round =>
          obtain ⟨k, q, hk, rfl, rfl, rfl⟩ := hrel
          by_cases hlt : k < ll.length
          · obtain ⟨b, off, a', cap', rfl, hc, hla, hlm⟩ := (HL.out.below HB4.out rfl) k hlt
            have HF := Lib.hid (flatten_take_succ ll k hlt)
            have h1 := HK.out (k + 1)
            have HF1 : Hid ((ll.take (k + 1)).flatten.length = (ll.take k).flatten.length + ll[k].length) := Lib.hid (by rw [HF.out, List.length_append])
            have h2 : (ll.take k).flatten.length + ll[k].length ≤ all.length := by have := HF1.out; omega
            clear h1
            have c1 := fun q => conv_bytes (P := Try.prog) (w := w4.drewN q) (a := a') (l := ll[k]) hla 24 5 9 Try.underlying24 Try.underlying5 Try.underlying9 _ cap' rfl
            have HLA := Lib.hid hla; clear hla
            have HD := Lib.hid (drop_take_flatten ll k hlt)
            have c2 := fun q => conv_bytes (P := Try.prog) (w := w4.drewN q) (HAll4.out.sub cap7 (ll.take k).flatten.length ll[k].length h2 hle7) 24 5 9 Try.underlying24 Try.underlying5 Try.underlying9 ll[k].length (cap7 - (ll.take k).flatten.length) (by rw [List.length_take, List.length_drop]; omega)
            rw [← HA.out, HD.out] at c2
            unfold subAddr at c2
            clear HD
            generalize (ll.take k).flatten.length = o at *
            generalize ll[k] = l at *
            have hk0 : (0 : Int) ≤ (k : Int) := by omega
            have hk1 : (k : Int) < (ll.length : Int) := by omega
            have hw1 : IntKind.i64.wrap ((o : Int) + (l.length : Int)) = (o : Int) + (l.length : Int) := IntWalk.i64_in _ (by omega)
            have hw2 : (0 : Int) ≤ (o : Int) + (l.length : Int) := by omega
            have hw4 : (o : Int) + (l.length : Int) ≤ (cap7 : Int) := by omega
            have hw3 : ((o : Int) + (l.length : Int)).toNat = o + l.length := by omega
            go_wp2_with fail
            go_quiet (fail)
            clear hw1 hw2 hw3 hw4 c1 c2 hk0 hk1
            go_wp2_with fail
            go_roundw
            case rel => exact ⟨k + 1, _, by omega, by go_num, by rw [HF1.out]; go_num, rfl⟩
            case measure => simp [intOf]; omega
          · obtain rfl : k = ll.length := by omega
            have B5 := Lib.hid (below_drews HB4.out q)
            generalize w4.drewN q = w5 at *
            clear HAll4 HO4 HB4
            have hx := x.isLt
            by_cases hp : 0 < n
            · obtain ⟨m, E⟩ : ∃ m, Hid (n.toNat = m) := ⟨_, Lib.hid rfl⟩
              have E2 := E
              by_cases hbig : 500 < n
              · go_wp2_with fail
                refine (ref_Far _ (~~~ x) n _ (not_int x) (by omega)).mono ?_
                rintro e w6 ⟨rfl, hb⟩
                have B6 := Lib.hid (B5.out.trans (hb.mono B5.out.size)); clear hb B5
                rw [E.out]
                have HZ := far_zeros x m
                go_wp2_with fail
                refine (crc_Zeros _ n x _ rfl hn).mono ?_
                rintro e w7 ⟨rfl, hb⟩
                have B7 := Lib.hid (B6.out.trans (hb.mono B6.out.size)); clear hb B6
                rw [E2.out]
                go_wp2_with fail
                refine (crc_known _).mono ?_
                rintro e w8 ⟨rfl, hb⟩
                have B8 := Lib.hid (B7.out.trans (hb.mono B7.out.size)); clear hb B7
                go_wp2_with fail
                go_ret
                exact ⟨rfl, B8.out⟩
              · go_wp2_with fail
                refine (ref_Far _ (~~~ x) n _ (not_int x) (by omega)).mono ?_
                rintro e w6 ⟨rfl, hb⟩
                have B6 := Lib.hid (B5.out.trans (hb.mono B5.out.size)); clear hb B5
                rw [E.out]
                have HZ := far_zeros x m
                go_wp2_with fail
                refine (crc_Zeros _ n x _ rfl hn).mono ?_
                rintro e w7 ⟨rfl, hb⟩
                have B7 := Lib.hid (B6.out.trans (hb.mono B6.out.size)); clear hb B6
                rw [E2.out]
                go_wp2_with fail
                refine (ref_Zeros _ n x _ rfl hn).mono ?_
                rintro e w7 ⟨rfl, rfl⟩
                rw [E2.out]
                go_wp2_with fail
                refine (crc_known _).mono ?_
                rintro e w8 ⟨rfl, hb⟩
                have B8 := Lib.hid (B7.out.trans (hb.mono B7.out.size)); clear hb B7
                go_wp2_with fail
                go_ret
                exact ⟨rfl, B8.out⟩
            · obtain ⟨m, E⟩ : ∃ m, Hid ((0 : Int).toNat = m) := ⟨_, Lib.hid rfl⟩
              have E2 : Hid (n.toNat = m) := Lib.hid (by rw [← E.out]; omega)
              go_wp2_with fail
              refine (ref_Far _ (~~~ x) 0 _ (not_int x) (by omega)).mono ?_
              rintro e w6 ⟨rfl, hb⟩
              have B6 := Lib.hid (B5.out.trans (hb.mono B5.out.size)); clear hb B5
              rw [E.out]
              have HZ := far_zeros x m
              go_wp2_with fail
              refine (crc_Zeros _ n x _ rfl hn).mono ?_
              rintro e w7 ⟨rfl, hb⟩
              have B7 := Lib.hid (B6.out.trans (hb.mono B6.out.size)); clear hb B6
              rw [E2.out]
              go_wp2_with fail
              refine (ref_Zeros _ n x _ rfl hn).mono ?_
              rintro e w7 ⟨rfl, rfl⟩
              rw [E2.out]
              go_wp2_with fail
              refine (crc_known _).mono ?_
              rintro e w8 ⟨rfl, hb⟩
              have B8 := Lib.hid (B7.out.trans (hb.mono B7.out.size)); clear hb B7
              go_wp2_with fail
              go_ret
              exact ⟨rfl, B8.out⟩
end Go.Proofs.Ytfjgdajnjeelmaa
