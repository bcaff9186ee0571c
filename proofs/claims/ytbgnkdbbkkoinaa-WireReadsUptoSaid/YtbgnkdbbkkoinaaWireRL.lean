/- The walk of the law WireReads. -/
import Derived.Test.YtbgnkdbbkkoinaaWireS
import Derived.Test.YtbgnkdbbkkoinaaPairs
namespace Go.Proofs.Ytbgnkdbbkkoinaa
open Go.RowKit Wire
theorem drew_below {w w' : World} {B : Nat} (h : ∃ q, w' = w.drewN q) : Below B w w' := by
  obtain ⟨q, rfl⟩ := h
  exact below_drews (Below.refl _ _) q
theorem RdAt.far {T : TypeId} {w w' : World} {g : Nat} {a : Option Addr} {cap : Nat} {l : List UInt8} {p C : Nat} {row : Option Nat} (h : RdAt T w g a cap l p) (hg : w.grownBy w' row) (hrow : ∀ k, row = some k → k < C) (hC : C ≤ g) (hb : ∀ ad, a = some ad → C ≤ ad.block) : RdAt T w' g a cap l p := by
  refine ⟨(hg.block g h.lt (fun e => by have := hrow _ e.symm; omega)).trans h.row, ?_, h.here, h.max, h.fits⟩
  intro i hi
  obtain ⟨b, off, e, hc⟩ := h.bytes i hi
  exact ⟨b, off, e, hg.cell hc (fun e' => by have h1 := hrow _ e'.symm; have h2 := hb _ e; simp at h1 h2; omega)⟩
set_option maxRecDepth 100000 in
set_option maxHeartbeats 1000000 in
theorem reads_walk (b : List UInt8) (a0 : Option Addr) (cap0 : Nat) (os : List (Int × Int)) (a1 : Option Addr) (cap1 : Nat) (w : World) (hb : BytesAt w a0 b) (hbl : b.length ≤ 1048576) (hcap : b.length ≤ cap0) (ho : PairsAt .i64 w a1 os) (hol : os.length ≤ 1048576)
    (how : ∀ y ∈ os, -9223372036854775808 ≤ y.2 ∧ y.2 ≤ 9223372036854775807) :
    Calls Try.prog 6 #[.slice a0 b.length cap0, .slice a1 os.length cap1] w fun e w' => e = .returned (.bool true) ∧ Below w.heap.size w w' := by
  have BT := Lib.hid byteT
  have HB := Lib.hid hb; clear hb
  have HO := Lib.hid ho; clear ho
  have HOW := Lib.hid how; clear how
  go_enter Try.func6, Try.ntmps6
  go_wp2_with (first
    | (at_builtin; refine wpList_appb rfl _ _ 23 23 rfl w.heap.size 5 BT.out (.slice none 0 0) [] rfl (World.ownsRow_nil _ _ _ _) _ b rfl (HB.out.src Try.underlying23 cap0) (by simp; omega) (Nat.le_refl _) ?_; intro v1 w1 hown1 _ hb1 _; have HO1 := Lib.hid hown1; have HB1 := Lib.hid hb1; clear hown1 hb1)
    | (at_builtin; refine wpList_appb rfl _ _ 23 23 rfl w.heap.size 5 BT.out v1 b rfl (HO1.out.alloc _) _ [165] rfl (src_one Try.underlying23 w1 5 165 _ rfl) (by simp; omega) (by have := HB1.out.size; simp; omega) ?_; intro v2 w2 hown2 _ hb2 _; obtain ⟨gm, capm, rfl, hgm, hgl, hcm, _⟩ := own_form hown2 (by simp); have HO2 := Lib.hid hown2; have HB2 := Lib.hid hb2; clear hown2 hb2; have hcm1 : b.length ≤ capm := by simp at hcm; omega))
  have HM2 : Hid (BytesAt w2 (some ⟨gm, 0, none⟩) (b ++ [165])) := Lib.hid (own_bytes HO2.out)
  have HD2 : Hid (Below w.heap.size w w2) := Lib.hid ((HB1.out.trans ((Below.refl _ _).alloc HB1.out.size _)).trans HB2.out)
  have HGM : Hid (gm < w2.heap.size ∧ w.heap.size ≤ gm) := Lib.hid ⟨hgl, hgm⟩
  clear hgm hgl hcm HB1 HB2 HO1
  refine (rd_Open b _ _ _ _ (by have := HM2.out.take b.length; rw [List.take_left] at this; exact this) rfl (by omega)).mono ?_
  rintro e w3 ⟨g, ad, cap, rfl, hg, hr, hb, hab⟩
  have HR3 := Lib.hid hr; clear hr
  have HG := Lib.hid hg; clear hg
  have HAB := Lib.hid hab; clear hab
  have HD3 : Hid (Below w.heap.size w w3) := Lib.hid (HD2.out.trans (hb.mono HD2.out.size))
  have HO3 := Lib.hid (own_later HO2.out hb (Nat.le_refl _))
  have s1 := (HM2.out.below hb rfl).str (b.length + 1) capm (by simp)
  have s2 := (HB.out.below HD3.out rfl).str b.length cap0 rfl
  clear hb HM2
  have hcat : (⟨b.toArray⟩ : ByteArray) ++ (⟨#[165]⟩ : ByteArray) = ⟨(b ++ [165]).toArray⟩ := by apply ByteArray.ext; simp
  go_wp2_with fail
  clear s1 s2 hcat
  have HL1 : Hid ((b ++ [165]).length = b.length + 1) := Lib.hid (by simp)
  have HO4 := HO3.out
  rw [HL1.out] at HO4
  refine (spoil_own (b ++ [165]) _ _ w.heap.size (by rw [HL1.out]; exact HO4) (by rw [HL1.out]; omega)).mono ?_
  rintro e w4 ⟨rfl, hgr⟩
  have HR4 := Lib.hid (HR3.out.far hgr (C := w2.heap.size) (fun k hk => by simp [Value.ownBlock] at hk; have := HGM.out; omega) HG.out (fun ad' e => by cases e; exact HAB.out))
  have HD4 : Hid (Below w.heap.size w w4) := Lib.hid (HD3.out.grown hgr HD3.out.size (fun k hk => by simp [Value.ownBlock] at hk; have := HGM.out; omega))
  have HS4 : Hid (w3.heap.size ≤ w4.heap.size) := Lib.hid hgr.size
  clear hgr HO4 HR3 HO3
  go_wp2_with fail
  have HX5 := Lib.hid (heap_alloc_new w4 (.cells #[.slice a0 b.length cap0, .int .i64 0] 61))
  have HB5 : Hid (Below w4.heap.size w4 (w4.alloc (.cells #[.slice a0 b.length cap0, .int .i64 0] 61))) := Lib.hid (below_new _ _)
  have HS5 : Hid ((w4.alloc (.cells #[.slice a0 b.length cap0, .int .i64 0] 61)).heap.size = w4.heap.size + 1) := Lib.hid (by simp)
  generalize w4.alloc (.cells #[.slice a0 b.length cap0, .int .i64 0] 61) = w5 at *
  have HD5 : Hid (Below w.heap.size w w5) := Lib.hid (HD4.out.trans (HB5.out.mono HD4.out.size))
  have HT : Hid (Two w5 w5.heap.size g w4.heap.size ad cap a0 cap0 b 0) := Lib.hid (by
    have hg := HR4.out.lt
    have h5 := HS5.out
    refine ⟨HR4.out.below HB5.out, ⟨HX5.out, HB.out.below HD5.out rfl, Nat.zero_le _, by omega, hcap⟩, by omega, by omega, by omega, fun i hi => ?_, fun i hi => ?_⟩
    · obtain ⟨b', off, e, hc⟩ := HR4.out.bytes i hi
      have h6 : b' < w4.heap.size := cell_lt hc
      exact ⟨b', off, e, by omega⟩
    · obtain ⟨b', off, e, hc⟩ := HB.out i hi
      have h6 : b' < w.heap.size := cell_lt hc
      have := HD4.out.size
      exact ⟨b', off, e, by omega⟩)
  have HGD : Hid (w.heap.size ≤ g ∧ w.heap.size ≤ w4.heap.size) := Lib.hid ⟨Nat.le_trans HD2.out.size HG.out, HD4.out.size⟩
  generalize w4.heap.size = d at *
  clear HX5 HB5 HS5 HR4 HD4 HS4 HAB HG HGM
  go_loopw [8] (fun i wr => ∃ k q : Nat, k ≤ os.length ∧ i = .int .i64 (k : Int) ∧ Two wr w5.heap.size g d ad cap a0 cap0 b q ∧ Kept g d w5 wr) (fun i _ => os.length - (intOf i).toNat)
  case atStart => exact ⟨0, 0, Nat.zero_le _, rfl, HT.out, Kept.refl _⟩
  case round =>
    obtain ⟨k, q, hk, rfl, ht, hkk⟩ := hrel
    have HTT := Lib.hid ht; clear ht
    have HKK := Lib.hid hkk; clear hkk
    have HDr : Hid (Below w.heap.size w wr) := Lib.hid (HD5.out.trans (HKK.out _ HGD.out.1 HGD.out.2 HD5.out.size))
    by_cases hlt : k < os.length ∧ k < 300
    · obtain ⟨hlt, hlt3⟩ := hlt
      obtain ⟨b1, off1, rfl, c0, c1⟩ := HO.out.below HDr.out rfl k hlt
      have HM := Lib.hid (HOW.out _ (List.getElem_mem hlt))
      generalize os[k] = o at *
      obtain ⟨K, M⟩ := o
      simp only at c0 c1 HM
      have hi0 : (0 : Int) ≤ (k : Int) := by omega
      have hi1 : (k : Int) < (os.length : Int) := by omega
      go_wp2_with fail
      refine (step_ok K M HM.out.1 HM.out.2 hbl HTT.out (HKK.out _ (Nat.zero_le _) (Nat.zero_le _) (Nat.zero_le _)).size).mono ?_
      rintro e w6 ⟨rfl, ⟨q', ht⟩, hkk⟩
      have HT6 := Lib.hid ht; clear ht
      have HK6 := Lib.hid (HKK.out.trans hkk); clear hkk
      clear c0 c1 hi0 hi1
      have hq := HT6.out.r.here
      by_cases hql : q' < b.length
      · obtain ⟨left, hle, hl0⟩ : ∃ left : Nat, Hid (left = b.length - q') ∧ 0 < left := ⟨_, Lib.hid rfl, by omega⟩
        go_wp2_with fail
        refine (rd_Left HT6.out.r).mono ?_
        rintro e y1 ⟨rfl, hq1⟩
        rw [← hle.out]
        have HT7 := Lib.hid (HT6.out.past (drew_below hq1)); have HQ1 := Lib.hid hq1; clear hq1
        go_wp2_with fail
        refine (d_Left HT7.out.rr).mono ?_
        rintro e y2 ⟨rfl, hq2⟩
        rw [← hle.out]
        have HT8 := Lib.hid (HT7.out.past (drew_below hq2)); have HQ2 := Lib.hid hq2; clear hq2
        go_wp2_with fail
        refine (rd_End HT8.out.r).mono ?_
        rintro e y3 ⟨rfl, hq3⟩
        rw [if_pos hql]
        have HT9 := Lib.hid (HT8.out.past (drew_below hq3)); have HQ3 := Lib.hid hq3; clear hq3
        go_wp2_with fail
        refine (num_any 4 _).mono ?_
        rintro e w7 ⟨rfl, rfl⟩
        go_wp2_with fail
        refine (d_Left HT9.out.rr).mono ?_
        rintro e y4 ⟨rfl, hq4⟩
        rw [← hle.out]
        have HT10 := Lib.hid (HT9.out.past (drew_below hq4)); have HQ4 := Lib.hid hq4; clear hq4
        have hne : ((left : Int) == 0) = false := by simp; omega
        have HK10 : Hid (Kept g d w5 y4) := Lib.hid ((((HK6.out.trans (Kept.below (drew_below HQ1.out))).trans (Kept.below (drew_below HQ2.out))).trans (Kept.below (drew_below HQ3.out))).trans (Kept.below (drew_below HQ4.out)))
        go_wp2_with fail
        go_roundw
        case rel => exact ⟨k + 1, q', by omega, by go_num, HT10.out, HK10.out⟩
        case measure => simp [intOf]; omega
      · obtain ⟨left, hle, hl0⟩ : ∃ left : Nat, Hid (left = b.length - q') ∧ left = 0 := ⟨_, Lib.hid rfl, by omega⟩
        subst hl0
        go_wp2_with fail
        refine (rd_Left HT6.out.r).mono ?_
        rintro e y1 ⟨rfl, hq1⟩
        rw [← hle.out]
        have HT7 := Lib.hid (HT6.out.past (drew_below hq1)); have HQ1 := Lib.hid hq1; clear hq1
        go_wp2_with fail
        refine (d_Left HT7.out.rr).mono ?_
        rintro e y2 ⟨rfl, hq2⟩
        rw [← hle.out]
        have HT8 := Lib.hid (HT7.out.past (drew_below hq2)); have HQ2 := Lib.hid hq2; clear hq2
        go_wp2_with fail
        refine (rd_End HT8.out.r).mono ?_
        rintro e y3 ⟨rfl, hq3⟩
        rw [if_neg hql]
        have HT9 := Lib.hid (HT8.out.past (drew_below hq3)); have HQ3 := Lib.hid hq3; clear hq3
        go_wp2_with fail
        refine (num_any 0 _).mono ?_
        rintro e w7 ⟨rfl, rfl⟩
        go_wp2_with fail
        refine (d_Left HT9.out.rr).mono ?_
        rintro e y4 ⟨rfl, hq4⟩
        rw [← hle.out]
        have HT10 := Lib.hid (HT9.out.past (drew_below hq4)); have HQ4 := Lib.hid hq4; clear hq4
        have HK10 : Hid (Kept g d w5 y4) := Lib.hid ((((HK6.out.trans (Kept.below (drew_below HQ1.out))).trans (Kept.below (drew_below HQ2.out))).trans (Kept.below (drew_below HQ3.out))).trans (Kept.below (drew_below HQ4.out)))
        go_wp2_with fail
        go_roundw
        case rel => exact ⟨k + 1, q', by omega, by go_num, HT10.out, HK10.out⟩
        case measure => simp [intOf]; omega
    · by_cases hk2 : k < os.length
      · have hk3 : ¬ k < 300 := by omega
        go_wp2_with fail
        refine (rd_known _).mono ?_
        rintro e w6 ⟨rfl, hb⟩
        go_wp2_with fail
        go_ret
        exact ⟨rfl, HDr.out.trans (hb.mono HDr.out.size)⟩
      · go_wp2_with fail
        refine (rd_known _).mono ?_
        rintro e w6 ⟨rfl, hb⟩
        go_wp2_with fail
        go_ret
        exact ⟨rfl, HDr.out.trans (hb.mono HDr.out.size)⟩
end Go.Proofs.Ytbgnkdbbkkoinaa

