/- Words, contracts and walks that the proof stands on (TgK TgR TgO TgI SmP SmQ). -/
import Derived.Deep.DeepMust
import Derived.MapKept
import Derived.Maps.Own
import Derived.OwnWalkIn
import Derived.RangeFuncRecord
import Derived.Scope
import Derived.Test.YtjlliohjeiclaaaGreatDoorKE1
import Derived.Test.YtjlliohjeiclaaaGreatDoorKE11
import Derived.Test.YtjlliohjeiclaaaGreatDoorKE13
import Derived.Test.YtjlliohjeiclaaaGreatDoorKE6
import Derived.WalkMore
import Derived.WideKeyEntry
namespace Go.Proofs.YtjlliohjeiclaaaGreatDoor
open Go.RowKit St Pm
def elO : Option Ev → Value
 | none => .tuple #[.agg #[.int .i64 0, .int .i64 0, .string ⟨#[]⟩, .int .i64 0, .int .i64 0, .string ⟨#[]⟩], .bool false]
 | some e => .tuple #[.agg #[.int .i64 e.1.g, .int .i64 e.1.r, .string e.1.l, .int .i64 e.1.n, .int .i64 e.1.i, .string e.2], .bool true]
theorem el_one6 (g r n i : Int) (l x : ByteArray) : (#[.int .i64 g, .int .i64 r, .string l, .int .i64 n, .int .i64 i, .string x] : Array Value).all (·.oneCell') = true := by simp [Value.oneCell']
theorem drop_two {L : List UInt8} {i : Nat} (h : i + 1 < L.length) : L.drop i = L.getD i 0 :: L.getD (i + 1) 0 :: L.drop (i + 2) ∧ L.drop (i + 1) = L.getD (i + 1) 0 :: L.drop (i + 2) := by
 have h1 : L.drop (i + 1) = L.getD (i + 1) 0 :: L.drop (i + 2) := by
  rw [List.drop_eq_getElem_cons h, List.getD_eq_getElem?_getD, List.getElem?_eq_getElem h]; rfl
 refine ⟨?_, h1⟩
 rw [List.drop_eq_getElem_cons (by omega), h1, List.getD_eq_getElem?_getD, List.getD_eq_getElem?_getD, List.getElem?_eq_getElem (by omega : i < L.length)]; rfl
theorem u8_zero {c : UInt8} (h : (c.toNat : Int) = 0) : c = 0 := UInt8.toNat_inj.1 (show c.toNat = 0 by omega)
theorem u8_one {c : UInt8} (h : (c.toNat : Int) = 1) : c = 1 := UInt8.toNat_inj.1 (show c.toNat = 1 by omega)
theorem decA_few {acc L : List UInt8} (h : L.length ≤ 1) : decA acc L = none := by
 match L, h with
 | [], _ => rw [decA]
 | [_], _ => rw [decA]
set_option maxRecDepth 100000 in
set_option maxHeartbeats 4000000 in
theorem ts_OfKey (k : ByteArray) (w : World) (hs : k.size ≤ 70368744177663) : Calls Tryz.prog 69 #[.string k] w fun e w' => e = .returned (elO (ofT k)) ∧ Below w.heap.size w w' := by
 have BT := Lib.hid u8T
 have E0 : Hid (decA [] k.data.toList = none → elO (ofT k) = .tuple #[.agg #[.int .i64 0, .int .i64 0, .string ⟨#[]⟩, .int .i64 0, .int .i64 0, .string ⟨#[]⟩], .bool false]) := Lib.hid (fun h => by unfold ofT; rw [h]; rfl)
 have E1 : Hid (∀ t r, decA [] k.data.toList = some (t, r) → ofK ⟨r.toArray⟩ = none → elO (ofT k) = .tuple #[.agg #[.int .i64 0, .int .i64 0, .string ⟨#[]⟩, .int .i64 0, .int .i64 0, .string ⟨#[]⟩], .bool false]) := Lib.hid (fun t r h h2 => by unfold ofT; rw [h]; simp only [h2]; rfl)
 have E2 : Hid (∀ t r s, decA [] k.data.toList = some (t, r) → ofK ⟨r.toArray⟩ = some s → ¬ t.length ≤ 256 → elO (ofT k) = .tuple #[.agg #[.int .i64 0, .int .i64 0, .string ⟨#[]⟩, .int .i64 0, .int .i64 0, .string ⟨#[]⟩], .bool false]) := Lib.hid (fun t r s h h2 h3 => by unfold ofT; rw [h]; simp only [h2]; rw [if_neg h3]; rfl)
 have E3 : Hid (∀ t r s, decA [] k.data.toList = some (t, r) → ofK ⟨r.toArray⟩ = some s → t.length ≤ 256 → elO (ofT k) = .tuple #[.agg #[.int .i64 s.g, .int .i64 s.r, .string s.l, .int .i64 s.n, .int .i64 s.i, .string ⟨t.toArray⟩], .bool true]) := Lib.hid (fun t r s h h2 h3 => by unfold ofT; rw [h]; simp only [h2]; rw [if_pos h3]; rfl)
 generalize elO (ofT k) = out at *
 have x1 := heap_alloc_new w (.cells #[.int .i64 0, .int .i64 0, .string ⟨#[]⟩, .int .i64 0, .int .i64 0, .string ⟨#[]⟩] 53)
 have b1 := below_new w (.cells #[.int .i64 0, .int .i64 0, .string ⟨#[]⟩, .int .i64 0, .int .i64 0, .string ⟨#[]⟩] 53)
 have hz : (w.alloc (.cells #[.int .i64 0, .int .i64 0, .string ⟨#[]⟩, .int .i64 0, .int .i64 0, .string ⟨#[]⟩] 53)).heap.size = w.heap.size + 1 := by simp
 go_enter Tryz.func69, Tryz.ntmps69
 go_upto_region 1 with (fail)
 generalize w.alloc (.cells #[.int .i64 0, .int .i64 0, .string ⟨#[]⟩, .int .i64 0, .int .i64 0, .string ⟨#[]⟩] 53) = W at *
 obtain ⟨z, hzz⟩ : ∃ z, w.heap.size = z := ⟨_, rfl⟩
 rw [hzz] at x1 b1 hz ⊢
 have X1 := Lib.hid x1
 have B1 := Lib.hid b1
 have HLK := Lib.hid (dlen k)
 clear x1 b1
 go_step3
 go_wp2_with fail
 go_step3
 go_wp2_with fail
 go_loopw [4, 5] (fun tv iv wr => ∃ (i : Nat) (T : List UInt8), iv = .int .i64 (i : Int) ∧ i ≤ k.size ∧ T.length ≤ i ∧ Hid (wr.ownsRow (z + 1) 5 1 tv T.length (bvs T)) ∧ Hid (Below (z + 1) W wr) ∧ Hid (decA T (k.data.toList.drop i) = decA [] k.data.toList)) (fun _ iv _ => k.size - (intOf iv).toNat)
 case atStart => exact ⟨0, [], rfl, Nat.zero_le _, Nat.le_refl _, Lib.hid ⟨rfl, Or.inl ⟨rfl, rfl⟩⟩, Lib.hid (Below.refl _ _), Lib.hid (by rw [List.drop_zero])⟩
 case round =>
  obtain ⟨i, T, rfl, hi, hTi, HO, HB, HD⟩ := hrel
  have hws : z + 1 ≤ wr.heap.size := by have := HB.out.size; omega
  have Y1 : Hid (wr.heap[z]? = some (.cells #[.int .i64 0, .int .i64 0, .string ⟨#[]⟩, .int .i64 0, .int .i64 0, .string ⟨#[]⟩] 53 (0, 0))) := Lib.hid ((HB.out.block z (by omega)).trans X1.out)
  have BW : Hid (Below z w wr) := Lib.hid (B1.out.trans (HB.out.mono (by omega)))
  by_cases hlt : i + 1 < k.size
  · have hlti : (i : Int) + 1 < (k.size : Int) := by omega
    have hLl : i + 1 < k.data.toList.length := by rw [HLK.out]; exact hlt
    obtain ⟨hd1, hd2⟩ := drop_two hLl
    have IX := Lib.hid (fun w' => ix_str (P := Tryz.prog) w' 9 Tryz.underlying9 k i (i : Int) rfl (by omega))
    have IY := Lib.hid (fun w' => ix_str (P := Tryz.prog) w' 9 Tryz.underlying9 k (i + 1) ((i : Int) + 1) (by omega) (by omega))
    obtain ⟨c, hc⟩ : ∃ c, k.data.toList.getD i 0 = c := ⟨_, rfl⟩
    obtain ⟨d, hd⟩ : ∃ d, k.data.toList.getD (i + 1) 0 = d := ⟨_, rfl⟩
    rw [hc, hd] at hd1
    rw [hd] at hd2
    rw [hc] at IX
    rw [hd] at IY
    have HD1 := Lib.hid hd1
    have HD2 := Lib.hid hd2
    clear hd1 hd2 hc hd hLl
    have hwi : IntKind.i64.wrap ((i : Int) + 1) = (i : Int) + 1 := by rw [IntKind.wrap_i64]; omega
    by_cases hc0 : c = 0
    · subst hc0
      rw [show (((0 : UInt8).toNat : Nat) : Int) = 0 from rfl] at IX
      have HDN := HD.out
      rw [HD1.out, decA, if_neg (by simp)] at HDN
      by_cases hd1 : d = 1
      · subst hd1
        rw [show (((1 : UInt8).toNat : Nat) : Int) = 1 from rfl] at IY
        rw [if_pos rfl] at HDN
        have HDM := Lib.hid HDN
        have ix := IX.out wr
        have iy := IY.out wr
        clear HDN
        go_wp2_with (at_builtin; go_must (refine wpList_appb rfl _ _ 113 113 rfl (z + 1) 5 BT.out _ T rfl (HO.out.alloc _) _ [0] rfl (src_one Tryz.underlying113 _ 5 0 _ (by rfl)) (by simp; omega) (by simp; omega) ?_); go_must (intro v6 w6 hown _ hbel _))
        have HO6 := Lib.hid hown
        have HB6 := Lib.hid ((HB.out.alloc (by simpa using hws) _).trans hbel)
        clear hown hbel ix iy
        go_wp2_with fail
        go_roundw
        case rel => exact ⟨i + 2, T ++ [0], by go_num, by omega, by simp; omega, HO6, HB6, HDM⟩
        case measure => simp [intOf]; omega
      · rw [if_neg hd1] at HDN
        have hd1i : ((d.toNat : Int) == 1) = false := by
         exact beq_eq_false_iff_ne.2 fun e => hd1 (u8_one e)
        by_cases hd0 : d = 0
        · subst hd0
          rw [show (((0 : UInt8).toNat : Nat) : Int) = 0 from rfl] at IY
          rw [if_pos rfl] at HDN
          have HDM := Lib.hid HDN.symm
          have SF := Lib.hid (fun w' => sl_from (P := Tryz.prog) w' 9 Tryz.underlying9 k (i + 2) ((i : Int) + 2) (by omega) (by omega))
          have hme : (k.extract (i + 2) k.size) = ⟨(k.data.toList.drop (i + 2)).toArray⟩ := key_ext (by
           have := dlen k
           simp [List.take_of_length_le])
          obtain ⟨m, hm⟩ : ∃ m, k.extract (i + 2) k.size = m := ⟨_, rfl⟩
          have hmz : m.size ≤ 9223372036854775807 := by have := ext_size k (i + 2) k.size; rw [hm] at this; omega
          rw [hm] at SF hme
          have HME := Lib.hid hme
          clear hme hm
          obtain ⟨ta, tc, htv, _⟩ := own_slice HO.out
          subst htv
          have BY := Lib.hid (own_bytes HO.out)
          have HTS : Hid ((⟨T.toArray⟩ : ByteArray).size = T.length) := Lib.hid (by simp [ByteArray.size])
          have hwj : IntKind.i64.wrap ((i : Int) + 2) = (i : Int) + 2 := by rw [IntKind.wrap_i64]; omega
          have ix := IX.out wr
          have iy := IY.out wr
          have sf := SF.out wr
          go_wp2_with fail
          refine (stp_OfKey m wr hmz).mono ?_
          rintro e w2 ⟨rfl, hb⟩
          have HB2 := Lib.hid hb
          have hws2 : z + 1 ≤ w2.heap.size := Nat.le_trans hws hb.size
          clear hb ix iy sf
          cases hok : ofK m with
          | none =>
           have EF := Lib.hid (E1.out _ _ HDM.out (by rw [← HME.out]; exact hok))
           simp only [stO]
           have YF : Hid ((w2.alloc (.cells #[.int .i64 0, .int .i64 0, .string ⟨#[]⟩, .int .i64 0, .int .i64 0] 43)).heap[z]? = some (.cells #[.int .i64 0, .int .i64 0, .string ⟨#[]⟩, .int .i64 0, .int .i64 0, .string ⟨#[]⟩] 53 (0, 0))) := Lib.hid (boxStays (boxStays Y1.out HB2.out) (below_new _ _))
           have BF : Hid (Below z w (w2.alloc (.cells #[.int .i64 0, .int .i64 0, .string ⟨#[]⟩, .int .i64 0, .int .i64 0] 43))) := Lib.hid ((BW.out.trans (HB2.out.mono (by omega))).alloc (by omega) _)
           clear hok
           go_wp2_with (refine wpList_store_row rfl 53 (.tmp 2) (.tmp 63) rfl z #[.int .i64 0, .int .i64 0, .string ⟨#[]⟩, .int .i64 0, .int .i64 0, .string ⟨#[]⟩] rfl rfl 53 _ YF.out (by kernel_rfl) rfl (el_one6 _ _ _ _ _ _) ?_)
           have Y := setRow_heap _ z _ #[.int .i64 0, .int .i64 0, .string ⟨#[]⟩, .int .i64 0, .int .i64 0, .string ⟨#[]⟩] _ _ YF.out
           have q0 := cell_of_row _ _ 0 _ _ _ Y
           have q1 := cell_of_row _ _ 1 _ _ _ Y
           have q2 := cell_of_row _ _ 2 _ _ _ Y
           have q3 := cell_of_row _ _ 3 _ _ _ Y
           have q4 := cell_of_row _ _ 4 _ _ _ Y
           have q5 := cell_of_row _ _ 5 _ _ _ Y
           try rw [Exit.noGoto_ret]
           try show bodyPost _ _ _ _ _ _
           refine bodyPost_ret (v := .tuple #[.agg #[.int .i64 0, .int .i64 0, .string ⟨#[]⟩, .int .i64 0, .int .i64 0, .string ⟨#[]⟩], .bool false]) (by simp [results, Tryz.results69, go_sem, q0, q1, q2, q3, q4, q5]) rfl ?_
           exact ⟨by rw [EF.out], by rw [hzz]; exact below_setRow BF.out (Nat.le_refl _) _⟩
          | some s =>
           have hok2 : ofK ⟨(k.data.toList.drop (i + 2)).toArray⟩ = some s := by rw [← HME.out]; exact hok
           have EE := Lib.hid (E2.out _ _ s HDM.out hok2)
           have EG := Lib.hid (E3.out _ _ s HDM.out hok2)
           simp only [stO, stA]
           have YF : Hid ((w2.alloc (.cells #[.int .i64 s.g, .int .i64 s.r, .string s.l, .int .i64 s.n, .int .i64 s.i] 43)).heap[z]? = some (.cells #[.int .i64 0, .int .i64 0, .string ⟨#[]⟩, .int .i64 0, .int .i64 0, .string ⟨#[]⟩] 53 (0, 0))) := Lib.hid (boxStays (boxStays Y1.out HB2.out) (below_new _ _))
           have BF : Hid (Below z w (w2.alloc (.cells #[.int .i64 s.g, .int .i64 s.r, .string s.l, .int .i64 s.n, .int .i64 s.i] 43))) := Lib.hid ((BW.out.trans (HB2.out.mono (by omega))).alloc (by omega) _)
           have hx3 := heap_alloc_new w2 (.cells #[.int .i64 s.g, .int .i64 s.r, .string s.l, .int .i64 s.n, .int .i64 s.i] 43)
           have hby := (BY.out.below HB2.out rfl).below (below_new w2 (.cells #[.int .i64 s.g, .int .i64 s.r, .string s.l, .int .i64 s.n, .int .i64 s.i] 43)) rfl
           clear hok hok2
           go_upto_region 6 with (fail)
           generalize w2.alloc (.cells #[.int .i64 s.g, .int .i64 s.r, .string s.l, .int .i64 s.n, .int .i64 s.i] 43) = w3 at *
           obtain ⟨y, hy⟩ : ∃ y, w2.heap.size = y := ⟨_, rfl⟩
           rw [hy] at hx3 ⊢
           have hcv : (convert 113 9 (.slice ta T.length tc)).run Tryz.prog w3 = .ok (.string ⟨T.toArray⟩) w3 := conv_bytes (P := Tryz.prog) (l := T) hby 113 5 9 Tryz.underlying113 Tryz.underlying5 Tryz.underlying9 T.length tc rfl
           go_wp2_with fail
           refine (ts_fits _ _).mono ?_
           rintro e _ ⟨rfl, rfl⟩
           by_cases hf : T.length ≤ 256
           · rw [decide_eq_true (by rw [HTS.out]; exact hf)]
             have EF := Lib.hid (EG.out hf)
             have s0 := cell_of_row _ _ 0 _ _ _ hx3
             have s1 := cell_of_row _ _ 1 _ _ _ hx3
             have s2 := cell_of_row _ _ 2 _ _ _ hx3
             have s3 := cell_of_row _ _ 3 _ _ _ hx3
             have s4 := cell_of_row _ _ 4 _ _ _ hx3
             clear hf
             go_wp2_with (refine wpList_store_row rfl 53 (.tmp 2) (.tmp 34) rfl z #[.int .i64 s.g, .int .i64 s.r, .string s.l, .int .i64 s.n, .int .i64 s.i, .string ⟨T.toArray⟩] rfl rfl 53 _ YF.out (by kernel_rfl) rfl (el_one6 _ _ _ _ _ _) ?_)
             have Y := setRow_heap _ z _ #[.int .i64 s.g, .int .i64 s.r, .string s.l, .int .i64 s.n, .int .i64 s.i, .string ⟨T.toArray⟩] _ _ YF.out
             have q0 := cell_of_row _ _ 0 _ _ _ Y
             have q1 := cell_of_row _ _ 1 _ _ _ Y
             have q2 := cell_of_row _ _ 2 _ _ _ Y
             have q3 := cell_of_row _ _ 3 _ _ _ Y
             have q4 := cell_of_row _ _ 4 _ _ _ Y
             have q5 := cell_of_row _ _ 5 _ _ _ Y
             try rw [Exit.noGoto_ret]
             try show bodyPost _ _ _ _ _ _
             refine bodyPost_ret (v := .tuple #[.agg #[.int .i64 s.g, .int .i64 s.r, .string s.l, .int .i64 s.n, .int .i64 s.i, .string ⟨T.toArray⟩], .bool true]) (by simp [results, Tryz.results69, go_sem, q0, q1, q2, q3, q4, q5]) rfl ?_
             exact ⟨by rw [EF.out], by rw [hzz]; exact below_setRow BF.out (Nat.le_refl _) _⟩
           · rw [decide_eq_false (by rw [HTS.out]; exact hf)]
             have EF := Lib.hid (EE.out hf)
             clear hf
             go_wp2_with (refine wpList_store_row rfl 53 (.tmp 2) (.tmp 63) rfl z #[.int .i64 0, .int .i64 0, .string ⟨#[]⟩, .int .i64 0, .int .i64 0, .string ⟨#[]⟩] rfl rfl 53 _ YF.out (by kernel_rfl) rfl (el_one6 _ _ _ _ _ _) ?_)
             have Y := setRow_heap _ z _ #[.int .i64 0, .int .i64 0, .string ⟨#[]⟩, .int .i64 0, .int .i64 0, .string ⟨#[]⟩] _ _ YF.out
             have q0 := cell_of_row _ _ 0 _ _ _ Y
             have q1 := cell_of_row _ _ 1 _ _ _ Y
             have q2 := cell_of_row _ _ 2 _ _ _ Y
             have q3 := cell_of_row _ _ 3 _ _ _ Y
             have q4 := cell_of_row _ _ 4 _ _ _ Y
             have q5 := cell_of_row _ _ 5 _ _ _ Y
             try rw [Exit.noGoto_ret]
             try show bodyPost _ _ _ _ _ _
             refine bodyPost_ret (v := .tuple #[.agg #[.int .i64 0, .int .i64 0, .string ⟨#[]⟩, .int .i64 0, .int .i64 0, .string ⟨#[]⟩], .bool false]) (by simp [results, Tryz.results69, go_sem, q0, q1, q2, q3, q4, q5]) rfl ?_
             exact ⟨by rw [EF.out], by rw [hzz]; exact below_setRow BF.out (Nat.le_refl _) _⟩
        · rw [if_neg hd0] at HDN
          have hgt : (1 : Int) < (d.toNat : Int) := by
           have h1 : ¬ (d.toNat : Int) = 0 := fun e => hd0 (u8_zero e)
           have h2 : ¬ (d.toNat : Int) = 1 := fun e => hd1 (u8_one e)
           omega
          have EF := Lib.hid (E0.out HDN.symm)
          have YF := Y1
          have BF := BW
          generalize (d.toNat : Int) = dn at *
          have ix := IX.out wr
          have iy := IY.out wr
          clear HDN
          go_wp2_with (refine wpList_store_row rfl 53 (.tmp 2) (.tmp 63) rfl z #[.int .i64 0, .int .i64 0, .string ⟨#[]⟩, .int .i64 0, .int .i64 0, .string ⟨#[]⟩] rfl rfl 53 _ YF.out (by kernel_rfl) rfl (el_one6 _ _ _ _ _ _) ?_)
          have Y := setRow_heap _ z _ #[.int .i64 0, .int .i64 0, .string ⟨#[]⟩, .int .i64 0, .int .i64 0, .string ⟨#[]⟩] _ _ YF.out
          have q0 := cell_of_row _ _ 0 _ _ _ Y
          have q1 := cell_of_row _ _ 1 _ _ _ Y
          have q2 := cell_of_row _ _ 2 _ _ _ Y
          have q3 := cell_of_row _ _ 3 _ _ _ Y
          have q4 := cell_of_row _ _ 4 _ _ _ Y
          have q5 := cell_of_row _ _ 5 _ _ _ Y
          try rw [Exit.noGoto_ret]
          try show bodyPost _ _ _ _ _ _
          refine bodyPost_ret (v := .tuple #[.agg #[.int .i64 0, .int .i64 0, .string ⟨#[]⟩, .int .i64 0, .int .i64 0, .string ⟨#[]⟩], .bool false]) (by simp [results, Tryz.results69, go_sem, q0, q1, q2, q3, q4, q5]) rfl ?_
          exact ⟨by rw [EF.out], by rw [hzz]; exact below_setRow BF.out (Nat.le_refl _) _⟩
    · have hci : ((c.toNat : Int) != 0) = true := by
       exact bne_iff_ne.2 fun e => hc0 (u8_zero e)
      have HDN := HD.out
      rw [HD1.out, decA, if_pos hc0, ← HD2.out] at HDN
      have HDM := Lib.hid HDN
      have ix := IX.out wr
      clear HDN
      go_wp2_with (at_builtin; go_must (refine wpList_appb rfl _ _ 113 113 rfl (z + 1) 5 BT.out _ T rfl (HO.out.alloc _) _ [c] rfl (src_one Tryz.underlying113 _ 5 c _ (by rfl)) (by simp; omega) (by simp; omega) ?_); go_must (intro v6 w6 hown _ hbel _))
      have HO6 := Lib.hid hown
      have HB6 := Lib.hid ((HB.out.alloc (by simpa using hws) _).trans hbel)
      clear hown hbel ix
      go_wp2_with fail
      go_roundw
      case rel => exact ⟨i + 1, T ++ [c], by go_num, by omega, by simp; omega, HO6, HB6, HDM⟩
      case measure => simp [intOf]; omega
  · have hlti : ¬ (i : Int) + 1 < (k.size : Int) := by omega
    have HDN := HD.out
    rw [decA_few (by rw [List.length_drop, HLK.out]; omega)] at HDN
    have EF := Lib.hid (E0.out HDN.symm)
    have YF := Y1
    have BF := BW
    clear HDN
    go_wp2_with (refine wpList_store_row rfl 53 (.tmp 2) (.tmp 63) rfl z #[.int .i64 0, .int .i64 0, .string ⟨#[]⟩, .int .i64 0, .int .i64 0, .string ⟨#[]⟩] rfl rfl 53 _ YF.out (by kernel_rfl) rfl (el_one6 _ _ _ _ _ _) ?_)
    have Y := setRow_heap _ z _ #[.int .i64 0, .int .i64 0, .string ⟨#[]⟩, .int .i64 0, .int .i64 0, .string ⟨#[]⟩] _ _ YF.out
    have q0 := cell_of_row _ _ 0 _ _ _ Y
    have q1 := cell_of_row _ _ 1 _ _ _ Y
    have q2 := cell_of_row _ _ 2 _ _ _ Y
    have q3 := cell_of_row _ _ 3 _ _ _ Y
    have q4 := cell_of_row _ _ 4 _ _ _ Y
    have q5 := cell_of_row _ _ 5 _ _ _ Y
    try rw [Exit.noGoto_ret]
    try show bodyPost _ _ _ _ _ _
    refine bodyPost_ret (v := .tuple #[.agg #[.int .i64 0, .int .i64 0, .string ⟨#[]⟩, .int .i64 0, .int .i64 0, .string ⟨#[]⟩], .bool false]) (by simp [results, Tryz.results69, go_sem, q0, q1, q2, q3, q4, q5]) rfl ?_
    exact ⟨by rw [EF.out], by rw [hzz]; exact below_setRow BF.out (Nat.le_refl _) _⟩
end Go.Proofs.YtjlliohjeiclaaaGreatDoor
namespace Go.Proofs.YtjlliohjeiclaaaGreatDoor
open Go.RowKit St Pm
def encT (e : Ev) : ByteArray × ByteArray := (tagK e, e.2)
def goodT (p : ByteArray × ByteArray) : Bool := match ofT p.1 with
 | some e => decide (e.2 = p.2)
 | none => false
def decT (p : ByteArray × ByteArray) : Ev := (ofT p.1).getD (⟨0, 0, ⟨#[]⟩, 0, 0⟩, ⟨#[]⟩)
theorem goodT_none {k v : ByteArray} (h : ofT k = none) : goodT (k, v) = false := by unfold goodT; rw [show (k, v).1 = k from rfl, h]
theorem goodT_some {k v : ByteArray} {e : Ev} (h : ofT k = some e) : goodT (k, v) = decide (e.2 = v) ∧ decT (k, v) = e := by
 unfold goodT decT
 rw [show (k, v).1 = k from rfl, h]
 exact ⟨rfl, rfl⟩
theorem goodT_enc {e : Ev} (h : okV e = true) : goodT (encT e) = true ∧ decT (encT e) = e := by
 have h1 := goodT_some (v := e.2) (ofT_tag h)
 unfold encT
 exact ⟨by rw [h1.1]; simp, h1.2⟩
theorem goodT_iff {p : ByteArray × ByteArray} (h : goodT p = true) : okV (decT p) = true ∧ p = encT (decT p) := by
 obtain ⟨k, v⟩ := p
 cases ho : ofT k with
 | none => rw [goodT_none ho] at h; cases h
 | some e =>
  obtain ⟨h1, h2⟩ := goodT_some (v := v) ho
  obtain ⟨h3, h4⟩ := ofT_some ho
  rw [h1] at h
  rw [h2]
  refine ⟨h3, ?_⟩
  have := of_decide_eq_true h
  unfold encT
  rw [← h4, this]
structure Tag (l : List Ev) (t : Tr ByteArray) : Prop where
 bal : Bal t
 it : items t = l.map encT
 ok : ∀ x ∈ l, okV x = true
 srt : Srt (items t)
theorem Tag.len {l : List Ev} {t : Tr ByteArray} (h : Tag l t) : sz t = l.length := by rw [← sz_items, h.it, List.length_map]
theorem Tag.good {l : List Ev} {t : Tr ByteArray} (h : Tag l t) : (items t).all goodT = true := by
 rw [h.it, List.all_eq_true]
 intro p hp
 obtain ⟨x, hx, rfl⟩ := List.mem_map.1 hp
 exact (goodT_enc (h.ok x hx)).1
theorem Tag.dec {l : List Ev} {t : Tr ByteArray} (h : Tag l t) : (items t).map decT = l := by
 rw [h.it, List.map_map]
 conv => rhs; rw [← List.map_id l]
 exact List.map_congr_left fun x hx => (goodT_enc (h.ok x hx)).2
theorem tag_size {e : Ev} (h : okV e = true) : (tagK e).size ≤ 545 := by
 obtain ⟨h1, h2⟩ := okV_iff.1 h
 have h3 := key_size h1
 have h4 : (keyB e.1.st).size = e.1.st.key.length := by unfold keyB; simp [ByteArray.size]
 have h5 := esc_len e.2.data.toList
 have h6 := dlen e.2
 have h7 : (tagK e).size = (escT e.2.data.toList).length + (2 + e.1.st.key.length) := by unfold tagK; simp [ByteArray.size]; omega
 omega
theorem tag_of {t : Tr ByteArray} (hb : Bal t) (hs : Srt (items t)) (hg : (items t).all goodT = true) : Tag ((items t).map decT) t := by
 have h : ∀ p ∈ items t, goodT p = true := List.all_eq_true.1 hg
 refine ⟨hb, ?_, fun x hx => ?_, hs⟩
 · rw [List.map_map]
   conv => lhs; rw [← List.map_id (items t)]
   exact List.map_congr_left fun p hp => (goodT_iff (h p hp)).2
 · obtain ⟨p, hp, rfl⟩ := List.mem_map.1 hx
   exact (goodT_iff (h p hp)).1
theorem tag_nil : Tag [] .nil := ⟨trivial, rfl, fun x hx => (by cases hx), List.Pairwise.nil⟩
def ltT (a b : Ev) : Bool := klt a.2 b.2 || (decide (a.2 = b.2) && a.1.st.lt b.1.st)
theorem ltT_key {a b : Ev} (ha : okV a = true) (hb : okV b = true) : klt (tagK a) (tagK b) = ltT a b := tag_lt (okV_iff.1 ha).1 (okV_iff.1 hb).1
def insT (x : Ev) : List Ev → List Ev
 | [] => [x]
 | y :: l => if ltT x y = true then x :: y :: l else if ltT y x = true then y :: insT x l else x :: l
theorem insT_enc {x : Ev} (hx : okV x = true) : ∀ {l : List Ev}, (∀ y ∈ l, okV y = true) → ins (tagK x) x.2 (l.map encT) = (insT x l).map encT
 | [], _ => rfl
 | y :: l, h => by
  have hy := h y List.mem_cons_self
  have ih := insT_enc hx (l := l) fun z hz => h z (List.mem_cons_of_mem _ hz)
  rw [List.map_cons]
  show ins (tagK x) x.2 ((tagK y, y.2) :: l.map encT) = _
  unfold ins insT
  rw [ltT_key hx hy, ltT_key hy hx]
  by_cases h1 : ltT x y = true
  · rw [if_pos h1, if_pos h1]; rfl
  · rw [if_neg h1, if_neg h1]
    by_cases h2 : ltT y x = true
    · rw [if_pos h2, if_pos h2, ih]; rfl
    · rw [if_neg h2, if_neg h2]; rfl
theorem insT_mem {x y : Ev} : ∀ {l : List Ev}, y ∈ insT x l → y = x ∨ y ∈ l
 | [], h => .inl (List.mem_singleton.1 h)
 | z :: l, h => by
  unfold insT at h
  split at h
  · exact List.mem_cons.1 h
  · split at h
    · rcases List.mem_cons.1 h with rfl | h
      · exact .inr List.mem_cons_self
      · exact (insT_mem h).imp_right (List.mem_cons_of_mem _)
    · rcases List.mem_cons.1 h with rfl | h
      · exact .inl rfl
      · exact .inr (List.mem_cons_of_mem _ h)
theorem insT_le (x : Ev) : ∀ l : List Ev, (insT x l).length ≤ l.length + 1
 | [] => by simp [insT]
 | y :: l => by
  have ih := insT_le x l
  unfold insT
  split
  · simp
  · split
    · simp; omega
    · simp
theorem tag_put {l : List Ev} {t t' : Tr ByteArray} {x : Ev} (h : Tag l t) (hx : okV x = true) (hB : Bal t') (hi : items t' = ins (tagK x) x.2 (items t)) : Tag (insT x l) t' :=
 ⟨hB, by rw [hi, h.it, insT_enc hx h.ok], fun y hy => (insT_mem hy).elim (fun e => by rw [e]; exact hx) (h.ok y), by rw [hi]; exact ins_srt h.srt⟩
def setT (L : List Ev) : List Ev := L.foldl (fun l x => insT x l) []
theorem setT_snoc (L : List Ev) (x : Ev) : setT (L ++ [x]) = insT x (setT L) := by unfold setT; rw [List.foldl_append]; rfl
theorem tag_front_lt (a : Ev) (x : ByteArray) : klt (tagK a) (frontB x) = klt a.2 x := by
 unfold klt
 rw [ByteArray.toList_eq, ByteArray.toList_eq, ByteArray.toList_eq, ByteArray.toList_eq]
 have h : (frontB x).data.toList = escT x.data.toList ++ 0 :: 0 :: [] := by simp [frontB]
 rw [h]
 unfold tagK
 simp only [List.toList_toArray]
 rw [bl_esc, bl_nil]
 simp
theorem while_filter {α : Type} (ge pre : α → Bool) : ∀ {l : List α}, (∀ p ∈ l, pre p = true → ge p = true) → l.Pairwise (fun p q => ge p = true → pre q = true → pre p = true) → (l.filter ge).takeWhile pre = l.filter pre
 | [], _, _ => rfl
 | p :: l, h1, h2 => by
  rw [List.pairwise_cons] at h2
  have ih := while_filter ge pre (l := l) (fun q hq => h1 q (List.mem_cons_of_mem _ hq)) h2.2
  cases hg : ge p with
  | true =>
   rw [List.filter_cons_of_pos hg]
   cases hp : pre p with
   | true => rw [List.takeWhile_cons_of_pos hp, ih, List.filter_cons_of_pos hp]
   | false =>
    rw [List.takeWhile_cons_of_neg (by rw [hp]; simp), List.filter_cons_of_neg (by rw [hp]; simp)]
    symm
    rw [List.filter_eq_nil_iff]
    intro q hq hqp
    have := h2.1 q hq hg hqp
    rw [hp] at this; cases this
  | false =>
   have hp : pre p = false := by
    cases hp : pre p with
    | false => rfl
    | true => rw [h1 p List.mem_cons_self hp] at hg; cases hg
   rw [List.filter_cons_of_neg (by rw [hg]; simp), List.filter_cons_of_neg (by rw [hp]; simp), ih]
def preT (x : ByteArray) (p : ByteArray × ByteArray) : Bool := Lib.hasPrefix p.1.data.toList (frontB x).data.toList
def tagsL (x : ByteArray) (t : Tr ByteArray) : List (ByteArray × ByteArray) := (fromL (frontB x) t).takeWhile (preT x)
def ofX (x : ByteArray) (e : Ev) : Bool := decide (e.2 = x)
theorem preT_enc (x : ByteArray) (e : Ev) : preT x (encT e) = ofX x e := by
 unfold preT ofX
 rw [← front_pre x e]
 unfold Lib.hasPrefix
 simp [frontB, encT]
theorem Tag.tags {l : List Ev} {t : Tr ByteArray} (h : Tag l t) (x : ByteArray) : tagsL x t = (l.filter (ofX x)).map encT := by
 unfold tagsL
 rw [fromL_filter _ _ h.srt]
 have hs := h.srt
 rw [h.it] at hs ⊢
 rw [while_filter, List.filter_map]
 · congr 1
   refine List.filter_congr fun e _ => ?_
   exact preT_enc x e
 · intro p hp hq
   obtain ⟨e, he, rfl⟩ := List.mem_map.1 hp
   rw [preT_enc] at hq
   have := of_decide_eq_true hq
   show (!klt (tagK e) (frontB x)) = true
   rw [tag_front_lt, this, klt_irrefl]; rfl
 · rw [List.pairwise_map]
   unfold Srt at hs
   rw [List.pairwise_map] at hs
   refine List.Pairwise.imp_of_mem (fun {a b} ha hb hab hg hq => ?_) hs
   rw [preT_enc] at hq ⊢
   have e1 := of_decide_eq_true hq
   have hg2 : klt a.2 x = false := by
    have : (!klt (tagK a) (frontB x)) = true := hg
    rw [tag_front_lt] at this
    simpa using this
   have h3 : ltT a b = true := by rw [← ltT_key (h.ok a ha) (h.ok b hb)]; exact hab
   unfold ltT at h3
   rw [e1, hg2] at h3
   simp only [Bool.false_or, Bool.and_eq_true] at h3
   exact h3.1
def delL (ks : List (ByteArray × ByteArray)) (l : List (ByteArray × ByteArray)) : List (ByteArray × ByteArray) := ks.foldl (fun m p => del p.1 m) l
theorem delL_filter : ∀ (ks l : List (ByteArray × ByteArray)), delL ks l = l.filter fun p => !(ks.any fun q => decide (q.1 = p.1))
 | [], l => by
  show l = _
  symm
  rw [List.filter_eq_self]
  intro p _; rfl
 | k :: ks, l => by
  have ih := delL_filter ks (del k.1 l)
  show delL ks (del k.1 l) = _
  rw [ih]
  unfold del
  rw [List.filter_filter]
  refine List.filter_congr fun p _ => ?_
  rw [List.any_cons]
  by_cases h : k.1 = p.1
  · simp [h]
  · have h2 : ¬ p.1 = k.1 := fun e => h e.symm
    simp [h, h2]
theorem Tag.del {l : List Ev} {t : Tr ByteArray} (h : Tag l t) (x : ByteArray) : delL (tagsL x t) (items t) = (l.filter fun e => !ofX x e).map encT := by
 rw [h.tags, delL_filter, h.it, List.filter_map]
 congr 1
 refine List.filter_congr fun e he => ?_
 show (!_) = !_
 congr 1
 rw [Bool.eq_iff_iff, List.any_map, List.any_eq_true]
 constructor
 · rintro ⟨y, hy, h1⟩
   obtain ⟨hy1, hy2⟩ := List.mem_filter.1 hy
   have h2 : tagK y = tagK e := of_decide_eq_true h1
   rw [← tag_inj (h.ok y hy1) (h.ok e he) h2]
   exact hy2
 · intro h1
   exact ⟨e, List.mem_filter.2 ⟨he, h1⟩, decide_eq_true rfl⟩
theorem tag_del {l : List Ev} {t t' : Tr ByteArray} {x : ByteArray} (h : Tag l t) (hB : Bal t') (hi : items t' = delL (tagsL x t) (items t)) : Tag (l.filter fun e => !ofX x e) t' := by
 refine ⟨hB, by rw [hi, h.del], fun y hy => h.ok y (List.mem_filter.1 hy).1, ?_⟩
 rw [hi, delL_filter]
 exact h.srt.sublist List.filter_sublist
end Go.Proofs.YtjlliohjeiclaaaGreatDoor
namespace Go.Proofs.YtjlliohjeiclaaaGreatDoor
open Go.RowKit St Pm
attribute [local go_sem] Oper.semAt_some
set_option maxRecDepth 100000 in
set_option maxHeartbeats 2000000 in
theorem ts_own1 (x : Ev) (c base n : Nat) (v : Value) (xs : List Value) (W : World) (hc : Boxed W c 22 v) (ho : W.ownsRow base 53 6 v n xs) (hb : base ≤ W.heap.size) (hcb : c < base) (hn : n ≤ 200000) :
 Calls Tryz.prog 103 #[.agg #[.int .i64 x.1.g, .int .i64 x.1.r, .string x.1.l, .int .i64 x.1.n, .int .i64 x.1.i, .string x.2], .pointer (some ⟨c, 0, none⟩)] W fun e w' =>
  ∃ v', e = .returned (.tuple #[]) ∧ Boxed w' c 22 v' ∧ w'.ownsRow base 53 6 v' (n + 1) (xs ++ elV x) ∧ RowKeep c v W w' := by
 have ET := Lib.hid elT
 have bA := below_new W (.cells #[.int .i64 x.1.g, .int .i64 x.1.r, .string x.1.l, .int .i64 x.1.n, .int .i64 x.1.i, .string x.2] 53)
 have c1 := boxStays hc bA
 have o1 := own_later ho bA (Nat.le_refl _)
 go_enter Tryz.func103, Tryz.ntmps103
 go_upto_region 1 with (fail)
 have xA := heap_alloc_new W (.cells #[.int .i64 x.1.g, .int .i64 x.1.r, .string x.1.l, .int .i64 x.1.n, .int .i64 x.1.i, .string x.2] 53)
 generalize W.alloc (.cells #[.int .i64 x.1.g, .int .i64 x.1.r, .string x.1.l, .int .i64 x.1.n, .int .i64 x.1.i, .string x.2] 53) = w1 at *
 have k0 := cell_of_row _ _ 0 _ _ _ xA
 have k1 := cell_of_row _ _ 1 _ _ _ xA
 have k2 := cell_of_row _ _ 2 _ _ _ xA
 have k3 := cell_of_row _ _ 3 _ _ _ xA
 have k4 := cell_of_row _ _ 4 _ _ _ xA
 have k5 := cell_of_row _ _ 5 _ _ _ xA
 have kc := cell_of_one c1
 have O1 := Lib.hid o1
 have C1 : Hid (Boxed w1 c 22 v) := Lib.hid c1
 have BA := Lib.hid bA
 have HBS : Hid (base ≤ w1.heap.size) := Lib.hid (Nat.le_trans hb bA.size)
 have hcs : c < w1.heap.size := (Array.getElem?_eq_some_iff.1 c1).1
 clear xA bA c1 o1 hc ho
 go_wp2_with (at_builtin; go_must (refine wpList_app rfl _ _ 22 22 rfl base 53 _ 6 64 ET.out v n xs rfl (O1.out.alloc _) _ 1 (elV x) rfl ((CellsAt.new w1 53 (0, 0) (elV x)).srcN rfl (fun u hu => elsV_one [x] u (by simpa [elsV] using hu)) Tryz.underlying22 1 (by decide)) (by omega) (by omega) (by have := HBS.out; simp; omega) ?_); go_must (intro v6 w6 hown hgr hbel _; obtain ⟨a6, cp6, hv6, _⟩ := own_slice hown; subst hv6; have c6 : Boxed w6 c 22 v := (C1.out.alloc _).kept hgr (Boxed.not_row C1.out (by decide) O1.out)); have kc6 := cell_of_one c6; have fc6 := frozen_of_row _ c 0 _ _ c6)
 have V6 : Hid (Boxed w6 c 22 v) := Lib.hid c6
 have OW6 := Lib.hid hown
 have GR := Lib.hid hgr
 clear hown hgr hbel c6 kc6 fc6 kc k0 k1 k2 k3 k4 k5
 go_end0
 have hne : some c ≠ (Value.slice a6 (n + 1) cp6).ownBlock := Boxed.not_row V6.out (by decide) OW6.out
 refine ⟨.slice a6 (n + 1) cp6, rfl, Boxed.set _ V6.out, OW6.out.kept (grownBy_setCell' w6 c _) (.inr hne.symm), RowKeep.after BA.out ⟨?_, ?_, ?_, ?_, fun k h1 h2 h3 => ?_⟩⟩
 · exact GR.out.os
 · exact GR.out.tape
 · exact GR.out.output
 · have := GR.out.size; simp [World.setCell] at this ⊢; omega
 · refine (Below.heap_setCell _ _ _ _ (by simpa using h2)).trans ((GR.out.block k (by simp; omega) (fun e => h3 e.symm)).trans ?_)
   exact (below_new w1 _).block k h1
def TwI (H : List (Nat × Obj)) (c B : Nat) (w : World) (pre : List (ByteArray × ByteArray)) (W : World) : Prop :=
 (∀ p ∈ pre, goodT p = true) ∧ (∃ v, Boxed W c 22 v ∧ W.ownsRow B 53 6 v pre.length (elsV (pre.map decT)) ∧ True) ∧ Facts H W ∧ Below w.heap.size w W
theorem twI_own {H : List (Nat × Obj)} {c B : Nat} {w : World} {M : Nat} (hH : ∀ p ∈ H, p.1 < M) (hw : w.heap.size ≤ M) : OwnFrom M (TwI H c B w) := by
 rintro pre A A' row ⟨h1, h2, h3, h4⟩ hg hr
 exact ⟨h1, (holdsRow_own B c _ _ 6 (fun pre : List (ByteArray × ByteArray) => pre.length) (fun pre => elsV (pre.map decT)) (fun _ _ => True)).from M pre A A' row h2 hg hr, facts_own (β := Unit) H M hH () A A' row h3 hg hr, ownFrom_below (β := Unit) (Nat.le_refl _) hw () A A' row h4 hg hr⟩
def TwX (r1 r2 : Nat) (w : World) (pre : List (ByteArray × ByteArray)) (W : World) : Prop :=
 (∃ p ∈ pre, goodT p = false) ∧ Boxed W r1 22 (.slice none 0 0) ∧ Boxed W r2 4 (.bool false) ∧ Below w.heap.size w W
theorem twX_own {r1 r2 : Nat} {w : World} {M : Nat} (h1 : r1 < M) (h2 : r2 < M) (hw : w.heap.size ≤ M) : OwnFrom M (TwX r1 r2 w) := by
 rintro pre A A' row ⟨g1, g2, g3, g4⟩ hg hr
 exact ⟨g1, own_block (β := Unit) h1 () A A' row g2 hg hr, own_block (β := Unit) h2 () A A' row g3 hg hr, ownFrom_below (β := Unit) (Nat.le_refl _) hw () A A' row g4 hg hr⟩
set_option maxRecDepth 100000 in
set_option maxHeartbeats 4000000 in
theorem ts_own (tr : Tr ByteArray) (w : World) (h : AtS w tr) (hz : sz tr ≤ 100000) (hk : ∀ p ∈ items tr, p.1.size ≤ 70368744177663) :
 Calls Tryz.prog 60 #[.agg #[.pointer (pa tr)]] w fun e w' =>
  ∃ v b, e = .returned (.tuple #[v, .bool b]) ∧ Below w.heap.size w w' ∧
   ((b = true ∧ (∀ p ∈ items tr, goodT p = true) ∧ w'.ownsRow w.heap.size 53 6 v (items tr).length (elsV ((items tr).map decT))) ∨
    (b = false ∧ v = .slice none 0 0 ∧ ∃ p ∈ items tr, goodT p = false)) := by
 obtain ⟨z, hz0⟩ : ∃ z, w.heap.size = z := ⟨_, rfl⟩
 have HT := Lib.hid h
 have HK := Lib.hid hk
 clear h hk
 refine (callsIn_wide (n := 6)).1 ?_
 refine callsIn_of_wp_marks Tryz.func60 rfl trivial ?_ rfl
 simp only [Tryz.ntmps60, List.size_toArray, List.length_cons, List.length_nil, Nat.reduceAdd, Nat.reduceSub, Array.replicate_succ, Array.replicate_zero, List.push_toArray, List.append_toArray, List.nil_append, List.cons_append]
 refine wpIn_wide.2 ?_
 go_wp2_with fail
 obtain ⟨w3, hw3⟩ : ∃ W, allocs w [.cells #[.pointer (pa tr)] 27, .cells #[.slice none 0 0] 22, .cells #[.bool false] 4, .cells #[.slice none 0 0] 22, .cells #[.func (.func 103) #[] #[.pointer (some ⟨z + 3, 0, none⟩)]] 157] = W := ⟨_, rfl⟩
 rw [show ((((w.alloc (.cells #[.pointer (pa tr)] 27)).alloc (.cells #[.slice none 0 0] 22)).alloc (.cells #[.bool false] 4)).alloc (.cells #[.slice none 0 0] 22)).alloc (.cells #[.func (.func 103) #[] #[.pointer (some ⟨z + 3, 0, none⟩)]] 157) = w3 from hw3]
 have hb3 : Below w.heap.size w w3 := by rw [← hw3]; exact allocs_below _ _
 have hx3 : ∀ i ob, [Obj.cells #[.pointer (pa tr)] 27, .cells #[.slice none 0 0] 22, .cells #[.bool false] 4, .cells #[.slice none 0 0] 22, .cells #[.func (.func 103) #[] #[.pointer (some ⟨z + 3, 0, none⟩)]] 157][i]? = some ob → w3.heap[z + i]? = some ob := fun i ob h => by have := allocs_get _ w i ob h; rw [hw3, hz0] at this; exact this
 have F3 : Hid (Facts [(z + 1, .cells #[.slice none 0 0] 22 (0, 0)), (z + 2, .cells #[.bool false] 4 (0, 0)), (z + 4, .cells #[.func (.func 103) #[] #[.pointer (some ⟨z + 3, 0, none⟩)]] 157 (0, 0))] w3) := Lib.hid (fun p hp => by
  simp only [List.mem_cons, List.not_mem_nil, or_false] at hp
  rcases hp with rfl | rfl | rfl
  · exact hx3 1 _ rfl
  · exact hx3 2 _ rfl
  · exact hx3 4 _ rfl)
 have Y3 : Hid (Boxed w3 (z + 3) 22 (.slice none 0 0)) := Lib.hid (hx3 3 _ rfl)
 have B3 := Lib.hid hb3
 have hz3 : z + 5 ≤ w3.heap.size := by have := (Array.getElem?_eq_some_iff.1 (hx3 4 _ rfl)).1; omega
 have q0 := cell_of_one (hx3 0 _ rfl)
 clear hb3 hx3 hw3
 go_wp2_with fail
 refine (pm_MAllS tr w3).mono ?_
 rintro e w5 ⟨kb, mb, rfl, hkb, hmb, hbk, hbm, hb⟩
 have hT5 := HT.out.below (B3.out.trans (hb.mono B3.out.size)) rfl
 have hF5 := F3.out.below hb
 have hY5 := boxStays Y3.out hb
 have hW5 : Below w.heap.size w w5 := B3.out.trans (hb.mono B3.out.size)
 have hz5 : z + 5 ≤ w5.heap.size := by have := hb.size; omega
 obtain ⟨H, hH⟩ : ∃ H : List (Nat × Obj), [(z + 1, .cells #[.slice none 0 0] 22 (0, 0)), (z + 2, .cells #[.bool false] 4 (0, 0)), (z + 4, .cells #[.func (.func 103) #[] #[.pointer (some ⟨z + 3, 0, none⟩)]] 157 (0, 0))] = H := ⟨_, rfl⟩
 have hHz : ∀ p ∈ H, p.1 < z + 5 ∧ p.1 ≠ z + 3 := by
  intro p hp
  rw [← hH] at hp
  simp only [List.mem_cons, List.not_mem_nil, or_false] at hp
  rcases hp with rfl | rfl | rfl <;> simp
 have hHm : (z + 1, Obj.cells #[.slice none 0 0] 22 (0, 0)) ∈ H ∧ (z + 2, Obj.cells #[.bool false] 4 (0, 0)) ∈ H ∧ (z + 4, Obj.cells #[.func (.func 103) #[] #[.pointer (some ⟨z + 3, 0, none⟩)]] 157 (0, 0)) ∈ H := by rw [← hH]; simp
 have hSlt : ∀ k, (k = kb ∨ k ∈ blocks tr) → k < w5.heap.size := fun k hk => by
  rcases hk with rfl | hk
  · exact (Array.getElem?_eq_some_iff.1 hbk).1
  · exact hT5.lt k hk
 have hSB : ∀ k, (k = kb ∨ k ∈ blocks tr) → k < w5.heap.size ∧ k ≠ z + 1 ∧ k ≠ z + 2 ∧ k ≠ z + 3 := fun k hk => ⟨hSlt k hk, by
  rcases hk with rfl | hk
  · omega
  · have := HT.out.lt k hk; omega⟩
 have HIter := pm_from_iterS 5 ⟨#[]⟩ tr kb mb w5 (fun k => k = kb ∨ k ∈ blocks tr) (fun x => x = 53) hbk hbm hT5 (.inl rfl) (fun k hk => .inr hk) hSlt (by decide) (by decide)
 rw [fromL_all] at HIter
 have r5 : TwI H (z + 3) w5.heap.size w [] w5 := ⟨fun p hp => (by cases hp), ⟨_, hY5, World.ownsRow_nil _ _ _ _, trivial⟩, by rw [← hH]; exact hF5, hW5⟩
 have OWN : ∀ B, w5.heap.size ≤ B → OwnFrom B (TwI H (z + 3) w5.heap.size w) := fun B hB => twI_own (fun p hp => by have := (hHz p hp).1; omega) (by omega)
 clear hT5 hF5 hY5 hW5 hb hbk hbm q0
 go_wp2_with fail
 refine (wpIn_wide (n := 6)).1 ?_
 have HH := Lib.hid hHm
 clear F3 Y3 B3 hH hHm
 refine range_law2 (n := 6) rfl (enters_of Tryz.func141 (by kernel_rfl) rfl) HIter (by omega) KeepE.trans (fun W o o' _ _ => KeepE.put W _ o' (by omega) (fun k hk => by have := hSlt k hk; omega)) (fun x => rfl) (fun pre => (by rintro _ _ _ _ h _ _; exact h)) ?_ (TwI H (z + 3) w5.heap.size w) (fun c pre W => c = .ret ∧ TwX (z + 1) (z + 2) w pre W) (fun xs W => xs = items tr ∧ TwI H (z + 3) w5.heap.size w xs W) (OWN _ (Nat.le_refl _)) ?_ ?_ ?_ r5
  (fun pre q a' W => TwI H (z + 3) w5.heap.size w pre W ∧ pre ++ [q] <+: items tr ∧ a' = { tmps := #[.agg #[.pointer (pa tr)], .pointer (some ⟨z, 0, none⟩), .pointer (some ⟨z + 1, 0, none⟩), .pointer (some ⟨z + 2, 0, none⟩), .pointer (some ⟨z + 3, 0, none⟩), .pointer (some ⟨z + 4, 0, none⟩), .string q.1, .string q.2, undef, undef, .func (.func 103) #[] #[.pointer (some ⟨z + 3, 0, none⟩)], .agg #[.pointer (pa tr)], .func (.func 141) #[] #[.pointer (some ⟨kb, 0, none⟩), .pointer (some ⟨mb, 0, none⟩)], .string q.1, .string q.2, undef, undef, undef, undef, undef, undef, undef, undef, undef, undef, undef, undef, undef, undef, undef, undef, undef], defers := [] }) ?_ ?assign ?body ?done ?stop
 · rintro W1 _ xs A B ⟨_, rfl⟩ k o _ ho _; exact ho
 · rintro c xs A A' row ⟨h1, h2⟩ hg hr
   exact ⟨h1, twX_own (by omega) (by omega) (by omega) xs A A' row h2 hg hr⟩
 · rintro xs A A' row ⟨h1, h2⟩ hg hr
   exact ⟨h1, OWN _ (Nat.le_refl _) xs A A' row h2 hg hr⟩
 · rintro W1 _ xs A B h ⟨h1, rfl⟩; exact ⟨h1, h⟩
 · rintro q a' pre A A' row ⟨h1, h2, h3⟩ hg hr
   exact ⟨OWN _ (Nat.le_refl _) pre A A' row h1 hg hr, h2, h3⟩
 case assign =>
  intro l pre q W K hi hx hsz hK
  have HI := Lib.hid hi
  clear hi
  simp only [encKVS, List.zip_toArray, List.zip_cons_cons, List.zip_nil_right, List.foldl_toArray, List.foldl_cons, List.foldl_nil]
  gi_wp2
  exact hK _ _ ⟨Nat.le_refl _, fun _ _ _ h _ => h⟩ (KeepE.refl _) hsz ⟨HI.out, hx, rfl⟩
 case body =>
  rintro l pre ⟨k, v⟩ a' W ⟨⟨h1, ⟨u, h2, h3, _⟩, h4, h5⟩, hp, rfl⟩ hsz
  have hmem : (k, v) ∈ items tr := hp.subset (by simp)
  have hks := HK.out _ hmem
  have hpl : pre.length + 1 ≤ sz tr := by have := hp.length_le; rw [sz_items] at this; simpa using this
  have G9 := Lib.hid h1
  have Y9 := Lib.hid h2
  have R9 := Lib.hid h3
  have F9 := Lib.hid h4
  have B9 := Lib.hid h5
  have hSW : ∀ k', (k' = kb ∨ k' ∈ blocks tr) → k' < W.heap.size := fun k' hk' => Nat.lt_of_lt_of_le (hSlt k' hk') hsz
  have BAD : Hid (∀ (X : World), Below W.heap.size W X → goodT (k, v) = false →
   KeepsFrom w5.heap.size W ((X.setCell ⟨z + 1, 0, none⟩ (.slice none 0 0)).setCell ⟨z + 2, 0, none⟩ (.bool false)) ∧ KeepE (w5.heap.size + 2) (fun k => k = kb ∨ k ∈ blocks tr) (fun x => x = 53) W ((X.setCell ⟨z + 1, 0, none⟩ (.slice none 0 0)).setCell ⟨z + 2, 0, none⟩ (.bool false)) ∧ TwX (z + 1) (z + 2) w (pre ++ [(k, v)]) ((X.setCell ⟨z + 1, 0, none⟩ (.slice none 0 0)).setCell ⟨z + 2, 0, none⟩ (.bool false))) := Lib.hid (fun X hX hbad => by
   have f1 := F9.out.below hX _ HH.out.1
   have f2 := F9.out.below hX _ HH.out.2.1
   have g1 : Boxed (X.setCell ⟨z + 1, 0, none⟩ (.slice none 0 0)) (z + 1) 22 (.slice none 0 0) := Boxed.set _ f1
   have g2 : Boxed (X.setCell ⟨z + 1, 0, none⟩ (.slice none 0 0)) (z + 2) 4 (.bool false) := (Below.heap_setCell _ _ _ _ (by simp)).trans f2
   have g3 : Boxed ((X.setCell ⟨z + 1, 0, none⟩ (.slice none 0 0)).setCell ⟨z + 2, 0, none⟩ (.bool false)) (z + 1) 22 (.slice none 0 0) := (Below.heap_setCell _ _ _ _ (by simp)).trans g1
   have g4 : Boxed ((X.setCell ⟨z + 1, 0, none⟩ (.slice none 0 0)).setCell ⟨z + 2, 0, none⟩ (.bool false)) (z + 2) 4 (.bool false) := Boxed.set _ g2
   refine ⟨⟨by simpa [World.setCell] using hX.size, fun k' o2 hk' ho2 hc => (Below.heap_setCell _ _ _ _ (by simp; omega)).trans ((Below.heap_setCell _ _ _ _ (by simp; omega)).trans ((hX.block k' (Array.getElem?_eq_some_iff.1 ho2).1).trans ho2))⟩,
    ((KeepE.below hX hSW).trans (KeepE.setCell X (z + 1) 0 _ (by omega) (fun h => (hSB _ h).2.1 rfl))).trans (KeepE.setCell _ (z + 2) 0 _ (by omega) (fun h => (hSB _ h).2.2.1 rfl)),
    ⟨(k, v), by simp, hbad⟩, g3, g4, ?_⟩
   exact ((B9.out.trans (hX.mono B9.out.size)).setCell (p := ⟨z + 1, 0, none⟩) (by simp; omega) _).setCell (p := ⟨z + 2, 0, none⟩) (by simp; omega) _)
  clear HIter r5 OWN h1 h2 h3 h4 h5 hp hmem
  gi_wp2
  refine ⟨trivial, ?_⟩
  refine (CallsIn.inRound l (callsIn_wide.2 (ts_OfKey k W hks))).mono ?_
  rintro e W2 ⟨rfl, hb⟩
  have bb : Below W.heap.size W W2 := hb
  have BB := Lib.hid bb
  rcases hok : ofT k with _ | x
  · have BD := Lib.hid (goodT_none (v := v) hok)
    clear hok hb bb
    simp only [elO]
    have bS := below_new W2 (.cells #[.int .i64 0, .int .i64 0, .string ⟨#[]⟩, .int .i64 0, .int .i64 0, .string ⟨#[]⟩] 53)
    have xS := heap_alloc_new W2 (.cells #[.int .i64 0, .int .i64 0, .string ⟨#[]⟩, .int .i64 0, .int .i64 0, .string ⟨#[]⟩] 53)
    have BS : Hid (Below W.heap.size W (W2.alloc (.cells #[.int .i64 0, .int .i64 0, .string ⟨#[]⟩, .int .i64 0, .int .i64 0, .string ⟨#[]⟩] 53))) := Lib.hid (BB.out.trans (bS.mono BB.out.size))
    have q5 := cell_of_row _ _ 5 _ _ _ xS
    have f1 := F9.out.below BS.out _ HH.out.1
    have f2 := F9.out.below BS.out _ HH.out.2.1
    have c1 := cell_of_one f1
    have d1 := frozen_of_row _ (z + 1) 0 _ _ f1
    have c2 := cell_of_one f2
    have d2 := frozen_of_row _ (z + 2) 0 _ _ f2
    have FIN := Lib.hid (BAD.out _ BS.out BD.out)
    clear bS xS f1 f2
    gi_wp2
    exact ⟨FIN.out.1, FIN.out.2.1, rfl, FIN.out.2.2⟩
  · obtain ⟨hg, hd⟩ := goodT_some (v := v) hok
    clear hok hb bb
    simp only [elO]
    by_cases hv : x.2 = v
    · have GD : Hid (goodT (k, v) = true) := Lib.hid (by rw [hg]; exact decide_eq_true hv)
      have DC := Lib.hid hd
      have hne : (x.2.toList == v.toList) = true := by rw [Pm.eq_iff]; exact decide_eq_true hv
      clear hg hd hv
      have bS := below_new W2 (.cells #[.int .i64 x.1.g, .int .i64 x.1.r, .string x.1.l, .int .i64 x.1.n, .int .i64 x.1.i, .string x.2] 53)
      have xS := heap_alloc_new W2 (.cells #[.int .i64 x.1.g, .int .i64 x.1.r, .string x.1.l, .int .i64 x.1.n, .int .i64 x.1.i, .string x.2] 53)
      have BS : Hid (Below W.heap.size W (W2.alloc (.cells #[.int .i64 x.1.g, .int .i64 x.1.r, .string x.1.l, .int .i64 x.1.n, .int .i64 x.1.i, .string x.2] 53))) := Lib.hid (BB.out.trans (bS.mono BB.out.size))
      have q0 := cell_of_row _ _ 0 _ _ _ xS
      have q1 := cell_of_row _ _ 1 _ _ _ xS
      have q2 := cell_of_row _ _ 2 _ _ _ xS
      have q3 := cell_of_row _ _ 3 _ _ _ xS
      have q4 := cell_of_row _ _ 4 _ _ _ xS
      have q5 := cell_of_row _ _ 5 _ _ _ xS
      have qf := cell_of_one (F9.out.below BS.out _ HH.out.2.2)
      clear bS xS
      gi_wp2
      refine ⟨trivial, ?_⟩
      refine (CallsIn.inRound l (callsIn_wide.2 (ts_own1 x (z + 3) w5.heap.size pre.length u _ _ (boxStays Y9.out BS.out) (own_later R9.out BS.out (Nat.le_refl _)) (Nat.le_trans hsz BS.out.size) (by omega) (by omega)))).mono ?_
      rintro e W4 ⟨u', rfl, hY4, hR4, hRK⟩
      have RK := RowKeep.after BS.out hRK
      have hrow : W4.ownsRow w5.heap.size 53 6 u' (pre ++ [(k, v)]).length (elsV ((pre ++ [(k, v)]).map decT)) := by
       have e1 : elsV ((pre ++ [(k, v)]).map decT) = elsV (pre.map decT) ++ elV x := by simp [elsV, DC.out]
       rw [e1, List.length_append, List.length_singleton]
       exact hR4
      have hfin : KeepsFrom w5.heap.size W W4 ∧ KeepE (w5.heap.size + 2) (fun k => k = kb ∨ k ∈ blocks tr) (fun x => x = 53) W W4 ∧ TwI H (z + 3) w5.heap.size w (pre ++ [(k, v)]) W4 :=
       ⟨RK.from Y9.out R9.out _, RowKeep.keepE (t := 53) (u := u) RK R9.out (fun k hk => ⟨(hSB k hk).1, (hSB k hk).2.2.2⟩) hSW (by omega), fun p hp => by
        rcases List.mem_append.1 hp with hp | hp
        · exact G9.out p hp
        · rw [List.mem_singleton.1 hp]; exact GD.out, ⟨u', hY4, hrow, trivial⟩, RK.facts F9.out (fun p hp => (hHz p hp).2) R9.out (fun p hp => by have := (hHz p hp).1; omega), B9.out.trans (RK.below (by omega) R9.out (by omega) B9.out.size)⟩
      have FIN := Lib.hid hfin
      clear RK hRK hY4 hR4 hrow hfin
      gi_wp2
      exact FIN.out
    · have BD : Hid (goodT (k, v) = false) := Lib.hid (by rw [hg]; exact decide_eq_false hv)
      have hne : (x.2.toList == v.toList) = false := by rw [Pm.eq_iff]; exact decide_eq_false hv
      clear hg hd hv
      have bS := below_new W2 (.cells #[.int .i64 x.1.g, .int .i64 x.1.r, .string x.1.l, .int .i64 x.1.n, .int .i64 x.1.i, .string x.2] 53)
      have xS := heap_alloc_new W2 (.cells #[.int .i64 x.1.g, .int .i64 x.1.r, .string x.1.l, .int .i64 x.1.n, .int .i64 x.1.i, .string x.2] 53)
      have BS : Hid (Below W.heap.size W (W2.alloc (.cells #[.int .i64 x.1.g, .int .i64 x.1.r, .string x.1.l, .int .i64 x.1.n, .int .i64 x.1.i, .string x.2] 53))) := Lib.hid (BB.out.trans (bS.mono BB.out.size))
      have q5 := cell_of_row _ _ 5 _ _ _ xS
      have f1 := F9.out.below BS.out _ HH.out.1
      have f2 := F9.out.below BS.out _ HH.out.2.1
      have c1 := cell_of_one f1
      have d1 := frozen_of_row _ (z + 1) 0 _ _ f1
      have c2 := cell_of_one f2
      have d2 := frozen_of_row _ (z + 2) 0 _ _ f2
      have FIN := Lib.hid (BAD.out _ BS.out BD.out)
      clear bS xS f1 f2
      gi_wp2
      exact ⟨FIN.out.1, FIN.out.2.1, rfl, FIN.out.2.2⟩
 case done =>
  rintro D xs W1 hD ⟨rfl, h1, ⟨u, h2, h3, _⟩, h4, h5⟩ hK
  have R9 := Lib.hid h3
  have G9 := Lib.hid h1
  obtain ⟨a6, cp6, hv6, _⟩ := own_slice h3
  subst hv6
  have F9 := Lib.hid h4
  have B9 := Lib.hid h5
  have Y9 := Lib.hid h2
  have HKD := Lib.hid hK
  have f1 := h4 _ HH.out.1
  have f2 := h4 _ HH.out.2.1
  clear HIter r5 OWN h1 h2 h3 h4 h5 hK
  simp only [Exit.inBlock]
  go_upto_region 10 with (fail)
  simp only [Nat.add_assoc, Nat.reduceAdd]
  obtain ⟨nn, hnn⟩ : ∃ n, (items tr).length = n := ⟨_, rfl⟩
  rw [hnn] at Y9 R9
  have HNN := Lib.hid hnn
  clear hnn
  have k0 := cell_of_one Y9.out
  have c1 := cell_of_one f1
  have d1 := frozen_of_row _ (z + 1) 0 _ _ f1
  have g1 : Boxed (W1.setCell ⟨z + 1, 0, none⟩ (.slice a6 nn cp6)) (z + 1) 22 (.slice a6 nn cp6) := Boxed.set _ f1
  have g2 : Boxed (W1.setCell ⟨z + 1, 0, none⟩ (.slice a6 nn cp6)) (z + 2) 4 (.bool false) := (Below.heap_setCell _ _ _ _ (by simp)).trans f2
  have c2 := cell_of_one f2
  have d2 := frozen_of_row _ (z + 2) 0 _ _ f2
  have G3 : Hid (Boxed ((W1.setCell ⟨z + 1, 0, none⟩ (.slice a6 nn cp6)).setCell ⟨z + 2, 0, none⟩ (.bool true)) (z + 1) 22 (.slice a6 nn cp6)) := Lib.hid ((Below.heap_setCell _ _ _ _ (by simp)).trans g1)
  have G4 : Hid (Boxed ((W1.setCell ⟨z + 1, 0, none⟩ (.slice a6 nn cp6)).setCell ⟨z + 2, 0, none⟩ (.bool true)) (z + 2) 4 (.bool true)) := Lib.hid (Boxed.set _ g2)
  have BE : Hid (Below w.heap.size w ((W1.setCell ⟨z + 1, 0, none⟩ (.slice a6 nn cp6)).setCell ⟨z + 2, 0, none⟩ (.bool true))) := Lib.hid ((B9.out.setCell (p := ⟨z + 1, 0, none⟩) (by simp; omega) _).setCell (p := ⟨z + 2, 0, none⟩) (by simp; omega) _)
  have HDE : Hid (((W1.setCell ⟨z + 1, 0, none⟩ (.slice a6 nn cp6)).setCell ⟨z + 2, 0, none⟩ (.bool true)).heap[D]? = some (.deferred (some []))) := Lib.hid ((Below.heap_setCell _ _ _ _ (by simp; omega)).trans ((Below.heap_setCell _ _ _ _ (by simp; omega)).trans HKD.out))
  have RR : Hid (((W1.setCell ⟨z + 1, 0, none⟩ (.slice a6 nn cp6)).setCell ⟨z + 2, 0, none⟩ (.bool true)).ownsRow w5.heap.size 53 6 (.slice a6 nn cp6) nn (elsV ((items tr).map decT))) := Lib.hid ((R9.out.kept (grownBy_setCell' W1 (z + 1) (.slice a6 nn cp6)) (.inr (Boxed.not_row f1 (by decide) R9.out).symm)).kept (grownBy_setCell' _ (z + 2) (.bool true)) (.inr (Boxed.not_row g2 (by decide) (R9.out.kept (grownBy_setCell' W1 (z + 1) (.slice a6 nn cp6)) (.inr (Boxed.not_row f1 (by decide) R9.out).symm))).symm))
  clear f1 f2 g1 g2
  go_wp2_with fail
  try rw [Exit.noGoto_ret]
  show LeavesInM _ _ _ _ _ _ (marks [D]) _ _
  refine leaves_marks [D] _ (by simp) (fun p hp => ?_) ?_
  · obtain rfl : p = (D, .deferred (some [])) := by simpa [markF] using hp
    exact HDE.out
  · intro W' e1 e2 e3 e4 e5
    have bW : Below w.heap.size w W' := ⟨e1.trans BE.out.os, e2.trans BE.out.tape, e3.trans BE.out.output, by rw [e4]; exact BE.out.size, fun k hk => (e5 k (by simp; omega)).trans (BE.out.block k hk)⟩
    have y1 := cell_of_one ((e5 (z + 1) (by simp; omega)).trans G3.out)
    have y2 := cell_of_one ((e5 (z + 2) (by simp; omega)).trans G4.out)
    refine ⟨.tuple #[.slice a6 nn cp6, .bool true], by simp [results, Tryz.results60, go_sem, y1, y2], _, .inr ⟨rfl, hz0 ▸ bW, fun a b h => G9.out _ h, ?_⟩⟩
    rw [HNN.out]
    have r1 := RR.out
    refine own_mono (own_grown (row := some D) r1 ⟨e1, e2, e3, Nat.le_of_eq e4.symm, fun k _ hne => e5 k (by simp; exact fun e => hne (by rw [e]))⟩ (fun k hk e => ?_)) (by omega)
    obtain rfl : D = k := Option.some.inj e
    rcases r1.2 with ⟨h9, _⟩ | ⟨g, cap, cur, h9, _, hgb, _⟩
    · rw [h9] at hk; simp [Value.ownBlock] at hk
    · rw [h9] at hk
      obtain rfl : g = D := by simpa [Value.ownBlock] using hk
      rw [HDE.out] at hgb
      cases hgb
 case stop =>
  rintro D c pre W1 hD hSp ⟨rfl, ⟨q, hq1, hq2⟩, h2, h3, h5⟩ hK
  have hq3 := hSp.subset hq1
  have B9 := Lib.hid h5
  have Y9 := Lib.hid h2
  have Z9 := Lib.hid h3
  have HKD := Lib.hid hK
  clear HIter r5 OWN h2 h3 h5 hK
  try simp only [Nat.add_assoc, Nat.reduceAdd]
  gi_wp2
  try rw [Exit.noGoto_ret]
  show LeavesInM _ _ _ _ _ _ (marks [D]) _ _
  refine leaves_marks [D] _ (by simp) (fun p hp => ?_) ?_
  · obtain rfl : p = (D, .deferred (some [])) := by simpa [markF] using hp
    exact HKD.out
  · intro W' e1 e2 e3 e4 e5
    have bW : Below w.heap.size w W' := ⟨e1.trans B9.out.os, e2.trans B9.out.tape, e3.trans B9.out.output, by rw [e4]; exact B9.out.size, fun k hk => (e5 k (by simp; omega)).trans (B9.out.block k hk)⟩
    have y1 := cell_of_one ((e5 (z + 1) (by simp; omega)).trans Y9.out)
    have y2 := cell_of_one ((e5 (z + 2) (by simp; omega)).trans Z9.out)
    exact ⟨.tuple #[.slice none 0 0, .bool false], by simp [results, Tryz.results60, go_sem, y1, y2], _, _, rfl, bW, .inr ⟨rfl, rfl, q, hq3, hq2⟩⟩
end Go.Proofs.YtjlliohjeiclaaaGreatDoor
namespace Go.Proofs.YtjlliohjeiclaaaGreatDoor
open Go.RowKit St Pm
theorem ts_ownB (tr : Tr ByteArray) (w : World) (h : AtS w tr) (hz : sz tr ≤ 100000) (hk : ∀ p ∈ items tr, p.1.size ≤ 70368744177663) :
 Calls Tryz.prog 60 #[.agg #[.pointer (pa tr)]] w fun e w' =>
  ∃ v, e = .returned (.tuple #[v, .bool ((items tr).all goodT)]) ∧ Below w.heap.size w w' ∧ ((items tr).all goodT = true → w'.ownsRow w.heap.size 53 6 v (items tr).length (elsV ((items tr).map decT))) ∧ ((items tr).all goodT = false → v = .slice none 0 0) := by
 refine (ts_own tr w h hz hk).mono ?_
 rintro e w' ⟨v, b, rfl, hb, ⟨rfl, h1, h2⟩ | ⟨rfl, rfl, q, hq, hg⟩⟩
 · have h3 : (items tr).all goodT = true := List.all_eq_true.2 h1
   rw [h3]
   exact ⟨v, rfl, hb, fun _ => h2, fun e => by cases e⟩
 · have h3 : (items tr).all goodT = false := List.all_eq_false.2 ⟨q, hq, by rw [hg]; simp⟩
   rw [h3]
   exact ⟨_, rfl, hb, fun e => (by cases e), fun _ => rfl⟩
theorem ts_May (tr : Tr ByteArray) (w : World) (h : AtS w tr) (hz : sz tr ≤ 100000) (hk : ∀ p ∈ items tr, p.1.size ≤ 70368744177663) :
 Calls Tryz.prog 19 #[.agg #[.pointer (pa tr)]] w fun e w' => e = .returned (.bool ((items tr).all goodT)) ∧ Below w.heap.size w w' := by
 have b1 := below_new w (.cells #[.pointer (pa tr)] 27)
 have C := Lib.hid (ts_ownB tr _ (h.below b1 rfl) hz hk)
 have B1 := Lib.hid b1
 obtain ⟨g, hg⟩ : ∃ g, (items tr).all goodT = g := ⟨_, rfl⟩
 rw [hg] at C ⊢
 clear h hk b1 hg
 go_enter Tryz.func19, Tryz.ntmps19
 go_wp2_with fail
 refine C.out.mono ?_
 rintro e w2 ⟨v, rfl, hb, _⟩
 go_wp2_with fail
 go_ret
 exact ⟨rfl, B1.out.trans (hb.mono B1.out.size)⟩
def InsOut (tr : Tr ByteArray) (x : Ev) (w : World) (e : Ending) (w' : World) : Prop :=
 if okV x = true ∧ (items tr).all goodT = true then ∃ t' : Tr ByteArray, PutR w.heap.size (tagK x) x.2 tr t' ∧ e = .returned (.tuple #[.agg #[.pointer (pa t')], .int .i64 0]) ∧ AtS w' t' ∧ Below w.heap.size w w'
 else e = .returned (.tuple #[.agg #[.pointer none], .int .i64 2]) ∧ Below w.heap.size w w'
set_option maxRecDepth 100000 in
set_option maxHeartbeats 4000000 in
theorem ts_Insert (tr : Tr ByteArray) (s : Sv) (x : ByteArray) (w : World) (h : AtS w tr) (hz : sz tr ≤ 100000) (hk : ∀ p ∈ items tr, p.1.size ≤ 70368744177663) (hl : s.l.size ≤ 9223372036854775807) (hG : Glob w) :
 Calls Tryz.prog 21 #[.agg #[.pointer (pa tr)], .agg #[.int .i64 s.g, .int .i64 s.r, .string s.l, .int .i64 s.n, .int .i64 s.i], .string x] w (InsOut tr (s, x) w) := by
 have O1 : Hid (∀ e w', okV (s, x) = true → (items tr).all goodT = true → ∀ t' : Tr ByteArray, PutR w.heap.size (tagK (s, x)) x tr t' → e = .returned (.tuple #[.agg #[.pointer (pa t')], .int .i64 0]) → AtS w' t' → Below w.heap.size w w' → InsOut tr (s, x) w e w') := Lib.hid (fun e w' h1 h2 t' h3 h4 h5 h6 => by unfold InsOut; rw [if_pos ⟨h1, h2⟩]; exact ⟨t', h3, h4, h5, h6⟩)
 have O2 : Hid (∀ e w', (okV (s, x) = false ∨ (items tr).all goodT = false) → e = .returned (.tuple #[.agg #[.pointer none], .int .i64 2]) → Below w.heap.size w w' → InsOut tr (s, x) w e w') := Lib.hid (fun e w' h1 h4 h6 => by unfold InsOut; rw [if_neg (by rintro ⟨a, b⟩; rcases h1 with h1 | h1; rw [a] at h1; cases h1; rw [b] at h1; cases h1)]; exact ⟨h4, h6⟩)
 have HT := Lib.hid h
 have HG := Lib.hid hG
 have HK := Lib.hid hk
 obtain ⟨g, hg⟩ : ∃ g, (items tr).all goodT = g := ⟨_, rfl⟩
 obtain ⟨ok, hok⟩ : ∃ g, okV (s, x) = g := ⟨_, rfl⟩
 rw [hg, hok] at O1 O2
 have GG := Lib.hid hg
 have GO := Lib.hid hok
 clear h hk hG hg hok
 have HC : Hid (Chain [w] w) := Lib.hid (Chain.one w)
 go_enter Tryz.func21, Tryz.ntmps21
 go_upto_region 1 with (fail)
 obtain ⟨y, hy⟩ : ∃ c, w.heap.size = c := ⟨_, rfl⟩
 try rw [hy]
 obtain ⟨w1, hw1⟩ : ∃ X, allocs w [.cells #[.pointer (pa tr)] 27, .cells #[.int .i64 s.g, .int .i64 s.r, .string s.l, .int .i64 s.n, .int .i64 s.i] 43, .cells #[.pointer none] 27] = X := ⟨_, rfl⟩
 rw [show ((w.alloc (.cells #[.pointer (pa tr)] 27)).alloc (.cells #[.int .i64 s.g, .int .i64 s.r, .string s.l, .int .i64 s.n, .int .i64 s.i] 43)).alloc (.cells #[.pointer none] 27) = w1 from hw1]
 have hb : Below w.heap.size w w1 := by rw [← hw1]; exact allocs_below _ _
 have HM : Hid (w1.heap[y]? = some (.cells #[.pointer (pa tr)] 27 (0, 0))) := Lib.hid (by have := allocs_get [.cells #[.pointer (pa tr)] 27, .cells #[.int .i64 s.g, .int .i64 s.r, .string s.l, .int .i64 s.n, .int .i64 s.i] 43, .cells #[.pointer none] 27] w 0 _ rfl; rw [hw1, hy] at this; exact this)
 have HS : Hid (w1.heap[y + 1]? = some (.cells #[.int .i64 s.g, .int .i64 s.r, .string s.l, .int .i64 s.n, .int .i64 s.i] 43 (0, 0))) := Lib.hid (by have := allocs_get [.cells #[.pointer (pa tr)] 27, .cells #[.int .i64 s.g, .int .i64 s.r, .string s.l, .int .i64 s.n, .int .i64 s.i] 43, .cells #[.pointer none] 27] w 1 _ rfl; rw [hw1, hy] at this; exact this)
 have HR : Hid (w1.heap[y + 1 + 1]? = some (.cells #[.pointer none] 27 (0, 0))) := Lib.hid (by have := allocs_get [.cells #[.pointer (pa tr)] 27, .cells #[.int .i64 s.g, .int .i64 s.r, .string s.l, .int .i64 s.n, .int .i64 s.i] 43, .cells #[.pointer none] 27] w 2 _ rfl; rw [hw1, hy] at this; exact this)
 have Sy : Hid (w.heap.size = y) := Lib.hid hy
 replace HC := Lib.hid (HC.out.push hb)
 clear hb hw1 hy
 have kS0 := cell_of_row _ _ 0 _ _ _ HS.out
 have kS1 := cell_of_row _ _ 1 _ _ _ HS.out
 have kS2 := cell_of_row _ _ 2 _ _ _ HS.out
 have kS3 := cell_of_row _ _ 3 _ _ _ HS.out
 have kS4 := cell_of_row _ _ 4 _ _ _ HS.out
 go_wp2_with fail
 refine (ts_Key x s _ hl (HG.out.below (HC.out.to w (by simp)))).mono ?_
 rintro e w2 ⟨rfl, hb⟩
 clear kS0 kS1 kS2 kS3 kS4
 replace HC := Lib.hid (HC.out.push hb)
 clear hb
 rw [GO.out]
 cases ok
 case false =>
  have RF := Lib.hid (boxStays HR.out (HC.out.to w1 (by simp)))
  have BF := Lib.hid (HC.out.to w (by simp))
  have hzs := RF.out
  have c1 := cell_of_one RF.out
  have d1 := frozen_of_row _ (y + 1 + 1) 0 _ _ RF.out
  simp only [Bool.false_eq_true, if_false]
  go_wp2_with fail
  have k1 := cell_of_one (heap_setCell_same w2 (y + 1 + 1) 0 _ _ (.pointer none) RF.out)
  refine bodyPost_ret (v := .tuple #[.agg #[.pointer none], .int .i64 2]) (by simp [results, Tryz.results21, go_sem, k1]) rfl ?_
  exact O2.out _ _ (.inl (by simp)) rfl (BF.out.setCell (p := ⟨y + 1 + 1, 0, none⟩) (by have := Sy.out; simp; omega) _)
 case true =>
  simp only [if_true]
  have kM0 := cell_of_one (boxStays HM.out (HC.out.to w1 (by simp)))
  go_wp2_with fail
  refine (ts_May tr _ (HT.out.below (HC.out.to w (by simp)) rfl) hz HK.out).mono ?_
  rintro e w3 ⟨rfl, hb⟩
  clear kM0
  replace HC := Lib.hid (HC.out.push hb)
  clear hb
  rw [GG.out]
  cases g
  case false =>
   have RF := Lib.hid (boxStays HR.out (HC.out.to w1 (by simp)))
   have BF := Lib.hid (HC.out.to w (by simp))
   have c1 := cell_of_one RF.out
   have d1 := frozen_of_row _ (y + 1 + 1) 0 _ _ RF.out
   go_wp2_with fail
   have k1 := cell_of_one (heap_setCell_same w3 (y + 1 + 1) 0 _ _ (.pointer none) RF.out)
   refine bodyPost_ret (v := .tuple #[.agg #[.pointer none], .int .i64 2]) (by simp [results, Tryz.results21, go_sem, k1]) rfl ?_
   exact O2.out _ _ (.inr (by simp)) rfl (BF.out.setCell (p := ⟨y + 1 + 1, 0, none⟩) (by have := Sy.out; simp; omega) _)
  case true =>
   have kM0 := cell_of_one (boxStays HM.out (HC.out.to w1 (by simp)))
   go_wp2_with fail
   have hN : w.heap.size ≤ w3.heap.size := (HC.out.to w (by simp)).size
   refine (pm_MPutS tr (tagK (s, x)) x w.heap.size _ hN (HT.out.below (HC.out.to w (by simp)) rfl) (by omega)).mono ?_
   rintro e w4 ⟨t', hP, rfl, hA, hb⟩
   clear kM0
   replace HC := Lib.hid (HC.out.push hb)
   clear hb
   have RF := Lib.hid (boxStays HR.out (HC.out.to w1 (by simp)))
   have BF := Lib.hid (HC.out.to w (by simp))
   have HP := Lib.hid hP
   have HA := Lib.hid hA
   clear hP hA
   have c1 := cell_of_one RF.out
   have d1 := frozen_of_row _ (y + 1 + 1) 0 _ _ RF.out
   go_wp2_with fail
   have k1 := cell_of_one (heap_setCell_same w4 (y + 1 + 1) 0 _ _ (.pointer (pa t')) RF.out)
   refine bodyPost_ret (v := .tuple #[.agg #[.pointer (pa t')], .int .i64 0]) (by simp [results, Tryz.results21, go_sem, k1]) rfl ?_
   exact O1.out _ _ (by simp) (by simp) t' HP.out rfl (HA.out.setBox RF.out (by decide) 0 (.pointer (pa t'))) (BF.out.setCell (p := ⟨y + 1 + 1, 0, none⟩) (by have := Sy.out; simp; omega) _)
end Go.Proofs.YtjlliohjeiclaaaGreatDoor
namespace Go.Proofs.YtjlliohjeiclaaaGreatDoor
open Go.RowKit St
def smK (s : Sv) : Value := .agg #[.int .i64 s.g, .int .i64 s.r, .string s.l, .int .i64 s.n, .int .i64 s.i]
def StMap (W : World) (B : Nat) (ps : List (Sv × Int)) : Prop :=
 ∃ (es : Array MapEntry) (clock : Nat), W.heap[B]? = some (.map es clock) ∧ es.toList.map (fun e => (e.key, e.val)) = ps.map fun p => (smK p.1, Value.int .i64 p.2)
theorem StMap.below {W W' : World} {B : Nat} {ps : List (Sv × Int)} (h : StMap W B ps) (hb : Below W.heap.size W W') : StMap W' B ps := by
 obtain ⟨es, c, h1, h2⟩ := h
 exact ⟨es, c, (hb.block B (Array.getElem?_eq_some_iff.1 h1).1).trans h1, h2⟩
theorem StMap.new (w : World) : StMap (w.alloc (.map #[] 0)) w.heap.size [] := ⟨#[], 0, heap_alloc_new w _, rfl⟩
def lookG (ps : List (Sv × Int)) (s : Sv) : Int := match ps.find? (fun p => decide (p.1 = s)) with
 | none => 0
 | some p => p.2
theorem smK_equal (s t : Sv) (w : World) : (Op.equal 43 (smK s) (smK t)).run Tryz.prog w = .ok (decide (s = t)) w := by
 have h := sv_eql s t w
 rw [run_eql_struct] at h
 have e : Op.equal 43 (smK s) (smK t) = Op.equalIn 10000 43 (smK s) (smK t) := rfl
 rw [e]
 unfold smK
 cases hr : (Op.equalIn 10000 43 (.agg #[.int .i64 s.g, .int .i64 s.r, .string s.l, .int .i64 s.n, .int .i64 s.i]) (.agg #[.int .i64 t.g, .int .i64 t.r, .string t.l, .int .i64 t.n, .int .i64 t.i])).run Tryz.prog w with
 | ok b w' =>
  rw [hr] at h
  simp [Result.andThen] at h
  obtain ⟨h1, h2⟩ := h
  rw [h2]
  congr 1
 | halt x w' =>
  rw [hr] at h
  cases h
theorem stFindAsking (w : World) (s : Sv) : ∀ (es : List MapEntry) (ps : List (Sv × Int)) (i : Nat), es.map (fun e => (e.key, e.val)) = ps.map (fun p => (smK p.1, Value.int .i64 p.2)) →
 ((∀ p ∈ ps, p.1 ≠ s) ∧ (Instr.findAsking 43 (smK s) es i).run Tryz.prog w = .ok none w) ∨ ((∃ p ∈ ps, p.1 = s) ∧ ∃ j, (Instr.findAsking 43 (smK s) es i).run Tryz.prog w = .ok (some (j, .int .i64 (lookG ps s))) w)
 | [], ps, i, h => by
  have : ps = [] := by simpa using h.symm
  subst this
  exact .inl ⟨by simp, by simp [Instr.findAsking]⟩
 | e :: es, [], i, h => by simp at h
 | e :: es, p :: ps, i, h => by
  simp only [List.map_cons, List.cons.injEq, Prod.mk.injEq] at h
  obtain ⟨⟨hk, hv⟩, hr⟩ := h
  have he := smK_equal s p.1 w
  by_cases e1 : s = p.1
  · refine .inr ⟨⟨p, by simp, e1.symm⟩, i, ?_⟩
    rw [decide_eq_true e1] at he
    have hl : lookG (p :: ps) s = p.2 := by unfold lookG; rw [List.find?_cons_of_pos (by simp [e1])]
    simp [Instr.findAsking, hk, hv, he, hl]
  · rw [decide_eq_false e1] at he
    have hl : lookG (p :: ps) s = lookG ps s := by unfold lookG; rw [List.find?_cons_of_neg (by simp; exact fun h => e1 h.symm)]
    rcases stFindAsking w s es ps (i + 1) hr with ⟨h1, h2⟩ | ⟨⟨q, h1, h3⟩, j, h2⟩
    · refine .inl ⟨fun q hq => ?_, by simp [Instr.findAsking, hk, he, h2]⟩
      rcases List.mem_cons.1 hq with rfl | hq
      · exact fun h => e1 h.symm
      · exact h1 q hq
    · exact .inr ⟨⟨q, by simp [h1], h3⟩, j, by rw [hl]; simp [Instr.findAsking, hk, he, h2]⟩
theorem stFindKey (w : World) (s : Sv) (es : List MapEntry) (ps : List (Sv × Int)) (h : es.map (fun e => (e.key, e.val)) = ps.map (fun p => (smK p.1, Value.int .i64 p.2))) :
 ((∀ p ∈ ps, p.1 ≠ s) ∧ (Instr.findKey 43 (smK s) es).run Tryz.prog w = .ok none w) ∨ ((∃ p ∈ ps, p.1 = s) ∧ ∃ j, (Instr.findKey 43 (smK s) es).run Tryz.prog w = .ok (some (j, .int .i64 (lookG ps s))) w) := by
 have hp := Tryz.underlying43
 cases es with
 | nil =>
  have : ps = [] := by simpa using h.symm
  subst this
  exact .inl ⟨by simp, by simp [Instr.findKey, run_underlying hp, Instr.findNow]⟩
 | cons e es =>
  have := stFindAsking w s (e :: es) ps 0 h
  unfold Instr.findKey
  simp only [Sem.run_bind, run_underlying hp, Result.andThen_ok]
  have hf : ∀ fs, Instr.findNow (.struct fs) (smK s) (e :: es) 0 = none := fun fs => by simp [Instr.findNow, Instr.sameNow]
  rw [hf]
  exact this
theorem stCheck (s : Sv) (em : Bool) (w : World) : (Instr.checkKey em 10000 43 (smK s)).run Tryz.prog w = .ok () w := by
 cases em <;> kernel_rfl
theorem stMap_look {w : World} {B : Nat} {ps : List (Sv × Int)} (h : StMap w B ps) (s : Sv) :
 (Instr.lookup 100 (.map (some B)) (smK s) false).run Tryz.prog w = .ok (.int .i64 (lookG ps s)) w := by
 obtain ⟨es, clock, hB, he⟩ := h
 have hm := Tryz.underlying100
 have hz : (zeroValue 3).run Tryz.prog w = .ok (.int .i64 0) w := by kernel_rfl
 have hc := stCheck s es.isEmpty w
 rcases stFindKey w s es.toList ps he with ⟨h1, h2⟩ | ⟨h1, j, h2⟩
 · have hl : lookG ps s = 0 := by
    unfold lookG
    rw [List.find?_eq_none.2 (fun p hp => by simpa using h1 p hp)]
   unfold Instr.lookup
   simp [run_underlying hm, Go.MapKept.run_getObj_map hB, hc, h2, hz, hl]
 · unfold Instr.lookup
   simp [run_underlying hm, Go.MapKept.run_getObj_map hB, hc, h2]
end Go.Proofs.YtjlliohjeiclaaaGreatDoor
namespace Go.Proofs.YtjlliohjeiclaaaGreatDoor
open Go.RowKit St
theorem smK_same (s : Sv) : Instr.sameBits 10000 (smK s) (smK s) = true := by
 have h : ∀ n, Instr.sameBits (n + 1) (smK s) (smK s) = true := fun n => by
  unfold smK
  simp [Instr.sameBits, Go.MapKept.bytes_beq]
 exact h 9999
theorem smK_stays (s : Sv) (w : World) : (Instr.keyThatStays (smK s) (smK s)).run Tryz.prog w = .ok (smK s) w := by
 simp [Instr.keyThatStays, smK_same]
def SeMap (W : World) (B : Nat) (f : Sv → Int) : Prop :=
 ∃ (es : Array MapEntry) (clock : Nat) (ps : List (Sv × Int)), W.heap[B]? = some (.map es clock) ∧ es.toList.map (fun e => (e.key, e.val)) = ps.map (fun p => (smK p.1, Value.int .i64 p.2)) ∧
  (es.toList.map (·.born)).Nodup ∧ (∀ x ∈ es.toList, x.born < clock) ∧ ∀ s, lookG ps s = f s
theorem SeMap.below {W W' : World} {B : Nat} {f : Sv → Int} (h : SeMap W B f) (hb : Below W.heap.size W W') : SeMap W' B f := by
 obtain ⟨es, c, ps, h1, h2⟩ := h
 exact ⟨es, c, ps, (hb.block B (Array.getElem?_eq_some_iff.1 h1).1).trans h1, h2⟩
theorem SeMap.new (w : World) : SeMap (w.alloc (.map #[] 0)) w.heap.size (fun _ => 0) := ⟨#[], 0, [], heap_alloc_new w _, rfl, by simp, fun x hx => (by simp at hx), fun s => rfl⟩
theorem SeMap.look {w : World} {B : Nat} {f : Sv → Int} (h : SeMap w B f) (s : Sv) :
 (Instr.lookup 100 (.map (some B)) (smK s) false).run Tryz.prog w = .ok (.int .i64 (f s)) w := by
 obtain ⟨es, clock, ps, h1, h2, _, _, h5⟩ := h
 rw [← h5 s]
 exact stMap_look ⟨es, clock, h1, h2⟩ s
def updG (s : Sv) (v : Int) : List (Sv × Int) → List (Sv × Int)
 | [] => []
 | p :: ps => if p.1 = s then (s, v) :: ps else p :: updG s v ps
theorem lookG_hit (p : Sv × Int) (ps : List (Sv × Int)) {s : Sv} (h : p.1 = s) : lookG (p :: ps) s = p.2 := by unfold lookG; rw [List.find?_cons_of_pos (by simp [h])]
theorem lookG_skip (p : Sv × Int) (ps : List (Sv × Int)) {s : Sv} (h : p.1 ≠ s) : lookG (p :: ps) s = lookG ps s := by unfold lookG; rw [List.find?_cons_of_neg (by simpa using h)]
theorem updG_look (s : Sv) (v : Int) (t : Sv) : ∀ {ps : List (Sv × Int)}, (∃ p ∈ ps, p.1 = s) → lookG (updG s v ps) t = if t = s then v else lookG ps t
 | [], h => by obtain ⟨_, h, _⟩ := h; cases h
 | p :: ps, h => by
  unfold updG
  by_cases hp : p.1 = s
  · rw [if_pos hp]
    by_cases ht : t = s
    · subst ht; rw [if_pos rfl, lookG_hit _ _ rfl]
    · rw [if_neg ht, lookG_skip _ _ (fun e => ht e.symm), lookG_skip _ _ (fun e => ht (by rw [← e, hp]))]
  · rw [if_neg hp]
    have ih := updG_look s v t (ps := ps) (by
     obtain ⟨q, hq, hs⟩ := h
     rcases List.mem_cons.1 hq with rfl | hq
     · exact absurd hs hp
     · exact ⟨q, hq, hs⟩)
    by_cases ht : p.1 = t
    · rw [lookG_hit _ _ ht, lookG_hit _ _ ht, if_neg (fun e => hp (by rw [ht, e]))]
    · rw [lookG_skip _ _ ht, lookG_skip _ _ ht, ih]
theorem addG_look (s : Sv) (v : Int) (t : Sv) : ∀ {ps : List (Sv × Int)}, (∀ p ∈ ps, p.1 ≠ s) → lookG (ps ++ [(s, v)]) t = if t = s then v else lookG ps t
 | [], _ => by
  by_cases ht : t = s
  · subst ht; rw [if_pos rfl]; exact lookG_hit _ _ rfl
  · rw [if_neg ht]; exact lookG_skip _ _ (fun e => ht e.symm)
 | p :: ps, h => by
  have ih := addG_look s v t (ps := ps) fun q hq => h q (List.mem_cons_of_mem _ hq)
  have h0 := h p List.mem_cons_self
  rw [List.cons_append]
  by_cases ht : p.1 = t
  · rw [lookG_hit _ _ ht, lookG_hit _ _ ht, if_neg (fun e => h0 (by rw [ht, e]))]
  · rw [lookG_skip _ _ ht, lookG_skip _ _ ht, ih]
theorem stFindAt (w : World) (s : Sv) : ∀ (es : List MapEntry) (ps : List (Sv × Int)) (i : Nat), es.map (fun e => (e.key, e.val)) = ps.map (fun p => (smK p.1, Value.int .i64 p.2)) →
 ((∀ p ∈ ps, p.1 ≠ s) ∧ (Instr.findAsking 43 (smK s) es i).run Tryz.prog w = .ok none w) ∨
 ((∃ p ∈ ps, p.1 = s) ∧ ∃ j e0, es[j]? = some e0 ∧ e0.key = smK s ∧ (Instr.findAsking 43 (smK s) es i).run Tryz.prog w = .ok (some (i + j, .int .i64 (lookG ps s))) w ∧ ∀ v, (es.set j { e0 with val := .int .i64 v }).map (fun e => (e.key, e.val)) = (updG s v ps).map (fun p => (smK p.1, Value.int .i64 p.2)))
 | [], ps, i, h => by
  have : ps = [] := by simpa using h.symm
  subst this
  exact .inl ⟨by simp, by simp [Instr.findAsking]⟩
 | e :: es, [], i, h => by simp at h
 | e :: es, p :: ps, i, h => by
  simp only [List.map_cons, List.cons.injEq, Prod.mk.injEq] at h
  obtain ⟨⟨hk, hv⟩, hr⟩ := h
  have he := smK_equal s p.1 w
  by_cases e1 : s = p.1
  · refine .inr ⟨⟨p, by simp, e1.symm⟩, 0, e, rfl, by rw [hk, e1], ?_, fun v => ?_⟩
    · rw [decide_eq_true e1] at he
      have hl : lookG (p :: ps) s = p.2 := lookG_hit _ _ e1.symm
      simp [Instr.findAsking, hk, hv, he, hl]
    · unfold updG
      rw [if_pos e1.symm]
      simp only [List.set_cons_zero, List.map_cons, hr, hk, e1]
  · rw [decide_eq_false e1] at he
    have hl : lookG (p :: ps) s = lookG ps s := lookG_skip _ _ fun h => e1 h.symm
    rcases stFindAt w s es ps (i + 1) hr with ⟨h1, h2⟩ | ⟨⟨q, h1, h3⟩, j, e0, h4, h5, h6, h7⟩
    · refine .inl ⟨fun q hq => ?_, by simp [Instr.findAsking, hk, he, h2]⟩
      rcases List.mem_cons.1 hq with rfl | hq
      · exact fun h => e1 h.symm
      · exact h1 q hq
    · refine .inr ⟨⟨q, by simp [h1], h3⟩, j + 1, e0, by simpa using h4, h5, ?_, fun v => ?_⟩
      · rw [hl]
        have e2 : i + (j + 1) = i + 1 + j := by omega
        rw [e2]
        simp [Instr.findAsking, hk, he, h6]
      · unfold updG
        rw [if_neg (fun h => e1 h.symm), List.set_cons_succ, List.map_cons, List.map_cons, h7, hk, hv]
theorem stFindKeyAt (w : World) (s : Sv) (es : List MapEntry) (ps : List (Sv × Int)) (h : es.map (fun e => (e.key, e.val)) = ps.map (fun p => (smK p.1, Value.int .i64 p.2))) :
 ((∀ p ∈ ps, p.1 ≠ s) ∧ (Instr.findKey 43 (smK s) es).run Tryz.prog w = .ok none w) ∨
 ((∃ p ∈ ps, p.1 = s) ∧ ∃ j e0, es[j]? = some e0 ∧ e0.key = smK s ∧ (Instr.findKey 43 (smK s) es).run Tryz.prog w = .ok (some (j, .int .i64 (lookG ps s))) w ∧ ∀ v, (es.set j { e0 with val := .int .i64 v }).map (fun e => (e.key, e.val)) = (updG s v ps).map (fun p => (smK p.1, Value.int .i64 p.2))) := by
 have hp := Tryz.underlying43
 cases es with
 | nil =>
  have : ps = [] := by simpa using h.symm
  subst this
  exact .inl ⟨by simp, by simp [Instr.findKey, run_underlying hp, Instr.findNow]⟩
 | cons e es =>
  have := stFindAt w s (e :: es) ps 0 h
  unfold Instr.findKey
  simp only [Sem.run_bind, run_underlying hp, Result.andThen_ok]
  have hf : ∀ fs, Instr.findNow (.struct fs) (smK s) (e :: es) 0 = none := fun fs => by simp [Instr.findNow, Instr.sameNow]
  rw [hf]
  simpa using this
theorem SeMap.count {w : World} {B : Nat} {f : Sv → Int} (h : SeMap w B f) (s : Sv) :
 ∃ (st : Nat) (o : Obj), (Instr.mapEntry 100 (.map (some B)) (smK s)).run Tryz.prog w = .ok (.tuple #[.int .i64 (f s), .int .i64 (st : Int)]) (w.putObj B o) ∧
  SeMap (w.putObj B o) B f ∧ ∀ v : Int, ∃ o', (Instr.entryStore 100 (.map (some B)) (.int .i64 (st : Int)) (.int .i64 v)).run Tryz.prog (w.putObj B o) = .ok () ((w.putObj B o).putObj B o') ∧
   SeMap ((w.putObj B o).putObj B o') B (fun t => if t = s then v else f t) := by
 obtain ⟨es, clock, ps, hB, he, hnd, hlt, hf⟩ := h
 have hm := Tryz.underlying100
 have hz : ∀ u, (zeroValue 3).run Tryz.prog u = .ok (.int .i64 0) u := fun u => by kernel_rfl
 have hc := stCheck s false w
 have hBl := (Array.getElem?_eq_some_iff.1 hB).1
 rcases stFindKeyAt w s es.toList ps he with ⟨h1, h2⟩ | ⟨h1, j, e0, h3, h4, h5, h6⟩
 · have hl : lookG ps s = 0 := by
    unfold lookG
    rw [List.find?_eq_none.2 (fun p hp => by simpa using h1 p hp)]
   refine ⟨clock, .map (es.push { key := smK s, val := .int .i64 0, born := clock }) (clock + 1), ?_, ?_, fun v => ⟨.map (es.push { key := smK s, val := .int .i64 v, born := clock }) (clock + 1), ?_, ?_⟩⟩
   · simp [Instr.mapEntry, run_underlying hm, Go.MapKept.run_getObj_map hB, hc, h2, hz, Go.MapKept.run_setObj_map _ hB, Result.andThen, ← hf, hl, goInt]
     rfl
   · refine ⟨_, _, ps ++ [(s, 0)], World.putObj_heap_same hBl, by simp [he], ?_, ?_, fun t => ?_⟩
     · simp only [Array.toList_push, List.map_append, List.map_cons, List.map_nil]
       refine List.nodup_append.2 ⟨hnd, by simp, fun a ha c hc' e1 => ?_⟩
       simp only [List.mem_singleton] at hc'
       obtain ⟨x, hx, rfl⟩ := List.mem_map.1 ha
       have := hlt x hx
       omega
     · intro x hx
       simp only [Array.toList_push, List.mem_append, List.mem_singleton] at hx
       rcases hx with hx | rfl
       · have := hlt x hx; omega
       · simp
     · rw [addG_look s 0 t h1]
       by_cases ht : t = s
       · subst ht; rw [if_pos rfl, ← hf, hl]
       · rw [if_neg ht, hf]
   · have hw2 : (w.putObj B (.map (es.push { key := smK s, val := .int .i64 0, born := clock }) (clock + 1))).heap[B]? = some (.map (es.push { key := smK s, val := .int .i64 0, born := clock }) (clock + 1)) := World.putObj_heap_same hBl
     have hidx : (es.push { key := smK s, val := .int .i64 0, born := clock }).findIdx? (fun e => ((e.born : Nat) : Int) == ((clock : Nat) : Int)) = some es.size := by
      rw [Go.WideElems.findIdx_arr]
      exact Go.WideElems.findIdx_born (l := (es.push { key := smK s, val := .int .i64 0, born := clock }).toList) (j := es.size) (e0 := { key := smK s, val := .int .i64 0, born := clock }) (by
       simp only [Array.toList_push, List.map_append, List.map_cons, List.map_nil]
       refine List.nodup_append.2 ⟨hnd, by simp, fun a ha c hc' e1 => ?_⟩
       simp only [List.mem_singleton] at hc'
       obtain ⟨x, hx, rfl⟩ := List.mem_map.1 ha
       have := hlt x hx
       omega) (by simp)
     have hmod : (es.push { key := smK s, val := .int .i64 0, born := clock }).modify es.size (fun e => { e with val := .int .i64 v }) = es.push { key := smK s, val := .int .i64 v, born := clock } := by
      apply Array.ext'
      rw [Array.toList_modify, Array.toList_push, Array.toList_push, ← Array.length_toList, Go.WideElems.modify_last]
     simp [Instr.entryStore, Go.MapKept.run_getObj_map hw2, asInt, asIntOf, hidx, hmod, Go.MapKept.run_setObj_map _ hw2, Result.andThen]
     rfl
   · refine ⟨_, _, ps ++ [(s, v)], World.putObj_heap_same (by simpa using hBl), by simp [he], ?_, ?_, fun t => ?_⟩
     · simp only [Array.toList_push, List.map_append, List.map_cons, List.map_nil]
       refine List.nodup_append.2 ⟨hnd, by simp, fun a ha c hc' e1 => ?_⟩
       simp only [List.mem_singleton] at hc'
       obtain ⟨x, hx, rfl⟩ := List.mem_map.1 ha
       have := hlt x hx
       omega
     · intro x hx
       simp only [Array.toList_push, List.mem_append, List.mem_singleton] at hx
       rcases hx with hx | rfl
       · have := hlt x hx; omega
       · simp
     · rw [addG_look s v t h1, hf]
 · have hj : es[j]? = some e0 := by simpa using h3
   have hsame : es.modify j (fun e => { e with key := smK s }) = es := by
    apply Array.ext'
    rw [Array.toList_modify, Go.ChangeMaps.modify_eq_set _ _ _ _ h3]
    have : ({ e0 with key := smK s } : MapEntry) = e0 := by rw [← h4]
    rw [this]
    exact Go.WideElems.set_self _ _ _ h3
   have hstay := smK_stays s w
   refine ⟨e0.born, .map es clock, ?_, ⟨es, clock, ps, World.putObj_heap_same hBl, he, hnd, hlt, hf⟩, fun v => ⟨.map (es.modify j (fun e => { e with val := .int .i64 v })) clock, ?_, ?_⟩⟩
   · simp [Instr.mapEntry, run_underlying hm, Go.MapKept.run_getObj_map hB, hc, h5, hj, h4, hstay, hsame, Go.MapKept.run_setObj_map _ hB, Result.andThen, ← hf, goInt]
     rfl
   · have hw2 : (w.putObj B (.map es clock)).heap[B]? = some (.map es clock) := World.putObj_heap_same hBl
     have hidx : es.findIdx? (fun e => ((e.born : Nat) : Int) == ((e0.born : Nat) : Int)) = some j := by
      rw [Go.WideElems.findIdx_arr]
      exact Go.WideElems.findIdx_born hnd h3
     simp [Instr.entryStore, Go.MapKept.run_getObj_map hw2, asInt, asIntOf, hidx, Go.MapKept.run_setObj_map _ hw2, Result.andThen]
     rfl
   · have hset : (es.modify j (fun e => { e with val := .int .i64 v })).toList = es.toList.set j { e0 with val := .int .i64 v } := by
      rw [Array.toList_modify, Go.ChangeMaps.modify_eq_set _ _ _ _ h3]
     have hbn : (es.modify j (fun e => { e with val := .int .i64 v })).toList.map (·.born) = es.toList.map (·.born) := by
      rw [hset, List.map_set]
      exact Go.WideElems.set_self _ _ _ (by rw [List.getElem?_map, h3]; rfl)
     refine ⟨_, _, updG s v ps, World.putObj_heap_same (by simpa using hBl), by rw [hset]; exact h6 v, by rw [hbn]; exact hnd, fun x hx => ?_, fun t => by rw [updG_look s v t h1, hf]⟩
     have : x.born ∈ es.toList.map (·.born) := by rw [← hbn]; exact List.mem_map.2 ⟨x, hx, rfl⟩
     obtain ⟨y, hy, he'⟩ := List.mem_map.1 this
     rw [← he']
     exact hlt y hy
end Go.Proofs.YtjlliohjeiclaaaGreatDoor
