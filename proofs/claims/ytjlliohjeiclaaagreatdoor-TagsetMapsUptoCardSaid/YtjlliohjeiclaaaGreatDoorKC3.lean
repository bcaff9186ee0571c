/- Words, contracts and walks that the proof stands on (KyK KyF KyG RelS KyH). -/
import Derived.Deep.Cut
import Derived.Laws.DeepStrings4
import Derived.Test.YtjlliohjeiclaaaGreatDoorKC2
namespace Go.Proofs.YtjlliohjeiclaaaGreatDoor
open Go.RowKit St
open Go.Op (bytesLess)
set_option maxRecDepth 100000 in
set_option maxHeartbeats 1000000 in
theorem ref6_eight (n : Int) (w : World) (h0 : 0 ≤ n) (h1 : n ≤ 4611686018427387904) : Calls Tryz.prog 137 #[.int .i64 n] w fun e w' => ∃ v, e = .returned v ∧ w'.ownsRow w.heap.size 5 1 v 8 (bvs (dig 8 n.toNat)) ∧ Below w.heap.size w w' := by
 have BT := Lib.hid u8T
 go_enter Tryz.func137, Tryz.ntmps137
 go_wp2_with fail
 go_loopw [3, 4] (fun v i wr => ∃ k : Nat, k ≤ 8 ∧ i = .int .i64 (56 - 8 * (k : Int)) ∧ Hid (wr.ownsRow w.heap.size 5 1 v ((dig 8 n.toNat).take k).length (bvs ((dig 8 n.toNat).take k))) ∧ Hid (Below w.heap.size w wr)) (fun _ i _ => (intOf i + 8).toNat)
 case atStart => exact ⟨0, Nat.zero_le _, rfl, Lib.hid ⟨rfl, Or.inl ⟨rfl, rfl⟩⟩, Lib.hid (Below.refl _ _)⟩
 case round =>
  obtain ⟨k, hk, rfl, HO, HB⟩ := hrel
  by_cases hlt : k < 8
  · have hge : (0 : Int) ≤ 56 - 8 * (k : Int) := by omega
    have HV := Lib.hid (dig_val n k h0 hlt)
    have HT := Lib.hid (List.take_succ_eq_append_getElem (l := dig 8 n.toNat) (i := k) (by rw [dig_length]; exact hlt))
    have HBS := Lib.hid HB.out.size
    generalize (dig 8 n.toNat)[k]'(by rw [dig_length]; exact hlt) = c at *
    go_wp2_with (at_builtin; refine wpList_appb rfl _ _ 113 113 rfl w.heap.size 5 BT.out u3 ((dig 8 n.toNat).take k) rfl (HO.out.alloc _) _ [c] rfl (src_one Tryz.underlying113 wr 5 c _ HV.out) (by simp [dig_length]; omega) (by have := HBS.out; simp; omega) ?_; intro v' w1 hown1 _ hbel1 _)
    have HO1 := Lib.hid hown1; clear hown1
    have HB1 := Lib.hid ((HB.out.alloc HB.out.size (.cells #[.int .u8 (n / 2 ^ (56 - 8 * k) % 256)] 5)).trans hbel1); clear hbel1
    go_wp2_with fail
    go_roundw
    case rel => exact ⟨k + 1, by omega, congrArg (Value.int .i64) (by omega), Lib.hid (by rw [HT.out]; exact HO1.out), HB1⟩
    case measure => simp [intOf]; omega
  · obtain rfl : k = 8 := by omega
    go_wp2_with fail
    go_ret
    have := HO.out
    rw [List.take_of_length_le (by simp [dig_length]), dig_length] at this
    exact ⟨_, rfl, this, HB.out⟩
def OwB (B : Nat) (l : List UInt8) : Pr := fun v w => w.ownsRow B 5 1 v l.length (bvs l)
theorem OwB.stay (B : Nat) (l : List UInt8) : Stay (OwB B l) := fun _ _ _ h hb => own_later h hb (Nat.le_refl _)
set_option maxRecDepth 100000 in
set_option maxHeartbeats 2000000 in
theorem ref6_Key (s : Sv) (w : World) (hok : s.ok = true) : Calls Tryz.prog 102 #[.agg #[.int .i64 s.g, .int .i64 s.r, .string s.l, .int .i64 s.n, .int .i64 s.i]] w fun e w' => e = .returned (.string (keyB s.st)) ∧ Below w.heap.size w w' := by
 have HK := Lib.hid (keyL_flat s)
 have HKL : Hid (keyL s = [dig 8 s.g.toNat, dig 1 s.r.toNat, s.l.data.toList, [0], dig 8 s.n.toNat, dig 1 s.i.toNat]) := Lib.hid rfl
 have HKB : Hid (keyB s.st = ⟨s.st.key.toArray⟩) := Lib.hid rfl
 obtain ⟨h1, h2, h3, h4, h5, h6, h7, h8, h9⟩ := Sv.ok_iff.1 hok
 clear hok
 obtain ⟨g, r, l, n, i⟩ := s
 simp only at HK HKL HKB h1 h2 h3 h4 h5 h6 h7 h8 h9 ⊢
 generalize keyL ⟨g, r, l, n, i⟩ = kl at *
 generalize keyB (Sv.st ⟨g, r, l, n, i⟩) = kb at *
 generalize Stp.key (Sv.st ⟨g, r, l, n, i⟩) = kk at *
 have hll := okLabel_len h5
 have hdl := dlen l
 have hkk : ([dig 8 g.toNat, dig 1 r.toNat, l.data.toList, [0], dig 8 n.toNat, dig 1 i.toNat]).flatten = kk := by rw [← HKL.out]; exact HK.out
 have KK := Lib.hid hkk
 have RR := Lib.hid (dig1_val h3 (show r < 256 by omega))
 have II := Lib.hid (dig1_val h8 (show i < 256 by omega))
 have WR := Lib.hid (wrap_u8 h3 (show r < 256 by omega))
 have WI := Lib.hid (wrap_u8 h8 (show i < 256 by omega))
 clear hkk HKL HK
 go_enter Tryz.func102, Tryz.ntmps102
 go_wp2_with fail
 have x1 := heap_alloc_new w (.cells #[.int .i64 g, .int .i64 r, .string l, .int .i64 n, .int .i64 i] 43)
 have hW3 := below_new w (.cells #[.int .i64 g, .int .i64 r, .string l, .int .i64 n, .int .i64 i] 43)
 generalize w.alloc (.cells #[.int .i64 g, .int .i64 r, .string l, .int .i64 n, .int .i64 i] 43) = W at *
 have X1 := Lib.hid x1
 have X3 := Lib.hid hW3
 clear x1 hW3
 have BT := Lib.hid u8T
 refine relG_start (slots := [4, 5, 6, 7, 8, 9, 10, 11, 12, 13, 3]) (so := []) (by kernel_rfl) (by kernel_rfl) (by rfl) ?_
 refine relG_pure (i := 0) (o := ⟨some 4, _, _, _, _, _⟩) (v := ?v1) [] [1] rfl rfl (by kernel_rfl) (by kernel_rfl) (fun t w1 hB hf hbf => ?y1) ?n1
 case y1 =>
  simp only [BasF] at hbf
  clear hf
  obtain ⟨⟨b1, k1⟩, _⟩ := hbf
  have b1' := boxStays X1.out hB
  have c0 := cell_of_row _ _ 0 _ _ _ b1'
  have c1 := cell_of_row _ _ 1 _ _ _ b1'
  have wr := WR.out
  clear b1'
  refine Or.inl ⟨wanted_none rfl, ?_⟩
  rintro _ rfl
  go_simp <;> with_reducible rfl
 refine relG_pure (i := 1) (o := ⟨some 5, _, _, _, _, _⟩) (v := ?v2) [(0, 4, 0)] [] rfl rfl (by kernel_rfl) (by kernel_rfl) (fun t w1 hB hf hbf => ?y2) ?n2
 case y2 =>
  simp only [DepF, List.getD_cons_zero] at hf
  obtain ⟨⟨_, ⟨e4, i4⟩, rfl⟩, _⟩ := hf
  clear hbf
  have b1' := boxStays X1.out hB
  have c0 := cell_of_row _ _ 0 _ _ _ b1'
  have c1 := cell_of_row _ _ 1 _ _ _ b1'
  have wr := WR.out
  clear b1'
  refine Or.inl ⟨wanted_none rfl, ?_⟩
  rintro _ rfl
  go_simp <;> with_reducible rfl
 refine relG_call (i := 2) (o := ⟨some 6, _, _, _, _, _⟩) (OwB W.heap.size (dig 8 g.toNat)) [(1, 5, 0)] [] rfl rfl (by kernel_rfl) (by kernel_rfl) (OwB.stay _ _) ?_ ?_
 · intro t w1 hB hf hbf K hK
   simp only [DepF, List.getD_cons_zero] at hf
   obtain ⟨⟨_, ⟨e5, i5⟩, rfl⟩, _⟩ := hf
   clear hbf
   have b1' := boxStays X1.out hB
   have c0 := cell_of_row _ _ 0 _ _ _ b1'
   have c1 := cell_of_row _ _ 1 _ _ _ b1'
   have wr := WR.out
   clear b1'
   refine ⟨wanted_none rfl, ?_⟩
   go_simp
   refine (ref6_eight g w1 (by omega) h2).mono ?_
   rintro e w2 ⟨v, rfl, hown, hb⟩
   exact hK.out _ w2 (by show World.ownsRow _ _ _ _ _ (dig 8 g.toNat).length _; rw [dig_length]; exact own_mono hown hB.size) hb
 refine relG_pure (i := 3) (o := ⟨some 7, _, _, _, _, _⟩) (v := ?v3) [] [1] rfl rfl (by kernel_rfl) (by kernel_rfl) (fun t w1 hB hf hbf => ?y3) ?n3
 case y3 =>
  simp only [BasF] at hbf
  clear hf
  obtain ⟨⟨b1, k1⟩, _⟩ := hbf
  have b1' := boxStays X1.out hB
  have c0 := cell_of_row _ _ 0 _ _ _ b1'
  have c1 := cell_of_row _ _ 1 _ _ _ b1'
  have wr := WR.out
  clear b1'
  refine Or.inl ⟨wanted_none rfl, ?_⟩
  rintro _ rfl
  go_simp <;> with_reducible rfl
 refine relG_pure (i := 4) (o := ⟨some 8, _, _, _, _, _⟩) (v := ?v4) [(3, 7, 0)] [] rfl rfl (by kernel_rfl) (by kernel_rfl) (fun t w1 hB hf hbf => ?y4) ?n4
 case y4 =>
  simp only [DepF, List.getD_cons_zero] at hf
  obtain ⟨⟨_, ⟨e7, i7⟩, rfl⟩, _⟩ := hf
  clear hbf
  have b1' := boxStays X1.out hB
  have c0 := cell_of_row _ _ 0 _ _ _ b1'
  have c1 := cell_of_row _ _ 1 _ _ _ b1'
  have wr := WR.out
  clear b1'
  refine Or.inl ⟨wanted_none rfl, ?_⟩
  rintro _ rfl
  go_simp <;> with_reducible rfl
 refine relG_pure (i := 5) (o := ⟨some 9, _, _, _, _, _⟩) (v := ?v5) [(4, 8, 0)] [] rfl rfl (by kernel_rfl) (by kernel_rfl) (fun t w1 hB hf hbf => ?y5) ?n5
 case y5 =>
  simp only [DepF, List.getD_cons_zero] at hf
  obtain ⟨⟨_, ⟨e8, i8⟩, rfl⟩, _⟩ := hf
  clear hbf
  have b1' := boxStays X1.out hB
  have c0 := cell_of_row _ _ 0 _ _ _ b1'
  have c1 := cell_of_row _ _ 1 _ _ _ b1'
  have wr := WR.out
  clear b1'
  refine Or.inl ⟨wanted_none rfl, ?_⟩
  rintro _ rfl
  go_simp <;> with_reducible rfl
 refine relG_pure (i := 6) (o := ⟨some 10, _, _, _, _, _⟩) (v := ?v6) [(5, 9, 0)] [] rfl rfl (by kernel_rfl) (by kernel_rfl) (fun t w1 hB hf hbf => ?y6) ?n6
 case y6 =>
  simp only [DepF, List.getD_cons_zero] at hf
  obtain ⟨⟨_, ⟨e9, i9⟩, rfl⟩, _⟩ := hf
  clear hbf
  have b1' := boxStays X1.out hB
  have c0 := cell_of_row _ _ 0 _ _ _ b1'
  have c1 := cell_of_row _ _ 1 _ _ _ b1'
  have wr := WR.out
  clear b1'
  refine Or.inl ⟨wanted_none rfl, ?_⟩
  rintro _ rfl
  go_simp <;> with_reducible rfl
 refine relG_pure (i := 7) (o := ⟨some 11, _, _, _, _, _⟩) (v := ?v7) [(6, 10, 0)] [] rfl rfl (by kernel_rfl) (by kernel_rfl) (fun t w1 hB hf hbf => ?y7) ?n7
 case y7 =>
  simp only [DepF, List.getD_cons_zero] at hf
  obtain ⟨⟨_, ⟨e10, i10⟩, rfl⟩, _⟩ := hf
  clear hbf
  have b1' := boxStays X1.out hB
  have c0 := cell_of_row _ _ 0 _ _ _ b1'
  have c1 := cell_of_row _ _ 1 _ _ _ b1'
  have wr := WR.out
  clear b1'
  refine Or.inl ⟨wanted_none rfl, ?_⟩
  rintro _ rfl
  go_simp <;> with_reducible rfl
 refine relG_call (i := 8) (o := ⟨some 12, _, _, _, _, _⟩) (SlB (dig 1 r.toNat)) [(7, 11, 0)] [] rfl rfl (by kernel_rfl) (by kernel_rfl) (SlB.stay _) ?_ ?_
 · intro t w1 hB hf hbf K hK
   simp only [DepF, List.getD_cons_zero] at hf
   obtain ⟨⟨_, ⟨e11, i11⟩, rfl⟩, _⟩ := hf
   clear hbf
   have b1' := boxStays X1.out hB
   have c0 := cell_of_row _ _ 0 _ _ _ b1'
   have c1 := cell_of_row _ _ 1 _ _ _ b1'
   have wr := WR.out
   clear b1'
   refine ⟨wanted_none rfl, ?_⟩
   go_simp
   exact hK.out _ _ (RR.out.1 ▸ SlB.one w1 _ _ _ (by have := RR.out.2; omega)) (below_new _ _)
 refine relG_tail 9 [(0, 4, 8), (1, 5, 7), (2, 6, 6), (3, 7, 5), (4, 8, 4), (5, 9, 3), (6, 10, 2), (7, 11, 1), (8, 12, 0)] (by kernel_rfl) rfl (by kernel_rfl) (by kernel_rfl) (fun f wE hB hf => ?_) (by kernel_rfl)
 simp only [FinF, List.getD_cons_zero, List.getD_cons_succ] at hf
 obtain ⟨⟨_, e4, rfl⟩, ⟨_, e5, rfl⟩, ⟨x6, e6, h6⟩, ⟨_, e7, rfl⟩, ⟨_, e8, rfl⟩, ⟨_, e9, rfl⟩, ⟨_, e10, rfl⟩, ⟨_, e11, rfl⟩, ⟨_, e12, ⟨a8, c8, rfl, y8⟩⟩, _⟩ := hf
 simp only [regT, List.foldl_cons, List.foldl_nil, List.setIfInBounds_toArray, List.set_cons_zero, List.set_cons_succ, e4, e5, e6, e7, e8, e9, e10, e11, e12]
 clear e4 e5 e6 e7 e8 e9 e10 e11 e12
 change wpList _ _ _ [_, _] _ _
 have HO := Lib.hid h6
 have HY := Lib.hid y8
 have HB := Lib.hid hB
 clear h6 y8 hB
 have HBS := Lib.hid HB.out.size
 have hln : (dig 8 g.toNat ++ dig 1 r.toNat).length = 9 := by simp [dig_length]
 go_upto_region 2 with (at_builtin; refine wpList_appb rfl _ _ 113 113 rfl W.heap.size 5 BT.out x6 (dig 8 g.toNat) rfl HO.out _ (dig 1 r.toNat) rfl (HY.out.src Tryz.underlying113 c8) (by simp [dig_length]) HBS.out ?_; intro v1 w1 hown1 _ hbel1 _; have q2 := cell_of_row _ _ 2 _ _ _ (boxStays X1.out (HB.out.trans hbel1)))
 have HO1 := Lib.hid hown1; clear hown1
 have HB1 := Lib.hid (HB.out.trans hbel1); clear hbel1
 have HBS := Lib.hid HB1.out.size
 have hsrc : ∀ wx, Src Tryz.prog 1 9 (.string l) l.data.toList.length (bvs l.data.toList) wx := fun wx => by rw [hdl]; exact Src.ofString wx Tryz.underlying9 l
 have hl1 : (dig 8 g.toNat ++ dig 1 r.toNat).length + l.data.toList.length ≤ 70368744177664 := by rw [List.length_append, dig_length, dig_length]; omega
 have hl2 : (dig 8 g.toNat ++ dig 1 r.toNat ++ l.data.toList).length + ([0] : List UInt8).length ≤ 70368744177664 := by rw [List.length_append, List.length_append, dig_length, dig_length, List.length_singleton]; omega
 have hl3 : (dig 8 g.toNat ++ dig 1 r.toNat ++ l.data.toList ++ [0]).length + (dig 8 n.toNat).length ≤ 70368744177664 := by rw [List.length_append, List.length_append, List.length_append, dig_length, dig_length, dig_length, List.length_singleton]; omega
 have hl4 : (dig 8 g.toNat ++ dig 1 r.toNat ++ l.data.toList ++ [0] ++ dig 8 n.toNat).length + [UInt8.ofNat i.toNat].length ≤ 70368744177664 := by rw [List.length_append, List.length_append, List.length_append, List.length_append, dig_length, dig_length, dig_length, List.length_singleton, List.length_singleton]; omega
 go_upto_region 3 with (at_builtin; refine wpList_appb rfl _ _ 113 9 rfl W.heap.size 5 BT.out v1 (dig 8 g.toNat ++ dig 1 r.toNat) rfl HO1.out _ l.data.toList rfl (hsrc _) hl1 HBS.out ?_; intro v2 w2 hown2 _ hbel2 _)
 have HO2 := Lib.hid hown2; clear hown2
 have HB2 := Lib.hid (HB1.out.trans hbel2); clear hbel2 q2
 have HBS := Lib.hid HB2.out.size
 go_upto_region 4 with (at_builtin; refine wpList_appb rfl _ _ 113 113 rfl W.heap.size 5 BT.out v2 _ rfl (HO2.out.alloc _) _ [0] rfl (src_one Tryz.underlying113 w2 5 0 _ rfl) hl2 (by have := HBS.out; simp; omega) ?_; intro v3 w3 hown3 _ hbel3 _; have q3 := cell_of_row _ _ 3 _ _ _ (boxStays X1.out ((HB2.out.alloc HB2.out.size (.cells #[.int .u8 0] 5)).trans hbel3)))
 have HO3 := Lib.hid hown3; clear hown3
 have HB3 := Lib.hid ((HB2.out.alloc HB2.out.size (.cells #[.int .u8 0] 5)).trans hbel3); clear hbel3
 go_wp2_with fail
 refine (ref6_eight n w3 (by omega) h7).mono ?_
 rintro e w4 ⟨ve, rfl, howe, hb⟩
 obtain ⟨ae, ce, rfl, _⟩ := own_slice howe
 have HY4 := Lib.hid (own_bytes howe)
 have HO4 := Lib.hid (own_later HO3.out hb (Nat.le_refl _))
 have HB4 := Lib.hid (HB3.out.trans (hb.mono HB3.out.size)); clear hb howe q3
 have HBS := Lib.hid HB4.out.size
 have h8l : (dig 8 n.toNat).length = 8 := dig_length _ _
 go_upto_region 5 with (at_builtin; refine wpList_appb rfl _ _ 113 113 rfl W.heap.size 5 BT.out v3 _ rfl HO4.out _ (dig 8 n.toNat) rfl (HY4.out.src Tryz.underlying113 ce) hl3 HBS.out ?_; intro v5 w5 hown5 _ hbel5 _; have q4 := cell_of_row _ _ 4 _ _ _ (boxStays X1.out (HB4.out.trans hbel5)); have wi := WI.out)
 have HO5 := Lib.hid hown5; clear hown5
 have HB5 := Lib.hid (HB4.out.trans hbel5); clear hbel5
 have HBS := Lib.hid HB5.out.size
 have ek : dig 8 g.toNat ++ dig 1 r.toNat ++ l.data.toList ++ [0] ++ dig 8 n.toNat ++ [UInt8.ofNat i.toNat] = kk := by rw [← KK.out, ← II.out.1]; simp
 go_wp2_with (at_builtin; refine wpList_appb rfl _ _ 113 113 rfl W.heap.size 5 BT.out v5 _ rfl (HO5.out.alloc _) _ [UInt8.ofNat i.toNat] rfl (src_one Tryz.underlying113 w5 5 (UInt8.ofNat i.toNat) _ II.out.2) hl4 (by have := HBS.out; simp; omega) ?_; intro v6 w6 hown6 _ hbel6 _; rw [ek] at hown6; obtain ⟨ak, ck, hv6, _⟩ := own_slice hown6; subst hv6; have hc := conv_bytes (P := Tryz.prog) (own_bytes hown6) 113 5 9 Tryz.underlying113 Tryz.underlying5 Tryz.underlying9 _ ck rfl; clear hown6)
 have HB6 := Lib.hid ((HB5.out.alloc HB5.out.size (.cells #[.int .u8 i] 5)).trans hbel6); clear hbel6
 go_ret
 rw [HKB.out]
 exact ⟨rfl, X3.out.trans (HB6.out.mono X3.out.size)⟩
end Go.Proofs.YtjlliohjeiclaaaGreatDoor
namespace Go.Proofs.YtjlliohjeiclaaaGreatDoor
open Go.RowKit St
open Go.Op (bytesLess)
def svK (k : ByteArray) : Sv := ⟨IntKind.i64.wrap (num8 (k.data.toList.take 8)), ((k.data.toList.getD 8 0).toNat : Int), k.extract 9 (k.size - 10), IntKind.i64.wrap (num8 ((k.data.toList.drop (k.size - 9)).take 8)), ((k.data.toList.getD (k.size - 1) 0).toNat : Int)⟩
def ofK (k : ByteArray) : Option Sv := if okKey k.data.toList = true then some (parse k.data.toList).sv else none
theorem num8_lt (l : List UInt8) (h : l.length ≤ 8) : num8 l < 18446744073709551616 := by
 have : ∀ (l : List UInt8) (n : Nat), l.foldl (fun n c => 256 * n + c.toNat) n < (n + 1) * 256 ^ l.length := by
  intro l
  induction l with
  | nil => intro n; simp
  | cons c l ih =>
   intro n
   rw [List.foldl_cons, List.length_cons, Nat.pow_succ']
   refine Nat.lt_of_lt_of_le (ih _) ?_
   rw [← Nat.mul_assoc]
   refine Nat.mul_le_mul_right _ ?_
   have := c.toNat_lt
   omega
 have h1 := this l 0
 unfold num8
 have h2 : 256 ^ l.length ≤ 256 ^ 8 := Nat.pow_le_pow_right (by omega) h
 have : (256 : Nat) ^ 8 = 18446744073709551616 := by decide
 omega
theorem wrap_small {n : Nat} (h : n ≤ 4611686018427387904) : IntKind.i64.wrap (n : Int) = n := by
 rw [wrap_i64_mod]
 simp only
 split <;> omega
theorem wrap_ok {n : Nat} (h : n < 18446744073709551616) (h1 : 1 ≤ IntKind.i64.wrap (n : Int)) (h2 : IntKind.i64.wrap (n : Int) ≤ 4611686018427387904) : 1 ≤ n ∧ n ≤ 4611686018427387904 := by
 rw [wrap_i64_mod] at h1 h2
 simp only at h1 h2
 split at h1 <;> split at h2 <;> omega
theorem num8_one (c : UInt8) : num8 [c] = c.toNat := by simp [num8]
theorem drop_take_one {l : List UInt8} {k : Nat} (h : k < l.length) : num8 ((l.drop k).take 1) = (l.getD k 0).toNat := by
 rw [List.drop_eq_getElem_cons h, List.take_succ_cons, List.take_zero, num8_one, List.getD_eq_getElem?_getD, List.getElem?_eq_getElem h]
 rfl
theorem svK_parse {k : ByteArray} (hk : 19 ≤ k.size) : (svK k).ok = (parse k.data.toList).ok ∧ ((svK k).ok = true → svK k = (parse k.data.toList).sv ∧ (svK k).st = parse k.data.toList) := by
 have hl := dlen k
 have e1 : num8 ((k.data.toList.drop 8).take 1) = (k.data.toList.getD 8 0).toNat := drop_take_one (by omega)
 have e2 : num8 (k.data.toList.drop (k.data.toList.length - 1)) = (k.data.toList.getD (k.size - 1) 0).toNat := by
  rw [← drop_take_one (by omega), hl]
  congr 1
  rw [List.take_of_length_le]
  simp; omega
 have e3 : (k.extract 9 (k.size - 10)).data.toList = (k.data.toList.drop 9).take (k.data.toList.length - 19) := by
  rw [hl]
  simp [List.take_drop]
  (try congr 1) <;> (try omega)
 have hp : parse k.data.toList = ⟨num8 (k.data.toList.take 8), (k.data.toList.getD 8 0).toNat, (k.extract 9 (k.size - 10)).data.toList, num8 ((k.data.toList.drop (k.size - 9)).take 8), (k.data.toList.getD (k.size - 1) 0).toNat⟩ := by
  unfold parse
  rw [e1, e2, e3, hl]
 have b1 := num8_lt (k.data.toList.take 8) (by simp; omega)
 have b2 := num8_lt ((k.data.toList.drop (k.size - 9)).take 8) (by simp; omega)
 rw [hp]
 unfold svK
 generalize num8 (k.data.toList.take 8) = g at *
 generalize num8 ((k.data.toList.drop (k.size - 9)).take 8) = n at *
 generalize (k.data.toList.getD 8 0).toNat = r at *
 generalize (k.data.toList.getD (k.size - 1) 0).toNat = i at *
 generalize k.extract 9 (k.size - 10) = l at *
 have hiff : Sv.ok ⟨IntKind.i64.wrap g, r, l, IntKind.i64.wrap n, i⟩ = true ↔ Stp.ok ⟨g, r, l.data.toList, n, i⟩ = true := by
  rw [Sv.ok_iff, Stp.ok_iff]
  simp only
  constructor
  · rintro ⟨h1, h2, h3, h4, h5, h6, h7, h8, h9⟩
    obtain ⟨c1, c2⟩ := wrap_ok b1 h1 h2
    obtain ⟨c3, c4⟩ := wrap_ok b2 h6 h7
    exact ⟨c1, c2, by omega, h5, c3, c4, by omega⟩
  · rintro ⟨h1, h2, h3, h4, h5, h6, h7⟩
    rw [wrap_small h2, wrap_small h6]
    exact ⟨by omega, by omega, by omega, by omega, h4, by omega, by omega, by omega, by omega⟩
 refine ⟨by rw [Bool.eq_iff_iff]; exact hiff, fun h => ?_⟩
 have h2 := hiff.1 h
 obtain ⟨h1, h2, h3, h4, h5, h6, h7⟩ := Stp.ok_iff.1 h2
 rw [wrap_small h2, wrap_small h6]
 refine ⟨by simp [Stp.sv], by simp [Sv.st]⟩
theorem ofK_short {k : ByteArray} (h : k.size < 19) : ofK k = none := by
 unfold ofK okKey
 rw [if_neg]
 have := dlen k
 simp only [Bool.and_eq_true, decide_eq_true_eq]
 omega
theorem ofK_long {k : ByteArray} (h : 19 ≤ k.size) : ofK k = if (svK k).ok = true ∧ keyB (svK k).st = k then some (svK k) else none := by
 obtain ⟨h1, h2⟩ := svK_parse h
 unfold ofK okKey
 have := dlen k
 by_cases hok : (svK k).ok = true
 · obtain ⟨h3, h4⟩ := h2 hok
   rw [h1] at hok
   rw [h4, h3]
   simp only [Bool.and_eq_true, decide_eq_true_eq, hok]
   have hk : ((parse k.data.toList).key = k.data.toList) ↔ keyB (parse k.data.toList) = k := by
    unfold keyB
    constructor
    · intro h; rw [h]
    · intro h
      have h5 := congrArg (fun b : ByteArray => b.data.toList) h
      simpa using h5
   have hok2 := h1.trans hok
   rw [h3] at hok2
   by_cases hq : keyB (parse k.data.toList) = k
   · rw [if_pos ⟨⟨by omega, trivial⟩, hk.2 hq⟩, if_pos ⟨hok2, hq⟩]
   · rw [if_neg (fun h => hq (hk.1 h.2)), if_neg (fun h => hq h.2)]
 · have a1 : ¬ ((svK k).ok = true ∧ keyB (svK k).st = k) := fun h => hok h.1
   have a2 : ¬ ((decide (19 ≤ k.data.toList.length) && (parse k.data.toList).ok && decide ((parse k.data.toList).key = k.data.toList)) = true) := by
    simp only [Bool.and_eq_true, decide_eq_true_eq]
    rintro ⟨⟨_, h5⟩, _⟩
    exact hok (h1.trans h5)
   rw [if_neg a1, if_neg a2]
end Go.Proofs.YtjlliohjeiclaaaGreatDoor
namespace Go.Proofs.YtjlliohjeiclaaaGreatDoor
open Go.RowKit St
def stA (s : Sv) : Value := .agg #[.int .i64 s.g, .int .i64 s.r, .string s.l, .int .i64 s.n, .int .i64 s.i]
def stO : Option Sv → Value
 | some s => .tuple #[stA s, .int .i64 0]
 | none => .tuple #[.agg #[.int .i64 0, .int .i64 0, .string ⟨#[]⟩, .int .i64 0, .int .i64 0], .int .i64 4]
theorem st_one (g r : Int) (l : ByteArray) (n i : Int) : (#[.int .i64 g, .int .i64 r, .string l, .int .i64 n, .int .i64 i] : Array Value).all (·.oneCell') = true := by simp [Value.oneCell']
set_option maxRecDepth 100000 in
set_option maxHeartbeats 2000000 in
theorem stp_same (s : Sv) (k : ByteArray) (w : World) (hs : s.l.size ≤ 9223372036854775807) : Calls Tryz.prog 152 #[.agg #[.int .i64 s.g, .int .i64 s.r, .string s.l, .int .i64 s.n, .int .i64 s.i], .string k, .func (.func 94) #[] #[]] w fun e w' => e = .returned (stO (if s.ok = true ∧ keyB s.st = k then some s else none)) ∧ Below w.heap.size w w' := by
 have CK := Lib.hid (fun w' => stp_Key s w' hs)
 have HR : Hid (s.ok = true → keyB s.st = k → stO (if s.ok = true ∧ keyB s.st = k then some s else none) = .tuple #[.agg #[.int .i64 s.g, .int .i64 s.r, .string s.l, .int .i64 s.n, .int .i64 s.i], .int .i64 0]) := Lib.hid (fun h1 h2 => by rw [if_pos ⟨h1, h2⟩]; rfl)
 have HN : Hid ((s.ok = true → ¬ keyB s.st = k) → stO (if s.ok = true ∧ keyB s.st = k then some s else none) = .tuple #[.agg #[.int .i64 0, .int .i64 0, .string ⟨#[]⟩, .int .i64 0, .int .i64 0], .int .i64 4]) := Lib.hid (fun h => by rw [if_neg (fun ⟨a, b⟩ => h a b)]; rfl)
 obtain ⟨g, r, l, n, i⟩ := s
 simp only at hs CK HR HN ⊢
 generalize stO _ = res at *
 generalize Sv.ok ⟨g, r, l, n, i⟩ = ok at *
 generalize keyB (Sv.st ⟨g, r, l, n, i⟩) = kb at *
 go_enter Tryz.func152, Tryz.ntmps152
 go_wp2_with fail
 have hbA : Below w.heap.size w (((w.alloc (.cells #[.int .i64 g, .int .i64 r, .string l, .int .i64 n, .int .i64 i] 43)).alloc (.cells #[.int .i64 0, .int .i64 0, .string ⟨#[]⟩, .int .i64 0, .int .i64 0] 43)).alloc (.cells #[.int .i64 0, .int .i64 0, .string ⟨#[]⟩, .int .i64 0, .int .i64 0] 43)) :=
  (((Below.refl _ w).alloc (Nat.le_refl _) _).alloc (by simp) _).alloc (by simp; omega) _
 have x0 := boxStays (boxStays (heap_alloc_new w (.cells #[.int .i64 g, .int .i64 r, .string l, .int .i64 n, .int .i64 i] 43)) (below_new _ (.cells #[.int .i64 0, .int .i64 0, .string ⟨#[]⟩, .int .i64 0, .int .i64 0] 43))) (below_new _ (.cells #[.int .i64 0, .int .i64 0, .string ⟨#[]⟩, .int .i64 0, .int .i64 0] 43))
 have x1 := boxStays (heap_alloc_new (w.alloc (.cells #[.int .i64 g, .int .i64 r, .string l, .int .i64 n, .int .i64 i] 43)) (.cells #[.int .i64 0, .int .i64 0, .string ⟨#[]⟩, .int .i64 0, .int .i64 0] 43)) (below_new _ (.cells #[.int .i64 0, .int .i64 0, .string ⟨#[]⟩, .int .i64 0, .int .i64 0] 43))
 have x2 := heap_alloc_new ((w.alloc (.cells #[.int .i64 g, .int .i64 r, .string l, .int .i64 n, .int .i64 i] 43)).alloc (.cells #[.int .i64 0, .int .i64 0, .string ⟨#[]⟩, .int .i64 0, .int .i64 0] 43)) (.cells #[.int .i64 0, .int .i64 0, .string ⟨#[]⟩, .int .i64 0, .int .i64 0] 43)
 simp only [World.size_alloc] at x1 x2
 generalize ((w.alloc (.cells #[.int .i64 g, .int .i64 r, .string l, .int .i64 n, .int .i64 i] 43)).alloc (.cells #[.int .i64 0, .int .i64 0, .string ⟨#[]⟩, .int .i64 0, .int .i64 0] 43)).alloc (.cells #[.int .i64 0, .int .i64 0, .string ⟨#[]⟩, .int .i64 0, .int .i64 0] 43) = WA at *
 refine (CK.out _).mono ?_
 rintro e w1 ⟨he, hb⟩
 have B1 : Hid (Below w.heap.size w w1) := Lib.hid (hbA.trans (hb.mono hbA.size))
 have X0 := Lib.hid (boxStays x0 hb)
 have X1 := Lib.hid (boxStays x1 hb)
 have X2 := Lib.hid (boxStays x2 hb)
 clear hb hbA x0 x1 x2 CK
 have bad : (ok = true → ¬ kb = k) → Hid (res = .tuple #[.agg #[.int .i64 0, .int .i64 0, .string ⟨#[]⟩, .int .i64 0, .int .i64 0], .int .i64 4]) := fun h => Lib.hid (HN.out h)
 by_cases hgood : ok = true ∧ kb = k
 · obtain ⟨h1, h2⟩ := hgood
   subst h1
   subst h2
   rw [if_pos rfl] at he
   subst he
   have RR := Lib.hid (HR.out rfl rfl)
   clear HR HN bad
   have c0 := cell_of_row _ _ 0 _ _ _ X0.out
   have c1 := cell_of_row _ _ 1 _ _ _ X0.out
   have c2 := cell_of_row _ _ 2 _ _ _ X0.out
   have c3 := cell_of_row _ _ 3 _ _ _ X0.out
   have c4 := cell_of_row _ _ 4 _ _ _ X0.out
   go_wp2_with (refine wpList_store_row rfl 43 (.tmp 6) (.tmp 25) rfl (w.heap.size + 1) #[.int .i64 g, .int .i64 r, .string l, .int .i64 n, .int .i64 i] rfl rfl 43 _ X1.out (by kernel_rfl) rfl (st_one _ _ _ _ _) ?_)
   have Y := setRow_heap w1 (w.heap.size + 1) _ #[.int .i64 g, .int .i64 r, .string l, .int .i64 n, .int .i64 i] _ _ X1.out
   have q0 := cell_of_row _ _ 0 _ _ _ Y
   have q1 := cell_of_row _ _ 1 _ _ _ Y
   have q2 := cell_of_row _ _ 2 _ _ _ Y
   have q3 := cell_of_row _ _ 3 _ _ _ Y
   have q4 := cell_of_row _ _ 4 _ _ _ Y
   refine bodyPost_ret (v := .tuple #[.agg #[.int .i64 g, .int .i64 r, .string l, .int .i64 n, .int .i64 i], .int .i64 0]) (by simp [results, Tryz.results152, go_sem, q0, q1, q2, q3, q4]) rfl ?_
   exact ⟨by rw [RR.out], below_setRow B1.out (by omega) _⟩
 · have NN := bad (fun h1 h2 => hgood ⟨h1, h2⟩)
   have c0 := cell_of_row _ _ 0 _ _ _ X2.out
   have c1 := cell_of_row _ _ 1 _ _ _ X2.out
   have c2 := cell_of_row _ _ 2 _ _ _ X2.out
   have c3 := cell_of_row _ _ 3 _ _ _ X2.out
   have c4 := cell_of_row _ _ 4 _ _ _ X2.out
   have Y := setRow_heap w1 (w.heap.size + 1) _ #[.int .i64 0, .int .i64 0, .string ⟨#[]⟩, .int .i64 0, .int .i64 0] _ _ X1.out
   have q0 := cell_of_row _ _ 0 _ _ _ Y
   have q1 := cell_of_row _ _ 1 _ _ _ Y
   have q2 := cell_of_row _ _ 2 _ _ _ Y
   have q3 := cell_of_row _ _ 3 _ _ _ Y
   have q4 := cell_of_row _ _ 4 _ _ _ Y
   have QQ := Lib.hid (And.intro q0 (And.intro q1 (And.intro q2 (And.intro q3 q4))))
   clear q0 q1 q2 q3 q4 Y bad HR HN
   cases ok with
   | false =>
    rw [if_neg (by decide)] at he
    subst he
    go_wp2_with (refine wpList_store_row rfl 43 (.tmp 6) (.tmp 24) rfl (w.heap.size + 1) #[.int .i64 0, .int .i64 0, .string ⟨#[]⟩, .int .i64 0, .int .i64 0] rfl rfl 43 _ X1.out (by kernel_rfl) rfl (st_one _ _ _ _ _) ?_)
    obtain ⟨q0, q1, q2, q3, q4⟩ := QQ.out
    refine bodyPost_ret (v := .tuple #[.agg #[.int .i64 0, .int .i64 0, .string ⟨#[]⟩, .int .i64 0, .int .i64 0], .int .i64 4]) (by simp [results, Tryz.results152, go_sem, q0, q1, q2, q3, q4]) rfl ?_
    exact ⟨by rw [NN.out], below_setRow B1.out (by omega) _⟩
   | true =>
    rw [if_pos rfl] at he
    subst he
    have hne : (kb.toList == k.toList) = false := by rw [Pm.eq_iff]; simp; exact fun h => hgood ⟨rfl, h⟩
    clear hgood
    go_wp2_with (refine wpList_store_row rfl 43 (.tmp 6) (.tmp 24) rfl (w.heap.size + 1) #[.int .i64 0, .int .i64 0, .string ⟨#[]⟩, .int .i64 0, .int .i64 0] rfl rfl 43 _ X1.out (by kernel_rfl) rfl (st_one _ _ _ _ _) ?_)
    obtain ⟨q0, q1, q2, q3, q4⟩ := QQ.out
    refine bodyPost_ret (v := .tuple #[.agg #[.int .i64 0, .int .i64 0, .string ⟨#[]⟩, .int .i64 0, .int .i64 0], .int .i64 4]) (by simp [results, Tryz.results152, go_sem, q0, q1, q2, q3, q4]) rfl ?_
    exact ⟨by rw [NN.out], below_setRow B1.out (by omega) _⟩
end Go.Proofs.YtjlliohjeiclaaaGreatDoor
namespace Go.Proofs.YtjlliohjeiclaaaGreatDoor
open Go.RowKit
section
variable {P : Program} {ops : Array Oper} {Q : Exit → Act → World → Prop} {id : Nat} {base : Array Value} {df : List Deferred} {slots : List Nat} {W0 : World}
theorem relG_skip {so : List Nat} {gs : List Pr} (i : Nat) (hl : gs.length = i) (hi : so.contains i = true) (h : RelG P ops Q id base df slots W0 so (anyV :: gs)) (hlt : decide (i < ops.size) = true) : RelG P ops Q id base df slots W0 so gs := by
 have hlt' : i < ops.size := of_decide_eq_true hlt
 subst hl
 intro hup hsl hinj hsz hall
 refine h hup hsl hinj hsz fun i hi' hso => ?_
 rw [List.length_cons] at hi'
 have hne : i ≠ gs.length := fun e => by rw [e, hi] at hso; cases hso
 have hi'' : i < gs.length := by omega
 obtain ⟨h1, h2⟩ := hall i hi'' hso
 rw [lkG_old _ _ _ hi'']
 refine ⟨h1, fun f w hb hp K hK => ?_⟩
 rw [lkG_old _ _ _ hi''] at hK
 refine h2 f w hb (fun j hj d e => ?_) K hK
 have hlt := up_lt hup (by omega) hj
 have := hp j hj d e
 rwa [lkG_old _ _ _ (by omega)] at this
structure Sto where
 s : Nat
 b : Nat
 y : Nat
 iy : Nat
def EE : List Sto → (Nat → Bool) → (Nat → Value) → World → World
 | [], _, _, w => w
 | p :: S, L, f, w => EE S L f (if L p.s = true then w.setRow p.b (f p.y).cells else w)
theorem setRow_comm (w : World) {a b : Nat} (h : a ≠ b) (x y : Array Value) : (w.setRow a x).setRow b y = (w.setRow b y).setRow a x := by
 unfold World.setRow
 simp only [World.mk.injEq, true_and, and_true]
 apply Array.ext_getElem?
 intro k
 simp only [Array.getElem?_modify]
 by_cases h1 : a = k
 · subst h1
   rw [if_neg (Ne.symm h)]
   simp [Ne.symm h]
 · by_cases h2 : b = k
   · subst h2
     simp [h1]
   · simp [h1, h2]
theorem EE_none : ∀ {S : List Sto} {L : Nat → Bool} {f : Nat → Value} {w : World}, (∀ p ∈ S, L p.s = false) → EE S L f w = w
 | [], _, _, _, _ => rfl
 | p :: S, L, f, w, h => by
  unfold EE
  rw [if_neg (by rw [h p List.mem_cons_self]; simp)]
  exact EE_none fun q hq => h q (List.mem_cons_of_mem _ hq)
theorem EE_congr : ∀ {S : List Sto} {L L' : Nat → Bool} {f f' : Nat → Value} {w : World}, (∀ p ∈ S, L p.s = L' p.s ∧ (L p.s = true → f p.y = f' p.y)) → EE S L f w = EE S L' f' w
 | [], _, _, _, _, _, _ => rfl
 | p :: S, L, L', f, f', w, h => by
  unfold EE
  obtain ⟨h1, h2⟩ := h p List.mem_cons_self
  rw [← h1]
  have : (if L p.s = true then w.setRow p.b (f p.y).cells else w) = (if L p.s = true then w.setRow p.b (f' p.y).cells else w) := by
   split
   · rename_i hl; rw [h2 hl]
   · rfl
  rw [this]
  exact EE_congr fun q hq => h q (List.mem_cons_of_mem _ hq)
theorem EE_setRow : ∀ {S : List Sto} {L : Nat → Bool} {f : Nat → Value} {w : World} {b : Nat} {cs : Array Value}, (∀ p ∈ S, p.b ≠ b) → (EE S L f w).setRow b cs = EE S L f (w.setRow b cs)
 | [], _, _, _, _, _, _ => rfl
 | p :: S, L, f, w, b, cs, h => by
  unfold EE
  rw [EE_setRow fun q hq => h q (List.mem_cons_of_mem _ hq)]
  congr 1
  split
  · exact setRow_comm w (h p List.mem_cons_self) _ _
  · rfl
theorem EE_block : ∀ {S : List Sto} {L : Nat → Bool} {f : Nat → Value} {w : World} {b : Nat}, (∀ p ∈ S, p.b = b → L p.s = false) → (EE S L f w).heap[b]? = w.heap[b]?
 | [], _, _, _, _, _ => rfl
 | p :: S, L, f, w, b, h => by
  unfold EE
  rw [EE_block fun q hq => h q (List.mem_cons_of_mem _ hq)]
  split
  · rename_i hl
    refine setRow_other _ _ _ _ (fun e => ?_)
    have := h p List.mem_cons_self e.symm
    rw [this] at hl; cases hl
  · rfl
theorem EE_step : ∀ {S : List Sto} {L : Nat → Bool} {f : Nat → Value} {w : World} {p : Sto}, (S.map (·.s)).Nodup → (S.map (·.b)).Nodup → p ∈ S → L p.s = false → (EE S L f w).setRow p.b (f p.y).cells = EE S (fun j => j == p.s || L j) f w
 | q :: S, L, f, w, p, hs, hb, hp, hL => by
  rw [List.map_cons, List.nodup_cons] at hs hb
  unfold EE
  rcases List.mem_cons.1 hp with rfl | hp'
  · rw [if_neg (by rw [hL]; simp), if_pos (by simp), EE_setRow (fun r hr e => hb.1 (List.mem_map.2 ⟨r, hr, e⟩))]
    refine EE_congr fun r hr => ⟨?_, fun _ => rfl⟩
    have : r.s ≠ p.s := fun e => hs.1 (List.mem_map.2 ⟨r, hr, e⟩)
    simp [this]
  · have hne : q.s ≠ p.s := fun e => hs.1 (List.mem_map.2 ⟨p, hp', e.symm⟩)
    rw [EE_step hs.2 hb.2 hp' hL]
    simp [hne]
def copyB (ops : Array Oper) (i : Nat) : Bool := match ops[i]? with
 | some o => o.guard.isNone && (match o.op with
  | .assign _ => true
  | .move _ => true
  | _ => false)
 | none => false
theorem wpOp_copy {i : Nat} (h : copyB ops i = true) : ∃ x, ∀ (K : Act → World → Prop) (a : Act) (w : World), wpOp P ops Q i K a w ↔ K (a.put (dstN ops i) (a.eval x)) w := by
 unfold copyB at h
 cases ho : ops[i]? with
 | none => rw [ho] at h; cases h
 | some o =>
  rw [ho] at h
  simp only [Bool.and_eq_true] at h
  have hg : o.guard = none := by simpa using h.1
  have hd : dstN ops i = o.dst := by unfold dstN; rw [ho]; rfl
  have key : ∀ x, (o.op = .assign x ∨ o.op = .move x) → ∀ (K : Act → World → Prop) (a : Act) (w : World), wpOp P ops Q i K a w ↔ K (a.put (dstN ops i) (a.eval x)) w := by
   intro x hx K a w
   unfold wpOp
   rw [ho]
   have hw : Region.wanted o (yielded ops a.tmps) = true := wanted_none hg
   simp only [hw, if_true]
   have hr : (execOp a.eval o).run P w = .ok (.value (a.eval x)) w := by
    unfold execOp
    rcases hx with e | e <;> simp [e]
   have : o.wp P a w K Q ↔ K (a.put (dstN ops i) (a.eval x)) w := by
    unfold Oper.wp
    rw [hr, hd]
    rfl
   rw [this]
   constructor
   · rintro (h | ⟨h1, _⟩)
     · exact h
     · have he : execOp a.eval o = pure (.value (a.eval x)) := by
        unfold execOp
        rcases hx with e | e <;> simp [e]
       unfold Oper.asks at h1
       rw [he] at h1
       have h2 : noRoomEvent ∈ (#[] : Array _) := h1.1
       cases (Array.not_mem_empty _ h2)
   · exact fun h => .inl h
  split at h
  · rename_i x hx; exact ⟨x, key x (.inl hx)⟩
  · rename_i x hx; exact ⟨x, key x (.inr hx)⟩
  · cases h.2
def stoOK (ops : Array Oper) (S : List Sto) : Bool := S.all fun p => decide (p.s < ops.size) && (dstN ops p.s == none) && (dstN ops p.iy == some p.y) && needsN ops 6 p.s p.iy
def freeOK (ops : Array Oper) (so : List Nat) : Bool := (List.range ops.size).all fun i => so.contains i || copyB ops i || so.all fun s => needsN ops 6 s i
def stoDeps (ops : Array Oper) (so : List Nat) (ps : List (Nat × Nat × Nat)) : Bool := ps.all fun p => decide (p.1 + p.2.2 + 1 = ops.size) && (dstN ops p.1 == some p.2.1) && so.all fun s => needsN ops 6 s p.1
theorem inj_nodup {α β : Type} {f : α → β} : ∀ {l : List α} {x y : α}, (l.map f).Nodup → x ∈ l → y ∈ l → f x = f y → x = y
 | z :: l, x, y, h, hx, hy, e => by
  rw [List.map_cons, List.nodup_cons] at h
  rcases List.mem_cons.1 hx with rfl | hx' <;> rcases List.mem_cons.1 hy with rfl | hy'
  · rfl
  · exact absurd (List.mem_map.2 ⟨y, hy', e.symm⟩) h.1
  · exact absurd (List.mem_map.2 ⟨x, hx', e⟩) h.1
  · exact inj_nodup h.2 hx' hy' e
theorem closedL_next {L : Nat → Bool} {i : Nat} (hc : ClosedL ops L) (hp : ∀ k ∈ preOf ops i, L k = true) : ClosedL ops (fun j => j == i || L j) := by
 intro k hk j hj
 have hk' : (k == i || L k) = true := hk
 have : L j = true := by
  by_cases e : k = i
  · subst e; exact hp j hj
  · exact hc k (by simpa [e] using hk') j hj
 show (j == i || L j) = true
 rw [this]; simp
theorem relG_stores {so : List Nat} {gs : List Pr} (S : List Sto) (ps psS : List (Nat × Nat × Nat)) (hm : P.follows .mixedOrders = true) (hl : gs.length = ops.size) (hso : S.map (·.s) = so) (hps : finOK ops ps = true) (hpsS : stoDeps ops so psS = true)
 (hS : stoOK ops S = true) (hfr : freeOK ops so = true) (hsn : so.Nodup) (hbn : (S.map (·.b)).Nodup)
 (hst : ∀ p ∈ S, ∀ f w, Below W0.heap.size W0 w → FinF gs f w psS → ∀ w2, w2.heap[p.b]? = w.heap[p.b]? → ∀ K : Act → World → Prop, K { tmps := regT base slots f, defers := df } (w2.setRow p.b (f p.y).cells) → wpOp P ops Q p.s K { tmps := regT base slots f, defers := df } w2)
 (h : ∀ f w, Below W0.heap.size W0 w → FinF gs f w ps → Q .normal { tmps := regT base slots f, defers := df } (EE S (fun _ => true) f w)) : RelG P ops Q id base df slots W0 so gs := by
 subst hso
 intro hup hsl hinj hsz hall
 have hmem : ∀ s, (S.map (·.s)).contains s = true ↔ ∃ p ∈ S, p.s = s := fun s => by simp
 have hpS : ∀ p ∈ S, p.s < ops.size ∧ dstN ops p.s = none ∧ dstN ops p.iy = some p.y ∧ needsN ops 6 p.s p.iy = true := fun p hp => by
  have := List.all_eq_true.1 hS p hp
  simp only [Bool.and_eq_true, decide_eq_true_eq, beq_iff_eq] at this
  exact ⟨this.1.1.1, this.1.1.2, this.1.2, this.2⟩
 have hfinS : ∀ (L : Nat → Bool) f w, ClosedL ops L → (∀ i d, dstN ops i = some d → L i = true → lkG gs i (f d) w) → ∀ p ∈ S, (∀ k ∈ preOf ops p.s, L k = true) → FinF gs f w psS := by
  intro L f w hc hL p hp hpre
  clear h hst
  induction psS with
  | nil => trivial
  | cons q psS ih =>
   simp only [stoDeps, List.all_cons, Bool.and_eq_true] at hpsS
   obtain ⟨⟨⟨h1, h2⟩, h4⟩, h3⟩ := hpsS
   have hj' : q.1 + q.2.2 + 1 = ops.size := by simpa using h1
   have hn : needsN ops 6 p.s q.1 = true := List.all_eq_true.1 h4 _ (List.mem_map.2 ⟨p, hp, rfl⟩)
   have h5 := hL q.1 q.2.1 (by simpa using h2) (needsN_out hc _ _ _ hn hpre)
   unfold lkG at h5
   rw [if_pos (by omega), show gs.length - 1 - q.1 = q.2.2 by omega] at h5
   exact ⟨⟨f q.2.1, rfl, h5⟩, ih h3⟩
 refine region_inv (fun L a w => ClosedL ops L ∧ ∃ f w', a = { tmps := regT base slots f, defers := df } ∧ Below W0.heap.size W0 w' ∧ (∀ i d, dstN ops i = some d → L i = true → lkG gs i (f d) w') ∧ w = EE S L f w') hm hup
  ⟨(fun _ h => by cases h), fun k => base.getD k undef, W0.drew, by rw [regT_id], (Below.refl _ _).drew, fun _ _ _ h => (by cases h), (EE_none fun _ _ => rfl).symm⟩ ?_ ?_
 · rintro i hi L a w ⟨hc, f, w', rfl, hW, hL, rfl⟩ hLi hpre
   have hc' := closedL_next hc hpre
   by_cases his : (S.map (·.s)).contains i = true
   · obtain ⟨p, hp, rfl⟩ := (hmem i).1 his
     obtain ⟨h1, h2, h3, h4⟩ := hpS p hp
     refine hst p hp f w' hW (hfinS L f w' hc hL p hp hpre) _ (EE_block fun q hq e => ?_) _ ⟨hc', f, w', rfl, hW, fun j d e hj => ?_, EE_step hsn hbn hp hLi⟩
     · rw [inj_nodup hbn hq hp e]; exact hLi
     · have hne : j ≠ p.s := fun e' => by rw [e', h2] at e; cases e
       exact hL j d e (by simpa [hne] using hj)
   · have his' : (S.map (·.s)).contains i = false := by simpa using his
     obtain ⟨h1, h2⟩ := hall i (by omega) his'
     have hkeep : ∀ v w'', lkG gs i v w'' → Below w'.heap.size w' w'' → ClosedL ops (fun j => j == i || L j) ∧ ∃ f1 w1, ({ tmps := regT base slots f, defers := df : Act }.put (dstN ops i) v) = { tmps := regT base slots f1, defers := df } ∧ Below W0.heap.size W0 w1 ∧ (∀ j d, dstN ops j = some d → (j == i || L j) = true → lkG gs j (f1 d) w1) ∧ EE S L f w'' = EE S (fun j => j == i || L j) f1 w1 ∧ w1 = w'' := by
      intro v w'' hg hb
      have hW' := hW.trans (hb.mono hW.size)
      have hEL : ∀ q ∈ S, L q.s = (q.s == i || L q.s) := fun q hq => by
       have : q.s ≠ i := fun e => by rw [(hmem i).2 ⟨q, hq, e⟩] at his'; cases his'
       simp [this]
      cases hdi : dstN ops i with
      | none =>
       refine ⟨hc', f, w'', rfl, hW', fun j d e hj => ?_, EE_congr fun q hq => ⟨hEL q hq, fun _ => rfl⟩, rfl⟩
       have hne : j ≠ i := fun e' => by rw [e', hdi] at e; cases e
       have hLj : L j = true := by simpa [hne] using hj
       have hjs : (S.map (·.s)).contains j = false := by
        cases hcj : (S.map (·.s)).contains j with
        | false => rfl
        | true => obtain ⟨q, hq, rfl⟩ := (hmem j).1 hcj; rw [(hpS q hq).2.1] at e; cases e
       exact (hall j (by have := dstN_lt e; omega) hjs).1 _ _ _ (hL j d e hLj) hb
      | some di =>
       refine ⟨hc', updF f di v, w'', ?_, hW', fun j d e hj => ?_, EE_congr fun q hq => ⟨hEL q hq, fun hql => ?_⟩, rfl⟩
       · show ({ tmps := (regT base slots f).setIfInBounds di v, defers := df } : Act) = _
         rw [regT_put _ _ _ _ _ (hsl i di hdi)]
       · unfold updF
         by_cases hne : j = i
         · subst hne
           rw [hdi] at e
           cases e
           rw [if_pos rfl]
           exact hg
         · have h3 : d ≠ di := fun e' => hne (hinj j i d e (e' ▸ hdi))
           rw [if_neg h3]
           have hLj : L j = true := by simpa [hne] using hj
           have hjs : (S.map (·.s)).contains j = false := by
            cases hcj : (S.map (·.s)).contains j with
            | false => rfl
            | true => obtain ⟨q, hq, rfl⟩ := (hmem j).1 hcj; rw [(hpS q hq).2.1] at e; cases e
           exact (hall j (by have := dstN_lt e; omega) hjs).1 _ _ _ (hL j d e hLj) hb
       · obtain ⟨_, _, h5, h6⟩ := hpS q hq
         have hiy : L q.iy = true := needsN_out hc _ _ _ h6 (hc q.s hql)
         unfold updF
         rw [if_neg]
         intro e
         have := hinj q.iy i q.y h5 (e ▸ hdi)
         rw [this, hLi] at hiy
         cases hiy
     by_cases hany : ∀ q ∈ S, L q.s = false
     · rw [EE_none hany]
       refine h2 f w' hW (fun j hj d e => hL j d e (hpre j hj)) _ fun v w'' hg hb => ?_
       obtain ⟨k1, f1, w1, k2, k3, k4, k5, rfl⟩ := hkeep v w'' hg hb
       exact ⟨k1, f1, w1, k2, k3, k4, by rw [← k5, EE_none hany]⟩
     · obtain ⟨q, hq, hql⟩ : ∃ q ∈ S, L q.s = true := Classical.byContradiction fun hno => hany fun q hq => by
        cases hql : L q.s with
        | false => rfl
        | true => exact absurd ⟨q, hq, hql⟩ hno
       have hf := List.all_eq_true.1 hfr i (List.mem_range.2 hi)
       simp only [Bool.or_eq_true] at hf
       have hcp : copyB ops i = true := by
        rcases hf with (hf | hf) | hf
        · exact absurd hf his
        · exact hf
        · have h3 := List.all_eq_true.1 hf _ (List.mem_map.2 ⟨q, hq, rfl⟩)
          have := needsN_out hc _ _ _ h3 (hc q.s hql)
          rw [hLi] at this
          cases this
       obtain ⟨x, hx⟩ := wpOp_copy (P := P) (Q := Q) hcp
       have h3 := h2 f w' hW (fun j hj d e => hL j d e (hpre j hj)) (fun a1 w1 => ∃ v, a1 = { tmps := regT base slots f, defers := df : Act }.put (dstN ops i) v ∧ lkG gs i v w1 ∧ Below w'.heap.size w' w1 ∧ w1 = w1) (fun v w'' hg hb => ⟨v, rfl, hg, hb, rfl⟩)
       rw [hx] at h3 ⊢
       obtain ⟨v, e1, e2, e3, _⟩ := h3
       obtain ⟨k1, f1, w1, k2, k3, k4, k5, rfl⟩ := hkeep v w' e2 (Below.refl _ _)
       rw [e1]
       exact ⟨k1, f1, w1, k2, k3, k4, k5⟩
 · rintro L a w ⟨hc, f, w', rfl, hW, hL, rfl⟩ hLall
   have := h f w' hW (finF_of hl (fun j hj d e => hL j d e (hLall j hj)) hps)
   rw [EE_congr (L' := fun _ => true) (f' := f) fun q hq => ⟨hLall _ (hpS q hq).1, fun _ => rfl⟩]
   exact this
theorem sto_row {i : Nat} {o : Oper} {f : Nat → Value} {w2 : World} {K : Act → World → Prop} (ty : TypeId) (x y : Nat) {b : Nat} {cells : Array Value} (t : TypeId) (old : Array Value) (ho : ops[i]? = some o) (hg : o.guard = none) (hd : o.dst = none) (hop : o.op = .store ty (.tmp x) (.tmp y))
 (hxs : slots.contains x = false) (hxb : base.getD x undef = .pointer (some ⟨b, 0, none⟩)) (hys : slots.contains y = true) (hyz : decide (y < base.size) = true) (hy : f y = .agg cells) (hgr : w2.heap[b]? = some (.cells old t (0, 0))) (hi : (P.info? ty).map (·.size) = some cells.size) (hold : old.size = cells.size) (h1 : cells.all (·.oneCell') = true)
 (hK : K { tmps := regT base slots f, defers := df } (w2.setRow b (f y).cells)) : wpOp P ops Q i K { tmps := regT base slots f, defers := df } w2 := by
 unfold wpOp
 rw [ho]
 simp only [wanted_none hg, if_true]
 have hx' : (regT base slots f).getD x undef = .pointer (some ⟨b, 0, none⟩) := (regT_out (by simpa using hxs)).trans hxb
 have hy' : (regT base slots f).getD y undef = .agg cells := (regT_in (by simpa using hys) (of_decide_eq_true hyz)).trans hy
 refine .inl (wp_store_row ty (.tmp x) (.tmp y) hop b cells hx' hy' t old hgr hi hold h1 ?_)
 rw [hd]
 rw [hy] at hK
 exact hK
end
end Go.Proofs.YtjlliohjeiclaaaGreatDoor
namespace Go.Proofs.YtjlliohjeiclaaaGreatDoor
open Go.RowKit St
theorem ext_size (k : ByteArray) (a b : Nat) : (k.extract a b).size ≤ k.size := by simp; omega
theorem wr64 {n : Int} (h0 : 0 ≤ n) (h1 : n < 9223372036854775808) : IntKind.i64.wrap n = n := by rw [IntKind.wrap_i64]; omega
theorem getD_get {k : ByteArray} {i : Nat} (h : i < k.size) : k[i] = k.data.toList.getD i 0 := by
 rw [get_data k i h, List.getD_eq_getElem?_getD, List.getElem?_eq_getElem]
 rfl
theorem sl_mid {P : Program} (w : World) (t : TypeId) (ht : P.underlying t = some .string) (s : ByteArray) (a b : Nat) (x y : Int) (hx : x = (a : Int)) (hy : y = (b : Int)) (ha : a ≤ b) (hb : b ≤ s.size) :
 (Instr.slice t (.string s) (some (.int .i64 x)) (some (.int .i64 y)) none).run P w = .ok (.string (s.extract a b)) w := by
 subst hx hy
 rw [run_slice_string_if w t s _ _ _ _ ht]
 rw [if_pos ⟨by omega, by omega⟩, if_pos ⟨by omega, by omega⟩]
 simp
theorem br_one (r : Int) (l : ByteArray) : (#[.int .i64 r, .string l] : Array Value).all (·.oneCell') = true := by simp [Value.oneCell']
theorem ix_str {P : Program} (w : World) (t : TypeId) (ht : P.underlying t = some .string) (s : ByteArray) (i : Nat) (x : Int) (hx : x = (i : Int)) (hi : i < s.size) :
 (Instr.index t (.string s) (.int .i64 x)).run P w = .ok (.int .u8 ((s.data.toList.getD i 0).toNat : Int)) w := by
 subst hx
 rw [run_index_string w t s _ _ ht, dif_pos ⟨by omega, by omega⟩]
 have := getD_get hi
 simp only [Int.toNat_natCast]
 rw [this]
theorem sl_from {P : Program} (w : World) (t : TypeId) (ht : P.underlying t = some .string) (s : ByteArray) (a : Nat) (x : Int) (hx : x = (a : Int)) (ha : a ≤ s.size) :
 (Instr.slice t (.string s) (some (.int .i64 x)) none none).run P w = .ok (.string (s.extract a s.size)) w := by
 subst hx
 rw [run_slice_string_l w t s ht .i64 _ (by omega) (by omega)]
 simp
set_option maxRecDepth 100000 in
set_option maxHeartbeats 2000000 in
theorem stp_OfKey (k : ByteArray) (w : World) (hs : k.size ≤ 9223372036854775807) : Calls Tryz.prog 115 #[.string k] w fun e w' => e = .returned (stO (ofK k)) ∧ Below w.heap.size w w' := by
 by_cases hlt : k.size < 19
 · have E : Hid (stO (ofK k) = .tuple #[.agg #[.int .i64 0, .int .i64 0, .string ⟨#[]⟩, .int .i64 0, .int .i64 0], .int .i64 4]) := Lib.hid (by rw [ofK_short hlt]; rfl)
   have X1 := Lib.hid (heap_alloc_new w (.cells #[.int .i64 0, .int .i64 0, .string ⟨#[]⟩, .int .i64 0, .int .i64 0] 43))
   go_enter Tryz.func115, Tryz.ntmps115
   go_wp2_with (refine wpList_store_row rfl 43 (.tmp 2) (.tmp 10) rfl w.heap.size #[.int .i64 0, .int .i64 0, .string ⟨#[]⟩, .int .i64 0, .int .i64 0] rfl rfl 43 _ X1.out (by kernel_rfl) rfl (st_one _ _ _ _ _) ?_)
   have Y := setRow_heap (w.alloc (.cells #[.int .i64 0, .int .i64 0, .string ⟨#[]⟩, .int .i64 0, .int .i64 0] 43)) w.heap.size _ #[.int .i64 0, .int .i64 0, .string ⟨#[]⟩, .int .i64 0, .int .i64 0] _ _ X1.out
   have q0 := cell_of_row _ _ 0 _ _ _ Y
   have q1 := cell_of_row _ _ 1 _ _ _ Y
   have q2 := cell_of_row _ _ 2 _ _ _ Y
   have q3 := cell_of_row _ _ 3 _ _ _ Y
   have q4 := cell_of_row _ _ 4 _ _ _ Y
   refine bodyPost_ret (v := .tuple #[.agg #[.int .i64 0, .int .i64 0, .string ⟨#[]⟩, .int .i64 0, .int .i64 0], .int .i64 4]) (by simp [results, Tryz.results115, go_sem, q0, q1, q2, q3, q4]) rfl ?_
   exact ⟨by rw [E.out], below_setRow (below_new _ _) (Nat.le_refl _) _⟩
 · have hge : 19 ≤ k.size := by omega
   have E := Lib.hid (ofK_long hge)
   have X1 := heap_alloc_new w (.cells #[.int .i64 0, .int .i64 0, .string ⟨#[]⟩, .int .i64 0, .int .i64 0] 43)
   have B1 := below_new w (.cells #[.int .i64 0, .int .i64 0, .string ⟨#[]⟩, .int .i64 0, .int .i64 0] 43)
   have hz : (w.alloc (.cells #[.int .i64 0, .int .i64 0, .string ⟨#[]⟩, .int .i64 0, .int .i64 0] 43)).heap.size = w.heap.size + 1 := by simp
   go_enter Tryz.func115, Tryz.ntmps115
   go_upto_region 4 with (fail)
   generalize w.alloc (.cells #[.int .i64 0, .int .i64 0, .string ⟨#[]⟩, .int .i64 0, .int .i64 0] 43) = W at *
   have f1 : (8 : Int) < (k.size : Int) := by omega
   have f2 : ((k.size : Int) - 10) = ((k.size - 10 : Nat) : Int) := by omega
   have w10 : IntKind.i64.wrap ((k.size : Int) - 10) = ((k.size - 10 : Nat) : Int) := by rw [wr64 (by omega) (by omega)]; omega
   have h8k : 8 < k.size := by omega
   have F1 := Lib.hid f1
   have W10 := Lib.hid w10
   obtain ⟨r, hr⟩ : ∃ r, ((k.data.toList.getD 8 0).toNat : Int) = r := ⟨_, rfl⟩
   obtain ⟨l, hl⟩ : ∃ l, k.extract 9 (k.size - 10) = l := ⟨_, rfl⟩
   have hrb : 0 ≤ r ∧ r < 256 := by have := (k.data.toList.getD 8 0).toNat_lt; omega
   have WR := Lib.hid (wr64 hrb.1 (by omega))
   have IX := Lib.hid (fun w' => ix_str (P := Tryz.prog) w' 9 Tryz.underlying9 k 8 8 rfl h8k)
   have SM := Lib.hid (fun w' => sl_mid (P := Tryz.prog) w' 9 Tryz.underlying9 k 9 (k.size - 10) 9 ((k.size - 10 : Nat) : Int) rfl rfl (by omega) (by omega))
   rw [hr] at IX
   rw [hl] at SM
   have HR := Lib.hid hr
   have HL := Lib.hid hl
   clear f1 f2 w10 hr hl hrb
   have Y1 := Lib.hid X1
   have C1 := Lib.hid B1
   clear X1 B1
   refine relG_start (slots := [11, 12, 13, 14, 15, 16, 17, 18, 5]) (so := []) (by kernel_rfl) (by kernel_rfl) (by rfl) ?_
   refine relG_pure (i := 0) (o := ⟨some 11, _, _, _, _, _⟩) (v := ?v1) [] [0] rfl rfl (by kernel_rfl) (by kernel_rfl) (fun t w1 hB hf hbf => ?y1) ?n1
   case y1 =>
    simp only [BasF] at hbf
    clear hf
    obtain ⟨⟨b0, k0⟩, _⟩ := hbf
    have f1 := F1.out
    have w10 := W10.out
    have wr := WR.out
    refine Or.inl ⟨wanted_none rfl, ?_⟩
    rintro _ rfl
    go_simp <;> with_reducible rfl
   refine relG_pure (i := 1) (o := ⟨some 12, _, _, _, _, _⟩) (v := ?v2) [(0, 11, 0)] [] rfl rfl (by kernel_rfl) (by kernel_rfl) (fun t w1 hB hf hbf => ?y2) ?n2
   case y2 =>
    simp only [DepF, List.getD_cons_zero] at hf
    obtain ⟨⟨_, ⟨e11, i11⟩, rfl⟩, _⟩ := hf
    clear hbf
    have f1 := F1.out
    have w10 := W10.out
    have wr := WR.out
    have ix := IX.out w1
    refine Or.inl ⟨wanted_none rfl, ?_⟩
    rintro _ rfl
    go_simp <;> with_reducible rfl
   refine relG_pure (i := 2) (o := ⟨some 13, _, _, _, _, _⟩) (v := ?v3) [(1, 12, 0)] [] rfl rfl (by kernel_rfl) (by kernel_rfl) (fun t w1 hB hf hbf => ?y3) ?n3
   case y3 =>
    simp only [DepF, List.getD_cons_zero] at hf
    obtain ⟨⟨_, ⟨e12, i12⟩, rfl⟩, _⟩ := hf
    clear hbf
    have f1 := F1.out
    have w10 := W10.out
    have wr := WR.out
    refine Or.inl ⟨wanted_none rfl, ?_⟩
    rintro _ rfl
    go_simp <;> with_reducible rfl
   refine relG_pure (i := 3) (o := ⟨some 14, _, _, _, _, _⟩) (v := ?v4) [] [0] rfl rfl (by kernel_rfl) (by kernel_rfl) (fun t w1 hB hf hbf => ?y4) ?n4
   case y4 =>
    simp only [BasF] at hbf
    clear hf
    obtain ⟨⟨b0, k0⟩, _⟩ := hbf
    have f1 := F1.out
    have w10 := W10.out
    have wr := WR.out
    refine Or.inl ⟨wanted_none rfl, ?_⟩
    rintro _ rfl
    go_simp <;> with_reducible rfl
   refine relG_pure (i := 4) (o := ⟨some 15, _, _, _, _, _⟩) (v := ?v5) [] [4] rfl rfl (by kernel_rfl) (by kernel_rfl) (fun t w1 hB hf hbf => ?y5) ?n5
   case y5 =>
    simp only [BasF] at hbf
    clear hf
    obtain ⟨⟨b4, k4⟩, _⟩ := hbf
    have f1 := F1.out
    have w10 := W10.out
    have wr := WR.out
    refine Or.inl ⟨wanted_none rfl, ?_⟩
    rintro _ rfl
    go_simp <;> with_reducible rfl
   refine relG_pure (i := 5) (o := ⟨some 16, _, _, _, _, _⟩) (v := ?v6) [(4, 15, 0)] [] rfl rfl (by kernel_rfl) (by kernel_rfl) (fun t w1 hB hf hbf => ?y6) ?n6
   case y6 =>
    simp only [DepF, List.getD_cons_zero] at hf
    obtain ⟨⟨_, ⟨e15, i15⟩, rfl⟩, _⟩ := hf
    clear hbf
    have f1 := F1.out
    have w10 := W10.out
    have wr := WR.out
    refine Or.inl ⟨wanted_none rfl, ?_⟩
    rintro _ rfl
    go_simp <;> with_reducible rfl
   refine relG_pure (i := 6) (o := ⟨some 17, _, _, _, _, _⟩) (v := ?v7) [(3, 14, 2), (5, 16, 0)] [] rfl rfl (by kernel_rfl) (by kernel_rfl) (fun t w1 hB hf hbf => ?y7) ?n7
   case y7 =>
    simp only [DepF, List.getD_cons_zero, List.getD_cons_succ] at hf
    obtain ⟨⟨_, ⟨e14, i14⟩, rfl⟩, ⟨_, ⟨e16, i16⟩, rfl⟩, _⟩ := hf
    clear hbf
    have f1 := F1.out
    have w10 := W10.out
    have wr := WR.out
    have sm := SM.out w1
    refine Or.inl ⟨wanted_none rfl, ?_⟩
    rintro _ rfl
    go_simp <;> with_reducible rfl
   refine relG_pure (i := 7) (o := ⟨some 18, _, _, _, _, _⟩) (v := ?v8) [(2, 13, 4), (6, 17, 0)] [] rfl rfl (by kernel_rfl) (by kernel_rfl) (fun t w1 hB hf hbf => ?y8) ?n8
   case y8 =>
    simp only [DepF, List.getD_cons_zero, List.getD_cons_succ] at hf
    obtain ⟨⟨_, ⟨e13, i13⟩, rfl⟩, ⟨_, ⟨e17, i17⟩, rfl⟩, _⟩ := hf
    clear hbf
    have f1 := F1.out
    have w10 := W10.out
    have wr := WR.out
    refine Or.inl ⟨wanted_none rfl, ?_⟩
    rintro _ rfl
    go_simp <;> with_reducible rfl
   refine relG_call (i := 8) (o := ⟨some 5, _, _, _, _, _⟩) ((fun v w' => ∃ b, v = .pointer (some ⟨b, 0, none⟩) ∧ W.heap.size ≤ b ∧ w'.heap[b]? = some (.cells #[.int .i64 0, .string ⟨#[]⟩] 39 (0, 0)))) [] [] rfl rfl (by kernel_rfl) (by kernel_rfl) ((fun v w' w'' h hb => by obtain ⟨b, e1, e2, e3⟩ := h; exact ⟨b, e1, e2, boxStays e3 hb⟩)) ?_ ?_
   · intro t w1 hB hf hbf K hK
     clear hf
     clear hbf
     have f1 := F1.out
     have w10 := W10.out
     have wr := WR.out
     refine ⟨wanted_none rfl, ?_⟩
     go_simp
     exact hK.out _ _ (⟨_, rfl, hB.size, heap_alloc_new _ _⟩) (below_new _ _)
   refine relG_tail 9 [(0, 11, 8), (1, 12, 7), (2, 13, 6), (3, 14, 5), (4, 15, 4), (5, 16, 3), (6, 17, 2), (7, 18, 1), (8, 5, 0)] (by kernel_rfl) rfl (by kernel_rfl) (by kernel_rfl) (fun f wE hB hf => ?_) (by kernel_rfl)
   simp only [FinF, List.getD_cons_zero, List.getD_cons_succ] at hf
   obtain ⟨⟨_, e11, rfl⟩, ⟨_, e12, rfl⟩, ⟨_, e13, rfl⟩, ⟨_, e14, rfl⟩, ⟨_, e15, rfl⟩, ⟨_, e16, rfl⟩, ⟨_, e17, rfl⟩, ⟨_, e18, rfl⟩, ⟨_, e5, ⟨bb, rfl, hbb, hbr⟩⟩, _⟩ := hf
   simp only [regT, List.foldl_cons, List.foldl_nil, List.setIfInBounds_toArray, List.set_cons_zero, List.set_cons_succ, e11, e12, e13, e14, e15, e16, e17, e18, e5]
   clear e11 e12 e13 e14 e15 e16 e17 e18 e5
   change wpList _ _ _ [_] _ _
   have BR := Lib.hid hbr
   have hbs := (Array.getElem?_eq_some_iff.1 hbr).1
   have hB1 := Lib.hid hB
   clear hB hbr
   clear SM IX W10
   go_upto_region 5 with (refine wpList_store_row rfl 39 (.tmp 5) (.tmp 18) rfl bb #[.int .i64 r, .string l] rfl rfl 39 _ BR.out (by kernel_rfl) rfl (br_one _ _) ?_)
   simp only [Act.put]
   have hne : w.heap.size ≠ bb := by omega
   have y1 : (wE.setRow bb #[.int .i64 r, .string l]).heap[w.heap.size]? = _ := (setRow_other wE bb w.heap.size #[.int .i64 r, .string l] hne).trans (boxStays Y1.out hB1.out)
   have y2 := setRow_heap wE bb _ #[.int .i64 r, .string l] _ _ BR.out
   have c2 : Below w.heap.size w (wE.setRow bb #[.int .i64 r, .string l]) := below_setRow (C1.out.trans (hB1.out.mono (by omega))) (by omega) _
   generalize wE.setRow bb #[.int .i64 r, .string l] = W2 at *
   have Y2 := Lib.hid y1
   have Z2 := Lib.hid y2
   have C2 := Lib.hid c2
   clear y1 y2 c2 Y1 C1 BR hB1 hne
   obtain ⟨g, hg⟩ : ∃ g, IntKind.i64.wrap (num8 (k.data.toList.take 8)) = g := ⟨_, rfl⟩
   obtain ⟨m, hm⟩ : ∃ m, k.extract (k.size - 9) k.size = m := ⟨_, rfl⟩
   have hmd : m.data.toList = k.data.toList.drop (k.size - 9) := by
    rw [← hm]
    have := dlen k
    simp [List.take_of_length_le]
   have hms : 8 ≤ m.size := by
    have h1 := dlen m
    have h2 := dlen k
    rw [hmd, List.length_drop, h2] at h1
    omega
   obtain ⟨nn, hnn⟩ : ∃ nn, IntKind.i64.wrap (num8 (m.data.toList.take 8)) = nn := ⟨_, rfl⟩
   obtain ⟨ii, hii⟩ : ∃ ii, ((k.data.toList.getD (k.size - 1) 0).toNat : Int) = ii := ⟨_, rfl⟩
   have hib : 0 ≤ ii ∧ ii < 256 := by have := (k.data.toList.getD (k.size - 1) 0).toNat_lt; omega
   have WI := Lib.hid (wr64 hib.1 (by omega))
   have W9 : Hid (IntKind.i64.wrap ((k.size : Int) - 9) = ((k.size - 9 : Nat) : Int)) := Lib.hid (by rw [wr64 (by omega) (by omega)]; omega)
   have W11 : Hid (IntKind.i64.wrap ((k.size : Int) - 1) = ((k.size - 1 : Nat) : Int)) := Lib.hid (by rw [wr64 (by omega) (by omega)]; omega)
   have SF := Lib.hid (fun w' => sl_from (P := Tryz.prog) w' 9 Tryz.underlying9 k (k.size - 9) ((k.size - 9 : Nat) : Int) rfl (by omega))
   rw [hm] at SF
   have IX := Lib.hid (fun w' => ix_str (P := Tryz.prog) w' 9 Tryz.underlying9 k (k.size - 1) ((k.size - 1 : Nat) : Int) rfl (by omega))
   rw [hii] at IX
   have SV : Hid (svK k = ⟨g, r, l, nn, ii⟩) := Lib.hid (by unfold svK; rw [HR.out, HL.out, hg, hii, ← hmd, hnn])
   have K1 : Hid (∀ w', Calls Tryz.prog 153 #[.string k] w' fun e w'' => e = .returned (.int .i64 g) ∧ Below w'.heap.size w' w'') := Lib.hid (fun w' => by rw [← hg]; exact stp_back k w' (by omega))
   have K2 : Hid (∀ w', Calls Tryz.prog 153 #[.string m] w' fun e w'' => e = .returned (.int .i64 nn) ∧ Below w'.heap.size w' w'') := Lib.hid (fun w' => by rw [← hnn]; exact stp_back m w' hms)
   have hlz : l.size ≤ 9223372036854775807 := by have := ext_size k 9 (k.size - 10); rw [HL.out] at this; omega
   clear hg hm hmd hms hnn hii hib WR F1 HR HL
   have HKey := Lib.hid (fun w' => stp_same (svK k) k w' (by rw [SV.out]; exact hlz))
   rw [SV.out] at HKey
   simp only at HKey
   obtain ⟨res, hres⟩ : ∃ o : Option Sv, (if (⟨g, r, l, nn, ii⟩ : Sv).ok = true ∧ keyB (⟨g, r, l, nn, ii⟩ : Sv).st = k then some (⟨g, r, l, nn, ii⟩ : Sv) else none) = o := ⟨_, rfl⟩
   rw [hres] at HKey
   have HRES : Hid (ofK k = res) := Lib.hid (by rw [E.out, SV.out]; exact hres)
   obtain ⟨cs, en, hsto, hone⟩ : ∃ (c0 : Sv) (en : Int), stO res = .tuple #[.agg #[.int .i64 c0.g, .int .i64 c0.r, .string c0.l, .int .i64 c0.n, .int .i64 c0.i], .int .i64 en] ∧ True := by
    cases res with
    | none => exact ⟨⟨0, 0, ⟨#[]⟩, 0, 0⟩, 4, rfl, trivial⟩
    | some x => exact ⟨x, 0, rfl, trivial⟩
   rw [hsto] at HKey
   have HSTO := Lib.hid hsto
   obtain ⟨c0, c1, c2, c3, c4⟩ := cs
   simp only at HKey HSTO
   clear hres hsto hone E
   refine relG_start (slots := [19, 20, 21, 22, 23, 24, 25, 26, 27, 28, 29, 30, 31, 32, 33, 34, 35, 36, 37, 3]) (so := [19]) (by kernel_rfl) (by kernel_rfl) (by rfl) ?_
   refine relG_pure (i := 0) (o := ⟨some 19, _, _, _, _, _⟩) (v := ?v9) [] [0] rfl rfl (by kernel_rfl) (by kernel_rfl) (fun t w1 hB hf hbf => ?y9) ?n9
   case y9 =>
    simp only [BasF] at hbf
    clear hf
    obtain ⟨⟨b0, k0⟩, _⟩ := hbf
    have w9 := W9.out
    have w11 := W11.out
    have wi := WI.out
    have b2' := boxStays Z2.out hB
    have k0 := cell_of_row _ _ 0 _ _ _ b2'
    have k1' := cell_of_row _ _ 1 _ _ _ b2'
    clear b2'
    refine Or.inl ⟨wanted_none rfl, ?_⟩
    rintro _ rfl
    go_simp <;> with_reducible rfl
   refine relG_call (i := 1) (o := ⟨some 20, _, _, _, _, _⟩) ((fun v _ => v = .int .i64 g)) [(0, 19, 0)] [] rfl rfl (by kernel_rfl) (by kernel_rfl) ((fun _ _ _ h _ => h)) ?_ ?_
   · intro t w1 hB hf hbf K hK
     simp only [DepF, List.getD_cons_zero] at hf
     obtain ⟨⟨_, ⟨e19, i19⟩, rfl⟩, _⟩ := hf
     clear hbf
     have w9 := W9.out
     have w11 := W11.out
     have wi := WI.out
     have b2' := boxStays Z2.out hB
     have k0 := cell_of_row _ _ 0 _ _ _ b2'
     have k1' := cell_of_row _ _ 1 _ _ _ b2'
     clear b2'
     refine ⟨wanted_none rfl, ?_⟩
     go_simp
     refine (K1.out w1).mono ?_
     rintro e w2 ⟨rfl, hb⟩
     exact hK.out _ w2 (rfl) hb
   refine relG_pure (i := 2) (o := ⟨some 21, _, _, _, _, _⟩) (v := ?v10) [] [5] rfl rfl (by kernel_rfl) (by kernel_rfl) (fun t w1 hB hf hbf => ?y10) ?n10
   case y10 =>
    simp only [BasF] at hbf
    clear hf
    obtain ⟨⟨b5, k5⟩, _⟩ := hbf
    have w9 := W9.out
    have w11 := W11.out
    have wi := WI.out
    have b2' := boxStays Z2.out hB
    have k0 := cell_of_row _ _ 0 _ _ _ b2'
    have k1' := cell_of_row _ _ 1 _ _ _ b2'
    clear b2'
    refine Or.inl ⟨wanted_none rfl, ?_⟩
    rintro _ rfl
    go_simp <;> with_reducible rfl
   refine relG_pure (i := 3) (o := ⟨some 22, _, _, _, _, _⟩) (v := ?v11) [] [0] rfl rfl (by kernel_rfl) (by kernel_rfl) (fun t w1 hB hf hbf => ?y11) ?n11
   case y11 =>
    simp only [BasF] at hbf
    clear hf
    obtain ⟨⟨b0, k0⟩, _⟩ := hbf
    have w9 := W9.out
    have w11 := W11.out
    have wi := WI.out
    have b2' := boxStays Z2.out hB
    have k0 := cell_of_row _ _ 0 _ _ _ b2'
    have k1' := cell_of_row _ _ 1 _ _ _ b2'
    clear b2'
    refine Or.inl ⟨wanted_none rfl, ?_⟩
    rintro _ rfl
    go_simp <;> with_reducible rfl
   refine relG_pure (i := 4) (o := ⟨some 23, _, _, _, _, _⟩) (v := ?v12) [] [4] rfl rfl (by kernel_rfl) (by kernel_rfl) (fun t w1 hB hf hbf => ?y12) ?n12
   case y12 =>
    simp only [BasF] at hbf
    clear hf
    obtain ⟨⟨b4, k4⟩, _⟩ := hbf
    have w9 := W9.out
    have w11 := W11.out
    have wi := WI.out
    have b2' := boxStays Z2.out hB
    have k0 := cell_of_row _ _ 0 _ _ _ b2'
    have k1' := cell_of_row _ _ 1 _ _ _ b2'
    clear b2'
    refine Or.inl ⟨wanted_none rfl, ?_⟩
    rintro _ rfl
    go_simp <;> with_reducible rfl
   refine relG_pure (i := 5) (o := ⟨some 24, _, _, _, _, _⟩) (v := ?v13) [(4, 23, 0)] [] rfl rfl (by kernel_rfl) (by kernel_rfl) (fun t w1 hB hf hbf => ?y13) ?n13
   case y13 =>
    simp only [DepF, List.getD_cons_zero] at hf
    obtain ⟨⟨_, ⟨e23, i23⟩, rfl⟩, _⟩ := hf
    clear hbf
    have w9 := W9.out
    have w11 := W11.out
    have wi := WI.out
    have b2' := boxStays Z2.out hB
    have k0 := cell_of_row _ _ 0 _ _ _ b2'
    have k1' := cell_of_row _ _ 1 _ _ _ b2'
    clear b2'
    refine Or.inl ⟨wanted_none rfl, ?_⟩
    rintro _ rfl
    go_simp <;> with_reducible rfl
   refine relG_pure (i := 6) (o := ⟨some 25, _, _, _, _, _⟩) (v := ?v14) [(3, 22, 2), (5, 24, 0)] [] rfl rfl (by kernel_rfl) (by kernel_rfl) (fun t w1 hB hf hbf => ?y14) ?n14
   case y14 =>
    simp only [DepF, List.getD_cons_zero, List.getD_cons_succ] at hf
    obtain ⟨⟨_, ⟨e22, i22⟩, rfl⟩, ⟨_, ⟨e24, i24⟩, rfl⟩, _⟩ := hf
    clear hbf
    have w9 := W9.out
    have w11 := W11.out
    have wi := WI.out
    have b2' := boxStays Z2.out hB
    have k0 := cell_of_row _ _ 0 _ _ _ b2'
    have k1' := cell_of_row _ _ 1 _ _ _ b2'
    clear b2'
    have sf := SF.out w1
    refine Or.inl ⟨wanted_none rfl, ?_⟩
    rintro _ rfl
    go_simp <;> with_reducible rfl
   refine relG_call (i := 7) (o := ⟨some 26, _, _, _, _, _⟩) ((fun v _ => v = .int .i64 nn)) [(6, 25, 0)] [] rfl rfl (by kernel_rfl) (by kernel_rfl) ((fun _ _ _ h _ => h)) ?_ ?_
   · intro t w1 hB hf hbf K hK
     simp only [DepF, List.getD_cons_zero] at hf
     obtain ⟨⟨_, ⟨e25, i25⟩, rfl⟩, _⟩ := hf
     clear hbf
     have w9 := W9.out
     have w11 := W11.out
     have wi := WI.out
     have b2' := boxStays Z2.out hB
     have k0 := cell_of_row _ _ 0 _ _ _ b2'
     have k1' := cell_of_row _ _ 1 _ _ _ b2'
     clear b2'
     refine ⟨wanted_none rfl, ?_⟩
     go_simp
     refine (K2.out w1).mono ?_
     rintro e w2 ⟨rfl, hb⟩
     exact hK.out _ w2 (rfl) hb
   refine relG_pure (i := 8) (o := ⟨some 27, _, _, _, _, _⟩) (v := ?v15) [(2, 21, 5), (7, 26, 0)] [] rfl rfl (by kernel_rfl) (by kernel_rfl) (fun t w1 hB hf hbf => ?y15) ?n15
   case y15 =>
    simp only [DepF, List.getD_cons_zero, List.getD_cons_succ] at hf
    obtain ⟨⟨_, ⟨e21, i21⟩, rfl⟩, ⟨_, ⟨e26, i26⟩, rfl⟩, _⟩ := hf
    clear hbf
    have w9 := W9.out
    have w11 := W11.out
    have wi := WI.out
    have b2' := boxStays Z2.out hB
    have k0 := cell_of_row _ _ 0 _ _ _ b2'
    have k1' := cell_of_row _ _ 1 _ _ _ b2'
    clear b2'
    refine Or.inl ⟨wanted_none rfl, ?_⟩
    rintro _ rfl
    go_simp <;> with_reducible rfl
   refine relG_pure (i := 9) (o := ⟨some 28, _, _, _, _, _⟩) (v := ?v16) [] [0] rfl rfl (by kernel_rfl) (by kernel_rfl) (fun t w1 hB hf hbf => ?y16) ?n16
   case y16 =>
    simp only [BasF] at hbf
    clear hf
    obtain ⟨⟨b0, k0⟩, _⟩ := hbf
    have w9 := W9.out
    have w11 := W11.out
    have wi := WI.out
    have b2' := boxStays Z2.out hB
    have k0 := cell_of_row _ _ 0 _ _ _ b2'
    have k1' := cell_of_row _ _ 1 _ _ _ b2'
    clear b2'
    refine Or.inl ⟨wanted_none rfl, ?_⟩
    rintro _ rfl
    go_simp <;> with_reducible rfl
   refine relG_pure (i := 10) (o := ⟨some 29, _, _, _, _, _⟩) (v := ?v17) [] [4] rfl rfl (by kernel_rfl) (by kernel_rfl) (fun t w1 hB hf hbf => ?y17) ?n17
   case y17 =>
    simp only [BasF] at hbf
    clear hf
    obtain ⟨⟨b4, k4⟩, _⟩ := hbf
    have w9 := W9.out
    have w11 := W11.out
    have wi := WI.out
    have b2' := boxStays Z2.out hB
    have k0 := cell_of_row _ _ 0 _ _ _ b2'
    have k1' := cell_of_row _ _ 1 _ _ _ b2'
    clear b2'
    refine Or.inl ⟨wanted_none rfl, ?_⟩
    rintro _ rfl
    go_simp <;> with_reducible rfl
   refine relG_pure (i := 11) (o := ⟨some 30, _, _, _, _, _⟩) (v := ?v18) [(10, 29, 0)] [] rfl rfl (by kernel_rfl) (by kernel_rfl) (fun t w1 hB hf hbf => ?y18) ?n18
   case y18 =>
    simp only [DepF, List.getD_cons_zero] at hf
    obtain ⟨⟨_, ⟨e29, i29⟩, rfl⟩, _⟩ := hf
    clear hbf
    have w9 := W9.out
    have w11 := W11.out
    have wi := WI.out
    have b2' := boxStays Z2.out hB
    have k0 := cell_of_row _ _ 0 _ _ _ b2'
    have k1' := cell_of_row _ _ 1 _ _ _ b2'
    clear b2'
    refine Or.inl ⟨wanted_none rfl, ?_⟩
    rintro _ rfl
    go_simp <;> with_reducible rfl
   refine relG_pure (i := 12) (o := ⟨some 31, _, _, _, _, _⟩) (v := ?v19) [(9, 28, 2), (11, 30, 0)] [] rfl rfl (by kernel_rfl) (by kernel_rfl) (fun t w1 hB hf hbf => ?y19) ?n19
   case y19 =>
    simp only [DepF, List.getD_cons_zero, List.getD_cons_succ] at hf
    obtain ⟨⟨_, ⟨e28, i28⟩, rfl⟩, ⟨_, ⟨e30, i30⟩, rfl⟩, _⟩ := hf
    clear hbf
    have w9 := W9.out
    have w11 := W11.out
    have wi := WI.out
    have b2' := boxStays Z2.out hB
    have k0 := cell_of_row _ _ 0 _ _ _ b2'
    have k1' := cell_of_row _ _ 1 _ _ _ b2'
    clear b2'
    have ix := IX.out w1
    refine Or.inl ⟨wanted_none rfl, ?_⟩
    rintro _ rfl
    go_simp <;> with_reducible rfl
   refine relG_pure (i := 13) (o := ⟨some 32, _, _, _, _, _⟩) (v := ?v20) [(12, 31, 0)] [] rfl rfl (by kernel_rfl) (by kernel_rfl) (fun t w1 hB hf hbf => ?y20) ?n20
   case y20 =>
    simp only [DepF, List.getD_cons_zero] at hf
    obtain ⟨⟨_, ⟨e31, i31⟩, rfl⟩, _⟩ := hf
    clear hbf
    have w9 := W9.out
    have w11 := W11.out
    have wi := WI.out
    have b2' := boxStays Z2.out hB
    have k0 := cell_of_row _ _ 0 _ _ _ b2'
    have k1' := cell_of_row _ _ 1 _ _ _ b2'
    clear b2'
    refine Or.inl ⟨wanted_none rfl, ?_⟩
    rintro _ rfl
    go_simp <;> with_reducible rfl
   refine relG_pure (i := 14) (o := ⟨some 33, _, _, _, _, _⟩) (v := ?v21) [(1, 20, 12), (8, 27, 5), (13, 32, 0)] [] rfl rfl (by kernel_rfl) (by kernel_rfl) (fun t w1 hB hf hbf => ?y21) ?n21
   case y21 =>
    simp only [DepF, List.getD_cons_zero, List.getD_cons_succ] at hf
    obtain ⟨⟨_, ⟨e20, i20⟩, rfl⟩, ⟨_, ⟨e27, i27⟩, rfl⟩, ⟨_, ⟨e32, i32⟩, rfl⟩, _⟩ := hf
    clear hbf
    have w9 := W9.out
    have w11 := W11.out
    have wi := WI.out
    have b2' := boxStays Z2.out hB
    have k0 := cell_of_row _ _ 0 _ _ _ b2'
    have k1' := cell_of_row _ _ 1 _ _ _ b2'
    clear b2'
    refine Or.inl ⟨wanted_none rfl, ?_⟩
    rintro _ rfl
    go_simp <;> with_reducible rfl
   refine relG_pure (i := 15) (o := ⟨some 34, _, _, _, _, _⟩) (v := ?v22) [] [0] rfl rfl (by kernel_rfl) (by kernel_rfl) (fun t w1 hB hf hbf => ?y22) ?n22
   case y22 =>
    simp only [BasF] at hbf
    clear hf
    obtain ⟨⟨b0, k0⟩, _⟩ := hbf
    have w9 := W9.out
    have w11 := W11.out
    have wi := WI.out
    have b2' := boxStays Z2.out hB
    have k0 := cell_of_row _ _ 0 _ _ _ b2'
    have k1' := cell_of_row _ _ 1 _ _ _ b2'
    clear b2'
    refine Or.inl ⟨wanted_none rfl, ?_⟩
    rintro _ rfl
    go_simp <;> with_reducible rfl
   refine relG_call (i := 16) (o := ⟨some 35, _, _, _, _, _⟩) ((fun v _ => v = .tuple #[.agg #[.int .i64 c0, .int .i64 c1, .string c2, .int .i64 c3, .int .i64 c4], .int .i64 en])) [(14, 33, 1), (15, 34, 0)] [] rfl rfl (by kernel_rfl) (by kernel_rfl) ((fun _ _ _ h _ => h)) ?_ ?_
   · intro t w1 hB hf hbf K hK
     simp only [DepF, List.getD_cons_zero, List.getD_cons_succ] at hf
     obtain ⟨⟨_, ⟨e33, i33⟩, rfl⟩, ⟨_, ⟨e34, i34⟩, rfl⟩, _⟩ := hf
     clear hbf
     have w9 := W9.out
     have w11 := W11.out
     have wi := WI.out
     have b2' := boxStays Z2.out hB
     have k0 := cell_of_row _ _ 0 _ _ _ b2'
     have k1' := cell_of_row _ _ 1 _ _ _ b2'
     clear b2'
     refine ⟨wanted_none rfl, ?_⟩
     go_simp
     refine (HKey.out w1).mono ?_
     rintro e w2 ⟨rfl, hb⟩
     exact hK.out _ w2 (rfl) hb
   refine relG_pure (i := 17) (o := ⟨some 36, _, _, _, _, _⟩) (v := ?v23) [(16, 35, 0)] [] rfl rfl (by kernel_rfl) (by kernel_rfl) (fun t w1 hB hf hbf => ?y23) ?n23
   case y23 =>
    simp only [DepF, List.getD_cons_zero] at hf
    obtain ⟨⟨_, ⟨e35, i35⟩, rfl⟩, _⟩ := hf
    clear hbf
    have w9 := W9.out
    have w11 := W11.out
    have wi := WI.out
    have b2' := boxStays Z2.out hB
    have k0 := cell_of_row _ _ 0 _ _ _ b2'
    have k1' := cell_of_row _ _ 1 _ _ _ b2'
    clear b2'
    refine Or.inl ⟨wanted_none rfl, ?_⟩
    rintro _ rfl
    go_simp <;> with_reducible rfl
   refine relG_pure (i := 18) (o := ⟨some 37, _, _, _, _, _⟩) (v := ?v24) [(16, 35, 1)] [] rfl rfl (by kernel_rfl) (by kernel_rfl) (fun t w1 hB hf hbf => ?y24) ?n24
   case y24 =>
    simp only [DepF, List.getD_cons_zero, List.getD_cons_succ] at hf
    obtain ⟨⟨_, ⟨e35, i35⟩, rfl⟩, _⟩ := hf
    clear hbf
    have w9 := W9.out
    have w11 := W11.out
    have wi := WI.out
    have b2' := boxStays Z2.out hB
    have k0 := cell_of_row _ _ 0 _ _ _ b2'
    have k1' := cell_of_row _ _ 1 _ _ _ b2'
    clear b2'
    refine Or.inl ⟨wanted_none rfl, ?_⟩
    rintro _ rfl
    go_simp <;> with_reducible rfl
   refine relG_skip 19 rfl (by rfl) ?_ (by kernel_rfl)
   refine relG_pure (i := 20) (o := ⟨some 3, _, _, _, _, _⟩) (v := ?v25) [(18, 37, 1)] [] rfl rfl (by kernel_rfl) (by kernel_rfl) (fun t w1 hB hf hbf => ?y25) ?n25
   case y25 =>
    simp only [DepF, List.getD_cons_zero, List.getD_cons_succ] at hf
    obtain ⟨⟨_, ⟨e37, i37⟩, rfl⟩, _⟩ := hf
    clear hbf
    have w9 := W9.out
    have w11 := W11.out
    have wi := WI.out
    have b2' := boxStays Z2.out hB
    have k0 := cell_of_row _ _ 0 _ _ _ b2'
    have k1' := cell_of_row _ _ 1 _ _ _ b2'
    clear b2'
    refine Or.inl ⟨wanted_none rfl, ?_⟩
    rintro _ rfl
    go_simp <;> with_reducible rfl
   refine relG_stores [⟨19, w.heap.size, 36, 17⟩] [(0, 19, 20), (1, 20, 19), (2, 21, 18), (3, 22, 17), (4, 23, 16), (5, 24, 15), (6, 25, 14), (7, 26, 13), (8, 27, 12), (9, 28, 11), (10, 29, 10), (11, 30, 9), (12, 31, 8), (13, 32, 7), (14, 33, 6), (15, 34, 5), (16, 35, 4), (17, 36, 3), (18, 37, 2), (20, 3, 0)] [(0, 19, 20), (1, 20, 19), (2, 21, 18), (3, 22, 17), (4, 23, 16), (5, 24, 15), (6, 25, 14), (7, 26, 13), (8, 27, 12), (9, 28, 11), (10, 29, 10), (11, 30, 9), (12, 31, 8), (13, 32, 7), (14, 33, 6), (15, 34, 5), (16, 35, 4), (17, 36, 3), (18, 37, 2)] (by kernel_rfl) rfl rfl (by kernel_rfl) (by kernel_rfl) (by kernel_rfl) (by kernel_rfl) (by decide) (by simp <;> omega) ?_ (fun f wE hB hf => ?_)
   · intro q hq
     simp at hq
     rcases hq with rfl
     · intro f w1 hB hf w2 hw2 K hK
       simp only [FinF, List.getD_cons_zero, List.getD_cons_succ] at hf
       obtain ⟨⟨_, e19, rfl⟩, ⟨_, e20, rfl⟩, ⟨_, e21, rfl⟩, ⟨_, e22, rfl⟩, ⟨_, e23, rfl⟩, ⟨_, e24, rfl⟩, ⟨_, e25, rfl⟩, ⟨_, e26, rfl⟩, ⟨_, e27, rfl⟩, ⟨_, e28, rfl⟩, ⟨_, e29, rfl⟩, ⟨_, e30, rfl⟩, ⟨_, e31, rfl⟩, ⟨_, e32, rfl⟩, ⟨_, e33, rfl⟩, ⟨_, e34, rfl⟩, ⟨_, e35, rfl⟩, ⟨_, e36, rfl⟩, ⟨_, e37, rfl⟩, _⟩ := hf
       have w9 := W9.out
       have w11 := W11.out
       have wi := WI.out
       have b2' := boxStays Z2.out hB
       have k0 := cell_of_row _ _ 0 _ _ _ b2'
       have k1' := cell_of_row _ _ 1 _ _ _ b2'
       clear b2'
       refine sto_row (i := 19) (b := w.heap.size) (cells := #[.int .i64 c0, .int .i64 c1, .string c2, .int .i64 c3, .int .i64 c4]) 43 2 36 _ _ rfl rfl rfl rfl (by rfl) (by rfl) (by rfl) (by rfl) e36 (hw2.trans (boxStays Y2.out hB)) (by kernel_rfl) rfl (st_one _ _ _ _ _) hK
   simp only [FinF, List.getD_cons_zero, List.getD_cons_succ] at hf
   obtain ⟨⟨_, e19, rfl⟩, ⟨_, e20, rfl⟩, ⟨_, e21, rfl⟩, ⟨_, e22, rfl⟩, ⟨_, e23, rfl⟩, ⟨_, e24, rfl⟩, ⟨_, e25, rfl⟩, ⟨_, e26, rfl⟩, ⟨_, e27, rfl⟩, ⟨_, e28, rfl⟩, ⟨_, e29, rfl⟩, ⟨_, e30, rfl⟩, ⟨_, e31, rfl⟩, ⟨_, e32, rfl⟩, ⟨_, e33, rfl⟩, ⟨_, e34, rfl⟩, ⟨_, e35, rfl⟩, ⟨_, e36, rfl⟩, ⟨_, e37, rfl⟩, ⟨_, e3, rfl⟩, _⟩ := hf
   simp only [EE, if_true, Value.cells, regT, List.foldl_cons, List.foldl_nil, List.setIfInBounds_toArray, List.set_cons_zero, List.set_cons_succ, e19, e20, e21, e22, e23, e24, e25, e26, e27, e28, e29, e30, e31, e32, e33, e34, e35, e36, e37, e3]
   clear e19 e20 e21 e22 e23 e24 e25 e26 e27 e28 e29 e30 e31 e32 e33 e34 e35 e36 e37 e3
   go_wp2_with fail
   have Y := setRow_heap wE w.heap.size _ #[.int .i64 c0, .int .i64 c1, .string c2, .int .i64 c3, .int .i64 c4] _ _ (boxStays Y2.out hB)
   have q0 := cell_of_row _ _ 0 _ _ _ Y
   have q1 := cell_of_row _ _ 1 _ _ _ Y
   have q2 := cell_of_row _ _ 2 _ _ _ Y
   have q3 := cell_of_row _ _ 3 _ _ _ Y
   have q4 := cell_of_row _ _ 4 _ _ _ Y
   refine bodyPost_ret (v := .tuple #[.agg #[.int .i64 c0, .int .i64 c1, .string c2, .int .i64 c3, .int .i64 c4], .int .i64 en]) (by simp [results, Tryz.results115, go_sem, q0, q1, q2, q3, q4]) rfl ?_
   exact ⟨by rw [HRES.out, HSTO.out], below_setRow (C2.out.trans (hB.mono C2.out.size)) (Nat.le_refl _) _⟩
end Go.Proofs.YtjlliohjeiclaaaGreatDoor
