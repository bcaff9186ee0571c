/- Words, contracts and walks that the proof stands on (KyY KyZ KyO KyK KyF KyG RelS). -/
import Derived.Test.YtjlliohjeiclaaaGreatDoorKF1
import Derived.Deep.Cut
import Derived.Test.YtjlliohjeiclaaaGreatDoorKF4
namespace Go.Proofs.YtjlliohjeiclaaaGreatDoor
open Go.RowKit St
open Go.Op (bytesLess)
theorem u8T : ElemT Tryz.prog 113 5 (.int .u8 0) 1 1 := ElemT.mk Tryz.underlying113 (by kernel_rfl) (by simp [Value.cells])
theorem dig_get (j m i : Nat) (h : i < (dig j m).length) : (dig j m)[i] = UInt8.ofNat (m / 256 ^ (j - 1 - i) % 256) := by
 induction j generalizing i with
 | zero => simp [dig] at h
 | succ j ih =>
  simp only [dig]
  cases i with
  | zero => simp
  | succ i =>
   rw [List.getElem_cons_succ, ih]
   rw [show j + 1 - 1 - (i + 1) = j - 1 - i by omega]
theorem dig_val (n : Int) (k : Nat) (h0 : 0 ≤ n) (hk : k < 8) : n / 2 ^ (56 - 8 * k) % 256 = (((dig 8 n.toNat)[k]'(by rw [dig_length]; exact hk)).toNat : Int) := by
 rw [dig_get]
 obtain ⟨m, rfl⟩ : ∃ m : Nat, n = m := ⟨n.toNat, by omega⟩
 rw [Int.toNat_natCast]
 have e : 256 ^ (8 - 1 - k) = 2 ^ (56 - 8 * k) := by
  rw [show 56 - 8 * k = 8 * (8 - 1 - k) by omega, Nat.pow_mul]
 rw [e]
 have : m / 2 ^ (56 - 8 * k) % 256 < 256 := Nat.mod_lt _ (by omega)
 rw [UInt8.toNat_ofNat', Nat.mod_eq_of_lt (by simpa using this)]
 simp
theorem take_set (l : List UInt8) (n : Nat) (hn : l.length = n) (k : Nat) (hk : k < n) : (l.take k ++ List.replicate (n - k) (0 : UInt8)).set k (l[k]'(by omega)) = l.take (k + 1) ++ List.replicate (n - (k + 1)) 0 := by
 subst hn
 have e1 : (l.take k).length = k := by simp; omega
 rw [List.set_append_right _ _ (by omega), e1, Nat.sub_self]
 rw [show l.length - k = l.length - (k + 1) + 1 by omega, List.replicate_succ, List.set_cons_zero, List.take_succ_eq_append_getElem hk, List.append_assoc]
 rfl
set_option maxHeartbeats 1000000 in
theorem stp_eight (n : Int) (w : World) (h0 : 0 ≤ n) (h1 : n ≤ 4611686018427387904) : Calls Tryz.prog 132 #[.int .i64 n] w fun e w' => ∃ cap, e = .returned (.slice (some ⟨w.heap.size, 0, none⟩) 8 cap) ∧ BytesAt w' (some ⟨w.heap.size, 0, none⟩) (dig 8 n.toNat) ∧ Below w.heap.size w w' := by
 go_enter Tryz.func132, Tryz.ntmps132
 go_wp2_with (first | (refine wpList_mkn rfl _ _ _ rfl 5 (.int .u8 0) 1 1 u8T _ _ _ _ 8 rfl rfl rfl rfl (by decide) (by decide) ?_; intro w1 hown hb))
 have hz : (madeCells (Value.int IntKind.u8 0).cells (8 * 1)).toList = bvs ((dig 8 n.toNat).take 0 ++ List.replicate (8 - 0) 0) := by kernel_rfl
 rw [hz] at hown
 clear hz
 go_loopw [8] (fun i wr => ∃ k : Nat, k ≤ 8 ∧ i = .int .i64 (k : Int) ∧ Hid (wr.ownsRow w.heap.size 5 1 (.slice (some ⟨w.heap.size, 0, none⟩) 8 8) 8 (bvs ((dig 8 n.toNat).take k ++ List.replicate (8 - k) 0))) ∧ Hid (Below w.heap.size w wr)) (fun i _ => 8 - (intOf i).toNat)
 case atStart => exact ⟨0, Nat.zero_le _, rfl, Lib.hid hown, Lib.hid hb⟩
 clear hown hb
 case round =>
  obtain ⟨k, hk, rfl, HO, HB⟩ := hrel
  by_cases hlt : k < 8
  · have hlen : ((dig 8 n.toNat).take k ++ List.replicate (8 - k) (0 : UInt8)).length = 8 := by simp [dig_length]; omega
    obtain ⟨c0, f0⟩ := own_byte HO.out k (by omega)
    have V := Lib.hid (dig_val n k h0 hlt)
    have T := Lib.hid (take_set (dig 8 n.toNat) 8 (by simp [dig_length]) k hlt)
    go_wp2
    refine ⟨⟨k + 1, by omega, by go_num, Lib.hid ?_, Lib.hid (HB.out.setCell (p := ⟨w.heap.size, k, none⟩) (by simp) _)⟩, by simp [intOf]; omega⟩
    have := own_put HO.out k ((dig 8 n.toNat)[k]'(by rw [dig_length]; exact hlt)) _ V.out
    rw [T.out] at this
    exact this
  · obtain rfl : k = 8 := by omega
    go_wp2
    go_ret
    refine ⟨8, rfl, ?_, HB.out⟩
    have := own_bytes HO.out
    rw [List.take_of_length_le (by simp [dig_length])] at this
    simpa using this
theorem joinK_succ (ll : List (List UInt8)) (k : Nat) (h : k < ll.length) : (ll.take (k + 1)).flatten = (ll.take k).flatten ++ ll[k] := by
 rw [List.take_succ_eq_append_getElem h]; simp only [List.flatten_append, List.flatten_cons, List.flatten_nil, List.append_nil]
theorem joinK_le (ll : List (List UInt8)) (k : Nat) : (ll.take k).flatten.length ≤ ll.flatten.length := by
 conv => rhs; rw [← List.take_append_drop k ll]
 rw [List.flatten_append, List.length_append]; omega
set_option maxHeartbeats 400000 in
theorem kw_Join (ll : List (List UInt8)) (a : Option Addr) (len cap : Nat) (w : World) (hl : ListsAt w a ll) (hlen : len = ll.length) (hm : ll.length ≤ 9223372036854775807) (hsum : ll.flatten.length ≤ 70368744177664) :
 Calls Tryz.prog 131 #[.slice a len cap] w fun e w' => ∃ v, e = .returned v ∧ w'.ownsRow w.heap.size 5 1 v ll.flatten.length (bvs ll.flatten) ∧ Below w.heap.size w w' := by
 subst hlen
 have BT := Lib.hid u8T
 have HL := Lib.hid hl; clear hl
 go_enter Tryz.func131, Tryz.ntmps131
 go_wp2_with fail
 go_loopw [3, 9] (fun v i wr => ∃ k : Nat, k ≤ ll.length ∧ i = .int .i64 k ∧ wr.ownsRow w.heap.size 5 1 v (ll.take k).flatten.length (bvs (ll.take k).flatten) ∧ Below w.heap.size w wr) (fun _ i _ => ll.length - (intOf i).toNat)
 case atStart => exact ⟨0, by omega, rfl, own_new w _ 5 [] (Nat.le_refl _) (by simp), below_new _ _⟩
 case round =>
  obtain ⟨k, hk, rfl, hown, hb⟩ := hrel
  have HO := Lib.hid hown; clear hown
  have HB := Lib.hid hb; clear hb
  by_cases hlt : k < ll.length
  · obtain ⟨b, off, a', cap', rfl, hc, hla, hlm⟩ := (HL.out.below HB.out rfl) k hlt
    have HLA := Lib.hid hla; clear hla
    have HF := Lib.hid (joinK_succ ll k hlt)
    have h1 := joinK_le ll (k + 1)
    have h2 : (ll.take k).flatten.length + ll[k].length ≤ 70368744177664 := by rw [HF.out, List.length_append] at h1; omega
    clear h1
    have HBS := Lib.hid HB.out.size
    go_wp2_with (at_builtin; refine wpList_appb rfl _ _ 113 113 rfl w.heap.size 5 BT.out u3 (ll.take k).flatten rfl HO.out _ ll[k] rfl (HLA.out.src Tryz.underlying113 cap') h2 HBS.out ?_; intro v' w1 hown1 _ hbel1 _)
    rw [← HF.out] at hown1
    have HO1 := Lib.hid hown1; clear hown1
    have HB1 := Lib.hid (HB.out.trans hbel1); clear hbel1
    go_wp2_with fail
    go_roundw
    case rel => exact ⟨k + 1, by omega, by go_num, HO1.out, HB1.out⟩
    case measure => simp [intOf]; omega
  · obtain rfl : k = ll.length := by omega
    have HO1 : Hid (wr.ownsRow w.heap.size 5 1 u3 ll.flatten.length (bvs ll.flatten)) := Lib.hid (by have := HO.out; rwa [List.take_length] at this)
    clear HO
    go_wp2_with fail
    go_ret
    exact ⟨_, rfl, HO1.out, HB.out⟩
theorem step_conv {P : Program} {o : Oper} {a : Act} {w : World} {K : Act → World → Prop} {Q : Exit → Act → World → Prop} (src dst e : TypeId) (d : Nat) (s : ByteArray) (ho : o.op = .convert src dst (.tmp d)) (hx' : a.tmps.getD d undef = .string s)
 (hs : P.underlying src = some .string) (hd : P.underlying dst = some (.slice e)) (he : P.underlying e = some (.int .u8))
 (h : ∀ v w', (∃ cap, v = .slice (some ⟨w.heap.size, 0, none⟩) s.size cap) → BytesAt w' (some ⟨w.heap.size, 0, none⟩) s.data.toList → Below w.heap.size w w' → K (a.put o.dst v) w') : o.wp P a w K Q := by
 have hx : a.eval (.tmp d) = .string s := hx'
 obtain ⟨cap, w2, hcv, hby, hb, _⟩ := conv_to_bytes (P := P) w src dst e s hs hd he
 unfold Oper.wp execOp
 simp only [ho, hx, Sem.run_bind, hcv, Result.andThen_ok, Sem.run_pure]
 exact h _ w2 ⟨cap, rfl⟩ hby hb
def SlB (l : List UInt8) : Pr := fun v w => ∃ a cap, v = .slice a l.length cap ∧ BytesAt w a l
theorem SlB.stay (l : List UInt8) : Stay (SlB l) := fun _ _ _ ⟨a, cap, e, h⟩ hb => ⟨a, cap, e, h.below hb rfl⟩
theorem SlB.one (w : World) (t : TypeId) (c : UInt8) (u : Int) (hu : u = (c.toNat : Int)) : SlB [c] (.slice (some ⟨w.heap.size, 0, none⟩) 1 1) (w.alloc (.cells #[.int .u8 u] t)) := by
 subst hu
 exact ⟨_, _, rfl, BytesAt.fresh w t (0, 0) [c] [_] rfl⟩
def Sl6 (l1 l2 l3 l4 l5 l6 : List UInt8) : Pr := fun v w => ∃ a cap, v = .slice a 6 cap ∧ ListsAt w a [l1, l2, l3, l4, l5, l6]
theorem Sl6.stay (l1 l2 l3 l4 l5 l6 : List UInt8) : Stay (Sl6 l1 l2 l3 l4 l5 l6) := fun _ _ _ ⟨a, cap, e, h⟩ hb => ⟨a, cap, e, h.below hb rfl⟩
theorem Sl6.mk {w : World} {t : TypeId} {l1 l2 l3 l4 l5 l6 : List UInt8} {v1 v2 v3 v4 v5 v6 : Value} (h1 : SlB l1 v1 w) (h2 : SlB l2 v2 w) (h3 : SlB l3 v3 w) (h4 : SlB l4 v4 w) (h5 : SlB l5 v5 w) (h6 : SlB l6 v6 w)
 (n1 : l1.length ≤ 9223372036854775807) (n2 : l2.length ≤ 9223372036854775807) (n3 : l3.length ≤ 9223372036854775807) (n4 : l4.length ≤ 9223372036854775807) (n5 : l5.length ≤ 9223372036854775807) (n6 : l6.length ≤ 9223372036854775807) :
 Sl6 l1 l2 l3 l4 l5 l6 (.slice (some ⟨w.heap.size, 0, none⟩) 6 6) (w.alloc (.cells #[v1, v2, v3, v4, v5, v6] t)) := by
 have hc : ∀ i, (w.alloc (.cells #[v1, v2, v3, v4, v5, v6] t)).cell? ⟨w.heap.size, i, none⟩ = (#[v1, v2, v3, v4, v5, v6])[i]? := fun i => cell_new _ _ _ _ i
 have hb := below_new w (.cells #[v1, v2, v3, v4, v5, v6] t)
 obtain ⟨a1, c1, e1, b1⟩ := SlB.stay _ _ _ _ h1 hb
 obtain ⟨a2, c2, e2, b2⟩ := SlB.stay _ _ _ _ h2 hb
 obtain ⟨a3, c3, e3, b3⟩ := SlB.stay _ _ _ _ h3 hb
 obtain ⟨a4, c4, e4, b4⟩ := SlB.stay _ _ _ _ h4 hb
 obtain ⟨a5, c5, e5, b5⟩ := SlB.stay _ _ _ _ h5 hb
 obtain ⟨a6, c6, e6, b6⟩ := SlB.stay _ _ _ _ h6 hb
 refine ⟨_, _, rfl, fun i hi => ?_⟩
 match i, hi with
 | 0, _ => exact ⟨_, _, a1, c1, rfl, by rw [hc, e1]; rfl, b1, n1⟩
 | 1, _ => exact ⟨_, _, a2, c2, rfl, by rw [hc, e2]; rfl, b2, n2⟩
 | 2, _ => exact ⟨_, _, a3, c3, rfl, by rw [hc, e3]; rfl, b3, n3⟩
 | 3, _ => exact ⟨_, _, a4, c4, rfl, by rw [hc, e4]; rfl, b4, n4⟩
 | 4, _ => exact ⟨_, _, a5, c5, rfl, by rw [hc, e5]; rfl, b5, n5⟩
 | 5, _ => exact ⟨_, _, a6, c6, rfl, by rw [hc, e6]; rfl, b6, n6⟩
theorem okLabel_len {l : List UInt8} (h : okLabel l = true) : l.length ≤ 12 := by
 unfold okLabel at h
 simp only [Bool.and_eq_true, decide_eq_true_eq] at h
 exact h.2
def keyL (s : Sv) : List (List UInt8) := [dig 8 s.g.toNat, dig 1 s.r.toNat, s.l.data.toList, [0], dig 8 s.n.toNat, dig 1 s.i.toNat]
theorem keyL_flat (s : Sv) : (keyL s).flatten = s.st.key := by simp [keyL, Stp.key, Sv.st]
theorem dig1_val {n : Int} (h0 : 0 ≤ n) (h1 : n < 256) : dig 1 n.toNat = [UInt8.ofNat n.toNat] ∧ n = ((UInt8.ofNat n.toNat).toNat : Int) := by
 refine ⟨by simp only [dig, Nat.pow_zero, Nat.div_one]; rw [Nat.mod_eq_of_lt (by omega)], ?_⟩
 rw [UInt8.toNat_ofNat', Nat.mod_eq_of_lt (by omega)]
 omega
theorem wrap_u8 {n : Int} (h0 : 0 ≤ n) (h1 : n < 256) : IntKind.u8.wrap n = n := by simp [IntKind.wrap, IntKind.bits, IntKind.signed]; omega
set_option maxRecDepth 100000 in
set_option maxHeartbeats 2000000 in
theorem stp_Key (s : Sv) (w : World) (hs : s.l.size ≤ 9223372036854775807) : Calls Tryz.prog 94 #[.agg #[.int .i64 s.g, .int .i64 s.r, .string s.l, .int .i64 s.n, .int .i64 s.i]] w fun e w' => e = .returned (if s.ok = true then .tuple #[.string (keyB s.st), .int .i64 0] else .tuple #[.string ⟨#[]⟩, .int .i64 2]) ∧ Below w.heap.size w w' := by
 have HK := Lib.hid (keyL_flat s)
 have HV := Lib.hid (@Sv.ok_iff s)
 have CS := Lib.hid (fun w' => stp_Stamp s w' hs)
 have HKL : Hid (keyL s = [dig 8 s.g.toNat, dig 1 s.r.toNat, s.l.data.toList, [0], dig 8 s.n.toNat, dig 1 s.i.toNat]) := Lib.hid rfl
 have HKB : Hid (keyB s.st = ⟨s.st.key.toArray⟩) := Lib.hid rfl
 obtain ⟨g, r, l, n, i⟩ := s
 simp only at hs HK HV CS HKL HKB ⊢
 generalize Sv.ok ⟨g, r, l, n, i⟩ = ok at *
 generalize keyL ⟨g, r, l, n, i⟩ = kl at *
 generalize keyB (Sv.st ⟨g, r, l, n, i⟩) = kb at *
 generalize Stp.key (Sv.st ⟨g, r, l, n, i⟩) = kk at *
 go_enter Tryz.func94, Tryz.ntmps94
 go_wp2_with fail
 refine (CS.out _).mono ?_
 rintro e w' ⟨rfl, hb⟩
 have HB : Hid (Below w.heap.size w w') := Lib.hid ((below_new w _).trans (hb.mono (by simp)))
 have KB := boxStays (heap_alloc_new w (.cells #[.int .i64 g, .int .i64 r, .string l, .int .i64 n, .int .i64 i] 43)) hb
 clear hb CS
 cases ok with
 | false =>
  go_wp2_with fail
  go_ret2
  exact ⟨rfl, HB.out⟩
 | true =>
  obtain ⟨h1, h2, h3, h4, h5, h6, h7, h8, h9⟩ := HV.out.1 rfl
  clear HV
  have k0 := cell_of_row _ _ 0 _ _ _ KB
  have k1 := cell_of_row _ _ 1 _ _ _ KB
  have k2 := cell_of_row _ _ 2 _ _ _ KB
  go_wp2_with fail
  have hW1 := boxStays KB (below_new w' (.cells #[.int .i64 r, .string l] 39))
  have hW2 := heap_alloc_new w' (.cells #[.int .i64 r, .string l] 39)
  have hW3 : Below w.heap.size w (w'.alloc (.cells #[.int .i64 r, .string l] 39)) := HB.out.alloc HB.out.size _
  generalize w'.alloc (.cells #[.int .i64 r, .string l] 39) = W at *
  have hll := okLabel_len h5
  have hdl := dlen l
  have hlk : ([dig 8 g.toNat, dig 1 r.toNat, l.data.toList, [0], dig 8 n.toNat, dig 1 i.toNat]).flatten.length ≤ 70368744177664 := by simp [dig_length]; omega
  have hkk : ([dig 8 g.toNat, dig 1 r.toNat, l.data.toList, [0], dig 8 n.toNat, dig 1 i.toNat]).flatten = kk := by rw [← HKL.out]; exact HK.out
  have hr := dig1_val h3 (show r < 256 by omega)
  have hi := dig1_val h8 (show i < 256 by omega)
  have X1 := Lib.hid hW1
  have X2 := Lib.hid hW2
  have X3 := Lib.hid hW3
  have LK := Lib.hid hlk
  have KK := Lib.hid hkk
  have RR := Lib.hid hr
  have II := Lib.hid hi
  have WR := Lib.hid (wrap_u8 h3 (show r < 256 by omega))
  have WI := Lib.hid (wrap_u8 h8 (show i < 256 by omega))
  clear hW1 hW2 hW3 hlk hkk hr hi KB k0 k1 k2 HB HKL HK
  refine relG_start (slots := [11, 12, 13, 14, 15, 16, 17, 18, 19, 20, 21, 22, 23, 24, 25, 26, 27, 28, 29, 30, 31, 32, 2, 3]) (so := []) (by kernel_rfl) (by kernel_rfl) (by rfl) ?_
  refine relG_pure (i := 0) (o := ⟨some 11, _, _, _, _, _⟩) (v := ?v1) [] [1] rfl rfl (by kernel_rfl) (by kernel_rfl) (fun t w1 hB hf hbf => ?y1) ?n1
  case y1 =>
   simp only [BasF] at hbf
   clear hf
   obtain ⟨⟨b1, k1⟩, _⟩ := hbf
   have b1' := boxStays X1.out hB
   have b2' := boxStays X2.out hB
   have c0 := cell_of_row _ _ 0 _ _ _ b1'
   have c3 := cell_of_row _ _ 3 _ _ _ b1'
   have c4 := cell_of_row _ _ 4 _ _ _ b1'
   have d0 := cell_of_row _ _ 0 _ _ _ b2'
   have d1 := cell_of_row _ _ 1 _ _ _ b2'
   have wr := WR.out
   have wi := WI.out
   clear b1' b2'
   refine Or.inl ⟨wanted_none rfl, ?_⟩
   rintro _ rfl
   go_simp <;> with_reducible rfl
  refine relG_pure (i := 1) (o := ⟨some 12, _, _, _, _, _⟩) (v := ?v2) [(0, 11, 0)] [] rfl rfl (by kernel_rfl) (by kernel_rfl) (fun t w1 hB hf hbf => ?y2) ?n2
  case y2 =>
   simp only [DepF, List.getD_cons_zero] at hf
   obtain ⟨⟨_, ⟨e11, i11⟩, rfl⟩, _⟩ := hf
   clear hbf
   have b1' := boxStays X1.out hB
   have b2' := boxStays X2.out hB
   have c0 := cell_of_row _ _ 0 _ _ _ b1'
   have c3 := cell_of_row _ _ 3 _ _ _ b1'
   have c4 := cell_of_row _ _ 4 _ _ _ b1'
   have d0 := cell_of_row _ _ 0 _ _ _ b2'
   have d1 := cell_of_row _ _ 1 _ _ _ b2'
   have wr := WR.out
   have wi := WI.out
   clear b1' b2'
   refine Or.inl ⟨wanted_none rfl, ?_⟩
   rintro _ rfl
   go_simp <;> with_reducible rfl
  refine relG_call (i := 2) (o := ⟨some 13, _, _, _, _, _⟩) (SlB (dig 8 g.toNat)) [(1, 12, 0)] [] rfl rfl (by kernel_rfl) (by kernel_rfl) (SlB.stay _) ?_ ?_
  · intro t w1 hB hf hbf K hK
    simp only [DepF, List.getD_cons_zero] at hf
    obtain ⟨⟨_, ⟨e12, i12⟩, rfl⟩, _⟩ := hf
    clear hbf
    have b1' := boxStays X1.out hB
    have b2' := boxStays X2.out hB
    have c0 := cell_of_row _ _ 0 _ _ _ b1'
    have c3 := cell_of_row _ _ 3 _ _ _ b1'
    have c4 := cell_of_row _ _ 4 _ _ _ b1'
    have d0 := cell_of_row _ _ 0 _ _ _ b2'
    have d1 := cell_of_row _ _ 1 _ _ _ b2'
    have wr := WR.out
    have wi := WI.out
    clear b1' b2'
    refine ⟨wanted_none rfl, ?_⟩
    go_simp
    refine (stp_eight g w1 (by omega) h2).mono ?_
    rintro e w2 ⟨cap, rfl, hy, hb⟩
    exact hK.out _ w2 (⟨_, cap, rfl, hy⟩) hb
  refine relG_pure (i := 3) (o := ⟨some 14, _, _, _, _, _⟩) (v := ?v3) [] [4] rfl rfl (by kernel_rfl) (by kernel_rfl) (fun t w1 hB hf hbf => ?y3) ?n3
  case y3 =>
   simp only [BasF] at hbf
   clear hf
   obtain ⟨⟨b4, k4⟩, _⟩ := hbf
   have b1' := boxStays X1.out hB
   have b2' := boxStays X2.out hB
   have c0 := cell_of_row _ _ 0 _ _ _ b1'
   have c3 := cell_of_row _ _ 3 _ _ _ b1'
   have c4 := cell_of_row _ _ 4 _ _ _ b1'
   have d0 := cell_of_row _ _ 0 _ _ _ b2'
   have d1 := cell_of_row _ _ 1 _ _ _ b2'
   have wr := WR.out
   have wi := WI.out
   clear b1' b2'
   refine Or.inl ⟨wanted_none rfl, ?_⟩
   rintro _ rfl
   go_simp <;> with_reducible rfl
  refine relG_pure (i := 4) (o := ⟨some 15, _, _, _, _, _⟩) (v := ?v4) [(3, 14, 0)] [] rfl rfl (by kernel_rfl) (by kernel_rfl) (fun t w1 hB hf hbf => ?y4) ?n4
  case y4 =>
   simp only [DepF, List.getD_cons_zero] at hf
   obtain ⟨⟨_, ⟨e14, i14⟩, rfl⟩, _⟩ := hf
   clear hbf
   have b1' := boxStays X1.out hB
   have b2' := boxStays X2.out hB
   have c0 := cell_of_row _ _ 0 _ _ _ b1'
   have c3 := cell_of_row _ _ 3 _ _ _ b1'
   have c4 := cell_of_row _ _ 4 _ _ _ b1'
   have d0 := cell_of_row _ _ 0 _ _ _ b2'
   have d1 := cell_of_row _ _ 1 _ _ _ b2'
   have wr := WR.out
   have wi := WI.out
   clear b1' b2'
   refine Or.inl ⟨wanted_none rfl, ?_⟩
   rintro _ rfl
   go_simp <;> with_reducible rfl
  refine relG_pure (i := 5) (o := ⟨some 16, _, _, _, _, _⟩) (v := ?v5) [(4, 15, 0)] [] rfl rfl (by kernel_rfl) (by kernel_rfl) (fun t w1 hB hf hbf => ?y5) ?n5
  case y5 =>
   simp only [DepF, List.getD_cons_zero] at hf
   obtain ⟨⟨_, ⟨e15, i15⟩, rfl⟩, _⟩ := hf
   clear hbf
   have b1' := boxStays X1.out hB
   have b2' := boxStays X2.out hB
   have c0 := cell_of_row _ _ 0 _ _ _ b1'
   have c3 := cell_of_row _ _ 3 _ _ _ b1'
   have c4 := cell_of_row _ _ 4 _ _ _ b1'
   have d0 := cell_of_row _ _ 0 _ _ _ b2'
   have d1 := cell_of_row _ _ 1 _ _ _ b2'
   have wr := WR.out
   have wi := WI.out
   clear b1' b2'
   refine Or.inl ⟨wanted_none rfl, ?_⟩
   rintro _ rfl
   go_simp <;> with_reducible rfl
  refine relG_call (i := 6) (o := ⟨some 17, _, _, _, _, _⟩) (SlB (dig 1 r.toNat)) [(5, 16, 0)] [] rfl rfl (by kernel_rfl) (by kernel_rfl) (SlB.stay _) ?_ ?_
  · intro t w1 hB hf hbf K hK
    simp only [DepF, List.getD_cons_zero] at hf
    obtain ⟨⟨_, ⟨e16, i16⟩, rfl⟩, _⟩ := hf
    clear hbf
    have b1' := boxStays X1.out hB
    have b2' := boxStays X2.out hB
    have c0 := cell_of_row _ _ 0 _ _ _ b1'
    have c3 := cell_of_row _ _ 3 _ _ _ b1'
    have c4 := cell_of_row _ _ 4 _ _ _ b1'
    have d0 := cell_of_row _ _ 0 _ _ _ b2'
    have d1 := cell_of_row _ _ 1 _ _ _ b2'
    have wr := WR.out
    have wi := WI.out
    clear b1' b2'
    refine ⟨wanted_none rfl, ?_⟩
    go_simp
    exact hK.out _ _ (RR.out.1 ▸ SlB.one w1 _ _ _ (by have := RR.out.2; omega)) (below_new _ _)
  refine relG_pure (i := 7) (o := ⟨some 18, _, _, _, _, _⟩) (v := ?v6) [] [4] rfl rfl (by kernel_rfl) (by kernel_rfl) (fun t w1 hB hf hbf => ?y6) ?n6
  case y6 =>
   simp only [BasF] at hbf
   clear hf
   obtain ⟨⟨b4, k4⟩, _⟩ := hbf
   have b1' := boxStays X1.out hB
   have b2' := boxStays X2.out hB
   have c0 := cell_of_row _ _ 0 _ _ _ b1'
   have c3 := cell_of_row _ _ 3 _ _ _ b1'
   have c4 := cell_of_row _ _ 4 _ _ _ b1'
   have d0 := cell_of_row _ _ 0 _ _ _ b2'
   have d1 := cell_of_row _ _ 1 _ _ _ b2'
   have wr := WR.out
   have wi := WI.out
   clear b1' b2'
   refine Or.inl ⟨wanted_none rfl, ?_⟩
   rintro _ rfl
   go_simp <;> with_reducible rfl
  refine relG_pure (i := 8) (o := ⟨some 19, _, _, _, _, _⟩) (v := ?v7) [(7, 18, 0)] [] rfl rfl (by kernel_rfl) (by kernel_rfl) (fun t w1 hB hf hbf => ?y7) ?n7
  case y7 =>
   simp only [DepF, List.getD_cons_zero] at hf
   obtain ⟨⟨_, ⟨e18, i18⟩, rfl⟩, _⟩ := hf
   clear hbf
   have b1' := boxStays X1.out hB
   have b2' := boxStays X2.out hB
   have c0 := cell_of_row _ _ 0 _ _ _ b1'
   have c3 := cell_of_row _ _ 3 _ _ _ b1'
   have c4 := cell_of_row _ _ 4 _ _ _ b1'
   have d0 := cell_of_row _ _ 0 _ _ _ b2'
   have d1 := cell_of_row _ _ 1 _ _ _ b2'
   have wr := WR.out
   have wi := WI.out
   clear b1' b2'
   refine Or.inl ⟨wanted_none rfl, ?_⟩
   rintro _ rfl
   go_simp <;> with_reducible rfl
  refine relG_call (i := 9) (o := ⟨some 20, _, _, _, _, _⟩) (SlB l.data.toList) [(8, 19, 0)] [] rfl rfl (by kernel_rfl) (by kernel_rfl) (SlB.stay _) ?_ ?_
  · intro t w1 hB hf hbf K hK
    simp only [DepF, List.getD_cons_zero] at hf
    obtain ⟨⟨_, ⟨e19, i19⟩, rfl⟩, _⟩ := hf
    clear hbf
    have b1' := boxStays X1.out hB
    have b2' := boxStays X2.out hB
    have c0 := cell_of_row _ _ 0 _ _ _ b1'
    have c3 := cell_of_row _ _ 3 _ _ _ b1'
    have c4 := cell_of_row _ _ 4 _ _ _ b1'
    have d0 := cell_of_row _ _ 0 _ _ _ b2'
    have d1 := cell_of_row _ _ 1 _ _ _ b2'
    have wr := WR.out
    have wi := WI.out
    clear b1' b2'
    refine ⟨wanted_none rfl, ?_⟩
    refine step_conv 9 113 5 19 l rfl e19 Tryz.underlying9 Tryz.underlying113 Tryz.underlying5 ?_
    intro v w2 hv hby hb
    have hg : SlB l.data.toList v w2 := (by obtain ⟨cap, hv⟩ := hv; exact ⟨some ⟨w1.heap.size, 0, none⟩, cap, by rw [hv, hdl], hby⟩)
    exact hK.out v w2 hg hb
  refine relG_call (i := 10) (o := ⟨some 21, _, _, _, _, _⟩) (SlB [0]) [] [] rfl rfl (by kernel_rfl) (by kernel_rfl) (SlB.stay _) ?_ ?_
  · intro t w1 hB hf hbf K hK
    clear hf
    clear hbf
    have b1' := boxStays X1.out hB
    have b2' := boxStays X2.out hB
    have c0 := cell_of_row _ _ 0 _ _ _ b1'
    have c3 := cell_of_row _ _ 3 _ _ _ b1'
    have c4 := cell_of_row _ _ 4 _ _ _ b1'
    have d0 := cell_of_row _ _ 0 _ _ _ b2'
    have d1 := cell_of_row _ _ 1 _ _ _ b2'
    have wr := WR.out
    have wi := WI.out
    clear b1' b2'
    refine ⟨wanted_none rfl, ?_⟩
    go_simp
    exact hK.out _ _ (SlB.one w1 _ 0 _ rfl) (below_new _ _)
  refine relG_pure (i := 11) (o := ⟨some 22, _, _, _, _, _⟩) (v := ?v8) [] [1] rfl rfl (by kernel_rfl) (by kernel_rfl) (fun t w1 hB hf hbf => ?y8) ?n8
  case y8 =>
   simp only [BasF] at hbf
   clear hf
   obtain ⟨⟨b1, k1⟩, _⟩ := hbf
   have b1' := boxStays X1.out hB
   have b2' := boxStays X2.out hB
   have c0 := cell_of_row _ _ 0 _ _ _ b1'
   have c3 := cell_of_row _ _ 3 _ _ _ b1'
   have c4 := cell_of_row _ _ 4 _ _ _ b1'
   have d0 := cell_of_row _ _ 0 _ _ _ b2'
   have d1 := cell_of_row _ _ 1 _ _ _ b2'
   have wr := WR.out
   have wi := WI.out
   clear b1' b2'
   refine Or.inl ⟨wanted_none rfl, ?_⟩
   rintro _ rfl
   go_simp <;> with_reducible rfl
  refine relG_pure (i := 12) (o := ⟨some 23, _, _, _, _, _⟩) (v := ?v9) [(11, 22, 0)] [] rfl rfl (by kernel_rfl) (by kernel_rfl) (fun t w1 hB hf hbf => ?y9) ?n9
  case y9 =>
   simp only [DepF, List.getD_cons_zero] at hf
   obtain ⟨⟨_, ⟨e22, i22⟩, rfl⟩, _⟩ := hf
   clear hbf
   have b1' := boxStays X1.out hB
   have b2' := boxStays X2.out hB
   have c0 := cell_of_row _ _ 0 _ _ _ b1'
   have c3 := cell_of_row _ _ 3 _ _ _ b1'
   have c4 := cell_of_row _ _ 4 _ _ _ b1'
   have d0 := cell_of_row _ _ 0 _ _ _ b2'
   have d1 := cell_of_row _ _ 1 _ _ _ b2'
   have wr := WR.out
   have wi := WI.out
   clear b1' b2'
   refine Or.inl ⟨wanted_none rfl, ?_⟩
   rintro _ rfl
   go_simp <;> with_reducible rfl
  refine relG_pure (i := 13) (o := ⟨some 24, _, _, _, _, _⟩) (v := ?v10) [(12, 23, 0)] [] rfl rfl (by kernel_rfl) (by kernel_rfl) (fun t w1 hB hf hbf => ?y10) ?n10
  case y10 =>
   simp only [DepF, List.getD_cons_zero] at hf
   obtain ⟨⟨_, ⟨e23, i23⟩, rfl⟩, _⟩ := hf
   clear hbf
   have b1' := boxStays X1.out hB
   have b2' := boxStays X2.out hB
   have c0 := cell_of_row _ _ 0 _ _ _ b1'
   have c3 := cell_of_row _ _ 3 _ _ _ b1'
   have c4 := cell_of_row _ _ 4 _ _ _ b1'
   have d0 := cell_of_row _ _ 0 _ _ _ b2'
   have d1 := cell_of_row _ _ 1 _ _ _ b2'
   have wr := WR.out
   have wi := WI.out
   clear b1' b2'
   refine Or.inl ⟨wanted_none rfl, ?_⟩
   rintro _ rfl
   go_simp <;> with_reducible rfl
  refine relG_call (i := 14) (o := ⟨some 25, _, _, _, _, _⟩) (SlB (dig 8 n.toNat)) [(13, 24, 0)] [] rfl rfl (by kernel_rfl) (by kernel_rfl) (SlB.stay _) ?_ ?_
  · intro t w1 hB hf hbf K hK
    simp only [DepF, List.getD_cons_zero] at hf
    obtain ⟨⟨_, ⟨e24, i24⟩, rfl⟩, _⟩ := hf
    clear hbf
    have b1' := boxStays X1.out hB
    have b2' := boxStays X2.out hB
    have c0 := cell_of_row _ _ 0 _ _ _ b1'
    have c3 := cell_of_row _ _ 3 _ _ _ b1'
    have c4 := cell_of_row _ _ 4 _ _ _ b1'
    have d0 := cell_of_row _ _ 0 _ _ _ b2'
    have d1 := cell_of_row _ _ 1 _ _ _ b2'
    have wr := WR.out
    have wi := WI.out
    clear b1' b2'
    refine ⟨wanted_none rfl, ?_⟩
    go_simp
    refine (stp_eight n w1 (by omega) h7).mono ?_
    rintro e w2 ⟨cap, rfl, hy, hb⟩
    exact hK.out _ w2 (⟨_, cap, rfl, hy⟩) hb
  refine relG_pure (i := 15) (o := ⟨some 26, _, _, _, _, _⟩) (v := ?v11) [] [1] rfl rfl (by kernel_rfl) (by kernel_rfl) (fun t w1 hB hf hbf => ?y11) ?n11
  case y11 =>
   simp only [BasF] at hbf
   clear hf
   obtain ⟨⟨b1, k1⟩, _⟩ := hbf
   have b1' := boxStays X1.out hB
   have b2' := boxStays X2.out hB
   have c0 := cell_of_row _ _ 0 _ _ _ b1'
   have c3 := cell_of_row _ _ 3 _ _ _ b1'
   have c4 := cell_of_row _ _ 4 _ _ _ b1'
   have d0 := cell_of_row _ _ 0 _ _ _ b2'
   have d1 := cell_of_row _ _ 1 _ _ _ b2'
   have wr := WR.out
   have wi := WI.out
   clear b1' b2'
   refine Or.inl ⟨wanted_none rfl, ?_⟩
   rintro _ rfl
   go_simp <;> with_reducible rfl
  refine relG_pure (i := 16) (o := ⟨some 27, _, _, _, _, _⟩) (v := ?v12) [(15, 26, 0)] [] rfl rfl (by kernel_rfl) (by kernel_rfl) (fun t w1 hB hf hbf => ?y12) ?n12
  case y12 =>
   simp only [DepF, List.getD_cons_zero] at hf
   obtain ⟨⟨_, ⟨e26, i26⟩, rfl⟩, _⟩ := hf
   clear hbf
   have b1' := boxStays X1.out hB
   have b2' := boxStays X2.out hB
   have c0 := cell_of_row _ _ 0 _ _ _ b1'
   have c3 := cell_of_row _ _ 3 _ _ _ b1'
   have c4 := cell_of_row _ _ 4 _ _ _ b1'
   have d0 := cell_of_row _ _ 0 _ _ _ b2'
   have d1 := cell_of_row _ _ 1 _ _ _ b2'
   have wr := WR.out
   have wi := WI.out
   clear b1' b2'
   refine Or.inl ⟨wanted_none rfl, ?_⟩
   rintro _ rfl
   go_simp <;> with_reducible rfl
  refine relG_pure (i := 17) (o := ⟨some 28, _, _, _, _, _⟩) (v := ?v13) [(16, 27, 0)] [] rfl rfl (by kernel_rfl) (by kernel_rfl) (fun t w1 hB hf hbf => ?y13) ?n13
  case y13 =>
   simp only [DepF, List.getD_cons_zero] at hf
   obtain ⟨⟨_, ⟨e27, i27⟩, rfl⟩, _⟩ := hf
   clear hbf
   have b1' := boxStays X1.out hB
   have b2' := boxStays X2.out hB
   have c0 := cell_of_row _ _ 0 _ _ _ b1'
   have c3 := cell_of_row _ _ 3 _ _ _ b1'
   have c4 := cell_of_row _ _ 4 _ _ _ b1'
   have d0 := cell_of_row _ _ 0 _ _ _ b2'
   have d1 := cell_of_row _ _ 1 _ _ _ b2'
   have wr := WR.out
   have wi := WI.out
   clear b1' b2'
   refine Or.inl ⟨wanted_none rfl, ?_⟩
   rintro _ rfl
   go_simp <;> with_reducible rfl
  refine relG_call (i := 18) (o := ⟨some 29, _, _, _, _, _⟩) (SlB (dig 1 i.toNat)) [(17, 28, 0)] [] rfl rfl (by kernel_rfl) (by kernel_rfl) (SlB.stay _) ?_ ?_
  · intro t w1 hB hf hbf K hK
    simp only [DepF, List.getD_cons_zero] at hf
    obtain ⟨⟨_, ⟨e28, i28⟩, rfl⟩, _⟩ := hf
    clear hbf
    have b1' := boxStays X1.out hB
    have b2' := boxStays X2.out hB
    have c0 := cell_of_row _ _ 0 _ _ _ b1'
    have c3 := cell_of_row _ _ 3 _ _ _ b1'
    have c4 := cell_of_row _ _ 4 _ _ _ b1'
    have d0 := cell_of_row _ _ 0 _ _ _ b2'
    have d1 := cell_of_row _ _ 1 _ _ _ b2'
    have wr := WR.out
    have wi := WI.out
    clear b1' b2'
    refine ⟨wanted_none rfl, ?_⟩
    go_simp
    exact hK.out _ _ (II.out.1 ▸ SlB.one w1 _ _ _ (by have := II.out.2; omega)) (below_new _ _)
  refine relG_call (i := 19) (o := ⟨some 30, _, _, _, _, _⟩) (Sl6 (dig 8 g.toNat) (dig 1 r.toNat) l.data.toList [0] (dig 8 n.toNat) (dig 1 i.toNat)) [(2, 13, 16), (6, 17, 12), (9, 20, 9), (10, 21, 8), (14, 25, 4), (18, 29, 0)] [] rfl rfl (by kernel_rfl) (by kernel_rfl) (Sl6.stay _ _ _ _ _ _) ?_ ?_
  · intro t w1 hB hf hbf K hK
    simp only [DepF, List.getD_cons_zero, List.getD_cons_succ] at hf
    obtain ⟨⟨_, ⟨e13, i13⟩, ⟨a2, c2, rfl, y2⟩⟩, ⟨_, ⟨e17, i17⟩, ⟨a6, c6, rfl, y6⟩⟩, ⟨_, ⟨e20, i20⟩, ⟨a9, c9, rfl, y9⟩⟩, ⟨_, ⟨e21, i21⟩, ⟨a10, c10, rfl, y10⟩⟩, ⟨_, ⟨e25, i25⟩, ⟨a14, c14, rfl, y14⟩⟩, ⟨_, ⟨e29, i29⟩, ⟨a18, c18, rfl, y18⟩⟩, _⟩ := hf
    clear hbf
    have b1' := boxStays X1.out hB
    have b2' := boxStays X2.out hB
    have c0 := cell_of_row _ _ 0 _ _ _ b1'
    have c3 := cell_of_row _ _ 3 _ _ _ b1'
    have c4 := cell_of_row _ _ 4 _ _ _ b1'
    have d0 := cell_of_row _ _ 0 _ _ _ b2'
    have d1 := cell_of_row _ _ 1 _ _ _ b2'
    have wr := WR.out
    have wi := WI.out
    clear b1' b2'
    refine ⟨wanted_none rfl, ?_⟩
    go_simp
    exact hK.out _ _ (Sl6.mk ⟨_, _, rfl, y2⟩ ⟨_, _, rfl, y6⟩ ⟨_, _, rfl, y9⟩ ⟨_, _, rfl, y10⟩ ⟨_, _, rfl, y14⟩ ⟨_, _, rfl, y18⟩ (by simp [dig_length]) (by simp [dig_length]) (by omega) (by simp) (by simp [dig_length]) (by simp [dig_length])) (below_new _ _)
  refine relG_call (i := 20) (o := ⟨some 31, _, _, _, _, _⟩) (SlB kk) [(19, 30, 0)] [] rfl rfl (by kernel_rfl) (by kernel_rfl) (SlB.stay _) ?_ ?_
  · intro t w1 hB hf hbf K hK
    simp only [DepF, List.getD_cons_zero] at hf
    obtain ⟨⟨_, ⟨e30, i30⟩, ⟨a, cap, rfl, hl6⟩⟩, _⟩ := hf
    clear hbf
    have b1' := boxStays X1.out hB
    have b2' := boxStays X2.out hB
    have c0 := cell_of_row _ _ 0 _ _ _ b1'
    have c3 := cell_of_row _ _ 3 _ _ _ b1'
    have c4 := cell_of_row _ _ 4 _ _ _ b1'
    have d0 := cell_of_row _ _ 0 _ _ _ b2'
    have d1 := cell_of_row _ _ 1 _ _ _ b2'
    have wr := WR.out
    have wi := WI.out
    clear b1' b2'
    refine ⟨wanted_none rfl, ?_⟩
    go_simp
    refine (kw_Join _ a 6 cap w1 hl6 rfl (by simp) LK.out).mono ?_
    rintro e w2 ⟨v, rfl, hown, hb⟩
    exact hK.out _ w2 (by rw [KK.out] at hown; obtain ⟨a', c', rfl, _⟩ := own_slice hown; exact ⟨a', c', rfl, own_bytes hown⟩) hb
  refine relG_pure (i := 21) (o := ⟨some 32, _, _, _, _, _⟩) (v := ?v14) [(20, 31, 0)] [] rfl rfl (by kernel_rfl) (by kernel_rfl) (fun t w1 hB hf hbf => ?y14) ?n14
  case y14 =>
   simp only [DepF, List.getD_cons_zero] at hf
   obtain ⟨⟨_, ⟨e31, i31⟩, ⟨a, cap, rfl, hj⟩⟩, _⟩ := hf
   clear hbf
   have b1' := boxStays X1.out hB
   have b2' := boxStays X2.out hB
   have c0 := cell_of_row _ _ 0 _ _ _ b1'
   have c3 := cell_of_row _ _ 3 _ _ _ b1'
   have c4 := cell_of_row _ _ 4 _ _ _ b1'
   have d0 := cell_of_row _ _ 0 _ _ _ b2'
   have d1 := cell_of_row _ _ 1 _ _ _ b2'
   have wr := WR.out
   have wi := WI.out
   clear b1' b2'
   have hc := conv_bytes (P := Tryz.prog) hj 113 5 9 Tryz.underlying113 Tryz.underlying5 Tryz.underlying9 _ cap rfl
   refine Or.inl ⟨wanted_none rfl, ?_⟩
   rintro _ rfl
   go_simp <;> with_reducible rfl
  refine relG_pure (i := 22) (o := ⟨some 2, _, _, _, _, _⟩) (v := ?v15) [(21, 32, 0)] [] rfl rfl (by kernel_rfl) (by kernel_rfl) (fun t w1 hB hf hbf => ?y15) ?n15
  case y15 =>
   simp only [DepF, List.getD_cons_zero] at hf
   obtain ⟨⟨_, ⟨e32, i32⟩, rfl⟩, _⟩ := hf
   clear hbf
   have b1' := boxStays X1.out hB
   have b2' := boxStays X2.out hB
   have c0 := cell_of_row _ _ 0 _ _ _ b1'
   have c3 := cell_of_row _ _ 3 _ _ _ b1'
   have c4 := cell_of_row _ _ 4 _ _ _ b1'
   have d0 := cell_of_row _ _ 0 _ _ _ b2'
   have d1 := cell_of_row _ _ 1 _ _ _ b2'
   have wr := WR.out
   have wi := WI.out
   clear b1' b2'
   refine Or.inl ⟨wanted_none rfl, ?_⟩
   rintro _ rfl
   go_simp <;> with_reducible rfl
  refine relG_pure (i := 23) (o := ⟨some 3, _, _, _, _, _⟩) (v := ?v16) [] [] rfl rfl (by kernel_rfl) (by kernel_rfl) (fun t w1 hB hf hbf => ?y16) ?n16
  case y16 =>
   clear hf
   clear hbf
   have b1' := boxStays X1.out hB
   have b2' := boxStays X2.out hB
   have c0 := cell_of_row _ _ 0 _ _ _ b1'
   have c3 := cell_of_row _ _ 3 _ _ _ b1'
   have c4 := cell_of_row _ _ 4 _ _ _ b1'
   have d0 := cell_of_row _ _ 0 _ _ _ b2'
   have d1 := cell_of_row _ _ 1 _ _ _ b2'
   have wr := WR.out
   have wi := WI.out
   clear b1' b2'
   refine Or.inl ⟨wanted_none rfl, ?_⟩
   rintro _ rfl
   go_simp <;> with_reducible rfl
  refine relG_done [(0, 11, 23), (1, 12, 22), (2, 13, 21), (3, 14, 20), (4, 15, 19), (5, 16, 18), (6, 17, 17), (7, 18, 16), (8, 19, 15), (9, 20, 14), (10, 21, 13), (11, 22, 12), (12, 23, 11), (13, 24, 10), (14, 25, 9), (15, 26, 8), (16, 27, 7), (17, 28, 6), (18, 29, 5), (19, 30, 4), (20, 31, 3), (21, 32, 2), (22, 2, 1), (23, 3, 0)] (by kernel_rfl) rfl (by kernel_rfl) (fun f wE hB hf => ?_)
  simp only [FinF, List.getD_cons_zero, List.getD_cons_succ] at hf
  obtain ⟨⟨_, e11, rfl⟩, ⟨_, e12, rfl⟩, ⟨_, e13, ⟨a2, c2, rfl, y2⟩⟩, ⟨_, e14, rfl⟩, ⟨_, e15, rfl⟩, ⟨_, e16, rfl⟩, ⟨_, e17, ⟨a6, c6, rfl, y6⟩⟩, ⟨_, e18, rfl⟩, ⟨_, e19, rfl⟩, ⟨_, e20, ⟨a9, c9, rfl, y9⟩⟩, ⟨_, e21, ⟨a10, c10, rfl, y10⟩⟩, ⟨_, e22, rfl⟩, ⟨_, e23, rfl⟩, ⟨_, e24, rfl⟩, ⟨_, e25, ⟨a14, c14, rfl, y14⟩⟩, ⟨_, e26, rfl⟩, ⟨_, e27, rfl⟩, ⟨_, e28, rfl⟩, ⟨_, e29, ⟨a18, c18, rfl, y18⟩⟩, ⟨_, e30, ⟨a, cap, rfl, hl6⟩⟩, ⟨_, e31, ⟨a, cap, rfl, hj⟩⟩, ⟨_, e32, rfl⟩, ⟨_, e2, rfl⟩, ⟨_, e3, rfl⟩, _⟩ := hf
  simp only [regT, List.foldl_cons, List.foldl_nil, List.setIfInBounds_toArray, List.set_cons_zero, List.set_cons_succ, e11, e12, e13, e14, e15, e16, e17, e18, e19, e20, e21, e22, e23, e24, e25, e26, e27, e28, e29, e30, e31, e32, e2, e3]
  clear e11 e12 e13 e14 e15 e16 e17 e18 e19 e20 e21 e22 e23 e24 e25 e26 e27 e28 e29 e30 e31 e32 e2 e3
  go_wp2_with fail
  go_ret2
  rw [HKB.out]
  exact ⟨rfl, X3.out.trans (hB.mono X3.out.size)⟩
end Go.Proofs.YtjlliohjeiclaaaGreatDoor
namespace Go.Proofs.YtjlliohjeiclaaaGreatDoor
open Go.RowKit St
open Go.Op (bytesLess)
theorem wrap_i64_mod (n : Int) : IntKind.i64.wrap n = (let m := n % 18446744073709551616; if 9223372036854775808 ≤ m then m - 18446744073709551616 else m) := by
 simp [IntKind.wrap, IntKind.bits, IntKind.signed]
theorem wrap_i64_congr {a b : Int} (h : a % 18446744073709551616 = b % 18446744073709551616) : IntKind.i64.wrap a = IntKind.i64.wrap b := by
 rw [wrap_i64_mod, wrap_i64_mod, h]
theorem wrap_i64_self (a : Int) : IntKind.i64.wrap a % 18446744073709551616 = a % 18446744073709551616 := by
 rw [wrap_i64_mod]
 simp only
 split <;> omega
theorem ofInt_wrap (a : Int) (m : Nat) (h : a % 18446744073709551616 = (m : Int) % 18446744073709551616) : (BitVec.ofInt 64 a).toNat = m % 18446744073709551616 := by
 rw [BitVec.toNat_ofInt]
 have e : ((2 ^ 64 : Nat) : Int) = 18446744073709551616 := by decide
 rw [e, h]
 omega
theorem or_byte (x c : Nat) (hc : c < 256) : bits .or .i64 (wrap64 (wrap64 (x : Int) * 256)) (wrap64 (c : Int)) = IntKind.i64.wrap ((256 * x + c : Nat) : Int) := by
 have hw : ∀ n, wrap64 n = IntKind.i64.wrap n := fun n => by unfold wrap64; exact (IntKind.wrap_i64 n).symm
 simp only [hw]
 show IntKind.i64.wrap ((BitVec.ofInt 64 (IntKind.i64.wrap (IntKind.i64.wrap (x : Int) * 256)) ||| BitVec.ofInt 64 (IntKind.i64.wrap (c : Int))).toNat : Int) = _
 have h1 : (BitVec.ofInt 64 (IntKind.i64.wrap (IntKind.i64.wrap (x : Int) * 256))).toNat = (x * 256) % 18446744073709551616 := by
  refine ofInt_wrap _ _ ?_
  rw [wrap_i64_self]
  have := wrap_i64_self (x : Int)
  omega
 have h2 : (BitVec.ofInt 64 (IntKind.i64.wrap (c : Int))).toNat = c := by
  rw [ofInt_wrap _ c (wrap_i64_self _)]
  omega
 rw [BitVec.toNat_or, h1, h2]
 have h3 : x * 256 % 18446744073709551616 = (x % 72057594037927936) <<< 8 := by rw [Nat.shiftLeft_eq]; omega
 rw [h3, ← Nat.shiftLeft_add_eq_or_of_lt (by omega), Nat.shiftLeft_eq]
 refine wrap_i64_congr ?_
 omega
theorem num8_succ (l : List UInt8) (k : Nat) (h : k < l.length) : num8 (l.take (k + 1)) = 256 * num8 (l.take k) + l[k].toNat := by
 unfold num8
 rw [List.take_succ_eq_append_getElem h, List.foldl_append]
 rfl
theorem get_data (s : ByteArray) (k : Nat) (h : k < s.size) : s[k] = s.data.toList[k]'(by rw [dlen]; exact h) := rfl
set_option maxRecDepth 100000 in
set_option maxHeartbeats 1000000 in
theorem stp_back (s : ByteArray) (w : World) (hs : 8 ≤ s.size) : Calls Tryz.prog 153 #[.string s] w fun e w' => e = .returned (.int .i64 (IntKind.i64.wrap (num8 (s.data.toList.take 8)))) ∧ Below w.heap.size w w' := by
 obtain ⟨t, ht⟩ : ∃ t, s.extract 0 8 = t := ⟨_, rfl⟩
 have htl : t.data.toList = s.data.toList.take 8 := by rw [← ht]; simp
 have hts : t.size = 8 := by have := dlen t; rw [htl] at this; have h2 := dlen s; simp at this; omega
 obtain ⟨cap, w1, hcv, hby, hb, hz⟩ := conv_to_bytes (P := Tryz.prog) w 9 113 5 t Tryz.underlying9 Tryz.underlying113 Tryz.underlying5
 rw [hts] at hcv
 rw [htl] at hby
 have HB := Lib.hid hb
 have HY := Lib.hid hby
 have H8 : (8 : Int) ≤ (s.size : Int) := by omega
 clear hb hby hz
 go_enter Tryz.func153, Tryz.ntmps153
 go_wp2
 clear hcv
 have hl8 : 8 ≤ s.data.toList.length := by rw [dlen]; exact hs
 go_loopw [3, 10] (fun n i wr => ∃ k : Nat, k ≤ 8 ∧ i = .int .i64 (k : Int) ∧ n = .int .i64 (IntKind.i64.wrap (num8 (s.data.toList.take k))) ∧ Hid (wr = w1)) (fun _ i _ => 8 - (intOf i).toNat)
 case atStart => exact ⟨0, Nat.zero_le _, rfl, rfl, Lib.hid rfl⟩
 case round =>
  obtain ⟨k, hk, rfl, rfl, HW⟩ := hrel
  by_cases hlt : k < 8
  · obtain ⟨b, off, he, hc⟩ := HY.out k (by simp; omega)
    cases he
    rw [Nat.zero_add, List.getElem_take, ← HW.out] at hc
    have HST := Lib.hid (num8_succ s.data.toList k (by omega))
    have HOB := Lib.hid (or_byte (num8 (s.data.toList.take k)) (s.data.toList[k]'(by omega)).toNat (s.data.toList[k]'(by omega)).toNat_lt)
    generalize num8 (s.data.toList.take k) = x at *
    go_wp2
    exact ⟨⟨k + 1, by omega, by go_num, by rw [HST.out]; exact congrArg (Value.int .i64) HOB.out, HW⟩, by simp [intOf]; omega⟩
  · obtain rfl : k = 8 := by omega
    go_wp2
    go_ret
    rw [HW.out]
    exact ⟨rfl, HB.out⟩
end Go.Proofs.YtjlliohjeiclaaaGreatDoor
namespace Go.Proofs.YtjlliohjeiclaaaGreatDoor
open Go.RowKit St
open Go.Op (bytesLess)
set_option maxRecDepth 100000 in
set_option maxHeartbeats 1000000 in
theorem ref6_CmpBranch (r1 : Int) (l1 : ByteArray) (r2 : Int) (l2 : ByteArray) (w : World) (h1 : l1.size ≤ 9223372036854775807) (h2 : l2.size ≤ 9223372036854775807) :
 Calls Tryz.prog 135 #[.agg #[.int .i64 r1, .string l1], .agg #[.int .i64 r2, .string l2]] w fun e w' => e = .returned (.int .i64 (brC r1 l1 r2 l2)) ∧ Below w.heap.size w w' := by
 have HV : Hid (∀ c, numC r1 r2 = c → brC r1 l1 r2 l2 = firstC c (txtC l1 l2)) := Lib.hid (by rintro c rfl; rfl)
 go_enter Tryz.func135, Tryz.ntmps135
 go_wp2_with fail
 refine (ref6_number r1 r2 _).mono ?_
 rintro e w' ⟨rfl, rfl⟩
 have HV := Lib.hid (HV.out _ rfl)
 generalize numC r1 r2 = c at *
 by_cases hc : c = 0
 · subst hc
   go_wp2_with fail
   refine (ref5_Cmp l1 l2 _ h1 h2).mono ?_
   rintro e w' ⟨rfl, hb⟩
   have HB : Hid (Below w.heap.size w w') := Lib.hid ((((Below.refl _ w).alloc (Nat.le_refl _) _).alloc (by simp) _).trans (hb.mono (by simp; omega)))
   clear hb
   go_wp2_with fail
   go_ret
   rw [HV.out]
   exact ⟨by simp [firstC], HB.out⟩
 · have hc' : (c == 0) = false := by simpa using hc
   go_wp2_with fail
   go_ret
   rw [HV.out]
   refine ⟨by simp [firstC, hc], ((Below.refl _ w).alloc (Nat.le_refl _) _).alloc (by simp) _⟩
set_option maxRecDepth 100000 in
set_option maxHeartbeats 1000000 in
theorem ref6_CmpName (r1 : Int) (l1 : ByteArray) (n1 : Int) (r2 : Int) (l2 : ByteArray) (n2 : Int) (w : World) (h1 : l1.size ≤ 9223372036854775807) (h2 : l2.size ≤ 9223372036854775807) :
 Calls Tryz.prog 98 #[.agg #[.int .i64 r1, .string l1, .int .i64 n1], .agg #[.int .i64 r2, .string l2, .int .i64 n2]] w fun e w' => e = .returned (.int .i64 (nmC r1 l1 n1 r2 l2 n2)) ∧ Below w.heap.size w w' := by
 have HV : Hid (∀ c, brC r1 l1 r2 l2 = c → nmC r1 l1 n1 r2 l2 n2 = firstC c (numC n1 n2)) := Lib.hid (by rintro c rfl; rfl)
 go_enter Tryz.func98, Tryz.ntmps98
 go_wp2_with fail
 refine (ref6_CmpBranch r1 l1 r2 l2 _ h1 h2).mono ?_
 rintro e w' ⟨rfl, hb⟩
 have hb0 : Below w.heap.size w ((w.alloc (.cells #[.int .i64 r1, .string l1, .int .i64 n1] 41)).alloc (.cells #[.int .i64 r2, .string l2, .int .i64 n2] 41)) := ((Below.refl _ w).alloc (Nat.le_refl _) _).alloc (by simp) _
 have HB : Hid (Below w.heap.size w w') := Lib.hid (hb0.trans (hb.mono hb0.size))
 have x1 := boxStays (boxStays (heap_alloc_new w (.cells #[.int .i64 r1, .string l1, .int .i64 n1] 41)) (below_new _ (.cells #[.int .i64 r2, .string l2, .int .i64 n2] 41))) hb
 have x2 := boxStays (heap_alloc_new (w.alloc (.cells #[.int .i64 r1, .string l1, .int .i64 n1] 41)) (.cells #[.int .i64 r2, .string l2, .int .i64 n2] 41)) hb
 rw [World.size_alloc] at x2
 have k1 := cell_of_row _ _ 2 _ _ _ x1
 have k2 := cell_of_row _ _ 2 _ _ _ x2
 clear hb hb0 x1 x2
 have HV := Lib.hid (HV.out _ rfl)
 generalize brC r1 l1 r2 l2 = c at *
 by_cases hc : c = 0
 · subst hc
   go_wp2_with fail
   refine (ref6_number n1 n2 _).mono ?_
   rintro e w' ⟨rfl, rfl⟩
   go_wp2_with fail
   go_ret
   rw [HV.out]
   exact ⟨by simp [firstC], HB.out⟩
 · have hc' : (c == 0) = false := by simpa using hc
   go_wp2_with fail
   go_ret
   rw [HV.out]
   refine ⟨by simp [firstC, hc], HB.out⟩
set_option maxRecDepth 100000 in
set_option maxHeartbeats 1000000 in
theorem ref6_Cmp (s t : Sv) (w : World) (h1 : s.l.size ≤ 9223372036854775807) (h2 : t.l.size ≤ 9223372036854775807) :
 Calls Tryz.prog 51 #[.agg #[.int .i64 s.g, .int .i64 s.r, .string s.l, .int .i64 s.n, .int .i64 s.i], .agg #[.int .i64 t.g, .int .i64 t.r, .string t.l, .int .i64 t.n, .int .i64 t.i]] w fun e w' => e = .returned (.int .i64 (svC s t)) ∧ Below w.heap.size w w' := by
 obtain ⟨g1, r1, l1, n1, i1⟩ := s
 obtain ⟨g2, r2, l2, n2, i2⟩ := t
 simp only at h1 h2 ⊢
 have HV : Hid (∀ c, numC g1 g2 = c → svC ⟨g1, r1, l1, n1, i1⟩ ⟨g2, r2, l2, n2, i2⟩ = firstC (firstC c (nmC r1 l1 n1 r2 l2 n2)) (numC i1 i2)) := Lib.hid (by rintro c rfl; rfl)
 generalize svC ⟨g1, r1, l1, n1, i1⟩ ⟨g2, r2, l2, n2, i2⟩ = sv at *
 go_enter Tryz.func51, Tryz.ntmps51
 go_wp2_with fail
 refine (ref6_number g1 g2 _).mono ?_
 rintro e w' ⟨rfl, rfl⟩
 have HV := Lib.hid (HV.out _ rfl)
 generalize numC g1 g2 = c at *
 have hb0 : Below w.heap.size w ((w.alloc (.cells #[.int .i64 g1, .int .i64 r1, .string l1, .int .i64 n1, .int .i64 i1] 43)).alloc (.cells #[.int .i64 g2, .int .i64 r2, .string l2, .int .i64 n2, .int .i64 i2] 43)) := ((Below.refl _ w).alloc (Nat.le_refl _) _).alloc (by simp) _
 have x1 := boxStays (heap_alloc_new w (.cells #[.int .i64 g1, .int .i64 r1, .string l1, .int .i64 n1, .int .i64 i1] 43)) (below_new _ (.cells #[.int .i64 g2, .int .i64 r2, .string l2, .int .i64 n2, .int .i64 i2] 43))
 have x2 := heap_alloc_new (w.alloc (.cells #[.int .i64 g1, .int .i64 r1, .string l1, .int .i64 n1, .int .i64 i1] 43)) (.cells #[.int .i64 g2, .int .i64 r2, .string l2, .int .i64 n2, .int .i64 i2] 43)
 rw [World.size_alloc] at x2
 generalize (w.alloc (.cells #[.int .i64 g1, .int .i64 r1, .string l1, .int .i64 n1, .int .i64 i1] 43)).alloc (.cells #[.int .i64 g2, .int .i64 r2, .string l2, .int .i64 n2, .int .i64 i2] 43) = W at *
 by_cases hc : c = 0
 · subst hc
   have a1 := cell_of_row _ _ 1 _ _ _ x1
   have a2 := cell_of_row _ _ 2 _ _ _ x1
   have a3 := cell_of_row _ _ 3 _ _ _ x1
   have b1 := cell_of_row _ _ 1 _ _ _ x2
   have b2 := cell_of_row _ _ 2 _ _ _ x2
   have b3 := cell_of_row _ _ 3 _ _ _ x2
   have B0 := Lib.hid hb0
   have X1 := Lib.hid x1
   have X2 := Lib.hid x2
   clear hb0 x1 x2
   go_wp2_with fail
   refine (ref6_CmpName r1 l1 n1 r2 l2 n2 _ h1 h2).mono ?_
   rintro e w' ⟨rfl, hb⟩
   have HB : Hid (Below w.heap.size w w') := Lib.hid (B0.out.trans (hb.mono B0.out.size))
   have k1 := cell_of_row _ _ 4 _ _ _ (boxStays X1.out hb)
   have k2 := cell_of_row _ _ 4 _ _ _ (boxStays X2.out hb)
   clear hb a1 a2 a3 b1 b2 b3
   generalize nmC r1 l1 n1 r2 l2 n2 = d at *
   by_cases hd : d = 0
   · subst hd
     go_wp2_with fail
     refine (ref6_number i1 i2 _).mono ?_
     rintro e w' ⟨rfl, rfl⟩
     go_wp2_with fail
     go_ret
     rw [HV.out]
     exact ⟨by simp [firstC], HB.out⟩
   · have hd' : (d == 0) = false := by simpa using hd
     go_wp2_with fail
     go_ret
     rw [HV.out]
     exact ⟨by simp [firstC, hd], HB.out⟩
 · have hc' : (c == 0) = false := by simpa using hc
   have B0 := Lib.hid hb0
   clear hb0 x1 x2
   go_wp2_with fail
   go_ret
   rw [HV.out]
   exact ⟨by simp [firstC, hc], B0.out⟩
end Go.Proofs.YtjlliohjeiclaaaGreatDoor
namespace Go.Proofs.YtjlliohjeiclaaaGreatDoor
open Go.RowKit St
open Go.Op (bytesLess)
def OwB (B : Nat) (l : List UInt8) : Pr := fun v w => w.ownsRow B 5 1 v l.length (bvs l)
theorem OwB.stay (B : Nat) (l : List UInt8) : Stay (OwB B l) := fun _ _ _ h hb => own_later h hb (Nat.le_refl _)
end Go.Proofs.YtjlliohjeiclaaaGreatDoor
namespace Go.Proofs.YtjlliohjeiclaaaGreatDoor
open Go.RowKit St
open Go.Op (bytesLess)
def svK (k : ByteArray) : Sv := ⟨IntKind.i64.wrap (num8 (k.data.toList.take 8)), ((k.data.toList.getD 8 0).toNat : Int), k.extract 9 (k.size - 10), IntKind.i64.wrap (num8 ((k.data.toList.drop (k.size - 9)).take 8)), ((k.data.toList.getD (k.size - 1) 0).toNat : Int)⟩
def ofK (k : ByteArray) : Option Sv := if okKey k.data.toList = true then some (parse k.data.toList).sv else none
theorem num8_lt (l : List UInt8) (h : l.length ≤ 8) : num8 l < 18446744073709551616 := by
 have : ∀ (l : List UInt8) (n : Nat), l.foldl (fun n c => 256 * n + c.toNat) n < (n + 1) * 256 ^ l.length := by
  intro l
  induction l with
  | nil => intro n; simp
  | cons c l ih =>
   intro n
   rw [List.foldl_cons, List.length_cons, Nat.pow_succ']
   refine Nat.lt_of_lt_of_le (ih _) ?_
   rw [← Nat.mul_assoc]
   refine Nat.mul_le_mul_right _ ?_
   have := c.toNat_lt
   omega
 have h1 := this l 0
 unfold num8
 have h2 : 256 ^ l.length ≤ 256 ^ 8 := Nat.pow_le_pow_right (by omega) h
 have : (256 : Nat) ^ 8 = 18446744073709551616 := by decide
 omega
theorem wrap_small {n : Nat} (h : n ≤ 4611686018427387904) : IntKind.i64.wrap (n : Int) = n := by
 rw [wrap_i64_mod]
 simp only
 split <;> omega
theorem wrap_ok {n : Nat} (h : n < 18446744073709551616) (h1 : 1 ≤ IntKind.i64.wrap (n : Int)) (h2 : IntKind.i64.wrap (n : Int) ≤ 4611686018427387904) : 1 ≤ n ∧ n ≤ 4611686018427387904 := by
 rw [wrap_i64_mod] at h1 h2
 simp only at h1 h2
 split at h1 <;> split at h2 <;> omega
theorem num8_one (c : UInt8) : num8 [c] = c.toNat := by simp [num8]
theorem drop_take_one {l : List UInt8} {k : Nat} (h : k < l.length) : num8 ((l.drop k).take 1) = (l.getD k 0).toNat := by
 rw [List.drop_eq_getElem_cons h, List.take_succ_cons, List.take_zero, num8_one, List.getD_eq_getElem?_getD, List.getElem?_eq_getElem h]
 rfl
theorem svK_parse {k : ByteArray} (hk : 19 ≤ k.size) : (svK k).ok = (parse k.data.toList).ok ∧ ((svK k).ok = true → svK k = (parse k.data.toList).sv ∧ (svK k).st = parse k.data.toList) := by
 have hl := dlen k
 have e1 : num8 ((k.data.toList.drop 8).take 1) = (k.data.toList.getD 8 0).toNat := drop_take_one (by omega)
 have e2 : num8 (k.data.toList.drop (k.data.toList.length - 1)) = (k.data.toList.getD (k.size - 1) 0).toNat := by
  rw [← drop_take_one (by omega), hl]
  congr 1
  rw [List.take_of_length_le]
  simp; omega
 have e3 : (k.extract 9 (k.size - 10)).data.toList = (k.data.toList.drop 9).take (k.data.toList.length - 19) := by
  rw [hl]
  simp [List.take_drop]
  (try congr 1) <;> (try omega)
 have hp : parse k.data.toList = ⟨num8 (k.data.toList.take 8), (k.data.toList.getD 8 0).toNat, (k.extract 9 (k.size - 10)).data.toList, num8 ((k.data.toList.drop (k.size - 9)).take 8), (k.data.toList.getD (k.size - 1) 0).toNat⟩ := by
  unfold parse
  rw [e1, e2, e3, hl]
 have b1 := num8_lt (k.data.toList.take 8) (by simp; omega)
 have b2 := num8_lt ((k.data.toList.drop (k.size - 9)).take 8) (by simp; omega)
 rw [hp]
 unfold svK
 generalize num8 (k.data.toList.take 8) = g at *
 generalize num8 ((k.data.toList.drop (k.size - 9)).take 8) = n at *
 generalize (k.data.toList.getD 8 0).toNat = r at *
 generalize (k.data.toList.getD (k.size - 1) 0).toNat = i at *
 generalize k.extract 9 (k.size - 10) = l at *
 have hiff : Sv.ok ⟨IntKind.i64.wrap g, r, l, IntKind.i64.wrap n, i⟩ = true ↔ Stp.ok ⟨g, r, l.data.toList, n, i⟩ = true := by
  rw [Sv.ok_iff, Stp.ok_iff]
  simp only
  constructor
  · rintro ⟨h1, h2, h3, h4, h5, h6, h7, h8, h9⟩
    obtain ⟨c1, c2⟩ := wrap_ok b1 h1 h2
    obtain ⟨c3, c4⟩ := wrap_ok b2 h6 h7
    exact ⟨c1, c2, by omega, h5, c3, c4, by omega⟩
  · rintro ⟨h1, h2, h3, h4, h5, h6, h7⟩
    rw [wrap_small h2, wrap_small h6]
    exact ⟨by omega, by omega, by omega, by omega, h4, by omega, by omega, by omega, by omega⟩
 refine ⟨by rw [Bool.eq_iff_iff]; exact hiff, fun h => ?_⟩
 have h2 := hiff.1 h
 obtain ⟨h1, h2, h3, h4, h5, h6, h7⟩ := Stp.ok_iff.1 h2
 rw [wrap_small h2, wrap_small h6]
 refine ⟨by simp [Stp.sv], by simp [Sv.st]⟩
theorem ofK_short {k : ByteArray} (h : k.size < 19) : ofK k = none := by
 unfold ofK okKey
 rw [if_neg]
 have := dlen k
 simp only [Bool.and_eq_true, decide_eq_true_eq]
 omega
theorem ofK_long {k : ByteArray} (h : 19 ≤ k.size) : ofK k = if (svK k).ok = true ∧ keyB (svK k).st = k then some (svK k) else none := by
 obtain ⟨h1, h2⟩ := svK_parse h
 unfold ofK okKey
 have := dlen k
 by_cases hok : (svK k).ok = true
 · obtain ⟨h3, h4⟩ := h2 hok
   rw [h1] at hok
   rw [h4, h3]
   simp only [Bool.and_eq_true, decide_eq_true_eq, hok]
   have hk : ((parse k.data.toList).key = k.data.toList) ↔ keyB (parse k.data.toList) = k := by
    unfold keyB
    constructor
    · intro h; rw [h]
    · intro h
      have h5 := congrArg (fun b : ByteArray => b.data.toList) h
      simpa using h5
   have hok2 := h1.trans hok
   rw [h3] at hok2
   by_cases hq : keyB (parse k.data.toList) = k
   · rw [if_pos ⟨⟨by omega, trivial⟩, hk.2 hq⟩, if_pos ⟨hok2, hq⟩]
   · rw [if_neg (fun h => hq (hk.1 h.2)), if_neg (fun h => hq h.2)]
 · have a1 : ¬ ((svK k).ok = true ∧ keyB (svK k).st = k) := fun h => hok h.1
   have a2 : ¬ ((decide (19 ≤ k.data.toList.length) && (parse k.data.toList).ok && decide ((parse k.data.toList).key = k.data.toList)) = true) := by
    simp only [Bool.and_eq_true, decide_eq_true_eq]
    rintro ⟨⟨_, h5⟩, _⟩
    exact hok (h1.trans h5)
   rw [if_neg a1, if_neg a2]
end Go.Proofs.YtjlliohjeiclaaaGreatDoor
namespace Go.Proofs.YtjlliohjeiclaaaGreatDoor
open Go.RowKit St
def stA (s : Sv) : Value := .agg #[.int .i64 s.g, .int .i64 s.r, .string s.l, .int .i64 s.n, .int .i64 s.i]
def stO : Option Sv → Value
 | some s => .tuple #[stA s, .int .i64 0]
 | none => .tuple #[.agg #[.int .i64 0, .int .i64 0, .string ⟨#[]⟩, .int .i64 0, .int .i64 0], .int .i64 4]
theorem st_one (g r : Int) (l : ByteArray) (n i : Int) : (#[.int .i64 g, .int .i64 r, .string l, .int .i64 n, .int .i64 i] : Array Value).all (·.oneCell') = true := by simp [Value.oneCell']
set_option maxRecDepth 100000 in
set_option maxHeartbeats 2000000 in
theorem stp_same (s : Sv) (k : ByteArray) (w : World) (hs : s.l.size ≤ 9223372036854775807) : Calls Tryz.prog 152 #[.agg #[.int .i64 s.g, .int .i64 s.r, .string s.l, .int .i64 s.n, .int .i64 s.i], .string k, .func (.func 94) #[] #[]] w fun e w' => e = .returned (stO (if s.ok = true ∧ keyB s.st = k then some s else none)) ∧ Below w.heap.size w w' := by
 have CK := Lib.hid (fun w' => stp_Key s w' hs)
 have HR : Hid (s.ok = true → keyB s.st = k → stO (if s.ok = true ∧ keyB s.st = k then some s else none) = .tuple #[.agg #[.int .i64 s.g, .int .i64 s.r, .string s.l, .int .i64 s.n, .int .i64 s.i], .int .i64 0]) := Lib.hid (fun h1 h2 => by rw [if_pos ⟨h1, h2⟩]; rfl)
 have HN : Hid ((s.ok = true → ¬ keyB s.st = k) → stO (if s.ok = true ∧ keyB s.st = k then some s else none) = .tuple #[.agg #[.int .i64 0, .int .i64 0, .string ⟨#[]⟩, .int .i64 0, .int .i64 0], .int .i64 4]) := Lib.hid (fun h => by rw [if_neg (fun ⟨a, b⟩ => h a b)]; rfl)
 obtain ⟨g, r, l, n, i⟩ := s
 simp only at hs CK HR HN ⊢
 generalize stO _ = res at *
 generalize Sv.ok ⟨g, r, l, n, i⟩ = ok at *
 generalize keyB (Sv.st ⟨g, r, l, n, i⟩) = kb at *
 go_enter Tryz.func152, Tryz.ntmps152
 go_wp2_with fail
 have hbA : Below w.heap.size w (((w.alloc (.cells #[.int .i64 g, .int .i64 r, .string l, .int .i64 n, .int .i64 i] 43)).alloc (.cells #[.int .i64 0, .int .i64 0, .string ⟨#[]⟩, .int .i64 0, .int .i64 0] 43)).alloc (.cells #[.int .i64 0, .int .i64 0, .string ⟨#[]⟩, .int .i64 0, .int .i64 0] 43)) :=
  (((Below.refl _ w).alloc (Nat.le_refl _) _).alloc (by simp) _).alloc (by simp; omega) _
 have x0 := boxStays (boxStays (heap_alloc_new w (.cells #[.int .i64 g, .int .i64 r, .string l, .int .i64 n, .int .i64 i] 43)) (below_new _ (.cells #[.int .i64 0, .int .i64 0, .string ⟨#[]⟩, .int .i64 0, .int .i64 0] 43))) (below_new _ (.cells #[.int .i64 0, .int .i64 0, .string ⟨#[]⟩, .int .i64 0, .int .i64 0] 43))
 have x1 := boxStays (heap_alloc_new (w.alloc (.cells #[.int .i64 g, .int .i64 r, .string l, .int .i64 n, .int .i64 i] 43)) (.cells #[.int .i64 0, .int .i64 0, .string ⟨#[]⟩, .int .i64 0, .int .i64 0] 43)) (below_new _ (.cells #[.int .i64 0, .int .i64 0, .string ⟨#[]⟩, .int .i64 0, .int .i64 0] 43))
 have x2 := heap_alloc_new ((w.alloc (.cells #[.int .i64 g, .int .i64 r, .string l, .int .i64 n, .int .i64 i] 43)).alloc (.cells #[.int .i64 0, .int .i64 0, .string ⟨#[]⟩, .int .i64 0, .int .i64 0] 43)) (.cells #[.int .i64 0, .int .i64 0, .string ⟨#[]⟩, .int .i64 0, .int .i64 0] 43)
 simp only [World.size_alloc] at x1 x2
 generalize ((w.alloc (.cells #[.int .i64 g, .int .i64 r, .string l, .int .i64 n, .int .i64 i] 43)).alloc (.cells #[.int .i64 0, .int .i64 0, .string ⟨#[]⟩, .int .i64 0, .int .i64 0] 43)).alloc (.cells #[.int .i64 0, .int .i64 0, .string ⟨#[]⟩, .int .i64 0, .int .i64 0] 43) = WA at *
 refine (CK.out _).mono ?_
 rintro e w1 ⟨he, hb⟩
 have B1 : Hid (Below w.heap.size w w1) := Lib.hid (hbA.trans (hb.mono hbA.size))
 have X0 := Lib.hid (boxStays x0 hb)
 have X1 := Lib.hid (boxStays x1 hb)
 have X2 := Lib.hid (boxStays x2 hb)
 clear hb hbA x0 x1 x2 CK
 have bad : (ok = true → ¬ kb = k) → Hid (res = .tuple #[.agg #[.int .i64 0, .int .i64 0, .string ⟨#[]⟩, .int .i64 0, .int .i64 0], .int .i64 4]) := fun h => Lib.hid (HN.out h)
 by_cases hgood : ok = true ∧ kb = k
 · obtain ⟨h1, h2⟩ := hgood
   subst h1
   subst h2
   rw [if_pos rfl] at he
   subst he
   have RR := Lib.hid (HR.out rfl rfl)
   clear HR HN bad
   have c0 := cell_of_row _ _ 0 _ _ _ X0.out
   have c1 := cell_of_row _ _ 1 _ _ _ X0.out
   have c2 := cell_of_row _ _ 2 _ _ _ X0.out
   have c3 := cell_of_row _ _ 3 _ _ _ X0.out
   have c4 := cell_of_row _ _ 4 _ _ _ X0.out
   go_wp2_with (refine wpList_store_row rfl 43 (.tmp 6) (.tmp 25) rfl (w.heap.size + 1) #[.int .i64 g, .int .i64 r, .string l, .int .i64 n, .int .i64 i] rfl rfl 43 _ X1.out (by kernel_rfl) rfl (st_one _ _ _ _ _) ?_)
   have Y := setRow_heap w1 (w.heap.size + 1) _ #[.int .i64 g, .int .i64 r, .string l, .int .i64 n, .int .i64 i] _ _ X1.out
   have q0 := cell_of_row _ _ 0 _ _ _ Y
   have q1 := cell_of_row _ _ 1 _ _ _ Y
   have q2 := cell_of_row _ _ 2 _ _ _ Y
   have q3 := cell_of_row _ _ 3 _ _ _ Y
   have q4 := cell_of_row _ _ 4 _ _ _ Y
   refine bodyPost_ret (v := .tuple #[.agg #[.int .i64 g, .int .i64 r, .string l, .int .i64 n, .int .i64 i], .int .i64 0]) (by simp [results, Tryz.results152, go_sem, q0, q1, q2, q3, q4]) rfl ?_
   exact ⟨by rw [RR.out], below_setRow B1.out (by omega) _⟩
 · have NN := bad (fun h1 h2 => hgood ⟨h1, h2⟩)
   have c0 := cell_of_row _ _ 0 _ _ _ X2.out
   have c1 := cell_of_row _ _ 1 _ _ _ X2.out
   have c2 := cell_of_row _ _ 2 _ _ _ X2.out
   have c3 := cell_of_row _ _ 3 _ _ _ X2.out
   have c4 := cell_of_row _ _ 4 _ _ _ X2.out
   have Y := setRow_heap w1 (w.heap.size + 1) _ #[.int .i64 0, .int .i64 0, .string ⟨#[]⟩, .int .i64 0, .int .i64 0] _ _ X1.out
   have q0 := cell_of_row _ _ 0 _ _ _ Y
   have q1 := cell_of_row _ _ 1 _ _ _ Y
   have q2 := cell_of_row _ _ 2 _ _ _ Y
   have q3 := cell_of_row _ _ 3 _ _ _ Y
   have q4 := cell_of_row _ _ 4 _ _ _ Y
   have QQ := Lib.hid (And.intro q0 (And.intro q1 (And.intro q2 (And.intro q3 q4))))
   clear q0 q1 q2 q3 q4 Y bad HR HN
   cases ok with
   | false =>
    rw [if_neg (by decide)] at he
    subst he
    go_wp2_with (refine wpList_store_row rfl 43 (.tmp 6) (.tmp 24) rfl (w.heap.size + 1) #[.int .i64 0, .int .i64 0, .string ⟨#[]⟩, .int .i64 0, .int .i64 0] rfl rfl 43 _ X1.out (by kernel_rfl) rfl (st_one _ _ _ _ _) ?_)
    obtain ⟨q0, q1, q2, q3, q4⟩ := QQ.out
    refine bodyPost_ret (v := .tuple #[.agg #[.int .i64 0, .int .i64 0, .string ⟨#[]⟩, .int .i64 0, .int .i64 0], .int .i64 4]) (by simp [results, Tryz.results152, go_sem, q0, q1, q2, q3, q4]) rfl ?_
    exact ⟨by rw [NN.out], below_setRow B1.out (by omega) _⟩
   | true =>
    rw [if_pos rfl] at he
    subst he
    have hne : (kb.toList == k.toList) = false := by rw [Pm.eq_iff]; simp; exact fun h => hgood ⟨rfl, h⟩
    clear hgood
    go_wp2_with (refine wpList_store_row rfl 43 (.tmp 6) (.tmp 24) rfl (w.heap.size + 1) #[.int .i64 0, .int .i64 0, .string ⟨#[]⟩, .int .i64 0, .int .i64 0] rfl rfl 43 _ X1.out (by kernel_rfl) rfl (st_one _ _ _ _ _) ?_)
    obtain ⟨q0, q1, q2, q3, q4⟩ := QQ.out
    refine bodyPost_ret (v := .tuple #[.agg #[.int .i64 0, .int .i64 0, .string ⟨#[]⟩, .int .i64 0, .int .i64 0], .int .i64 4]) (by simp [results, Tryz.results152, go_sem, q0, q1, q2, q3, q4]) rfl ?_
    exact ⟨by rw [NN.out], below_setRow B1.out (by omega) _⟩
end Go.Proofs.YtjlliohjeiclaaaGreatDoor
namespace Go.Proofs.YtjlliohjeiclaaaGreatDoor
open Go.RowKit
section
variable {P : Program} {ops : Array Oper} {Q : Exit → Act → World → Prop} {id : Nat} {base : Array Value} {df : List Deferred} {slots : List Nat} {W0 : World}
theorem relG_skip {so : List Nat} {gs : List Pr} (i : Nat) (hl : gs.length = i) (hi : so.contains i = true) (h : RelG P ops Q id base df slots W0 so (anyV :: gs)) (hlt : decide (i < ops.size) = true) : RelG P ops Q id base df slots W0 so gs := by
 have hlt' : i < ops.size := of_decide_eq_true hlt
 subst hl
 intro hup hsl hinj hsz hall
 refine h hup hsl hinj hsz fun i hi' hso => ?_
 rw [List.length_cons] at hi'
 have hne : i ≠ gs.length := fun e => by rw [e, hi] at hso; cases hso
 have hi'' : i < gs.length := by omega
 obtain ⟨h1, h2⟩ := hall i hi'' hso
 rw [lkG_old _ _ _ hi'']
 refine ⟨h1, fun f w hb hp K hK => ?_⟩
 rw [lkG_old _ _ _ hi''] at hK
 refine h2 f w hb (fun j hj d e => ?_) K hK
 have hlt := up_lt hup (by omega) hj
 have := hp j hj d e
 rwa [lkG_old _ _ _ (by omega)] at this
structure Sto where
 s : Nat
 b : Nat
 y : Nat
 iy : Nat
def EE : List Sto → (Nat → Bool) → (Nat → Value) → World → World
 | [], _, _, w => w
 | p :: S, L, f, w => EE S L f (if L p.s = true then w.setRow p.b (f p.y).cells else w)
theorem setRow_comm (w : World) {a b : Nat} (h : a ≠ b) (x y : Array Value) : (w.setRow a x).setRow b y = (w.setRow b y).setRow a x := by
 unfold World.setRow
 simp only [World.mk.injEq, true_and, and_true]
 apply Array.ext_getElem?
 intro k
 simp only [Array.getElem?_modify]
 by_cases h1 : a = k
 · subst h1
   rw [if_neg (Ne.symm h)]
   simp [Ne.symm h]
 · by_cases h2 : b = k
   · subst h2
     simp [h1]
   · simp [h1, h2]
theorem EE_none : ∀ {S : List Sto} {L : Nat → Bool} {f : Nat → Value} {w : World}, (∀ p ∈ S, L p.s = false) → EE S L f w = w
 | [], _, _, _, _ => rfl
 | p :: S, L, f, w, h => by
  unfold EE
  rw [if_neg (by rw [h p List.mem_cons_self]; simp)]
  exact EE_none fun q hq => h q (List.mem_cons_of_mem _ hq)
theorem EE_congr : ∀ {S : List Sto} {L L' : Nat → Bool} {f f' : Nat → Value} {w : World}, (∀ p ∈ S, L p.s = L' p.s ∧ (L p.s = true → f p.y = f' p.y)) → EE S L f w = EE S L' f' w
 | [], _, _, _, _, _, _ => rfl
 | p :: S, L, L', f, f', w, h => by
  unfold EE
  obtain ⟨h1, h2⟩ := h p List.mem_cons_self
  rw [← h1]
  have : (if L p.s = true then w.setRow p.b (f p.y).cells else w) = (if L p.s = true then w.setRow p.b (f' p.y).cells else w) := by
   split
   · rename_i hl; rw [h2 hl]
   · rfl
  rw [this]
  exact EE_congr fun q hq => h q (List.mem_cons_of_mem _ hq)
theorem EE_setRow : ∀ {S : List Sto} {L : Nat → Bool} {f : Nat → Value} {w : World} {b : Nat} {cs : Array Value}, (∀ p ∈ S, p.b ≠ b) → (EE S L f w).setRow b cs = EE S L f (w.setRow b cs)
 | [], _, _, _, _, _, _ => rfl
 | p :: S, L, f, w, b, cs, h => by
  unfold EE
  rw [EE_setRow fun q hq => h q (List.mem_cons_of_mem _ hq)]
  congr 1
  split
  · exact setRow_comm w (h p List.mem_cons_self) _ _
  · rfl
theorem EE_block : ∀ {S : List Sto} {L : Nat → Bool} {f : Nat → Value} {w : World} {b : Nat}, (∀ p ∈ S, p.b = b → L p.s = false) → (EE S L f w).heap[b]? = w.heap[b]?
 | [], _, _, _, _, _ => rfl
 | p :: S, L, f, w, b, h => by
  unfold EE
  rw [EE_block fun q hq => h q (List.mem_cons_of_mem _ hq)]
  split
  · rename_i hl
    refine setRow_other _ _ _ _ (fun e => ?_)
    have := h p List.mem_cons_self e.symm
    rw [this] at hl; cases hl
  · rfl
theorem EE_step : ∀ {S : List Sto} {L : Nat → Bool} {f : Nat → Value} {w : World} {p : Sto}, (S.map (·.s)).Nodup → (S.map (·.b)).Nodup → p ∈ S → L p.s = false → (EE S L f w).setRow p.b (f p.y).cells = EE S (fun j => j == p.s || L j) f w
 | q :: S, L, f, w, p, hs, hb, hp, hL => by
  rw [List.map_cons, List.nodup_cons] at hs hb
  unfold EE
  rcases List.mem_cons.1 hp with rfl | hp'
  · rw [if_neg (by rw [hL]; simp), if_pos (by simp), EE_setRow (fun r hr e => hb.1 (List.mem_map.2 ⟨r, hr, e⟩))]
    refine EE_congr fun r hr => ⟨?_, fun _ => rfl⟩
    have : r.s ≠ p.s := fun e => hs.1 (List.mem_map.2 ⟨r, hr, e⟩)
    simp [this]
  · have hne : q.s ≠ p.s := fun e => hs.1 (List.mem_map.2 ⟨p, hp', e.symm⟩)
    rw [EE_step hs.2 hb.2 hp' hL]
    simp [hne]
def copyB (ops : Array Oper) (i : Nat) : Bool := match ops[i]? with
 | some o => o.guard.isNone && (match o.op with
  | .assign _ => true
  | .move _ => true
  | _ => false)
 | none => false
theorem wpOp_copy {i : Nat} (h : copyB ops i = true) : ∃ x, ∀ (K : Act → World → Prop) (a : Act) (w : World), wpOp P ops Q i K a w ↔ K (a.put (dstN ops i) (a.eval x)) w := by
 unfold copyB at h
 cases ho : ops[i]? with
 | none => rw [ho] at h; cases h
 | some o =>
  rw [ho] at h
  simp only [Bool.and_eq_true] at h
  have hg : o.guard = none := by simpa using h.1
  have hd : dstN ops i = o.dst := by unfold dstN; rw [ho]; rfl
  have key : ∀ x, (o.op = .assign x ∨ o.op = .move x) → ∀ (K : Act → World → Prop) (a : Act) (w : World), wpOp P ops Q i K a w ↔ K (a.put (dstN ops i) (a.eval x)) w := by
   intro x hx K a w
   unfold wpOp
   rw [ho]
   have hw : Region.wanted o (yielded ops a.tmps) = true := wanted_none hg
   simp only [hw, if_true]
   have hr : (execOp a.eval o).run P w = .ok (.value (a.eval x)) w := by
    unfold execOp
    rcases hx with e | e <;> simp [e]
   have : o.wp P a w K Q ↔ K (a.put (dstN ops i) (a.eval x)) w := by
    unfold Oper.wp
    rw [hr, hd]
    rfl
   rw [this]
   constructor
   · rintro (h | ⟨h1, _⟩)
     · exact h
     · have he : execOp a.eval o = pure (.value (a.eval x)) := by
        unfold execOp
        rcases hx with e | e <;> simp [e]
       unfold Oper.asks at h1
       rw [he] at h1
       have h2 : noRoomEvent ∈ (#[] : Array _) := h1.1
       cases (Array.not_mem_empty _ h2)
   · exact fun h => .inl h
  split at h
  · rename_i x hx; exact ⟨x, key x (.inl hx)⟩
  · rename_i x hx; exact ⟨x, key x (.inr hx)⟩
  · cases h.2
def stoOK (ops : Array Oper) (S : List Sto) : Bool := S.all fun p => decide (p.s < ops.size) && (dstN ops p.s == none) && (dstN ops p.iy == some p.y) && needsN ops 6 p.s p.iy
def freeOK (ops : Array Oper) (so : List Nat) : Bool := (List.range ops.size).all fun i => so.contains i || copyB ops i || so.all fun s => needsN ops 6 s i
def stoDeps (ops : Array Oper) (so : List Nat) (ps : List (Nat × Nat × Nat)) : Bool := ps.all fun p => decide (p.1 + p.2.2 + 1 = ops.size) && (dstN ops p.1 == some p.2.1) && so.all fun s => needsN ops 6 s p.1
theorem inj_nodup {α β : Type} {f : α → β} : ∀ {l : List α} {x y : α}, (l.map f).Nodup → x ∈ l → y ∈ l → f x = f y → x = y
 | z :: l, x, y, h, hx, hy, e => by
  rw [List.map_cons, List.nodup_cons] at h
  rcases List.mem_cons.1 hx with rfl | hx' <;> rcases List.mem_cons.1 hy with rfl | hy'
  · rfl
  · exact absurd (List.mem_map.2 ⟨y, hy', e.symm⟩) h.1
  · exact absurd (List.mem_map.2 ⟨x, hx', e⟩) h.1
  · exact inj_nodup h.2 hx' hy' e
theorem closedL_next {L : Nat → Bool} {i : Nat} (hc : ClosedL ops L) (hp : ∀ k ∈ preOf ops i, L k = true) : ClosedL ops (fun j => j == i || L j) := by
 intro k hk j hj
 have hk' : (k == i || L k) = true := hk
 have : L j = true := by
  by_cases e : k = i
  · subst e; exact hp j hj
  · exact hc k (by simpa [e] using hk') j hj
 show (j == i || L j) = true
 rw [this]; simp
theorem relG_stores {so : List Nat} {gs : List Pr} (S : List Sto) (ps psS : List (Nat × Nat × Nat)) (hm : P.follows .mixedOrders = true) (hl : gs.length = ops.size) (hso : S.map (·.s) = so) (hps : finOK ops ps = true) (hpsS : stoDeps ops so psS = true)
 (hS : stoOK ops S = true) (hfr : freeOK ops so = true) (hsn : so.Nodup) (hbn : (S.map (·.b)).Nodup)
 (hst : ∀ p ∈ S, ∀ f w, Below W0.heap.size W0 w → FinF gs f w psS → ∀ w2, w2.heap[p.b]? = w.heap[p.b]? → ∀ K : Act → World → Prop, K { tmps := regT base slots f, defers := df } (w2.setRow p.b (f p.y).cells) → wpOp P ops Q p.s K { tmps := regT base slots f, defers := df } w2)
 (h : ∀ f w, Below W0.heap.size W0 w → FinF gs f w ps → Q .normal { tmps := regT base slots f, defers := df } (EE S (fun _ => true) f w)) : RelG P ops Q id base df slots W0 so gs := by
 subst hso
 intro hup hsl hinj hsz hall
 have hmem : ∀ s, (S.map (·.s)).contains s = true ↔ ∃ p ∈ S, p.s = s := fun s => by simp
 have hpS : ∀ p ∈ S, p.s < ops.size ∧ dstN ops p.s = none ∧ dstN ops p.iy = some p.y ∧ needsN ops 6 p.s p.iy = true := fun p hp => by
  have := List.all_eq_true.1 hS p hp
  simp only [Bool.and_eq_true, decide_eq_true_eq, beq_iff_eq] at this
  exact ⟨this.1.1.1, this.1.1.2, this.1.2, this.2⟩
 have hfinS : ∀ (L : Nat → Bool) f w, ClosedL ops L → (∀ i d, dstN ops i = some d → L i = true → lkG gs i (f d) w) → ∀ p ∈ S, (∀ k ∈ preOf ops p.s, L k = true) → FinF gs f w psS := by
  intro L f w hc hL p hp hpre
  clear h hst
  induction psS with
  | nil => trivial
  | cons q psS ih =>
   simp only [stoDeps, List.all_cons, Bool.and_eq_true] at hpsS
   obtain ⟨⟨⟨h1, h2⟩, h4⟩, h3⟩ := hpsS
   have hj' : q.1 + q.2.2 + 1 = ops.size := by simpa using h1
   have hn : needsN ops 6 p.s q.1 = true := List.all_eq_true.1 h4 _ (List.mem_map.2 ⟨p, hp, rfl⟩)
   have h5 := hL q.1 q.2.1 (by simpa using h2) (needsN_out hc _ _ _ hn hpre)
   unfold lkG at h5
   rw [if_pos (by omega), show gs.length - 1 - q.1 = q.2.2 by omega] at h5
   exact ⟨⟨f q.2.1, rfl, h5⟩, ih h3⟩
 refine region_inv (fun L a w => ClosedL ops L ∧ ∃ f w', a = { tmps := regT base slots f, defers := df } ∧ Below W0.heap.size W0 w' ∧ (∀ i d, dstN ops i = some d → L i = true → lkG gs i (f d) w') ∧ w = EE S L f w') hm hup
  ⟨(fun _ h => by cases h), fun k => base.getD k undef, W0.drew, by rw [regT_id], (Below.refl _ _).drew, fun _ _ _ h => (by cases h), (EE_none fun _ _ => rfl).symm⟩ ?_ ?_
 · rintro i hi L a w ⟨hc, f, w', rfl, hW, hL, rfl⟩ hLi hpre
   have hc' := closedL_next hc hpre
   by_cases his : (S.map (·.s)).contains i = true
   · obtain ⟨p, hp, rfl⟩ := (hmem i).1 his
     obtain ⟨h1, h2, h3, h4⟩ := hpS p hp
     refine hst p hp f w' hW (hfinS L f w' hc hL p hp hpre) _ (EE_block fun q hq e => ?_) _ ⟨hc', f, w', rfl, hW, fun j d e hj => ?_, EE_step hsn hbn hp hLi⟩
     · rw [inj_nodup hbn hq hp e]; exact hLi
     · have hne : j ≠ p.s := fun e' => by rw [e', h2] at e; cases e
       exact hL j d e (by simpa [hne] using hj)
   · have his' : (S.map (·.s)).contains i = false := by simpa using his
     obtain ⟨h1, h2⟩ := hall i (by omega) his'
     have hkeep : ∀ v w'', lkG gs i v w'' → Below w'.heap.size w' w'' → ClosedL ops (fun j => j == i || L j) ∧ ∃ f1 w1, ({ tmps := regT base slots f, defers := df : Act }.put (dstN ops i) v) = { tmps := regT base slots f1, defers := df } ∧ Below W0.heap.size W0 w1 ∧ (∀ j d, dstN ops j = some d → (j == i || L j) = true → lkG gs j (f1 d) w1) ∧ EE S L f w'' = EE S (fun j => j == i || L j) f1 w1 ∧ w1 = w'' := by
      intro v w'' hg hb
      have hW' := hW.trans (hb.mono hW.size)
      have hEL : ∀ q ∈ S, L q.s = (q.s == i || L q.s) := fun q hq => by
       have : q.s ≠ i := fun e => by rw [(hmem i).2 ⟨q, hq, e⟩] at his'; cases his'
       simp [this]
      cases hdi : dstN ops i with
      | none =>
       refine ⟨hc', f, w'', rfl, hW', fun j d e hj => ?_, EE_congr fun q hq => ⟨hEL q hq, fun _ => rfl⟩, rfl⟩
       have hne : j ≠ i := fun e' => by rw [e', hdi] at e; cases e
       have hLj : L j = true := by simpa [hne] using hj
       have hjs : (S.map (·.s)).contains j = false := by
        cases hcj : (S.map (·.s)).contains j with
        | false => rfl
        | true => obtain ⟨q, hq, rfl⟩ := (hmem j).1 hcj; rw [(hpS q hq).2.1] at e; cases e
       exact (hall j (by have := dstN_lt e; omega) hjs).1 _ _ _ (hL j d e hLj) hb
      | some di =>
       refine ⟨hc', updF f di v, w'', ?_, hW', fun j d e hj => ?_, EE_congr fun q hq => ⟨hEL q hq, fun hql => ?_⟩, rfl⟩
       · show ({ tmps := (regT base slots f).setIfInBounds di v, defers := df } : Act) = _
         rw [regT_put _ _ _ _ _ (hsl i di hdi)]
       · unfold updF
         by_cases hne : j = i
         · subst hne
           rw [hdi] at e
           cases e
           rw [if_pos rfl]
           exact hg
         · have h3 : d ≠ di := fun e' => hne (hinj j i d e (e' ▸ hdi))
           rw [if_neg h3]
           have hLj : L j = true := by simpa [hne] using hj
           have hjs : (S.map (·.s)).contains j = false := by
            cases hcj : (S.map (·.s)).contains j with
            | false => rfl
            | true => obtain ⟨q, hq, rfl⟩ := (hmem j).1 hcj; rw [(hpS q hq).2.1] at e; cases e
           exact (hall j (by have := dstN_lt e; omega) hjs).1 _ _ _ (hL j d e hLj) hb
       · obtain ⟨_, _, h5, h6⟩ := hpS q hq
         have hiy : L q.iy = true := needsN_out hc _ _ _ h6 (hc q.s hql)
         unfold updF
         rw [if_neg]
         intro e
         have := hinj q.iy i q.y h5 (e ▸ hdi)
         rw [this, hLi] at hiy
         cases hiy
     by_cases hany : ∀ q ∈ S, L q.s = false
     · rw [EE_none hany]
       refine h2 f w' hW (fun j hj d e => hL j d e (hpre j hj)) _ fun v w'' hg hb => ?_
       obtain ⟨k1, f1, w1, k2, k3, k4, k5, rfl⟩ := hkeep v w'' hg hb
       exact ⟨k1, f1, w1, k2, k3, k4, by rw [← k5, EE_none hany]⟩
     · obtain ⟨q, hq, hql⟩ : ∃ q ∈ S, L q.s = true := Classical.byContradiction fun hno => hany fun q hq => by
        cases hql : L q.s with
        | false => rfl
        | true => exact absurd ⟨q, hq, hql⟩ hno
       have hf := List.all_eq_true.1 hfr i (List.mem_range.2 hi)
       simp only [Bool.or_eq_true] at hf
       have hcp : copyB ops i = true := by
        rcases hf with (hf | hf) | hf
        · exact absurd hf his
        · exact hf
        · have h3 := List.all_eq_true.1 hf _ (List.mem_map.2 ⟨q, hq, rfl⟩)
          have := needsN_out hc _ _ _ h3 (hc q.s hql)
          rw [hLi] at this
          cases this
       obtain ⟨x, hx⟩ := wpOp_copy (P := P) (Q := Q) hcp
       have h3 := h2 f w' hW (fun j hj d e => hL j d e (hpre j hj)) (fun a1 w1 => ∃ v, a1 = { tmps := regT base slots f, defers := df : Act }.put (dstN ops i) v ∧ lkG gs i v w1 ∧ Below w'.heap.size w' w1 ∧ w1 = w1) (fun v w'' hg hb => ⟨v, rfl, hg, hb, rfl⟩)
       rw [hx] at h3 ⊢
       obtain ⟨v, e1, e2, e3, _⟩ := h3
       obtain ⟨k1, f1, w1, k2, k3, k4, k5, rfl⟩ := hkeep v w' e2 (Below.refl _ _)
       rw [e1]
       exact ⟨k1, f1, w1, k2, k3, k4, k5⟩
 · rintro L a w ⟨hc, f, w', rfl, hW, hL, rfl⟩ hLall
   have := h f w' hW (finF_of hl (fun j hj d e => hL j d e (hLall j hj)) hps)
   rw [EE_congr (L' := fun _ => true) (f' := f) fun q hq => ⟨hLall _ (hpS q hq).1, fun _ => rfl⟩]
   exact this
theorem sto_row {i : Nat} {o : Oper} {f : Nat → Value} {w2 : World} {K : Act → World → Prop} (ty : TypeId) (x y : Nat) {b : Nat} {cells : Array Value} (t : TypeId) (old : Array Value) (ho : ops[i]? = some o) (hg : o.guard = none) (hd : o.dst = none) (hop : o.op = .store ty (.tmp x) (.tmp y))
 (hxs : slots.contains x = false) (hxb : base.getD x undef = .pointer (some ⟨b, 0, none⟩)) (hys : slots.contains y = true) (hyz : decide (y < base.size) = true) (hy : f y = .agg cells) (hgr : w2.heap[b]? = some (.cells old t (0, 0))) (hi : (P.info? ty).map (·.size) = some cells.size) (hold : old.size = cells.size) (h1 : cells.all (·.oneCell') = true)
 (hK : K { tmps := regT base slots f, defers := df } (w2.setRow b (f y).cells)) : wpOp P ops Q i K { tmps := regT base slots f, defers := df } w2 := by
 unfold wpOp
 rw [ho]
 simp only [wanted_none hg, if_true]
 have hx' : (regT base slots f).getD x undef = .pointer (some ⟨b, 0, none⟩) := (regT_out (by simpa using hxs)).trans hxb
 have hy' : (regT base slots f).getD y undef = .agg cells := (regT_in (by simpa using hys) (of_decide_eq_true hyz)).trans hy
 refine .inl (wp_store_row ty (.tmp x) (.tmp y) hop b cells hx' hy' t old hgr hi hold h1 ?_)
 rw [hd]
 rw [hy] at hK
 exact hK
end
end Go.Proofs.YtjlliohjeiclaaaGreatDoor
