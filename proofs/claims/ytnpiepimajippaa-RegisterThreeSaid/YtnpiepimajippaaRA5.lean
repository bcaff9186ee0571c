/- Words, contracts and walks that the proof stands on (KyH TrC TrW). -/
import Derived.Laws.DeepStrings4
import Derived.Test.YtnpiepimajippaaRA1
import Derived.Test.YtnpiepimajippaaRA4
namespace Go.Proofs.Ytnpiepimajippaa
open Go.RowKit St
theorem ext_size (k : ByteArray) (a b : Nat) : (k.extract a b).size ≤ k.size := by simp; omega
theorem wr64 {n : Int} (h0 : 0 ≤ n) (h1 : n < 9223372036854775808) : IntKind.i64.wrap n = n := by rw [IntKind.wrap_i64]; omega
theorem getD_get {k : ByteArray} {i : Nat} (h : i < k.size) : k[i] = k.data.toList.getD i 0 := by
  rw [get_data k i h, List.getD_eq_getElem?_getD, List.getElem?_eq_getElem]
  rfl
theorem sl_mid {P : Program} (w : World) (t : TypeId) (ht : P.underlying t = some .string) (s : ByteArray) (a b : Nat) (x y : Int) (hx : x = (a : Int)) (hy : y = (b : Int)) (ha : a ≤ b) (hb : b ≤ s.size) :
    (Instr.slice t (.string s) (some (.int .i64 x)) (some (.int .i64 y)) none).run P w = .ok (.string (s.extract a b)) w := by
  subst hx hy
  rw [run_slice_string_if w t s _ _ _ _ ht]
  rw [if_pos ⟨by omega, by omega⟩, if_pos ⟨by omega, by omega⟩]
  simp
theorem br_one (r : Int) (l : ByteArray) : (#[.int .i64 r, .string l] : Array Value).all (·.oneCell') = true := by simp [Value.oneCell']
theorem ix_str {P : Program} (w : World) (t : TypeId) (ht : P.underlying t = some .string) (s : ByteArray) (i : Nat) (x : Int) (hx : x = (i : Int)) (hi : i < s.size) :
    (Instr.index t (.string s) (.int .i64 x)).run P w = .ok (.int .u8 ((s.data.toList.getD i 0).toNat : Int)) w := by
  subst hx
  rw [run_index_string w t s _ _ ht, dif_pos ⟨by omega, by omega⟩]
  have := getD_get hi
  simp only [Int.toNat_natCast]
  rw [this]
theorem sl_from {P : Program} (w : World) (t : TypeId) (ht : P.underlying t = some .string) (s : ByteArray) (a : Nat) (x : Int) (hx : x = (a : Int)) (ha : a ≤ s.size) :
    (Instr.slice t (.string s) (some (.int .i64 x)) none none).run P w = .ok (.string (s.extract a s.size)) w := by
  subst hx
  rw [run_slice_string_l w t s ht .i64 _ (by omega) (by omega)]
  simp
set_option maxRecDepth 100000 in
set_option maxHeartbeats 2000000 in
theorem stp_OfKey (k : ByteArray) (w : World) (hs : k.size ≤ 9223372036854775807) : Calls Try.prog 114 #[.string k] w fun e w' => e = .returned (stO (ofK k)) ∧ Below w.heap.size w w' := by
  by_cases hlt : k.size < 19
  · have E : Hid (stO (ofK k) = .tuple #[.agg #[.int .i64 0, .int .i64 0, .string ⟨#[]⟩, .int .i64 0, .int .i64 0], .int .i64 4]) := Lib.hid (by rw [ofK_short hlt]; rfl)
    have X1 := Lib.hid (heap_alloc_new w (.cells #[.int .i64 0, .int .i64 0, .string ⟨#[]⟩, .int .i64 0, .int .i64 0] 41))
    go_enter Try.func114, Try.ntmps114
    go_wp2_with (refine wpList_store_row rfl 41 (.tmp 2) (.tmp 10) rfl w.heap.size #[.int .i64 0, .int .i64 0, .string ⟨#[]⟩, .int .i64 0, .int .i64 0] rfl rfl 41 _ X1.out (by kernel_rfl) rfl (st_one _ _ _ _ _) ?_)
    have Y := setRow_heap (w.alloc (.cells #[.int .i64 0, .int .i64 0, .string ⟨#[]⟩, .int .i64 0, .int .i64 0] 41)) w.heap.size _ #[.int .i64 0, .int .i64 0, .string ⟨#[]⟩, .int .i64 0, .int .i64 0] _ _ X1.out
    have q0 := cell_of_row _ _ 0 _ _ _ Y
    have q1 := cell_of_row _ _ 1 _ _ _ Y
    have q2 := cell_of_row _ _ 2 _ _ _ Y
    have q3 := cell_of_row _ _ 3 _ _ _ Y
    have q4 := cell_of_row _ _ 4 _ _ _ Y
    refine bodyPost_ret (v := .tuple #[.agg #[.int .i64 0, .int .i64 0, .string ⟨#[]⟩, .int .i64 0, .int .i64 0], .int .i64 4]) (by simp [results, Try.results114, go_sem, q0, q1, q2, q3, q4]) rfl ?_
    exact ⟨by rw [E.out], below_setRow (below_new _ _) (Nat.le_refl _) _⟩
  · have hge : 19 ≤ k.size := by omega
    have E := Lib.hid (ofK_long hge)
    have X1 := heap_alloc_new w (.cells #[.int .i64 0, .int .i64 0, .string ⟨#[]⟩, .int .i64 0, .int .i64 0] 41)
    have B1 := below_new w (.cells #[.int .i64 0, .int .i64 0, .string ⟨#[]⟩, .int .i64 0, .int .i64 0] 41)
    have hz : (w.alloc (.cells #[.int .i64 0, .int .i64 0, .string ⟨#[]⟩, .int .i64 0, .int .i64 0] 41)).heap.size = w.heap.size + 1 := by simp
    go_enter Try.func114, Try.ntmps114
    go_upto_region 4 with (fail)
    generalize w.alloc (.cells #[.int .i64 0, .int .i64 0, .string ⟨#[]⟩, .int .i64 0, .int .i64 0] 41) = W at *
    have f1 : (8 : Int) < (k.size : Int) := by omega
    have f2 : ((k.size : Int) - 10) = ((k.size - 10 : Nat) : Int) := by omega
    have w10 : IntKind.i64.wrap ((k.size : Int) - 10) = ((k.size - 10 : Nat) : Int) := by rw [wr64 (by omega) (by omega)]; omega
    have h8k : 8 < k.size := by omega
    have F1 := Lib.hid f1
    have W10 := Lib.hid w10
    obtain ⟨r, hr⟩ : ∃ r, ((k.data.toList.getD 8 0).toNat : Int) = r := ⟨_, rfl⟩
    obtain ⟨l, hl⟩ : ∃ l, k.extract 9 (k.size - 10) = l := ⟨_, rfl⟩
    have hrb : 0 ≤ r ∧ r < 256 := by have := (k.data.toList.getD 8 0).toNat_lt; omega
    have WR := Lib.hid (wr64 hrb.1 (by omega))
    have IX := Lib.hid (fun w' => ix_str (P := Try.prog) w' 9 Try.underlying9 k 8 8 rfl h8k)
    have SM := Lib.hid (fun w' => sl_mid (P := Try.prog) w' 9 Try.underlying9 k 9 (k.size - 10) 9 ((k.size - 10 : Nat) : Int) rfl rfl (by omega) (by omega))
    rw [hr] at IX
    rw [hl] at SM
    have HR := Lib.hid hr
    have HL := Lib.hid hl
    clear f1 f2 w10 hr hl hrb
    have Y1 := Lib.hid X1
    have C1 := Lib.hid B1
    clear X1 B1
    refine relG_start (slots := [11, 12, 13, 14, 15, 16, 17, 18, 5]) (so := []) (by kernel_rfl) (by kernel_rfl) (by rfl) ?_
    refine relG_pure (i := 0) (o := ⟨some 11, _, _, _, _, _⟩) (v := ?v1) [] [0] rfl rfl (by kernel_rfl) (by kernel_rfl) (fun t w1 hB hf hbf => ?y1) ?n1
    case y1 =>
      simp only [DepF, BasF, List.getD_cons_zero, List.getD_cons_succ] at hbf
      clear hf
      obtain ⟨⟨b0, k0⟩, _⟩ := hbf
      have f1 := F1.out
      have w10 := W10.out
      have wr := WR.out
      refine Or.inl ⟨wanted_none rfl, ?_⟩
      rintro _ rfl
      go_simp <;> with_reducible rfl
    refine relG_pure (i := 1) (o := ⟨some 12, _, _, _, _, _⟩) (v := ?v2) [(0, 11, 0)] [] rfl rfl (by kernel_rfl) (by kernel_rfl) (fun t w1 hB hf hbf => ?y2) ?n2
    case y2 =>
      simp only [DepF, BasF, List.getD_cons_zero, List.getD_cons_succ] at hf
      obtain ⟨⟨_, ⟨e11, i11⟩, rfl⟩, _⟩ := hf
      clear hbf
      have f1 := F1.out
      have w10 := W10.out
      have wr := WR.out
      have ix := IX.out w1
      refine Or.inl ⟨wanted_none rfl, ?_⟩
      rintro _ rfl
      go_simp <;> with_reducible rfl
    refine relG_pure (i := 2) (o := ⟨some 13, _, _, _, _, _⟩) (v := ?v3) [(1, 12, 0)] [] rfl rfl (by kernel_rfl) (by kernel_rfl) (fun t w1 hB hf hbf => ?y3) ?n3
    case y3 =>
      simp only [DepF, BasF, List.getD_cons_zero, List.getD_cons_succ] at hf
      obtain ⟨⟨_, ⟨e12, i12⟩, rfl⟩, _⟩ := hf
      clear hbf
      have f1 := F1.out
      have w10 := W10.out
      have wr := WR.out
      refine Or.inl ⟨wanted_none rfl, ?_⟩
      rintro _ rfl
      go_simp <;> with_reducible rfl
    refine relG_pure (i := 3) (o := ⟨some 14, _, _, _, _, _⟩) (v := ?v4) [] [0] rfl rfl (by kernel_rfl) (by kernel_rfl) (fun t w1 hB hf hbf => ?y4) ?n4
    case y4 =>
      simp only [DepF, BasF, List.getD_cons_zero, List.getD_cons_succ] at hbf
      clear hf
      obtain ⟨⟨b0, k0⟩, _⟩ := hbf
      have f1 := F1.out
      have w10 := W10.out
      have wr := WR.out
      refine Or.inl ⟨wanted_none rfl, ?_⟩
      rintro _ rfl
      go_simp <;> with_reducible rfl
    refine relG_pure (i := 4) (o := ⟨some 15, _, _, _, _, _⟩) (v := ?v5) [] [4] rfl rfl (by kernel_rfl) (by kernel_rfl) (fun t w1 hB hf hbf => ?y5) ?n5
    case y5 =>
      simp only [DepF, BasF, List.getD_cons_zero, List.getD_cons_succ] at hbf
      clear hf
      obtain ⟨⟨b4, k4⟩, _⟩ := hbf
      have f1 := F1.out
      have w10 := W10.out
      have wr := WR.out
      refine Or.inl ⟨wanted_none rfl, ?_⟩
      rintro _ rfl
      go_simp <;> with_reducible rfl
    refine relG_pure (i := 5) (o := ⟨some 16, _, _, _, _, _⟩) (v := ?v6) [(4, 15, 0)] [] rfl rfl (by kernel_rfl) (by kernel_rfl) (fun t w1 hB hf hbf => ?y6) ?n6
    case y6 =>
      simp only [DepF, BasF, List.getD_cons_zero, List.getD_cons_succ] at hf
      obtain ⟨⟨_, ⟨e15, i15⟩, rfl⟩, _⟩ := hf
      clear hbf
      have f1 := F1.out
      have w10 := W10.out
      have wr := WR.out
      refine Or.inl ⟨wanted_none rfl, ?_⟩
      rintro _ rfl
      go_simp <;> with_reducible rfl
    refine relG_pure (i := 6) (o := ⟨some 17, _, _, _, _, _⟩) (v := ?v7) [(3, 14, 2), (5, 16, 0)] [] rfl rfl (by kernel_rfl) (by kernel_rfl) (fun t w1 hB hf hbf => ?y7) ?n7
    case y7 =>
      simp only [DepF, BasF, List.getD_cons_zero, List.getD_cons_succ] at hf
      obtain ⟨⟨_, ⟨e14, i14⟩, rfl⟩, ⟨_, ⟨e16, i16⟩, rfl⟩, _⟩ := hf
      clear hbf
      have f1 := F1.out
      have w10 := W10.out
      have wr := WR.out
      have sm := SM.out w1
      refine Or.inl ⟨wanted_none rfl, ?_⟩
      rintro _ rfl
      go_simp <;> with_reducible rfl
    refine relG_pure (i := 7) (o := ⟨some 18, _, _, _, _, _⟩) (v := ?v8) [(2, 13, 4), (6, 17, 0)] [] rfl rfl (by kernel_rfl) (by kernel_rfl) (fun t w1 hB hf hbf => ?y8) ?n8
    case y8 =>
      simp only [DepF, BasF, List.getD_cons_zero, List.getD_cons_succ] at hf
      obtain ⟨⟨_, ⟨e13, i13⟩, rfl⟩, ⟨_, ⟨e17, i17⟩, rfl⟩, _⟩ := hf
      clear hbf
      have f1 := F1.out
      have w10 := W10.out
      have wr := WR.out
      refine Or.inl ⟨wanted_none rfl, ?_⟩
      rintro _ rfl
      go_simp <;> with_reducible rfl
    refine relG_call (i := 8) (o := ⟨some 5, _, _, _, _, _⟩) ((fun v w' => ∃ b, v = .pointer (some ⟨b, 0, none⟩) ∧ W.heap.size ≤ b ∧ w'.heap[b]? = some (.cells #[.int .i64 0, .string ⟨#[]⟩] 37 (0, 0)))) [] [] rfl rfl (by kernel_rfl) (by kernel_rfl) ((fun v w' w'' h hb => by obtain ⟨b, e1, e2, e3⟩ := h; exact ⟨b, e1, e2, boxStays e3 hb⟩)) ?_ ?_
    · intro t w1 hB hf hbf K hK
      clear hf
      clear hbf
      have f1 := F1.out
      have w10 := W10.out
      have wr := WR.out
      refine ⟨wanted_none rfl, ?_⟩
      go_simp
      exact hK.out _ _ (⟨_, rfl, hB.size, heap_alloc_new _ _⟩) (below_new _ _)
    refine relG_tail 9 [(0, 11, 8), (1, 12, 7), (2, 13, 6), (3, 14, 5), (4, 15, 4), (5, 16, 3), (6, 17, 2), (7, 18, 1), (8, 5, 0)] (by kernel_rfl) rfl (by kernel_rfl) (by kernel_rfl) (fun f wE hB hf => ?_) (by kernel_rfl)
    simp only [FinF, List.getD_cons_zero, List.getD_cons_succ] at hf
    obtain ⟨⟨_, e11, rfl⟩, ⟨_, e12, rfl⟩, ⟨_, e13, rfl⟩, ⟨_, e14, rfl⟩, ⟨_, e15, rfl⟩, ⟨_, e16, rfl⟩, ⟨_, e17, rfl⟩, ⟨_, e18, rfl⟩, ⟨_, e5, ⟨bb, rfl, hbb, hbr⟩⟩, _⟩ := hf
    simp only [regT, List.foldl_cons, List.foldl_nil, List.setIfInBounds_toArray, List.set_cons_zero, List.set_cons_succ, e11, e12, e13, e14, e15, e16, e17, e18, e5]
    clear e11 e12 e13 e14 e15 e16 e17 e18 e5
    change wpList _ _ _ [_] _ _
    have BR := Lib.hid hbr
    have hbs := (Array.getElem?_eq_some_iff.1 hbr).1
    have hB1 := Lib.hid hB
    clear hB hbr
    clear SM IX W10
    go_upto_region 5 with (refine wpList_store_row rfl 37 (.tmp 5) (.tmp 18) rfl bb #[.int .i64 r, .string l] rfl rfl 37 _ BR.out (by kernel_rfl) rfl (br_one _ _) ?_)
    simp only [Act.put]
    have hne : w.heap.size ≠ bb := by omega
    have y1 : (wE.setRow bb #[.int .i64 r, .string l]).heap[w.heap.size]? = _ := (setRow_other wE bb w.heap.size #[.int .i64 r, .string l] hne).trans (boxStays Y1.out hB1.out)
    have y2 := setRow_heap wE bb _ #[.int .i64 r, .string l] _ _ BR.out
    have c2 : Below w.heap.size w (wE.setRow bb #[.int .i64 r, .string l]) := below_setRow (C1.out.trans (hB1.out.mono (by omega))) (by omega) _
    generalize wE.setRow bb #[.int .i64 r, .string l] = W2 at *
    have Y2 := Lib.hid y1
    have Z2 := Lib.hid y2
    have C2 := Lib.hid c2
    clear y1 y2 c2 Y1 C1 BR hB1 hne
    obtain ⟨g, hg⟩ : ∃ g, IntKind.i64.wrap (num8 (k.data.toList.take 8)) = g := ⟨_, rfl⟩
    obtain ⟨m, hm⟩ : ∃ m, k.extract (k.size - 9) k.size = m := ⟨_, rfl⟩
    have hmd : m.data.toList = k.data.toList.drop (k.size - 9) := by
      rw [← hm]
      have := dlen k
      simp [List.take_of_length_le]
    have hms : 8 ≤ m.size := by
      have h1 := dlen m
      have h2 := dlen k
      rw [hmd, List.length_drop, h2] at h1
      omega
    obtain ⟨nn, hnn⟩ : ∃ nn, IntKind.i64.wrap (num8 (m.data.toList.take 8)) = nn := ⟨_, rfl⟩
    obtain ⟨ii, hii⟩ : ∃ ii, ((k.data.toList.getD (k.size - 1) 0).toNat : Int) = ii := ⟨_, rfl⟩
    have hib : 0 ≤ ii ∧ ii < 256 := by have := (k.data.toList.getD (k.size - 1) 0).toNat_lt; omega
    have WI := Lib.hid (wr64 hib.1 (by omega))
    have W9 : Hid (IntKind.i64.wrap ((k.size : Int) - 9) = ((k.size - 9 : Nat) : Int)) := Lib.hid (by rw [wr64 (by omega) (by omega)]; omega)
    have W11 : Hid (IntKind.i64.wrap ((k.size : Int) - 1) = ((k.size - 1 : Nat) : Int)) := Lib.hid (by rw [wr64 (by omega) (by omega)]; omega)
    have SF := Lib.hid (fun w' => sl_from (P := Try.prog) w' 9 Try.underlying9 k (k.size - 9) ((k.size - 9 : Nat) : Int) rfl (by omega))
    rw [hm] at SF
    have IX := Lib.hid (fun w' => ix_str (P := Try.prog) w' 9 Try.underlying9 k (k.size - 1) ((k.size - 1 : Nat) : Int) rfl (by omega))
    rw [hii] at IX
    have SV : Hid (svK k = ⟨g, r, l, nn, ii⟩) := Lib.hid (by unfold svK; rw [HR.out, HL.out, hg, hii, ← hmd, hnn])
    have K1 : Hid (∀ w', Calls Try.prog 138 #[.string k] w' fun e w'' => e = .returned (.int .i64 g) ∧ Below w'.heap.size w' w'') := Lib.hid (fun w' => by rw [← hg]; exact stp_back k w' (by omega))
    have K2 : Hid (∀ w', Calls Try.prog 138 #[.string m] w' fun e w'' => e = .returned (.int .i64 nn) ∧ Below w'.heap.size w' w'') := Lib.hid (fun w' => by rw [← hnn]; exact stp_back m w' hms)
    have hlz : l.size ≤ 9223372036854775807 := by have := ext_size k 9 (k.size - 10); rw [HL.out] at this; omega
    clear hg hm hmd hms hnn hii hib WR F1 HR HL
    have HKey := Lib.hid (fun w' => stp_same (svK k) k w' (by rw [SV.out]; exact hlz))
    rw [SV.out] at HKey
    simp only at HKey
    obtain ⟨res, hres⟩ : ∃ o : Option Sv, (if (⟨g, r, l, nn, ii⟩ : Sv).ok = true ∧ keyB (⟨g, r, l, nn, ii⟩ : Sv).st = k then some (⟨g, r, l, nn, ii⟩ : Sv) else none) = o := ⟨_, rfl⟩
    rw [hres] at HKey
    have HRES : Hid (ofK k = res) := Lib.hid (by rw [E.out, SV.out]; exact hres)
    obtain ⟨cs, en, hsto, hone⟩ : ∃ (c0 : Sv) (en : Int), stO res = .tuple #[.agg #[.int .i64 c0.g, .int .i64 c0.r, .string c0.l, .int .i64 c0.n, .int .i64 c0.i], .int .i64 en] ∧ True := by
      cases res with
      | none => exact ⟨⟨0, 0, ⟨#[]⟩, 0, 0⟩, 4, rfl, trivial⟩
      | some x => exact ⟨x, 0, rfl, trivial⟩
    rw [hsto] at HKey
    have HSTO := Lib.hid hsto
    obtain ⟨c0, c1, c2, c3, c4⟩ := cs
    simp only at HKey HSTO
    clear hres hsto hone E
    refine relG_start (slots := [19, 20, 21, 22, 23, 24, 25, 26, 27, 28, 29, 30, 31, 32, 33, 34, 35, 36, 37, 3]) (so := [19]) (by kernel_rfl) (by kernel_rfl) (by rfl) ?_
    refine relG_pure (i := 0) (o := ⟨some 19, _, _, _, _, _⟩) (v := ?v9) [] [0] rfl rfl (by kernel_rfl) (by kernel_rfl) (fun t w1 hB hf hbf => ?y9) ?n9
    case y9 =>
      simp only [DepF, BasF, List.getD_cons_zero, List.getD_cons_succ] at hbf
      clear hf
      obtain ⟨⟨b0, k0⟩, _⟩ := hbf
      have w9 := W9.out
      have w11 := W11.out
      have wi := WI.out
      have b2' := boxStays Z2.out hB
      have k0 := cell_of_row _ _ 0 _ _ _ b2'
      have k1' := cell_of_row _ _ 1 _ _ _ b2'
      clear b2'
      refine Or.inl ⟨wanted_none rfl, ?_⟩
      rintro _ rfl
      go_simp <;> with_reducible rfl
    refine relG_call (i := 1) (o := ⟨some 20, _, _, _, _, _⟩) ((fun v _ => v = .int .i64 g)) [(0, 19, 0)] [] rfl rfl (by kernel_rfl) (by kernel_rfl) ((fun _ _ _ h _ => h)) ?_ ?_
    · intro t w1 hB hf hbf K hK
      simp only [DepF, BasF, List.getD_cons_zero, List.getD_cons_succ] at hf
      obtain ⟨⟨_, ⟨e19, i19⟩, rfl⟩, _⟩ := hf
      clear hbf
      have w9 := W9.out
      have w11 := W11.out
      have wi := WI.out
      have b2' := boxStays Z2.out hB
      have k0 := cell_of_row _ _ 0 _ _ _ b2'
      have k1' := cell_of_row _ _ 1 _ _ _ b2'
      clear b2'
      refine ⟨wanted_none rfl, ?_⟩
      go_simp
      refine (K1.out w1).mono ?_
      rintro e w2 ⟨rfl, hb⟩
      exact hK.out _ w2 (rfl) hb
    refine relG_pure (i := 2) (o := ⟨some 21, _, _, _, _, _⟩) (v := ?v10) [] [5] rfl rfl (by kernel_rfl) (by kernel_rfl) (fun t w1 hB hf hbf => ?y10) ?n10
    case y10 =>
      simp only [DepF, BasF, List.getD_cons_zero, List.getD_cons_succ] at hbf
      clear hf
      obtain ⟨⟨b5, k5⟩, _⟩ := hbf
      have w9 := W9.out
      have w11 := W11.out
      have wi := WI.out
      have b2' := boxStays Z2.out hB
      have k0 := cell_of_row _ _ 0 _ _ _ b2'
      have k1' := cell_of_row _ _ 1 _ _ _ b2'
      clear b2'
      refine Or.inl ⟨wanted_none rfl, ?_⟩
      rintro _ rfl
      go_simp <;> with_reducible rfl
    refine relG_pure (i := 3) (o := ⟨some 22, _, _, _, _, _⟩) (v := ?v11) [] [0] rfl rfl (by kernel_rfl) (by kernel_rfl) (fun t w1 hB hf hbf => ?y11) ?n11
    case y11 =>
      simp only [DepF, BasF, List.getD_cons_zero, List.getD_cons_succ] at hbf
      clear hf
      obtain ⟨⟨b0, k0⟩, _⟩ := hbf
      have w9 := W9.out
      have w11 := W11.out
      have wi := WI.out
      have b2' := boxStays Z2.out hB
      have k0 := cell_of_row _ _ 0 _ _ _ b2'
      have k1' := cell_of_row _ _ 1 _ _ _ b2'
      clear b2'
      refine Or.inl ⟨wanted_none rfl, ?_⟩
      rintro _ rfl
      go_simp <;> with_reducible rfl
    refine relG_pure (i := 4) (o := ⟨some 23, _, _, _, _, _⟩) (v := ?v12) [] [4] rfl rfl (by kernel_rfl) (by kernel_rfl) (fun t w1 hB hf hbf => ?y12) ?n12
    case y12 =>
      simp only [DepF, BasF, List.getD_cons_zero, List.getD_cons_succ] at hbf
      clear hf
      obtain ⟨⟨b4, k4⟩, _⟩ := hbf
      have w9 := W9.out
      have w11 := W11.out
      have wi := WI.out
      have b2' := boxStays Z2.out hB
      have k0 := cell_of_row _ _ 0 _ _ _ b2'
      have k1' := cell_of_row _ _ 1 _ _ _ b2'
      clear b2'
      refine Or.inl ⟨wanted_none rfl, ?_⟩
      rintro _ rfl
      go_simp <;> with_reducible rfl
    refine relG_pure (i := 5) (o := ⟨some 24, _, _, _, _, _⟩) (v := ?v13) [(4, 23, 0)] [] rfl rfl (by kernel_rfl) (by kernel_rfl) (fun t w1 hB hf hbf => ?y13) ?n13
    case y13 =>
      simp only [DepF, BasF, List.getD_cons_zero, List.getD_cons_succ] at hf
      obtain ⟨⟨_, ⟨e23, i23⟩, rfl⟩, _⟩ := hf
      clear hbf
      have w9 := W9.out
      have w11 := W11.out
      have wi := WI.out
      have b2' := boxStays Z2.out hB
      have k0 := cell_of_row _ _ 0 _ _ _ b2'
      have k1' := cell_of_row _ _ 1 _ _ _ b2'
      clear b2'
      refine Or.inl ⟨wanted_none rfl, ?_⟩
      rintro _ rfl
      go_simp <;> with_reducible rfl
    refine relG_pure (i := 6) (o := ⟨some 25, _, _, _, _, _⟩) (v := ?v14) [(3, 22, 2), (5, 24, 0)] [] rfl rfl (by kernel_rfl) (by kernel_rfl) (fun t w1 hB hf hbf => ?y14) ?n14
    case y14 =>
      simp only [DepF, BasF, List.getD_cons_zero, List.getD_cons_succ] at hf
      obtain ⟨⟨_, ⟨e22, i22⟩, rfl⟩, ⟨_, ⟨e24, i24⟩, rfl⟩, _⟩ := hf
      clear hbf
      have w9 := W9.out
      have w11 := W11.out
      have wi := WI.out
      have b2' := boxStays Z2.out hB
      have k0 := cell_of_row _ _ 0 _ _ _ b2'
      have k1' := cell_of_row _ _ 1 _ _ _ b2'
      clear b2'
      have sf := SF.out w1
      refine Or.inl ⟨wanted_none rfl, ?_⟩
      rintro _ rfl
      go_simp <;> with_reducible rfl
    refine relG_call (i := 7) (o := ⟨some 26, _, _, _, _, _⟩) ((fun v _ => v = .int .i64 nn)) [(6, 25, 0)] [] rfl rfl (by kernel_rfl) (by kernel_rfl) ((fun _ _ _ h _ => h)) ?_ ?_
    · intro t w1 hB hf hbf K hK
      simp only [DepF, BasF, List.getD_cons_zero, List.getD_cons_succ] at hf
      obtain ⟨⟨_, ⟨e25, i25⟩, rfl⟩, _⟩ := hf
      clear hbf
      have w9 := W9.out
      have w11 := W11.out
      have wi := WI.out
      have b2' := boxStays Z2.out hB
      have k0 := cell_of_row _ _ 0 _ _ _ b2'
      have k1' := cell_of_row _ _ 1 _ _ _ b2'
      clear b2'
      refine ⟨wanted_none rfl, ?_⟩
      go_simp
      refine (K2.out w1).mono ?_
      rintro e w2 ⟨rfl, hb⟩
      exact hK.out _ w2 (rfl) hb
    refine relG_pure (i := 8) (o := ⟨some 27, _, _, _, _, _⟩) (v := ?v15) [(2, 21, 5), (7, 26, 0)] [] rfl rfl (by kernel_rfl) (by kernel_rfl) (fun t w1 hB hf hbf => ?y15) ?n15
    case y15 =>
      simp only [DepF, BasF, List.getD_cons_zero, List.getD_cons_succ] at hf
      obtain ⟨⟨_, ⟨e21, i21⟩, rfl⟩, ⟨_, ⟨e26, i26⟩, rfl⟩, _⟩ := hf
      clear hbf
      have w9 := W9.out
      have w11 := W11.out
      have wi := WI.out
      have b2' := boxStays Z2.out hB
      have k0 := cell_of_row _ _ 0 _ _ _ b2'
      have k1' := cell_of_row _ _ 1 _ _ _ b2'
      clear b2'
      refine Or.inl ⟨wanted_none rfl, ?_⟩
      rintro _ rfl
      go_simp <;> with_reducible rfl
    refine relG_pure (i := 9) (o := ⟨some 28, _, _, _, _, _⟩) (v := ?v16) [] [0] rfl rfl (by kernel_rfl) (by kernel_rfl) (fun t w1 hB hf hbf => ?y16) ?n16
    case y16 =>
      simp only [DepF, BasF, List.getD_cons_zero, List.getD_cons_succ] at hbf
      clear hf
      obtain ⟨⟨b0, k0⟩, _⟩ := hbf
      have w9 := W9.out
      have w11 := W11.out
      have wi := WI.out
      have b2' := boxStays Z2.out hB
      have k0 := cell_of_row _ _ 0 _ _ _ b2'
      have k1' := cell_of_row _ _ 1 _ _ _ b2'
      clear b2'
      refine Or.inl ⟨wanted_none rfl, ?_⟩
      rintro _ rfl
      go_simp <;> with_reducible rfl
    refine relG_pure (i := 10) (o := ⟨some 29, _, _, _, _, _⟩) (v := ?v17) [] [4] rfl rfl (by kernel_rfl) (by kernel_rfl) (fun t w1 hB hf hbf => ?y17) ?n17
    case y17 =>
      simp only [DepF, BasF, List.getD_cons_zero, List.getD_cons_succ] at hbf
      clear hf
      obtain ⟨⟨b4, k4⟩, _⟩ := hbf
      have w9 := W9.out
      have w11 := W11.out
      have wi := WI.out
      have b2' := boxStays Z2.out hB
      have k0 := cell_of_row _ _ 0 _ _ _ b2'
      have k1' := cell_of_row _ _ 1 _ _ _ b2'
      clear b2'
      refine Or.inl ⟨wanted_none rfl, ?_⟩
      rintro _ rfl
      go_simp <;> with_reducible rfl
    refine relG_pure (i := 11) (o := ⟨some 30, _, _, _, _, _⟩) (v := ?v18) [(10, 29, 0)] [] rfl rfl (by kernel_rfl) (by kernel_rfl) (fun t w1 hB hf hbf => ?y18) ?n18
    case y18 =>
      simp only [DepF, BasF, List.getD_cons_zero, List.getD_cons_succ] at hf
      obtain ⟨⟨_, ⟨e29, i29⟩, rfl⟩, _⟩ := hf
      clear hbf
      have w9 := W9.out
      have w11 := W11.out
      have wi := WI.out
      have b2' := boxStays Z2.out hB
      have k0 := cell_of_row _ _ 0 _ _ _ b2'
      have k1' := cell_of_row _ _ 1 _ _ _ b2'
      clear b2'
      refine Or.inl ⟨wanted_none rfl, ?_⟩
      rintro _ rfl
      go_simp <;> with_reducible rfl
    refine relG_pure (i := 12) (o := ⟨some 31, _, _, _, _, _⟩) (v := ?v19) [(9, 28, 2), (11, 30, 0)] [] rfl rfl (by kernel_rfl) (by kernel_rfl) (fun t w1 hB hf hbf => ?y19) ?n19
    case y19 =>
      simp only [DepF, BasF, List.getD_cons_zero, List.getD_cons_succ] at hf
      obtain ⟨⟨_, ⟨e28, i28⟩, rfl⟩, ⟨_, ⟨e30, i30⟩, rfl⟩, _⟩ := hf
      clear hbf
      have w9 := W9.out
      have w11 := W11.out
      have wi := WI.out
      have b2' := boxStays Z2.out hB
      have k0 := cell_of_row _ _ 0 _ _ _ b2'
      have k1' := cell_of_row _ _ 1 _ _ _ b2'
      clear b2'
      have ix := IX.out w1
      refine Or.inl ⟨wanted_none rfl, ?_⟩
      rintro _ rfl
      go_simp <;> with_reducible rfl
    refine relG_pure (i := 13) (o := ⟨some 32, _, _, _, _, _⟩) (v := ?v20) [(12, 31, 0)] [] rfl rfl (by kernel_rfl) (by kernel_rfl) (fun t w1 hB hf hbf => ?y20) ?n20
    case y20 =>
      simp only [DepF, BasF, List.getD_cons_zero, List.getD_cons_succ] at hf
      obtain ⟨⟨_, ⟨e31, i31⟩, rfl⟩, _⟩ := hf
      clear hbf
      have w9 := W9.out
      have w11 := W11.out
      have wi := WI.out
      have b2' := boxStays Z2.out hB
      have k0 := cell_of_row _ _ 0 _ _ _ b2'
      have k1' := cell_of_row _ _ 1 _ _ _ b2'
      clear b2'
      refine Or.inl ⟨wanted_none rfl, ?_⟩
      rintro _ rfl
      go_simp <;> with_reducible rfl
    refine relG_pure (i := 14) (o := ⟨some 33, _, _, _, _, _⟩) (v := ?v21) [(1, 20, 12), (8, 27, 5), (13, 32, 0)] [] rfl rfl (by kernel_rfl) (by kernel_rfl) (fun t w1 hB hf hbf => ?y21) ?n21
    case y21 =>
      simp only [DepF, BasF, List.getD_cons_zero, List.getD_cons_succ] at hf
      obtain ⟨⟨_, ⟨e20, i20⟩, rfl⟩, ⟨_, ⟨e27, i27⟩, rfl⟩, ⟨_, ⟨e32, i32⟩, rfl⟩, _⟩ := hf
      clear hbf
      have w9 := W9.out
      have w11 := W11.out
      have wi := WI.out
      have b2' := boxStays Z2.out hB
      have k0 := cell_of_row _ _ 0 _ _ _ b2'
      have k1' := cell_of_row _ _ 1 _ _ _ b2'
      clear b2'
      refine Or.inl ⟨wanted_none rfl, ?_⟩
      rintro _ rfl
      go_simp <;> with_reducible rfl
    refine relG_pure (i := 15) (o := ⟨some 34, _, _, _, _, _⟩) (v := ?v22) [] [0] rfl rfl (by kernel_rfl) (by kernel_rfl) (fun t w1 hB hf hbf => ?y22) ?n22
    case y22 =>
      simp only [DepF, BasF, List.getD_cons_zero, List.getD_cons_succ] at hbf
      clear hf
      obtain ⟨⟨b0, k0⟩, _⟩ := hbf
      have w9 := W9.out
      have w11 := W11.out
      have wi := WI.out
      have b2' := boxStays Z2.out hB
      have k0 := cell_of_row _ _ 0 _ _ _ b2'
      have k1' := cell_of_row _ _ 1 _ _ _ b2'
      clear b2'
      refine Or.inl ⟨wanted_none rfl, ?_⟩
      rintro _ rfl
      go_simp <;> with_reducible rfl
    refine relG_call (i := 16) (o := ⟨some 35, _, _, _, _, _⟩) ((fun v _ => v = .tuple #[.agg #[.int .i64 c0, .int .i64 c1, .string c2, .int .i64 c3, .int .i64 c4], .int .i64 en])) [(14, 33, 1), (15, 34, 0)] [] rfl rfl (by kernel_rfl) (by kernel_rfl) ((fun _ _ _ h _ => h)) ?_ ?_
    · intro t w1 hB hf hbf K hK
      simp only [DepF, BasF, List.getD_cons_zero, List.getD_cons_succ] at hf
      obtain ⟨⟨_, ⟨e33, i33⟩, rfl⟩, ⟨_, ⟨e34, i34⟩, rfl⟩, _⟩ := hf
      clear hbf
      have w9 := W9.out
      have w11 := W11.out
      have wi := WI.out
      have b2' := boxStays Z2.out hB
      have k0 := cell_of_row _ _ 0 _ _ _ b2'
      have k1' := cell_of_row _ _ 1 _ _ _ b2'
      clear b2'
      refine ⟨wanted_none rfl, ?_⟩
      go_simp
      refine (HKey.out w1).mono ?_
      rintro e w2 ⟨rfl, hb⟩
      exact hK.out _ w2 (rfl) hb
    refine relG_pure (i := 17) (o := ⟨some 36, _, _, _, _, _⟩) (v := ?v23) [(16, 35, 0)] [] rfl rfl (by kernel_rfl) (by kernel_rfl) (fun t w1 hB hf hbf => ?y23) ?n23
    case y23 =>
      simp only [DepF, BasF, List.getD_cons_zero, List.getD_cons_succ] at hf
      obtain ⟨⟨_, ⟨e35, i35⟩, rfl⟩, _⟩ := hf
      clear hbf
      have w9 := W9.out
      have w11 := W11.out
      have wi := WI.out
      have b2' := boxStays Z2.out hB
      have k0 := cell_of_row _ _ 0 _ _ _ b2'
      have k1' := cell_of_row _ _ 1 _ _ _ b2'
      clear b2'
      refine Or.inl ⟨wanted_none rfl, ?_⟩
      rintro _ rfl
      go_simp <;> with_reducible rfl
    refine relG_pure (i := 18) (o := ⟨some 37, _, _, _, _, _⟩) (v := ?v24) [(16, 35, 1)] [] rfl rfl (by kernel_rfl) (by kernel_rfl) (fun t w1 hB hf hbf => ?y24) ?n24
    case y24 =>
      simp only [DepF, BasF, List.getD_cons_zero, List.getD_cons_succ] at hf
      obtain ⟨⟨_, ⟨e35, i35⟩, rfl⟩, _⟩ := hf
      clear hbf
      have w9 := W9.out
      have w11 := W11.out
      have wi := WI.out
      have b2' := boxStays Z2.out hB
      have k0 := cell_of_row _ _ 0 _ _ _ b2'
      have k1' := cell_of_row _ _ 1 _ _ _ b2'
      clear b2'
      refine Or.inl ⟨wanted_none rfl, ?_⟩
      rintro _ rfl
      go_simp <;> with_reducible rfl
    refine relG_skip 19 rfl (by rfl) ?_ (by kernel_rfl)
    refine relG_pure (i := 20) (o := ⟨some 3, _, _, _, _, _⟩) (v := ?v25) [(18, 37, 1)] [] rfl rfl (by kernel_rfl) (by kernel_rfl) (fun t w1 hB hf hbf => ?y25) ?n25
    case y25 =>
      simp only [DepF, BasF, List.getD_cons_zero, List.getD_cons_succ] at hf
      obtain ⟨⟨_, ⟨e37, i37⟩, rfl⟩, _⟩ := hf
      clear hbf
      have w9 := W9.out
      have w11 := W11.out
      have wi := WI.out
      have b2' := boxStays Z2.out hB
      have k0 := cell_of_row _ _ 0 _ _ _ b2'
      have k1' := cell_of_row _ _ 1 _ _ _ b2'
      clear b2'
      refine Or.inl ⟨wanted_none rfl, ?_⟩
      rintro _ rfl
      go_simp <;> with_reducible rfl
    refine relG_stores [⟨19, w.heap.size, 36, 17⟩] [(0, 19, 20), (1, 20, 19), (2, 21, 18), (3, 22, 17), (4, 23, 16), (5, 24, 15), (6, 25, 14), (7, 26, 13), (8, 27, 12), (9, 28, 11), (10, 29, 10), (11, 30, 9), (12, 31, 8), (13, 32, 7), (14, 33, 6), (15, 34, 5), (16, 35, 4), (17, 36, 3), (18, 37, 2), (20, 3, 0)] [(0, 19, 20), (1, 20, 19), (2, 21, 18), (3, 22, 17), (4, 23, 16), (5, 24, 15), (6, 25, 14), (7, 26, 13), (8, 27, 12), (9, 28, 11), (10, 29, 10), (11, 30, 9), (12, 31, 8), (13, 32, 7), (14, 33, 6), (15, 34, 5), (16, 35, 4), (17, 36, 3), (18, 37, 2)] (by kernel_rfl) rfl rfl (by kernel_rfl) (by kernel_rfl) (by kernel_rfl) (by kernel_rfl) (by decide) (by simp only [List.map_cons, List.map_nil, List.nodup_cons, List.mem_cons, List.not_mem_nil, not_false_eq_true, List.nodup_nil, and_true, or_false] <;> omega) ?_ (fun f wE hB hf => ?_)
    · intro q hq
      simp only [List.mem_cons, List.not_mem_nil, or_false] at hq
      rcases hq with rfl
      · intro f w1 hB hf w2 hw2 K hK
        simp only [FinF, List.getD_cons_zero, List.getD_cons_succ] at hf
        obtain ⟨⟨_, e19, rfl⟩, ⟨_, e20, rfl⟩, ⟨_, e21, rfl⟩, ⟨_, e22, rfl⟩, ⟨_, e23, rfl⟩, ⟨_, e24, rfl⟩, ⟨_, e25, rfl⟩, ⟨_, e26, rfl⟩, ⟨_, e27, rfl⟩, ⟨_, e28, rfl⟩, ⟨_, e29, rfl⟩, ⟨_, e30, rfl⟩, ⟨_, e31, rfl⟩, ⟨_, e32, rfl⟩, ⟨_, e33, rfl⟩, ⟨_, e34, rfl⟩, ⟨_, e35, rfl⟩, ⟨_, e36, rfl⟩, ⟨_, e37, rfl⟩, _⟩ := hf
        have w9 := W9.out
        have w11 := W11.out
        have wi := WI.out
        have b2' := boxStays Z2.out hB
        have k0 := cell_of_row _ _ 0 _ _ _ b2'
        have k1' := cell_of_row _ _ 1 _ _ _ b2'
        clear b2'
        refine sto_row (i := 19) (b := w.heap.size) (cells := #[.int .i64 c0, .int .i64 c1, .string c2, .int .i64 c3, .int .i64 c4]) 41 2 36 _ _ rfl rfl rfl rfl (by rfl) (by rfl) (by rfl) (by rfl) e36 (hw2.trans (boxStays Y2.out hB)) (by kernel_rfl) rfl (st_one _ _ _ _ _) hK
    simp only [FinF, List.getD_cons_zero, List.getD_cons_succ] at hf
    obtain ⟨⟨_, e19, rfl⟩, ⟨_, e20, rfl⟩, ⟨_, e21, rfl⟩, ⟨_, e22, rfl⟩, ⟨_, e23, rfl⟩, ⟨_, e24, rfl⟩, ⟨_, e25, rfl⟩, ⟨_, e26, rfl⟩, ⟨_, e27, rfl⟩, ⟨_, e28, rfl⟩, ⟨_, e29, rfl⟩, ⟨_, e30, rfl⟩, ⟨_, e31, rfl⟩, ⟨_, e32, rfl⟩, ⟨_, e33, rfl⟩, ⟨_, e34, rfl⟩, ⟨_, e35, rfl⟩, ⟨_, e36, rfl⟩, ⟨_, e37, rfl⟩, ⟨_, e3, rfl⟩, _⟩ := hf
    simp only [EE, if_true, Value.cells, regT, List.foldl_cons, List.foldl_nil, List.setIfInBounds_toArray, List.set_cons_zero, List.set_cons_succ, e19, e20, e21, e22, e23, e24, e25, e26, e27, e28, e29, e30, e31, e32, e33, e34, e35, e36, e37, e3]
    clear e19 e20 e21 e22 e23 e24 e25 e26 e27 e28 e29 e30 e31 e32 e33 e34 e35 e36 e37 e3
    go_wp2_with fail
    have Y := setRow_heap wE w.heap.size _ #[.int .i64 c0, .int .i64 c1, .string c2, .int .i64 c3, .int .i64 c4] _ _ (boxStays Y2.out hB)
    have q0 := cell_of_row _ _ 0 _ _ _ Y
    have q1 := cell_of_row _ _ 1 _ _ _ Y
    have q2 := cell_of_row _ _ 2 _ _ _ Y
    have q3 := cell_of_row _ _ 3 _ _ _ Y
    have q4 := cell_of_row _ _ 4 _ _ _ Y
    refine bodyPost_ret (v := .tuple #[.agg #[.int .i64 c0, .int .i64 c1, .string c2, .int .i64 c3, .int .i64 c4], .int .i64 en]) (by simp [results, Try.results114, go_sem, q0, q1, q2, q3, q4]) rfl ?_
    exact ⟨by rw [HRES.out, HSTO.out], below_setRow (C2.out.trans (hB.mono C2.out.size)) (Nat.le_refl _) _⟩
end Go.Proofs.Ytnpiepimajippaa
namespace Go.Proofs.Ytnpiepimajippaa
namespace Pm
section
variable {α : Type}
def rn (N : Nat) : Tr α → Prop
  | .nil => False
  | .node b _ _ _ _ => N ≤ b
def hv (N : Nat) : Tr α → Prop
  | .nil => False
  | .node _ l _ _ r => (ht r < ht l ∧ rn N l) ∨ (ht l < ht r ∧ rn N r)
theorem bal_blocks {N : Nat} {l r t : Tr α} {k : ByteArray} {v : α} (h : BalR N l k v r t) : ∀ b ∈ blocks t, N ≤ b ∨ b ∈ blocks l ∨ b ∈ blocks r := by
  intro b hb
  cases h <;> simp only [blocks, List.mem_append, List.mem_cons] at hb ⊢ <;> grind
theorem put_blocks {N : Nat} {k : ByteArray} {v : α} {t t' : Tr α} (h : PutR N k v t t') : ∀ b ∈ blocks t', N ≤ b ∨ b ∈ blocks t := by
  induction h with
  | nil h => intro b hb; simp [blocks] at hb; subst hb; exact .inl h
  | lt h1 h2 h3 ih =>
    intro b hb
    rcases bal_blocks h3 b hb with h | h | h
    · exact .inl h
    · rcases ih b h with h | h
      · exact .inl h
      · exact .inr (by simp [blocks, h])
    · exact .inr (by simp [blocks, h])
  | gt h1 h2 h3 ih =>
    intro b hb
    rcases bal_blocks h3 b hb with h | h | h
    · exact .inl h
    · exact .inr (by simp [blocks, h])
    · rcases ih b h with h | h
      · exact .inl h
      · exact .inr (by simp [blocks, h])
  | eq h1 h2 =>
    intro b hb
    simp only [blocks, List.mem_append, List.mem_cons] at hb
    rcases hb with h | rfl | h
    · exact .inr (by simp [blocks, h])
    · exact .inl h2
    · exact .inr (by simp [blocks, h])
theorem join_blocks {N : Nat} {k : ByteArray} {v : α} {l r t : Tr α} (h : JoinR N k v l r t) : ∀ b ∈ blocks t, N ≤ b ∨ b ∈ blocks l ∨ b ∈ blocks r := by
  induction h with
  | left h1 h2 h3 ih =>
    intro b hb
    rcases bal_blocks h3 b hb with h | h | h
    · exact .inl h
    · exact .inr (.inl (by simp [blocks, h]))
    · rcases ih b h with h | h | h
      · exact .inl h
      · exact .inr (.inl (by simp [blocks, h]))
      · exact .inr (.inr h)
  | right h1 h2 h3 ih =>
    intro b hb
    rcases bal_blocks h3 b hb with h | h | h
    · exact .inl h
    · rcases ih b h with h | h | h
      · exact .inl h
      · exact .inr (.inl h)
      · exact .inr (.inr (by simp [blocks, h]))
    · exact .inr (.inr (by simp [blocks, h]))
  | same h1 h2 h3 =>
    intro b hb
    simp only [blocks, List.mem_append, List.mem_cons] at hb
    rcases hb with h | rfl | h
    · exact .inr (.inl h)
    · exact .inl h3
    · exact .inr (.inr h)
theorem split_blocks {N : Nat} {k : ByteArray} {t a x c : Tr α} (h : SplitR N k t a x c) : (∀ b ∈ blocks a, N ≤ b ∨ b ∈ blocks t) ∧ (∀ b ∈ blocks c, N ≤ b ∨ b ∈ blocks t) := by
  induction h with
  | nil => exact ⟨fun b hb => by simp [blocks] at hb, fun b hb => by simp [blocks] at hb⟩
  | lt h1 h2 h3 ih =>
    refine ⟨fun b hb => ?_, fun b hb => ?_⟩
    · rcases ih.1 b hb with h | h
      · exact .inl h
      · exact .inr (by simp [blocks, h])
    · rcases join_blocks h3 b hb with h | h | h
      · exact .inl h
      · rcases ih.2 b h with h | h
        · exact .inl h
        · exact .inr (by simp [blocks, h])
      · exact .inr (by simp [blocks, h])
  | gt h1 h2 h3 ih =>
    refine ⟨fun b hb => ?_, fun b hb => ?_⟩
    · rcases join_blocks h3 b hb with h | h | h
      · exact .inl h
      · exact .inr (by simp [blocks, h])
      · rcases ih.1 b h with h | h
        · exact .inl h
        · exact .inr (by simp [blocks, h])
    · rcases ih.2 b hb with h | h
      · exact .inl h
      · exact .inr (by simp [blocks, h])
  | eq h1 => exact ⟨fun b hb => .inr (by simp [blocks, hb]), fun b hb => .inr (by simp [blocks, hb])⟩
end
end Pm
end Go.Proofs.Ytnpiepimajippaa
namespace Go.Proofs.Ytnpiepimajippaa
namespace Pm
section
variable {α : Type}
def lk (z : α) : List (ByteArray × α) → ByteArray → α × Bool
  | [], _ => (z, false)
  | x :: l, k => if x.1 = k then (x.2, true) else lk z l k
theorem lk_none {z : α} {l : List (ByteArray × α)} {k : ByteArray} (h : ∀ x ∈ l, x.1 ≠ k) : lk z l k = (z, false) := by
  induction l with
  | nil => rfl
  | cons x l ih =>
    simp only [lk]
    rw [if_neg (h x List.mem_cons_self)]
    exact ih fun y hy => h y (List.mem_cons_of_mem _ hy)
theorem lk_left {z : α} {l m : List (ByteArray × α)} {k : ByteArray} (h : ∀ x ∈ m, x.1 ≠ k) : lk z (l ++ m) k = lk z l k := by
  induction l with
  | nil => exact lk_none h
  | cons x l ih =>
    simp only [List.cons_append, lk]
    rw [ih]
theorem lk_right {z : α} {l m : List (ByteArray × α)} {k : ByteArray} (h : ∀ x ∈ l, x.1 ≠ k) : lk z (l ++ m) k = lk z m k := by
  induction l with
  | nil => rfl
  | cons x l ih =>
    simp only [List.cons_append, lk]
    rw [if_neg (h x List.mem_cons_self)]
    exact ih fun y hy => h y (List.mem_cons_of_mem _ hy)
theorem lk_has {z : α} {l : List (ByteArray × α)} {k : ByteArray} : (lk z l k).2 = true ↔ ∃ x ∈ l, x.1 = k := by
  induction l with
  | nil => simp [lk]
  | cons x l ih =>
    simp only [lk]
    by_cases h : x.1 = k
    · rw [if_pos h]; exact ⟨fun _ => ⟨x, List.mem_cons_self, h⟩, fun _ => rfl⟩
    · rw [if_neg h, ih]
      constructor
      · rintro ⟨y, hy, e⟩; exact ⟨y, List.mem_cons_of_mem _ hy, e⟩
      · rintro ⟨y, hy, e⟩
        rcases List.mem_cons.1 hy with rfl | hy
        · exact absurd e h
        · exact ⟨y, hy, e⟩
theorem lk_not {z : α} {l : List (ByteArray × α)} {k : ByteArray} (h : (lk z l k).2 = false) : lk z l k = (z, false) :=
  lk_none fun x hx e => by
    have := (lk_has (z := z)).2 ⟨x, hx, e⟩
    rw [h] at this; cases this
theorem lk_mem {z : α} {l : List (ByteArray × α)} {k : ByteArray} {v : α} (hs : Srt l) (h : (k, v) ∈ l) : lk z l k = (v, true) := by
  induction l with
  | nil => cases h
  | cons x l ih =>
    obtain ⟨s1, s2⟩ := srt_cons.1 hs
    simp only [lk]
    rcases List.mem_cons.1 h with h | h
    · rw [if_pos (by rw [← h]), ← h]
    · rw [if_neg (klt_ne (s1 _ h)), ih s2 h]
def nrm (z : α) (p : α × Bool) : α × Bool := if p.2 = true then p else (z, false)
theorem nrm_lk {z : α} {l : List (ByteArray × α)} {k : ByteArray} : nrm z (lk z l k) = lk z l k := by
  unfold nrm
  by_cases h : (lk z l k).2 = true
  · rw [if_pos h]
  · rw [if_neg h, lk_not (by simpa using h)]
theorem split_lt {N : Nat} {k : ByteArray} {t a x c : Tr α} (h : SplitR N k t a x c) (hs : Srt (items t)) : (∀ y ∈ items a, klt y.1 k = true) ∧ (∀ y ∈ items c, klt k y.1 = true) := by
  induction h with
  | nil => exact ⟨fun y hy => (by cases hy), fun y hy => (by cases hy)⟩
  | lt h1 h2 h3 ih =>
    obtain ⟨s1, s2, s3⟩ := srt_append.1 hs
    obtain ⟨s4, s5⟩ := srt_cons.1 s2
    obtain ⟨i1, i2⟩ := ih s1
    refine ⟨i1, fun y hy => ?_⟩
    rw [h3.items] at hy
    rcases List.mem_append.1 hy with hy | hy
    · exact i2 y hy
    · rcases List.mem_cons.1 hy with rfl | hy
      · exact h1
      · exact klt_trans h1 (s4 y hy)
  | gt h1 h2 h3 ih =>
    obtain ⟨s1, s2, s3⟩ := srt_append.1 hs
    obtain ⟨s4, s5⟩ := srt_cons.1 s2
    obtain ⟨i1, i2⟩ := ih s5
    refine ⟨fun y hy => ?_, i2⟩
    rw [h3.items] at hy
    rcases List.mem_append.1 hy with hy | hy
    · exact klt_trans (s3 y hy _ List.mem_cons_self) h1
    · rcases List.mem_cons.1 hy with rfl | hy
      · exact h1
      · exact i1 y hy
  | eq h1 =>
    subst h1
    obtain ⟨s1, s2, s3⟩ := srt_append.1 hs
    obtain ⟨s4, s5⟩ := srt_cons.1 s2
    exact ⟨fun y hy => s3 y hy _ List.mem_cons_self, fun y hy => s4 y hy⟩
theorem split_mid {N : Nat} {k : ByteArray} {t a x c : Tr α} (h : SplitR N k t a x c) : here x = [] ∨ ∃ v, here x = [(k, v)] := by
  rw [h.seek]
  cases e : Pm.seek k t with
  | nil => exact .inl rfl
  | node b l k0 v0 r =>
    obtain ⟨rfl, _⟩ := seek_some e
    exact .inr ⟨v0, rfl⟩
structure Parts (z : α) (k : ByteArray) (t a x c : Tr α) : Prop where
  sa : Srt (items a)
  sc : Srt (items c)
  la : ∀ y ∈ items a, klt y.1 k = true
  lc : ∀ y ∈ items c, klt k y.1 = true
  ea : ∀ q, klt q k = true → lk z (items a) q = lk z (items t) q
  ec : ∀ q, klt k q = true → lk z (items c) q = lk z (items t) q
  ma : ∀ y ∈ items a, y ∈ items t
  mc : ∀ y ∈ items c, y ∈ items t
  ex : lk z (items t) k = lk z (here x) k
  sz : sz t = sz a + (here x).length + sz c
theorem SplitR.parts {N : Nat} {k : ByteArray} {t a x c : Tr α} (z : α) (h : SplitR N k t a x c) (hs : Srt (Pm.items t)) : Parts z k t a x c := by
  obtain ⟨h1, h2⟩ := split_lt h hs
  have hi := h.items
  have hm := split_mid h
  have hx : ∀ y ∈ here x, y.1 = k := by
    rcases hm with e | ⟨v, e⟩
    · rw [e]; intro y hy; cases hy
    · rw [e]; intro y hy; rw [List.mem_singleton.1 hy]
  have hs0 := hs
  rw [hi, List.append_assoc] at hs
  obtain ⟨s1, s2, _⟩ := srt_append.1 hs
  obtain ⟨_, s3, _⟩ := srt_append.1 s2
  refine ⟨s1, s3, h1, h2, fun q hq => ?_, fun q hq => ?_, fun y hy => ?_, fun y hy => ?_, ?_, ?_⟩
  · rw [hi, List.append_assoc, lk_left]
    intro y hy
    rcases List.mem_append.1 hy with hy | hy
    · rw [hx y hy]; exact Ne.symm (klt_ne hq)
    · exact Ne.symm (klt_ne (klt_trans hq (h2 y hy)))
  · rw [hi, lk_right]
    intro y hy
    rcases List.mem_append.1 hy with hy | hy
    · exact klt_ne (klt_trans (h1 y hy) hq)
    · rw [hx y hy]; exact klt_ne hq
  · rw [hi]; exact List.mem_append_left _ (List.mem_append_left _ hy)
  · rw [hi]; exact List.mem_append_right _ hy
  · rw [hi, List.append_assoc, lk_right (fun y hy => klt_ne (h1 y hy)), lk_left (fun y hy => Ne.symm (klt_ne (h2 y hy)))]
  · rw [← sz_items, hi, ← sz_items a, ← sz_items c]; simp; omega
def Dj (s a : Tr α) : Prop := ∀ b ∈ blocks s, b ∉ blocks a
structure WlkI (z : α) (B0 A0 O0 : ByteArray → α × Bool) (C : ByteArray → Prop) (s a o : Tr α) : Prop where
  ss : Srt (items s)
  sa : Srt (items a)
  so : Srt (items o)
  bs : Bal s
  ba : Bal a
  bo : Bal o
  es : ∀ k, C k → lk z (items s) k = B0 k
  ea : ∀ k, C k → lk z (items a) k = A0 k
  eo : ∀ k, C k → lk z (items o) k = O0 k
  ins : ∀ x ∈ items s, C x.1
  ina : ∀ x ∈ items a, C x.1
  ino : ∀ x ∈ items o, C x.1
structure WlkO (z : α) (R B0 A0 O0 : ByteArray → α × Bool) (C : ByteArray → Prop) (s a o m : Tr α) (asked : List ByteArray) : Prop where
  srt : Srt (items m)
  bal : Bal m
  inC : ∀ x ∈ items m, C x.1
  nd : asked.Nodup
  sub : ∀ k ∈ asked, C k ∧ ((A0 k).2 = true ∨ (O0 k).2 = true)
  len : asked.length ≤ sz a + sz o
  siz : sz m ≤ sz a + sz o
  ans : ∀ k, C k → (k ∈ asked ∧ lk z (items m) k = nrm z (R k)) ∨ (k ∉ asked ∧ (((A0 k = O0 k ∨ B0 k = O0 k) ∧ lk z (items m) k = A0 k) ∨ (B0 k = A0 k ∧ lk z (items m) k = O0 k ∧ (Dj s a → (B0 k).2 = false))))
variable {z : α} {R B0 A0 O0 : ByteArray → α × Bool} {C : ByteArray → Prop} {s a o : Tr α}
theorem WlkI.keepA (h : WlkI z B0 A0 O0 C s a o) (hq : ∀ k, C k → A0 k = O0 k ∨ B0 k = O0 k) : WlkO z R B0 A0 O0 C s a o a [] :=
  ⟨h.sa, h.ba, h.ina, List.nodup_nil, fun k hk => (by cases hk), Nat.zero_le _, Nat.le_add_right _ _, fun k hk => .inr ⟨by simp, .inl ⟨hq k hk, h.ea k hk⟩⟩⟩
theorem WlkI.same_ao (h : WlkI z B0 A0 O0 C s a o) (e : a = o) : WlkO z R B0 A0 O0 C s a o a [] :=
  h.keepA fun k hk => .inl (by rw [← h.ea k hk, ← h.eo k hk, e])
theorem WlkI.same_so (h : WlkI z B0 A0 O0 C s a o) (e : s = o) : WlkO z R B0 A0 O0 C s a o a [] :=
  h.keepA fun k hk => .inr (by rw [← h.es k hk, ← h.eo k hk, e])
theorem WlkI.same_sa (h : WlkI z B0 A0 O0 C s a o) (e : s = a) : WlkO z R B0 A0 O0 C s a o o [] :=
  ⟨h.so, h.bo, h.ino, List.nodup_nil, fun k hk => (by cases hk), Nat.zero_le _, Nat.le_add_left _ _, fun k hk => .inr ⟨by simp, .inr ⟨by rw [← h.es k hk, ← h.ea k hk, e], h.eo k hk, fun hd => by
    rw [← h.es k hk]
    cases s with
    | nil => rfl
    | node b l k v r => subst e; exact absurd (by simp [blocks]) (hd b (by simp [blocks]))⟩⟩⟩
theorem WlkI.left {key : ByteArray} {sl sx sr al ax ar ol ox or' : Tr α} {N1 N2 N3 : Nat} (h : WlkI z B0 A0 O0 C s a o) (h1 : SplitR N1 key s sl sx sr) (h2 : SplitR N2 key a al ax ar) (h3 : SplitR N3 key o ol ox or') :
    WlkI z B0 A0 O0 (fun k => C k ∧ klt k key = true) sl al ol ∧ WlkI z B0 A0 O0 (fun k => C k ∧ klt key k = true) sr ar or' := by
  have p1 := h1.parts z h.ss
  have p2 := h2.parts z h.sa
  have p3 := h3.parts z h.so
  exact ⟨⟨p1.sa, p2.sa, p3.sa, (h1.bal h.bs).1, (h2.bal h.ba).1, (h3.bal h.bo).1, fun k hk => (p1.ea k hk.2).trans (h.es k hk.1), fun k hk => (p2.ea k hk.2).trans (h.ea k hk.1), fun k hk => (p3.ea k hk.2).trans (h.eo k hk.1),
    fun x hx => ⟨h.ins x (p1.ma x hx), p1.la x hx⟩, fun x hx => ⟨h.ina x (p2.ma x hx), p2.la x hx⟩, fun x hx => ⟨h.ino x (p3.ma x hx), p3.la x hx⟩⟩,
    ⟨p1.sc, p2.sc, p3.sc, (h1.bal h.bs).2, (h2.bal h.ba).2, (h3.bal h.bo).2, fun k hk => (p1.ec k hk.2).trans (h.es k hk.1), fun k hk => (p2.ec k hk.2).trans (h.ea k hk.1), fun k hk => (p3.ec k hk.2).trans (h.eo k hk.1),
    fun x hx => ⟨h.ins x (p1.mc x hx), p1.lc x hx⟩, fun x hx => ⟨h.ina x (p2.mc x hx), p2.lc x hx⟩, fun x hx => ⟨h.ino x (p3.mc x hx), p3.lc x hx⟩⟩⟩
theorem said_up {m l : List (ByteArray × α)} {asked ks : List ByteArray} {s a s' a' : Tr α} {k : ByteArray} (hl : lk z m k = lk z l k) (ha : k ∈ asked ↔ k ∈ ks) (hd : Dj s a → Dj s' a')
    (h : (k ∈ ks ∧ lk z l k = nrm z (R k)) ∨ (k ∉ ks ∧ (((A0 k = O0 k ∨ B0 k = O0 k) ∧ lk z l k = A0 k) ∨ (B0 k = A0 k ∧ lk z l k = O0 k ∧ (Dj s' a' → (B0 k).2 = false))))) :
    (k ∈ asked ∧ lk z m k = nrm z (R k)) ∨ (k ∉ asked ∧ (((A0 k = O0 k ∨ B0 k = O0 k) ∧ lk z m k = A0 k) ∨ (B0 k = A0 k ∧ lk z m k = O0 k ∧ (Dj s a → (B0 k).2 = false)))) := by
  rw [hl, ha]
  rcases h with h | ⟨h1, h | ⟨h2, h3, h4⟩⟩
  · exact .inl h
  · exact .inr ⟨h1, .inl h⟩
  · exact .inr ⟨h1, .inr ⟨h2, h3, fun h => h4 (hd h)⟩⟩
theorem WlkO.step {key : ByteArray} {sl sx sr al ax ar ol ox or' l r m : Tr α} {as1 as2 : List ByteArray} {N1 N2 N3 : Nat} (h : WlkI z B0 A0 O0 C s a o) (hk : C key)
    (hx : 1 ≤ (here ax).length + (here ox).length)
    (h1 : SplitR N1 key s sl sx sr) (h2 : SplitR N2 key a al ax ar) (h3 : SplitR N3 key o ol ox or') (hd : Dj s a → Dj sl al ∧ Dj sr ar)
    (o1 : WlkO z R B0 A0 O0 (fun k => C k ∧ klt k key = true) sl al ol l as1) (o2 : WlkO z R B0 A0 O0 (fun k => C k ∧ klt key k = true) sr ar or' r as2)
    (hm : items m = items l ++ ((if (R key).2 = true then [(key, (R key).1)] else []) ++ items r)) (hb : Bal m) : WlkO z R B0 A0 O0 C s a o m (as1 ++ as2 ++ [key]) := by
  have p2 := h2.parts z h.sa
  have p3 := h3.parts z h.so
  have l1 : ∀ k ∈ as1, klt k key = true := fun k hk => (o1.sub k hk).1.2
  have l2 : ∀ k ∈ as2, klt key k = true := fun k hk => (o2.sub k hk).1.2
  have hmid : ∀ y ∈ (if (R key).2 = true then [(key, (R key).1)] else [] : List (ByteArray × α)), y.1 = key := by
    intro y hy
    split at hy
    · rw [List.mem_singleton.1 hy]
    · cases hy
  have hml : (if (R key).2 = true then [(key, (R key).1)] else [] : List (ByteArray × α)).length ≤ 1 := by split <;> simp
  generalize hq : (if (R key).2 = true then [(key, (R key).1)] else [] : List (ByteArray × α)) = mid at *
  refine ⟨?_, hb, ?_, ?_, ?_, ?_, ?_, ?_⟩
  · rw [hm]
    refine srt_append.2 ⟨o1.srt, srt_append.2 ⟨?_, o2.srt, fun x hx y hy => ?_⟩, fun x hx y hy => ?_⟩
    · rw [← hq]; split <;> simp [Srt]
    · rw [hmid x hx]; exact (o2.inC y hy).2
    · rcases List.mem_append.1 hy with hy | hy
      · rw [hmid y hy]; exact (o1.inC x hx).2
      · exact klt_trans (o1.inC x hx).2 (o2.inC y hy).2
  · intro x hx
    rw [hm] at hx
    rcases List.mem_append.1 hx with hx | hx
    · exact (o1.inC x hx).1
    · rcases List.mem_append.1 hx with hx | hx
      · rw [hmid x hx]; exact hk
      · exact (o2.inC x hx).1
  · rw [List.nodup_append, List.nodup_append]
    refine ⟨⟨o1.nd, o2.nd, fun x hx y hy e => ?_⟩, by simp, fun x hx y hy e => ?_⟩
    · subst e; have := klt_trans (l1 x hx) (l2 x hy); rw [klt_irrefl] at this; cases this
    · rw [List.mem_singleton.1 hy] at e
      subst e
      rcases List.mem_append.1 hx with hx | hx
      · have := l1 x hx; rw [klt_irrefl] at this; cases this
      · have := l2 x hx; rw [klt_irrefl] at this; cases this
  · intro k hk'
    rcases List.mem_append.1 hk' with hk' | hk'
    · rcases List.mem_append.1 hk' with hk' | hk'
      · exact ⟨(o1.sub k hk').1.1, (o1.sub k hk').2⟩
      · exact ⟨(o2.sub k hk').1.1, (o2.sub k hk').2⟩
    · rw [List.mem_singleton.1 hk']
      refine ⟨hk, ?_⟩
      have e2 : lk z (here ax) key = A0 key := by rw [← p2.ex]; exact h.ea key hk
      have e3 : lk z (here ox) key = O0 key := by rw [← p3.ex]; exact h.eo key hk
      rcases split_mid h2 with e | ⟨v, e⟩
      · rcases split_mid h3 with e' | ⟨v, e'⟩
        · rw [e, e'] at hx; simp at hx
        · right; rw [← e3, e']; simp [lk]
      · left; rw [← e2, e]; simp [lk]
  · have := o1.len; have := o2.len; have := p2.sz; have := p3.sz
    simp only [List.length_append, List.length_cons, List.length_nil]
    omega
  · have e1 : sz m = sz l + mid.length + sz r := by rw [← sz_items, hm, ← sz_items l, ← sz_items r]; simp; omega
    have := o1.siz; have := o2.siz; have := p2.sz; have := p3.sz
    omega
  · intro k hC
    by_cases hlt : klt k key = true
    · refine said_up (l := items l) (ks := as1) ?_ ?_ (fun h => (hd h).1) (o1.ans k ⟨hC, hlt⟩)
      · rw [hm, lk_left]
        intro y hy
        rcases List.mem_append.1 hy with hy | hy
        · rw [hmid y hy]; exact Ne.symm (klt_ne hlt)
        · exact Ne.symm (klt_ne (klt_trans hlt (o2.inC y hy).2))
      · simp only [List.mem_append, List.mem_singleton]
        constructor
        · rintro ((h | h) | h)
          · exact h
          · have := klt_trans hlt (l2 k h); rw [klt_irrefl] at this; cases this
          · exact absurd h (klt_ne hlt)
        · intro h; exact .inl (.inl h)
    · by_cases hgt : klt key k = true
      · refine said_up (l := items r) (ks := as2) ?_ ?_ (fun h => (hd h).2) (o2.ans k ⟨hC, hgt⟩)
        · rw [hm, lk_right (fun y hy => klt_ne (klt_trans (o1.inC y hy).2 hgt)), lk_right]
          intro y hy; rw [hmid y hy]; exact klt_ne hgt
        · simp only [List.mem_append, List.mem_singleton]
          constructor
          · rintro ((h | h) | h)
            · have := klt_trans (l1 k h) hgt; rw [klt_irrefl] at this; cases this
            · exact h
            · exact absurd h.symm (klt_ne hgt)
          · intro h; exact .inl (.inr h)
      · have e := klt_tri (by simpa using hlt) (by simpa using hgt)
        subst e
        refine .inl ⟨by simp, ?_⟩
        rw [hm, lk_right (fun y hy => klt_ne (o1.inC y hy).2), lk_left (fun y hy => Ne.symm (klt_ne (o2.inC y hy).2)), ← hq]
        unfold nrm
        split
        · simp [lk]; exact Prod.ext rfl (by simpa using (‹(R k).2 = true›).symm)
        · rfl
theorem WlkO.all {m : Tr α} {asked : List ByteArray} (h : WlkO z R B0 A0 O0 C s a o m asked) (k : ByteArray) (hk : C k) (h1 : A0 k = O0 k ∨ B0 k = O0 k → nrm z (R k) = A0 k) (h2 : B0 k = A0 k → nrm z (R k) = O0 k ∨ (Dj s a ∧ (B0 k).2 = true)) : lk z (items m) k = nrm z (R k) := by
  rcases h.ans k hk with ⟨_, h⟩ | ⟨_, ⟨h3, h4⟩ | ⟨h3, h4, h5⟩⟩
  · exact h
  · rw [h4, h1 h3]
  · rcases h2 h3 with h6 | ⟨h6, h7⟩
    · rw [h4, h6]
    · rw [h5 h6] at h7; cases h7
end
end Pm
end Go.Proofs.Ytnpiepimajippaa
