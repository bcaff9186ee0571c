/- Words, contracts and walks that the proof stands on (KyH Cells CellsB CellsN KyE StbZ StbV KsA KuC TxP KyL Grw). -/
import Derived.Deep.Cut
import Derived.Laws.DeepStrings4
import Derived.Laws.RangeAny
import Derived.Laws.StructEq
import Derived.Lib.Bytealg
import Derived.Lib.TrimUEq
import Derived.Lib.ValidAsc
import Derived.Lib.ValidU
import Derived.Shelf.Small.Strs
import Derived.Shelf.Small.Wraps
import Derived.Shelf.Strings.BuilderK
import Derived.Shelf.Strings.Cut
import Derived.Shelf.Unicode.ValidAny
import Derived.Sort.Grow
import Derived.Test.YtjlliohjeiclaaaGreatDoorKF1
import Derived.Test.YtjlliohjeiclaaaGreatDoorKF3
import Derived.Test.YtjlliohjeiclaaaGreatDoorKF4
import Derived.Test.YtjlliohjeiclaaaGreatDoorKF5
namespace Go.Proofs.YtjlliohjeiclaaaGreatDoor
open Go.RowKit St
theorem ext_size (k : ByteArray) (a b : Nat) : (k.extract a b).size ≤ k.size := by simp; omega
theorem wr64 {n : Int} (h0 : 0 ≤ n) (h1 : n < 9223372036854775808) : IntKind.i64.wrap n = n := by rw [IntKind.wrap_i64]; omega
theorem getD_get {k : ByteArray} {i : Nat} (h : i < k.size) : k[i] = k.data.toList.getD i 0 := by
 rw [get_data k i h, List.getD_eq_getElem?_getD, List.getElem?_eq_getElem]
 rfl
theorem sl_mid {P : Program} (w : World) (t : TypeId) (ht : P.underlying t = some .string) (s : ByteArray) (a b : Nat) (x y : Int) (hx : x = (a : Int)) (hy : y = (b : Int)) (ha : a ≤ b) (hb : b ≤ s.size) :
 (Instr.slice t (.string s) (some (.int .i64 x)) (some (.int .i64 y)) none).run P w = .ok (.string (s.extract a b)) w := by
 subst hx hy
 rw [run_slice_string_if w t s _ _ _ _ ht]
 rw [if_pos ⟨by omega, by omega⟩, if_pos ⟨by omega, by omega⟩]
 simp
theorem br_one (r : Int) (l : ByteArray) : (#[.int .i64 r, .string l] : Array Value).all (·.oneCell') = true := by simp [Value.oneCell']
theorem ix_str {P : Program} (w : World) (t : TypeId) (ht : P.underlying t = some .string) (s : ByteArray) (i : Nat) (x : Int) (hx : x = (i : Int)) (hi : i < s.size) :
 (Instr.index t (.string s) (.int .i64 x)).run P w = .ok (.int .u8 ((s.data.toList.getD i 0).toNat : Int)) w := by
 subst hx
 rw [run_index_string w t s _ _ ht, dif_pos ⟨by omega, by omega⟩]
 have := getD_get hi
 simp only [Int.toNat_natCast]
 rw [this]
theorem sl_from {P : Program} (w : World) (t : TypeId) (ht : P.underlying t = some .string) (s : ByteArray) (a : Nat) (x : Int) (hx : x = (a : Int)) (ha : a ≤ s.size) :
 (Instr.slice t (.string s) (some (.int .i64 x)) none none).run P w = .ok (.string (s.extract a s.size)) w := by
 subst hx
 rw [run_slice_string_l w t s ht .i64 _ (by omega) (by omega)]
 simp
set_option maxRecDepth 100000 in
set_option maxHeartbeats 2000000 in
theorem stp_OfKey (k : ByteArray) (w : World) (hs : k.size ≤ 9223372036854775807) : Calls Tryz.prog 115 #[.string k] w fun e w' => e = .returned (stO (ofK k)) ∧ Below w.heap.size w w' := by
 by_cases hlt : k.size < 19
 · have E : Hid (stO (ofK k) = .tuple #[.agg #[.int .i64 0, .int .i64 0, .string ⟨#[]⟩, .int .i64 0, .int .i64 0], .int .i64 4]) := Lib.hid (by rw [ofK_short hlt]; rfl)
   have X1 := Lib.hid (heap_alloc_new w (.cells #[.int .i64 0, .int .i64 0, .string ⟨#[]⟩, .int .i64 0, .int .i64 0] 43))
   go_enter Tryz.func115, Tryz.ntmps115
   go_wp2_with (refine wpList_store_row rfl 43 (.tmp 2) (.tmp 10) rfl w.heap.size #[.int .i64 0, .int .i64 0, .string ⟨#[]⟩, .int .i64 0, .int .i64 0] rfl rfl 43 _ X1.out (by kernel_rfl) rfl (st_one _ _ _ _ _) ?_)
   have Y := setRow_heap (w.alloc (.cells #[.int .i64 0, .int .i64 0, .string ⟨#[]⟩, .int .i64 0, .int .i64 0] 43)) w.heap.size _ #[.int .i64 0, .int .i64 0, .string ⟨#[]⟩, .int .i64 0, .int .i64 0] _ _ X1.out
   have q0 := cell_of_row _ _ 0 _ _ _ Y
   have q1 := cell_of_row _ _ 1 _ _ _ Y
   have q2 := cell_of_row _ _ 2 _ _ _ Y
   have q3 := cell_of_row _ _ 3 _ _ _ Y
   have q4 := cell_of_row _ _ 4 _ _ _ Y
   refine bodyPost_ret (v := .tuple #[.agg #[.int .i64 0, .int .i64 0, .string ⟨#[]⟩, .int .i64 0, .int .i64 0], .int .i64 4]) (by simp [results, Tryz.results115, go_sem, q0, q1, q2, q3, q4]) rfl ?_
   exact ⟨by rw [E.out], below_setRow (below_new _ _) (Nat.le_refl _) _⟩
 · have hge : 19 ≤ k.size := by omega
   have E := Lib.hid (ofK_long hge)
   have X1 := heap_alloc_new w (.cells #[.int .i64 0, .int .i64 0, .string ⟨#[]⟩, .int .i64 0, .int .i64 0] 43)
   have B1 := below_new w (.cells #[.int .i64 0, .int .i64 0, .string ⟨#[]⟩, .int .i64 0, .int .i64 0] 43)
   have hz : (w.alloc (.cells #[.int .i64 0, .int .i64 0, .string ⟨#[]⟩, .int .i64 0, .int .i64 0] 43)).heap.size = w.heap.size + 1 := by simp
   go_enter Tryz.func115, Tryz.ntmps115
   go_upto_region 4 with (fail)
   generalize w.alloc (.cells #[.int .i64 0, .int .i64 0, .string ⟨#[]⟩, .int .i64 0, .int .i64 0] 43) = W at *
   have f1 : (8 : Int) < (k.size : Int) := by omega
   have f2 : ((k.size : Int) - 10) = ((k.size - 10 : Nat) : Int) := by omega
   have w10 : IntKind.i64.wrap ((k.size : Int) - 10) = ((k.size - 10 : Nat) : Int) := by rw [wr64 (by omega) (by omega)]; omega
   have h8k : 8 < k.size := by omega
   have F1 := Lib.hid f1
   have W10 := Lib.hid w10
   obtain ⟨r, hr⟩ : ∃ r, ((k.data.toList.getD 8 0).toNat : Int) = r := ⟨_, rfl⟩
   obtain ⟨l, hl⟩ : ∃ l, k.extract 9 (k.size - 10) = l := ⟨_, rfl⟩
   have hrb : 0 ≤ r ∧ r < 256 := by have := (k.data.toList.getD 8 0).toNat_lt; omega
   have WR := Lib.hid (wr64 hrb.1 (by omega))
   have IX := Lib.hid (fun w' => ix_str (P := Tryz.prog) w' 9 Tryz.underlying9 k 8 8 rfl h8k)
   have SM := Lib.hid (fun w' => sl_mid (P := Tryz.prog) w' 9 Tryz.underlying9 k 9 (k.size - 10) 9 ((k.size - 10 : Nat) : Int) rfl rfl (by omega) (by omega))
   rw [hr] at IX
   rw [hl] at SM
   have HR := Lib.hid hr
   have HL := Lib.hid hl
   clear f1 f2 w10 hr hl hrb
   have Y1 := Lib.hid X1
   have C1 := Lib.hid B1
   clear X1 B1
   refine relG_start (slots := [11, 12, 13, 14, 15, 16, 17, 18, 5]) (so := []) (by kernel_rfl) (by kernel_rfl) (by rfl) ?_
   refine relG_pure (i := 0) (o := ⟨some 11, _, _, _, _, _⟩) (v := ?v1) [] [0] rfl rfl (by kernel_rfl) (by kernel_rfl) (fun t w1 hB hf hbf => ?y1) ?n1
   case y1 =>
    simp only [BasF] at hbf
    clear hf
    obtain ⟨⟨b0, k0⟩, _⟩ := hbf
    have f1 := F1.out
    have w10 := W10.out
    have wr := WR.out
    refine Or.inl ⟨wanted_none rfl, ?_⟩
    rintro _ rfl
    go_simp <;> with_reducible rfl
   refine relG_pure (i := 1) (o := ⟨some 12, _, _, _, _, _⟩) (v := ?v2) [(0, 11, 0)] [] rfl rfl (by kernel_rfl) (by kernel_rfl) (fun t w1 hB hf hbf => ?y2) ?n2
   case y2 =>
    simp only [DepF, List.getD_cons_zero] at hf
    obtain ⟨⟨_, ⟨e11, i11⟩, rfl⟩, _⟩ := hf
    clear hbf
    have f1 := F1.out
    have w10 := W10.out
    have wr := WR.out
    have ix := IX.out w1
    refine Or.inl ⟨wanted_none rfl, ?_⟩
    rintro _ rfl
    go_simp <;> with_reducible rfl
   refine relG_pure (i := 2) (o := ⟨some 13, _, _, _, _, _⟩) (v := ?v3) [(1, 12, 0)] [] rfl rfl (by kernel_rfl) (by kernel_rfl) (fun t w1 hB hf hbf => ?y3) ?n3
   case y3 =>
    simp only [DepF, List.getD_cons_zero] at hf
    obtain ⟨⟨_, ⟨e12, i12⟩, rfl⟩, _⟩ := hf
    clear hbf
    have f1 := F1.out
    have w10 := W10.out
    have wr := WR.out
    refine Or.inl ⟨wanted_none rfl, ?_⟩
    rintro _ rfl
    go_simp <;> with_reducible rfl
   refine relG_pure (i := 3) (o := ⟨some 14, _, _, _, _, _⟩) (v := ?v4) [] [0] rfl rfl (by kernel_rfl) (by kernel_rfl) (fun t w1 hB hf hbf => ?y4) ?n4
   case y4 =>
    simp only [BasF] at hbf
    clear hf
    obtain ⟨⟨b0, k0⟩, _⟩ := hbf
    have f1 := F1.out
    have w10 := W10.out
    have wr := WR.out
    refine Or.inl ⟨wanted_none rfl, ?_⟩
    rintro _ rfl
    go_simp <;> with_reducible rfl
   refine relG_pure (i := 4) (o := ⟨some 15, _, _, _, _, _⟩) (v := ?v5) [] [4] rfl rfl (by kernel_rfl) (by kernel_rfl) (fun t w1 hB hf hbf => ?y5) ?n5
   case y5 =>
    simp only [BasF] at hbf
    clear hf
    obtain ⟨⟨b4, k4⟩, _⟩ := hbf
    have f1 := F1.out
    have w10 := W10.out
    have wr := WR.out
    refine Or.inl ⟨wanted_none rfl, ?_⟩
    rintro _ rfl
    go_simp <;> with_reducible rfl
   refine relG_pure (i := 5) (o := ⟨some 16, _, _, _, _, _⟩) (v := ?v6) [(4, 15, 0)] [] rfl rfl (by kernel_rfl) (by kernel_rfl) (fun t w1 hB hf hbf => ?y6) ?n6
   case y6 =>
    simp only [DepF, List.getD_cons_zero] at hf
    obtain ⟨⟨_, ⟨e15, i15⟩, rfl⟩, _⟩ := hf
    clear hbf
    have f1 := F1.out
    have w10 := W10.out
    have wr := WR.out
    refine Or.inl ⟨wanted_none rfl, ?_⟩
    rintro _ rfl
    go_simp <;> with_reducible rfl
   refine relG_pure (i := 6) (o := ⟨some 17, _, _, _, _, _⟩) (v := ?v7) [(3, 14, 2), (5, 16, 0)] [] rfl rfl (by kernel_rfl) (by kernel_rfl) (fun t w1 hB hf hbf => ?y7) ?n7
   case y7 =>
    simp only [DepF, List.getD_cons_zero, List.getD_cons_succ] at hf
    obtain ⟨⟨_, ⟨e14, i14⟩, rfl⟩, ⟨_, ⟨e16, i16⟩, rfl⟩, _⟩ := hf
    clear hbf
    have f1 := F1.out
    have w10 := W10.out
    have wr := WR.out
    have sm := SM.out w1
    refine Or.inl ⟨wanted_none rfl, ?_⟩
    rintro _ rfl
    go_simp <;> with_reducible rfl
   refine relG_pure (i := 7) (o := ⟨some 18, _, _, _, _, _⟩) (v := ?v8) [(2, 13, 4), (6, 17, 0)] [] rfl rfl (by kernel_rfl) (by kernel_rfl) (fun t w1 hB hf hbf => ?y8) ?n8
   case y8 =>
    simp only [DepF, List.getD_cons_zero, List.getD_cons_succ] at hf
    obtain ⟨⟨_, ⟨e13, i13⟩, rfl⟩, ⟨_, ⟨e17, i17⟩, rfl⟩, _⟩ := hf
    clear hbf
    have f1 := F1.out
    have w10 := W10.out
    have wr := WR.out
    refine Or.inl ⟨wanted_none rfl, ?_⟩
    rintro _ rfl
    go_simp <;> with_reducible rfl
   refine relG_call (i := 8) (o := ⟨some 5, _, _, _, _, _⟩) ((fun v w' => ∃ b, v = .pointer (some ⟨b, 0, none⟩) ∧ W.heap.size ≤ b ∧ w'.heap[b]? = some (.cells #[.int .i64 0, .string ⟨#[]⟩] 39 (0, 0)))) [] [] rfl rfl (by kernel_rfl) (by kernel_rfl) ((fun v w' w'' h hb => by obtain ⟨b, e1, e2, e3⟩ := h; exact ⟨b, e1, e2, boxStays e3 hb⟩)) ?_ ?_
   · intro t w1 hB hf hbf K hK
     clear hf
     clear hbf
     have f1 := F1.out
     have w10 := W10.out
     have wr := WR.out
     refine ⟨wanted_none rfl, ?_⟩
     go_simp
     exact hK.out _ _ (⟨_, rfl, hB.size, heap_alloc_new _ _⟩) (below_new _ _)
   refine relG_tail 9 [(0, 11, 8), (1, 12, 7), (2, 13, 6), (3, 14, 5), (4, 15, 4), (5, 16, 3), (6, 17, 2), (7, 18, 1), (8, 5, 0)] (by kernel_rfl) rfl (by kernel_rfl) (by kernel_rfl) (fun f wE hB hf => ?_) (by kernel_rfl)
   simp only [FinF, List.getD_cons_zero, List.getD_cons_succ] at hf
   obtain ⟨⟨_, e11, rfl⟩, ⟨_, e12, rfl⟩, ⟨_, e13, rfl⟩, ⟨_, e14, rfl⟩, ⟨_, e15, rfl⟩, ⟨_, e16, rfl⟩, ⟨_, e17, rfl⟩, ⟨_, e18, rfl⟩, ⟨_, e5, ⟨bb, rfl, hbb, hbr⟩⟩, _⟩ := hf
   simp only [regT, List.foldl_cons, List.foldl_nil, List.setIfInBounds_toArray, List.set_cons_zero, List.set_cons_succ, e11, e12, e13, e14, e15, e16, e17, e18, e5]
   clear e11 e12 e13 e14 e15 e16 e17 e18 e5
   change wpList _ _ _ [_] _ _
   have BR := Lib.hid hbr
   have hbs := (Array.getElem?_eq_some_iff.1 hbr).1
   have hB1 := Lib.hid hB
   clear hB hbr
   clear SM IX W10
   go_upto_region 5 with (refine wpList_store_row rfl 39 (.tmp 5) (.tmp 18) rfl bb #[.int .i64 r, .string l] rfl rfl 39 _ BR.out (by kernel_rfl) rfl (br_one _ _) ?_)
   simp only [Act.put]
   have hne : w.heap.size ≠ bb := by omega
   have y1 : (wE.setRow bb #[.int .i64 r, .string l]).heap[w.heap.size]? = _ := (setRow_other wE bb w.heap.size #[.int .i64 r, .string l] hne).trans (boxStays Y1.out hB1.out)
   have y2 := setRow_heap wE bb _ #[.int .i64 r, .string l] _ _ BR.out
   have c2 : Below w.heap.size w (wE.setRow bb #[.int .i64 r, .string l]) := below_setRow (C1.out.trans (hB1.out.mono (by omega))) (by omega) _
   generalize wE.setRow bb #[.int .i64 r, .string l] = W2 at *
   have Y2 := Lib.hid y1
   have Z2 := Lib.hid y2
   have C2 := Lib.hid c2
   clear y1 y2 c2 Y1 C1 BR hB1 hne
   obtain ⟨g, hg⟩ : ∃ g, IntKind.i64.wrap (num8 (k.data.toList.take 8)) = g := ⟨_, rfl⟩
   obtain ⟨m, hm⟩ : ∃ m, k.extract (k.size - 9) k.size = m := ⟨_, rfl⟩
   have hmd : m.data.toList = k.data.toList.drop (k.size - 9) := by
    rw [← hm]
    have := dlen k
    simp [List.take_of_length_le]
   have hms : 8 ≤ m.size := by
    have h1 := dlen m
    have h2 := dlen k
    rw [hmd, List.length_drop, h2] at h1
    omega
   obtain ⟨nn, hnn⟩ : ∃ nn, IntKind.i64.wrap (num8 (m.data.toList.take 8)) = nn := ⟨_, rfl⟩
   obtain ⟨ii, hii⟩ : ∃ ii, ((k.data.toList.getD (k.size - 1) 0).toNat : Int) = ii := ⟨_, rfl⟩
   have hib : 0 ≤ ii ∧ ii < 256 := by have := (k.data.toList.getD (k.size - 1) 0).toNat_lt; omega
   have WI := Lib.hid (wr64 hib.1 (by omega))
   have W9 : Hid (IntKind.i64.wrap ((k.size : Int) - 9) = ((k.size - 9 : Nat) : Int)) := Lib.hid (by rw [wr64 (by omega) (by omega)]; omega)
   have W11 : Hid (IntKind.i64.wrap ((k.size : Int) - 1) = ((k.size - 1 : Nat) : Int)) := Lib.hid (by rw [wr64 (by omega) (by omega)]; omega)
   have SF := Lib.hid (fun w' => sl_from (P := Tryz.prog) w' 9 Tryz.underlying9 k (k.size - 9) ((k.size - 9 : Nat) : Int) rfl (by omega))
   rw [hm] at SF
   have IX := Lib.hid (fun w' => ix_str (P := Tryz.prog) w' 9 Tryz.underlying9 k (k.size - 1) ((k.size - 1 : Nat) : Int) rfl (by omega))
   rw [hii] at IX
   have SV : Hid (svK k = ⟨g, r, l, nn, ii⟩) := Lib.hid (by unfold svK; rw [HR.out, HL.out, hg, hii, ← hmd, hnn])
   have K1 : Hid (∀ w', Calls Tryz.prog 153 #[.string k] w' fun e w'' => e = .returned (.int .i64 g) ∧ Below w'.heap.size w' w'') := Lib.hid (fun w' => by rw [← hg]; exact stp_back k w' (by omega))
   have K2 : Hid (∀ w', Calls Tryz.prog 153 #[.string m] w' fun e w'' => e = .returned (.int .i64 nn) ∧ Below w'.heap.size w' w'') := Lib.hid (fun w' => by rw [← hnn]; exact stp_back m w' hms)
   have hlz : l.size ≤ 9223372036854775807 := by have := ext_size k 9 (k.size - 10); rw [HL.out] at this; omega
   clear hg hm hmd hms hnn hii hib WR F1 HR HL
   have HKey := Lib.hid (fun w' => stp_same (svK k) k w' (by rw [SV.out]; exact hlz))
   rw [SV.out] at HKey
   simp only at HKey
   obtain ⟨res, hres⟩ : ∃ o : Option Sv, (if (⟨g, r, l, nn, ii⟩ : Sv).ok = true ∧ keyB (⟨g, r, l, nn, ii⟩ : Sv).st = k then some (⟨g, r, l, nn, ii⟩ : Sv) else none) = o := ⟨_, rfl⟩
   rw [hres] at HKey
   have HRES : Hid (ofK k = res) := Lib.hid (by rw [E.out, SV.out]; exact hres)
   obtain ⟨cs, en, hsto, hone⟩ : ∃ (c0 : Sv) (en : Int), stO res = .tuple #[.agg #[.int .i64 c0.g, .int .i64 c0.r, .string c0.l, .int .i64 c0.n, .int .i64 c0.i], .int .i64 en] ∧ True := by
    cases res with
    | none => exact ⟨⟨0, 0, ⟨#[]⟩, 0, 0⟩, 4, rfl, trivial⟩
    | some x => exact ⟨x, 0, rfl, trivial⟩
   rw [hsto] at HKey
   have HSTO := Lib.hid hsto
   obtain ⟨c0, c1, c2, c3, c4⟩ := cs
   simp only at HKey HSTO
   clear hres hsto hone E
   refine relG_start (slots := [19, 20, 21, 22, 23, 24, 25, 26, 27, 28, 29, 30, 31, 32, 33, 34, 35, 36, 37, 3]) (so := [19]) (by kernel_rfl) (by kernel_rfl) (by rfl) ?_
   refine relG_pure (i := 0) (o := ⟨some 19, _, _, _, _, _⟩) (v := ?v9) [] [0] rfl rfl (by kernel_rfl) (by kernel_rfl) (fun t w1 hB hf hbf => ?y9) ?n9
   case y9 =>
    simp only [BasF] at hbf
    clear hf
    obtain ⟨⟨b0, k0⟩, _⟩ := hbf
    have w9 := W9.out
    have w11 := W11.out
    have wi := WI.out
    have b2' := boxStays Z2.out hB
    have k0 := cell_of_row _ _ 0 _ _ _ b2'
    have k1' := cell_of_row _ _ 1 _ _ _ b2'
    clear b2'
    refine Or.inl ⟨wanted_none rfl, ?_⟩
    rintro _ rfl
    go_simp <;> with_reducible rfl
   refine relG_call (i := 1) (o := ⟨some 20, _, _, _, _, _⟩) ((fun v _ => v = .int .i64 g)) [(0, 19, 0)] [] rfl rfl (by kernel_rfl) (by kernel_rfl) ((fun _ _ _ h _ => h)) ?_ ?_
   · intro t w1 hB hf hbf K hK
     simp only [DepF, List.getD_cons_zero] at hf
     obtain ⟨⟨_, ⟨e19, i19⟩, rfl⟩, _⟩ := hf
     clear hbf
     have w9 := W9.out
     have w11 := W11.out
     have wi := WI.out
     have b2' := boxStays Z2.out hB
     have k0 := cell_of_row _ _ 0 _ _ _ b2'
     have k1' := cell_of_row _ _ 1 _ _ _ b2'
     clear b2'
     refine ⟨wanted_none rfl, ?_⟩
     go_simp
     refine (K1.out w1).mono ?_
     rintro e w2 ⟨rfl, hb⟩
     exact hK.out _ w2 (rfl) hb
   refine relG_pure (i := 2) (o := ⟨some 21, _, _, _, _, _⟩) (v := ?v10) [] [5] rfl rfl (by kernel_rfl) (by kernel_rfl) (fun t w1 hB hf hbf => ?y10) ?n10
   case y10 =>
    simp only [BasF] at hbf
    clear hf
    obtain ⟨⟨b5, k5⟩, _⟩ := hbf
    have w9 := W9.out
    have w11 := W11.out
    have wi := WI.out
    have b2' := boxStays Z2.out hB
    have k0 := cell_of_row _ _ 0 _ _ _ b2'
    have k1' := cell_of_row _ _ 1 _ _ _ b2'
    clear b2'
    refine Or.inl ⟨wanted_none rfl, ?_⟩
    rintro _ rfl
    go_simp <;> with_reducible rfl
   refine relG_pure (i := 3) (o := ⟨some 22, _, _, _, _, _⟩) (v := ?v11) [] [0] rfl rfl (by kernel_rfl) (by kernel_rfl) (fun t w1 hB hf hbf => ?y11) ?n11
   case y11 =>
    simp only [BasF] at hbf
    clear hf
    obtain ⟨⟨b0, k0⟩, _⟩ := hbf
    have w9 := W9.out
    have w11 := W11.out
    have wi := WI.out
    have b2' := boxStays Z2.out hB
    have k0 := cell_of_row _ _ 0 _ _ _ b2'
    have k1' := cell_of_row _ _ 1 _ _ _ b2'
    clear b2'
    refine Or.inl ⟨wanted_none rfl, ?_⟩
    rintro _ rfl
    go_simp <;> with_reducible rfl
   refine relG_pure (i := 4) (o := ⟨some 23, _, _, _, _, _⟩) (v := ?v12) [] [4] rfl rfl (by kernel_rfl) (by kernel_rfl) (fun t w1 hB hf hbf => ?y12) ?n12
   case y12 =>
    simp only [BasF] at hbf
    clear hf
    obtain ⟨⟨b4, k4⟩, _⟩ := hbf
    have w9 := W9.out
    have w11 := W11.out
    have wi := WI.out
    have b2' := boxStays Z2.out hB
    have k0 := cell_of_row _ _ 0 _ _ _ b2'
    have k1' := cell_of_row _ _ 1 _ _ _ b2'
    clear b2'
    refine Or.inl ⟨wanted_none rfl, ?_⟩
    rintro _ rfl
    go_simp <;> with_reducible rfl
   refine relG_pure (i := 5) (o := ⟨some 24, _, _, _, _, _⟩) (v := ?v13) [(4, 23, 0)] [] rfl rfl (by kernel_rfl) (by kernel_rfl) (fun t w1 hB hf hbf => ?y13) ?n13
   case y13 =>
    simp only [DepF, List.getD_cons_zero] at hf
    obtain ⟨⟨_, ⟨e23, i23⟩, rfl⟩, _⟩ := hf
    clear hbf
    have w9 := W9.out
    have w11 := W11.out
    have wi := WI.out
    have b2' := boxStays Z2.out hB
    have k0 := cell_of_row _ _ 0 _ _ _ b2'
    have k1' := cell_of_row _ _ 1 _ _ _ b2'
    clear b2'
    refine Or.inl ⟨wanted_none rfl, ?_⟩
    rintro _ rfl
    go_simp <;> with_reducible rfl
   refine relG_pure (i := 6) (o := ⟨some 25, _, _, _, _, _⟩) (v := ?v14) [(3, 22, 2), (5, 24, 0)] [] rfl rfl (by kernel_rfl) (by kernel_rfl) (fun t w1 hB hf hbf => ?y14) ?n14
   case y14 =>
    simp only [DepF, List.getD_cons_zero, List.getD_cons_succ] at hf
    obtain ⟨⟨_, ⟨e22, i22⟩, rfl⟩, ⟨_, ⟨e24, i24⟩, rfl⟩, _⟩ := hf
    clear hbf
    have w9 := W9.out
    have w11 := W11.out
    have wi := WI.out
    have b2' := boxStays Z2.out hB
    have k0 := cell_of_row _ _ 0 _ _ _ b2'
    have k1' := cell_of_row _ _ 1 _ _ _ b2'
    clear b2'
    have sf := SF.out w1
    refine Or.inl ⟨wanted_none rfl, ?_⟩
    rintro _ rfl
    go_simp <;> with_reducible rfl
   refine relG_call (i := 7) (o := ⟨some 26, _, _, _, _, _⟩) ((fun v _ => v = .int .i64 nn)) [(6, 25, 0)] [] rfl rfl (by kernel_rfl) (by kernel_rfl) ((fun _ _ _ h _ => h)) ?_ ?_
   · intro t w1 hB hf hbf K hK
     simp only [DepF, List.getD_cons_zero] at hf
     obtain ⟨⟨_, ⟨e25, i25⟩, rfl⟩, _⟩ := hf
     clear hbf
     have w9 := W9.out
     have w11 := W11.out
     have wi := WI.out
     have b2' := boxStays Z2.out hB
     have k0 := cell_of_row _ _ 0 _ _ _ b2'
     have k1' := cell_of_row _ _ 1 _ _ _ b2'
     clear b2'
     refine ⟨wanted_none rfl, ?_⟩
     go_simp
     refine (K2.out w1).mono ?_
     rintro e w2 ⟨rfl, hb⟩
     exact hK.out _ w2 (rfl) hb
   refine relG_pure (i := 8) (o := ⟨some 27, _, _, _, _, _⟩) (v := ?v15) [(2, 21, 5), (7, 26, 0)] [] rfl rfl (by kernel_rfl) (by kernel_rfl) (fun t w1 hB hf hbf => ?y15) ?n15
   case y15 =>
    simp only [DepF, List.getD_cons_zero, List.getD_cons_succ] at hf
    obtain ⟨⟨_, ⟨e21, i21⟩, rfl⟩, ⟨_, ⟨e26, i26⟩, rfl⟩, _⟩ := hf
    clear hbf
    have w9 := W9.out
    have w11 := W11.out
    have wi := WI.out
    have b2' := boxStays Z2.out hB
    have k0 := cell_of_row _ _ 0 _ _ _ b2'
    have k1' := cell_of_row _ _ 1 _ _ _ b2'
    clear b2'
    refine Or.inl ⟨wanted_none rfl, ?_⟩
    rintro _ rfl
    go_simp <;> with_reducible rfl
   refine relG_pure (i := 9) (o := ⟨some 28, _, _, _, _, _⟩) (v := ?v16) [] [0] rfl rfl (by kernel_rfl) (by kernel_rfl) (fun t w1 hB hf hbf => ?y16) ?n16
   case y16 =>
    simp only [BasF] at hbf
    clear hf
    obtain ⟨⟨b0, k0⟩, _⟩ := hbf
    have w9 := W9.out
    have w11 := W11.out
    have wi := WI.out
    have b2' := boxStays Z2.out hB
    have k0 := cell_of_row _ _ 0 _ _ _ b2'
    have k1' := cell_of_row _ _ 1 _ _ _ b2'
    clear b2'
    refine Or.inl ⟨wanted_none rfl, ?_⟩
    rintro _ rfl
    go_simp <;> with_reducible rfl
   refine relG_pure (i := 10) (o := ⟨some 29, _, _, _, _, _⟩) (v := ?v17) [] [4] rfl rfl (by kernel_rfl) (by kernel_rfl) (fun t w1 hB hf hbf => ?y17) ?n17
   case y17 =>
    simp only [BasF] at hbf
    clear hf
    obtain ⟨⟨b4, k4⟩, _⟩ := hbf
    have w9 := W9.out
    have w11 := W11.out
    have wi := WI.out
    have b2' := boxStays Z2.out hB
    have k0 := cell_of_row _ _ 0 _ _ _ b2'
    have k1' := cell_of_row _ _ 1 _ _ _ b2'
    clear b2'
    refine Or.inl ⟨wanted_none rfl, ?_⟩
    rintro _ rfl
    go_simp <;> with_reducible rfl
   refine relG_pure (i := 11) (o := ⟨some 30, _, _, _, _, _⟩) (v := ?v18) [(10, 29, 0)] [] rfl rfl (by kernel_rfl) (by kernel_rfl) (fun t w1 hB hf hbf => ?y18) ?n18
   case y18 =>
    simp only [DepF, List.getD_cons_zero] at hf
    obtain ⟨⟨_, ⟨e29, i29⟩, rfl⟩, _⟩ := hf
    clear hbf
    have w9 := W9.out
    have w11 := W11.out
    have wi := WI.out
    have b2' := boxStays Z2.out hB
    have k0 := cell_of_row _ _ 0 _ _ _ b2'
    have k1' := cell_of_row _ _ 1 _ _ _ b2'
    clear b2'
    refine Or.inl ⟨wanted_none rfl, ?_⟩
    rintro _ rfl
    go_simp <;> with_reducible rfl
   refine relG_pure (i := 12) (o := ⟨some 31, _, _, _, _, _⟩) (v := ?v19) [(9, 28, 2), (11, 30, 0)] [] rfl rfl (by kernel_rfl) (by kernel_rfl) (fun t w1 hB hf hbf => ?y19) ?n19
   case y19 =>
    simp only [DepF, List.getD_cons_zero, List.getD_cons_succ] at hf
    obtain ⟨⟨_, ⟨e28, i28⟩, rfl⟩, ⟨_, ⟨e30, i30⟩, rfl⟩, _⟩ := hf
    clear hbf
    have w9 := W9.out
    have w11 := W11.out
    have wi := WI.out
    have b2' := boxStays Z2.out hB
    have k0 := cell_of_row _ _ 0 _ _ _ b2'
    have k1' := cell_of_row _ _ 1 _ _ _ b2'
    clear b2'
    have ix := IX.out w1
    refine Or.inl ⟨wanted_none rfl, ?_⟩
    rintro _ rfl
    go_simp <;> with_reducible rfl
   refine relG_pure (i := 13) (o := ⟨some 32, _, _, _, _, _⟩) (v := ?v20) [(12, 31, 0)] [] rfl rfl (by kernel_rfl) (by kernel_rfl) (fun t w1 hB hf hbf => ?y20) ?n20
   case y20 =>
    simp only [DepF, List.getD_cons_zero] at hf
    obtain ⟨⟨_, ⟨e31, i31⟩, rfl⟩, _⟩ := hf
    clear hbf
    have w9 := W9.out
    have w11 := W11.out
    have wi := WI.out
    have b2' := boxStays Z2.out hB
    have k0 := cell_of_row _ _ 0 _ _ _ b2'
    have k1' := cell_of_row _ _ 1 _ _ _ b2'
    clear b2'
    refine Or.inl ⟨wanted_none rfl, ?_⟩
    rintro _ rfl
    go_simp <;> with_reducible rfl
   refine relG_pure (i := 14) (o := ⟨some 33, _, _, _, _, _⟩) (v := ?v21) [(1, 20, 12), (8, 27, 5), (13, 32, 0)] [] rfl rfl (by kernel_rfl) (by kernel_rfl) (fun t w1 hB hf hbf => ?y21) ?n21
   case y21 =>
    simp only [DepF, List.getD_cons_zero, List.getD_cons_succ] at hf
    obtain ⟨⟨_, ⟨e20, i20⟩, rfl⟩, ⟨_, ⟨e27, i27⟩, rfl⟩, ⟨_, ⟨e32, i32⟩, rfl⟩, _⟩ := hf
    clear hbf
    have w9 := W9.out
    have w11 := W11.out
    have wi := WI.out
    have b2' := boxStays Z2.out hB
    have k0 := cell_of_row _ _ 0 _ _ _ b2'
    have k1' := cell_of_row _ _ 1 _ _ _ b2'
    clear b2'
    refine Or.inl ⟨wanted_none rfl, ?_⟩
    rintro _ rfl
    go_simp <;> with_reducible rfl
   refine relG_pure (i := 15) (o := ⟨some 34, _, _, _, _, _⟩) (v := ?v22) [] [0] rfl rfl (by kernel_rfl) (by kernel_rfl) (fun t w1 hB hf hbf => ?y22) ?n22
   case y22 =>
    simp only [BasF] at hbf
    clear hf
    obtain ⟨⟨b0, k0⟩, _⟩ := hbf
    have w9 := W9.out
    have w11 := W11.out
    have wi := WI.out
    have b2' := boxStays Z2.out hB
    have k0 := cell_of_row _ _ 0 _ _ _ b2'
    have k1' := cell_of_row _ _ 1 _ _ _ b2'
    clear b2'
    refine Or.inl ⟨wanted_none rfl, ?_⟩
    rintro _ rfl
    go_simp <;> with_reducible rfl
   refine relG_call (i := 16) (o := ⟨some 35, _, _, _, _, _⟩) ((fun v _ => v = .tuple #[.agg #[.int .i64 c0, .int .i64 c1, .string c2, .int .i64 c3, .int .i64 c4], .int .i64 en])) [(14, 33, 1), (15, 34, 0)] [] rfl rfl (by kernel_rfl) (by kernel_rfl) ((fun _ _ _ h _ => h)) ?_ ?_
   · intro t w1 hB hf hbf K hK
     simp only [DepF, List.getD_cons_zero, List.getD_cons_succ] at hf
     obtain ⟨⟨_, ⟨e33, i33⟩, rfl⟩, ⟨_, ⟨e34, i34⟩, rfl⟩, _⟩ := hf
     clear hbf
     have w9 := W9.out
     have w11 := W11.out
     have wi := WI.out
     have b2' := boxStays Z2.out hB
     have k0 := cell_of_row _ _ 0 _ _ _ b2'
     have k1' := cell_of_row _ _ 1 _ _ _ b2'
     clear b2'
     refine ⟨wanted_none rfl, ?_⟩
     go_simp
     refine (HKey.out w1).mono ?_
     rintro e w2 ⟨rfl, hb⟩
     exact hK.out _ w2 (rfl) hb
   refine relG_pure (i := 17) (o := ⟨some 36, _, _, _, _, _⟩) (v := ?v23) [(16, 35, 0)] [] rfl rfl (by kernel_rfl) (by kernel_rfl) (fun t w1 hB hf hbf => ?y23) ?n23
   case y23 =>
    simp only [DepF, List.getD_cons_zero] at hf
    obtain ⟨⟨_, ⟨e35, i35⟩, rfl⟩, _⟩ := hf
    clear hbf
    have w9 := W9.out
    have w11 := W11.out
    have wi := WI.out
    have b2' := boxStays Z2.out hB
    have k0 := cell_of_row _ _ 0 _ _ _ b2'
    have k1' := cell_of_row _ _ 1 _ _ _ b2'
    clear b2'
    refine Or.inl ⟨wanted_none rfl, ?_⟩
    rintro _ rfl
    go_simp <;> with_reducible rfl
   refine relG_pure (i := 18) (o := ⟨some 37, _, _, _, _, _⟩) (v := ?v24) [(16, 35, 1)] [] rfl rfl (by kernel_rfl) (by kernel_rfl) (fun t w1 hB hf hbf => ?y24) ?n24
   case y24 =>
    simp only [DepF, List.getD_cons_zero, List.getD_cons_succ] at hf
    obtain ⟨⟨_, ⟨e35, i35⟩, rfl⟩, _⟩ := hf
    clear hbf
    have w9 := W9.out
    have w11 := W11.out
    have wi := WI.out
    have b2' := boxStays Z2.out hB
    have k0 := cell_of_row _ _ 0 _ _ _ b2'
    have k1' := cell_of_row _ _ 1 _ _ _ b2'
    clear b2'
    refine Or.inl ⟨wanted_none rfl, ?_⟩
    rintro _ rfl
    go_simp <;> with_reducible rfl
   refine relG_skip 19 rfl (by rfl) ?_ (by kernel_rfl)
   refine relG_pure (i := 20) (o := ⟨some 3, _, _, _, _, _⟩) (v := ?v25) [(18, 37, 1)] [] rfl rfl (by kernel_rfl) (by kernel_rfl) (fun t w1 hB hf hbf => ?y25) ?n25
   case y25 =>
    simp only [DepF, List.getD_cons_zero, List.getD_cons_succ] at hf
    obtain ⟨⟨_, ⟨e37, i37⟩, rfl⟩, _⟩ := hf
    clear hbf
    have w9 := W9.out
    have w11 := W11.out
    have wi := WI.out
    have b2' := boxStays Z2.out hB
    have k0 := cell_of_row _ _ 0 _ _ _ b2'
    have k1' := cell_of_row _ _ 1 _ _ _ b2'
    clear b2'
    refine Or.inl ⟨wanted_none rfl, ?_⟩
    rintro _ rfl
    go_simp <;> with_reducible rfl
   refine relG_stores [⟨19, w.heap.size, 36, 17⟩] [(0, 19, 20), (1, 20, 19), (2, 21, 18), (3, 22, 17), (4, 23, 16), (5, 24, 15), (6, 25, 14), (7, 26, 13), (8, 27, 12), (9, 28, 11), (10, 29, 10), (11, 30, 9), (12, 31, 8), (13, 32, 7), (14, 33, 6), (15, 34, 5), (16, 35, 4), (17, 36, 3), (18, 37, 2), (20, 3, 0)] [(0, 19, 20), (1, 20, 19), (2, 21, 18), (3, 22, 17), (4, 23, 16), (5, 24, 15), (6, 25, 14), (7, 26, 13), (8, 27, 12), (9, 28, 11), (10, 29, 10), (11, 30, 9), (12, 31, 8), (13, 32, 7), (14, 33, 6), (15, 34, 5), (16, 35, 4), (17, 36, 3), (18, 37, 2)] (by kernel_rfl) rfl rfl (by kernel_rfl) (by kernel_rfl) (by kernel_rfl) (by kernel_rfl) (by decide) (by simp <;> omega) ?_ (fun f wE hB hf => ?_)
   · intro q hq
     simp at hq
     rcases hq with rfl
     · intro f w1 hB hf w2 hw2 K hK
       simp only [FinF, List.getD_cons_zero, List.getD_cons_succ] at hf
       obtain ⟨⟨_, e19, rfl⟩, ⟨_, e20, rfl⟩, ⟨_, e21, rfl⟩, ⟨_, e22, rfl⟩, ⟨_, e23, rfl⟩, ⟨_, e24, rfl⟩, ⟨_, e25, rfl⟩, ⟨_, e26, rfl⟩, ⟨_, e27, rfl⟩, ⟨_, e28, rfl⟩, ⟨_, e29, rfl⟩, ⟨_, e30, rfl⟩, ⟨_, e31, rfl⟩, ⟨_, e32, rfl⟩, ⟨_, e33, rfl⟩, ⟨_, e34, rfl⟩, ⟨_, e35, rfl⟩, ⟨_, e36, rfl⟩, ⟨_, e37, rfl⟩, _⟩ := hf
       have w9 := W9.out
       have w11 := W11.out
       have wi := WI.out
       have b2' := boxStays Z2.out hB
       have k0 := cell_of_row _ _ 0 _ _ _ b2'
       have k1' := cell_of_row _ _ 1 _ _ _ b2'
       clear b2'
       refine sto_row (i := 19) (b := w.heap.size) (cells := #[.int .i64 c0, .int .i64 c1, .string c2, .int .i64 c3, .int .i64 c4]) 43 2 36 _ _ rfl rfl rfl rfl (by rfl) (by rfl) (by rfl) (by rfl) e36 (hw2.trans (boxStays Y2.out hB)) (by kernel_rfl) rfl (st_one _ _ _ _ _) hK
   simp only [FinF, List.getD_cons_zero, List.getD_cons_succ] at hf
   obtain ⟨⟨_, e19, rfl⟩, ⟨_, e20, rfl⟩, ⟨_, e21, rfl⟩, ⟨_, e22, rfl⟩, ⟨_, e23, rfl⟩, ⟨_, e24, rfl⟩, ⟨_, e25, rfl⟩, ⟨_, e26, rfl⟩, ⟨_, e27, rfl⟩, ⟨_, e28, rfl⟩, ⟨_, e29, rfl⟩, ⟨_, e30, rfl⟩, ⟨_, e31, rfl⟩, ⟨_, e32, rfl⟩, ⟨_, e33, rfl⟩, ⟨_, e34, rfl⟩, ⟨_, e35, rfl⟩, ⟨_, e36, rfl⟩, ⟨_, e37, rfl⟩, ⟨_, e3, rfl⟩, _⟩ := hf
   simp only [EE, if_true, Value.cells, regT, List.foldl_cons, List.foldl_nil, List.setIfInBounds_toArray, List.set_cons_zero, List.set_cons_succ, e19, e20, e21, e22, e23, e24, e25, e26, e27, e28, e29, e30, e31, e32, e33, e34, e35, e36, e37, e3]
   clear e19 e20 e21 e22 e23 e24 e25 e26 e27 e28 e29 e30 e31 e32 e33 e34 e35 e36 e37 e3
   go_wp2_with fail
   have Y := setRow_heap wE w.heap.size _ #[.int .i64 c0, .int .i64 c1, .string c2, .int .i64 c3, .int .i64 c4] _ _ (boxStays Y2.out hB)
   have q0 := cell_of_row _ _ 0 _ _ _ Y
   have q1 := cell_of_row _ _ 1 _ _ _ Y
   have q2 := cell_of_row _ _ 2 _ _ _ Y
   have q3 := cell_of_row _ _ 3 _ _ _ Y
   have q4 := cell_of_row _ _ 4 _ _ _ Y
   refine bodyPost_ret (v := .tuple #[.agg #[.int .i64 c0, .int .i64 c1, .string c2, .int .i64 c3, .int .i64 c4], .int .i64 en]) (by simp [results, Tryz.results115, go_sem, q0, q1, q2, q3, q4]) rfl ?_
   exact ⟨by rw [HRES.out, HSTO.out], below_setRow (C2.out.trans (hB.mono C2.out.size)) (Nat.le_refl _) _⟩
end Go.Proofs.YtjlliohjeiclaaaGreatDoor
namespace Go.Proofs.YtjlliohjeiclaaaGreatDoor
open Go.RowKit
def CellsAt (w : World) (a : Option Addr) (vs : List Value) : Prop := ∀ i (h : i < vs.length), ∃ b off, a = some ⟨b, off, none⟩ ∧ w.cell? ⟨b, off + i, none⟩ = some vs[i]
theorem CellsAt.nil (w : World) (a : Option Addr) : CellsAt w a [] := fun i h => by simp at h
theorem CellsAt.below {w w' : World} {a : Option Addr} {vs : List Value} {B : Nat} (h : CellsAt w a vs) (hb : Below B w w') (hB : B = w.heap.size) : CellsAt w' a vs := by
 intro i hi
 obtain ⟨b, off, rfl, hc⟩ := h i hi
 have hl := cell_lt hc
 exact ⟨b, off, rfl, by rw [hb.cell (p := ⟨b, off + i, none⟩) (by simpa [hB] using hl)]; exact hc⟩
theorem CellsAt.new (w : World) (t : TypeId) (fr : Nat × Nat) (vs : List Value) : CellsAt (w.alloc (.cells vs.toArray t fr)) (some ⟨w.heap.size, 0, none⟩) vs := by
 intro i hi
 refine ⟨w.heap.size, 0, rfl, ?_⟩
 rw [Nat.zero_add, cell_new]
 simp
theorem CellsAt.get {w : World} {a : Option Addr} {vs : List Value} (h : CellsAt w a vs) (i : Nat) (v : Value) (hi : vs[i]? = some v) : ∃ b off, a = some ⟨b, off, none⟩ ∧ w.cell? ⟨b, off + i, none⟩ = some v := by
 obtain ⟨hlt, e⟩ := List.getElem?_eq_some_iff.1 hi
 obtain ⟨b, off, h1, h2⟩ := h i hlt
 exact ⟨b, off, h1, by rw [h2, e]⟩
theorem CellsAt.own {w : World} {base n : Nat} {e : TypeId} {a : Option Addr} {len cap : Nat} {vs : List Value} (h : w.ownsRow base e 1 (.slice a len cap) n vs) : CellsAt w a vs := by
 intro i hi
 obtain ⟨g, rfl, _, hc, _⟩ := own_cell h i vs[i] (by simp [hi])
 exact ⟨g, 0, rfl, by rw [Nat.zero_add]; exact hc⟩
end Go.Proofs.YtjlliohjeiclaaaGreatDoor
namespace Go.Proofs.YtjlliohjeiclaaaGreatDoor
open Go.RowKit
theorem CellsAt.take {w : World} {a : Option Addr} {vs : List Value} (h : CellsAt w a vs) (k : Nat) : CellsAt w a (vs.take k) := by
 intro i hi
 obtain ⟨b, off, e, c⟩ := h i (by simp at hi; omega)
 exact ⟨b, off, e, by rw [c]; simp⟩
theorem CellsAt.drop {w : World} {a : Option Addr} {vs : List Value} (h : CellsAt w a vs) (k : Nat) : CellsAt w (Option.map (fun x => x.add k) a) (vs.drop k) := by
 intro i hi
 obtain ⟨b, off, rfl, c⟩ := h (k + i) (by simp at hi; omega)
 exact ⟨b, off + k, by simp [Addr_add], by rw [show off + k + i = off + (k + i) by omega, c]; simp⟩
theorem CellsAt.src {P : Program} {w : World} {a : Option Addr} {vs : List Value} {size n : Nat} (h : CellsAt w a vs) (hlen : vs.length = n * size) (hone : ∀ u ∈ vs, u.oneCell' = true) {tx e' : TypeId} (hk : P.underlying tx = some (.slice e')) (cap : Nat) (hsz : size = 1 ∨ size = 2) : Src P size tx (.slice a n cap) n vs w := by
 cases a with
 | none =>
  have : vs = [] := by
   cases vs with
   | nil => rfl
   | cons c r => obtain ⟨b, off, hh, _⟩ := h 0 (by simp); cases hh
  subst this
  have hn : n = 0 := by rcases hsz with rfl | rfl <;> (simp only [List.length_nil] at hlen; omega)
  subst hn
  exact Src.ofNil w hk cap
 | some a =>
  refine Src.ofSlice w hk a _ cap vs hlen (fun j u hu => ?_) hone
  obtain ⟨hj, he⟩ := List.getElem?_eq_some_iff.1 hu
  obtain ⟨b, off, hh, hc⟩ := h j hj
  cases hh
  rw [Addr_add, hc, he]
def subN (a : Option Addr) (cap l size : Nat) : Option Addr := if cap = l then a else a.map (·.add (l * size))
theorem run_from {P : Program} (w : World) (t e : TypeId) (ht : P.underlying t = some (.slice e)) (size : Nat) (hz : ∀ w, (Go.sizeOf e).run P w = .ok size w) (a : Option Addr) (len cap l : Nat) (x : Int) (hx : x = (l : Int)) (hl : l ≤ len) :
 (Instr.slice t (.slice a len cap) (some (.int .i64 x)) none none).run P w = .ok (.slice (subN a cap l size) (len - l) (cap - l)) w := by
 have ht' : P.underlying t = some (.slice (P.elem t)) := by simp [Program.elem, ht]
 have he : P.elem t = e := by simp [Program.elem, ht]
 subst hx
 rw [run_slice_l w t _ _ _ ht' .i64 _ (by omega) (by omega), he, hz]
 simp [Result.andThen, sliced, subN]
theorem CellsAt.one {P : Program} (w : World) (t : TypeId) (v : Value) (hv : v.oneCell' = true) {tx e' : TypeId} (hk : P.underlying tx = some (.slice e')) : Src P 1 tx (.slice (some ⟨w.heap.size, 0, none⟩) 1 1) 1 [v] (w.alloc (.cells #[v] t)) :=
 (CellsAt.new w t (0, 0) [v]).src (n := 1) rfl (by simp [hv]) hk 1 (Or.inl rfl)
end Go.Proofs.YtjlliohjeiclaaaGreatDoor
namespace Go.Proofs.YtjlliohjeiclaaaGreatDoor
open Go.RowKit
theorem CellsAt.srcN {P : Program} {w : World} {a : Option Addr} {vs : List Value} {size n : Nat} (h : CellsAt w a vs) (hlen : vs.length = n * size) (hone : ∀ u ∈ vs, u.oneCell' = true) {tx e' : TypeId} (hk : P.underlying tx = some (.slice e')) (cap : Nat) (hsz : 0 < size) : Src P size tx (.slice a n cap) n vs w := by
 cases a with
 | none =>
  have : vs = [] := by
   cases vs with
   | nil => rfl
   | cons c r => obtain ⟨b, off, hh, _⟩ := h 0 (by simp); cases hh
  subst this
  have hn : n = 0 := by
   rw [List.length_nil] at hlen
   rcases Nat.eq_zero_or_pos n with h0 | h0
   · exact h0
   · have := Nat.mul_pos h0 hsz; omega
  subst hn
  exact Src.ofNil w hk cap
 | some a =>
  refine Src.ofSlice w hk a _ cap vs hlen (fun j u hu => ?_) hone
  obtain ⟨hj, he⟩ := List.getElem?_eq_some_iff.1 hu
  obtain ⟨b, off, hh, hc⟩ := h j hj
  cases hh
  rw [Addr_add, hc, he]
theorem CellsAt.ownN {w : World} {base n size : Nat} {e : TypeId} {a : Option Addr} {len cap : Nat} {vs : List Value} (h : w.ownsRow base e size (.slice a len cap) n vs) : CellsAt w a vs := by
 intro i hi
 rcases h.2 with ⟨hv, hn⟩ | ⟨g, cap', cur, hv, hb, hg, hnc, _, hcs, ht⟩
 · have := h.1
   rw [hn] at this
   omega
 · cases hv
   refine ⟨g, 0, rfl, ?_⟩
   rw [Nat.zero_add]
   have h1 := cell_of_row w g i cur e (0, 0) hg
   rw [h1]
   have h2 : cur.toList.take vs.length = vs := by have := h.1; first | exact ht | (rw [this]; exact ht)
   have h3 : (cur.toList.take vs.length)[i]? = some vs[i] := by rw [h2]; simp [hi]
   rw [List.getElem?_take_of_lt hi] at h3
   simpa using h3
theorem cellsAt_made {w w8 : World} {vs : List Value} {t : TypeId} (hw : w8 = w.alloc (.cells vs.toArray t)) : CellsAt w8 (some ⟨w.heap.size, 0, none⟩) vs := by rw [hw]; exact CellsAt.new _ _ _ vs
theorem grown_none {w w' : World} (h : w.grownBy w' none) : Below w.heap.size w w' := ⟨h.os, h.tape, h.output, h.size, fun k hk => h.block k hk (fun e => by cases e)⟩
theorem step_app {P : Program} {w : World} {ops : Array Oper} {o : Oper} {a : Act} {K : Act → World → Prop} {Q : Exit → Act → World → Prop} {E : Prop} (hgd : o.guard = none) (s x : Operand) (t tx : TypeId)
 (ho : o.op = .call { callee := .builtin .append, args := #[s, x], argTypes := #[t, tx] })
 (base : Nat) (e : TypeId) (z : Value) (size bytes : Nat) (ht : ElemT P t e z size bytes)
 (v : Value) (n : Nat) (xs : List Value) (hv : a.eval s = v) (hown : w.ownsRow base e size v n xs)
 (xv : Value) (m : Nat) (news : List Value) (hx : a.eval x = xv) (hs : Src P size tx xv m news w)
 (hlen : n + m ≤ maxLen) (hby : (n + m) * bytes ≤ 140737488355328) (hbase : base ≤ w.heap.size)
 (h : ∀ v' w', w'.ownsRow base e size v' (n + m) (xs ++ news) → w.grownBy w' v.ownBlock → Below base w w' → (v'.ownBlock = v.ownBlock ∨ v'.ownBlock = some w.heap.size) → K (a.put o.dst v') w') :
 if Region.wanted o (yielded ops a.tmps) = true then Oper.wp P o a w K Q else E := by
 have hw : Region.wanted o (yielded ops a.tmps) = true := by simp [Region.wanted, hgd]
 rw [if_pos hw]
 obtain ⟨h1, i, h2, h3, h4, h5, h6⟩ := ht
 obtain ⟨v', w', hr, g2, g3, g4, _⟩ := run_append_own_src (P := P) w base t tx o.type e i z size bytes h1 h2 h3 h4 h5 h6 v n xs hown xv m news hs hlen hby hbase
 unfold Oper.wp execOp
 simp only [ho, resolve, invoke, builtin, Sem.run_bind, Sem.run_pure, Result.andThen_ok, List.map_toArray, List.map_cons, List.map_nil, hv, hx, hr]
 exact h v' w' g2 g3 (below_of_grown hown hbase g3) g4
end Go.Proofs.YtjlliohjeiclaaaGreatDoor
namespace Go.Proofs.YtjlliohjeiclaaaGreatDoor
open Go.RowKit St
def elV (e : Ev) : List Value := [.int .i64 e.1.g, .int .i64 e.1.r, .string e.1.l, .int .i64 e.1.n, .int .i64 e.1.i, .string e.2]
def elsV (l : List Ev) : List Value := l.flatMap elV
theorem elsV_nil : elsV [] = [] := rfl
theorem elsV_cons (e : Ev) (l : List Ev) : elsV (e :: l) = elV e ++ elsV l := rfl
theorem elsV_append (l m : List Ev) : elsV (l ++ m) = elsV l ++ elsV m := by unfold elsV; rw [List.flatMap_append]
theorem elsV_length (l : List Ev) : (elsV l).length = l.length * 6 := by
 induction l with
 | nil => rfl
 | cons e l ih => rw [elsV_cons, List.length_append, ih, List.length_cons]; simp [elV]; omega
theorem elsV_one (l : List Ev) : ∀ u ∈ elsV l, u.oneCell' = true := fun u hu => by
 unfold elsV at hu
 obtain ⟨e, _, hu⟩ := List.mem_flatMap.1 hu
 simp only [elV, List.mem_cons, List.not_mem_nil, or_false] at hu
 rcases hu with rfl | rfl | rfl | rfl | rfl | rfl <;> rfl
theorem elsV_take (l : List Ev) (k : Nat) : elsV (l.take k) = (elsV l).take (k * 6) := by
 induction l generalizing k with
 | nil => simp [elsV_nil]
 | cons e l ih =>
  cases k with
  | zero => simp [elsV_nil]
  | succ k =>
   rw [List.take_succ_cons, elsV_cons, elsV_cons, ih, List.take_append, show (elV e).length = 6 from rfl, show (k + 1) * 6 - 6 = k * 6 by omega, List.take_of_length_le (l := elV e) (by show 6 ≤ _; omega)]
theorem elsV_drop (l : List Ev) (k : Nat) : elsV (l.drop k) = (elsV l).drop (k * 6) := by
 induction l generalizing k with
 | nil => simp [elsV_nil]
 | cons e l ih =>
  cases k with
  | zero => simp
  | succ k =>
   rw [List.drop_succ_cons, elsV_cons, ih, List.drop_append, show (elV e).length = 6 from rfl, show (k + 1) * 6 - 6 = k * 6 by omega, List.drop_of_length_le (l := elV e) (by show 6 ≤ _; omega), List.nil_append]
theorem elsV_get (l : List Ev) (k j : Nat) (hk : k < l.length) (hj : j < 6) : (elsV l)[k * 6 + j]? = (elV l[k])[j]? := by
 have h1 : (elsV l).drop (k * 6) = elV l[k] ++ elsV (l.drop (k + 1)) := by rw [← elsV_drop, List.drop_eq_getElem_cons hk, elsV_cons]
 rw [← List.getElem?_drop, h1, List.getElem?_append_left (by show j < 6; exact hj)]
structure ElCell (w : World) (b o : Nat) (e : Ev) : Prop where
 c0 : w.cell? ⟨b, o, none⟩ = some (.int .i64 e.1.g)
 c1 : w.cell? ⟨b, o + 1, none⟩ = some (.int .i64 e.1.r)
 c2 : w.cell? ⟨b, o + 2, none⟩ = some (.string e.1.l)
 c3 : w.cell? ⟨b, o + 3, none⟩ = some (.int .i64 e.1.n)
 c4 : w.cell? ⟨b, o + 4, none⟩ = some (.int .i64 e.1.i)
 c5 : w.cell? ⟨b, o + 5, none⟩ = some (.string e.2)
theorem els_get {w : World} {a : Option Addr} {l : List Ev} (h : CellsAt w a (elsV l)) (k : Nat) (hk : k < l.length) : ∃ b off, a = some ⟨b, off, none⟩ ∧ ElCell w b (off + k * 6) l[k] := by
 have g : ∀ j v, j < 6 → (elV l[k])[j]? = some v → ∃ b off, a = some ⟨b, off, none⟩ ∧ w.cell? ⟨b, off + (k * 6 + j), none⟩ = some v := fun j v hj hv => h.get _ v (by rw [elsV_get l k j hk hj, hv])
 obtain ⟨b, off, rfl, q0⟩ := g 0 _ (by omega) rfl
 refine ⟨b, off, rfl, ?_⟩
 obtain ⟨_, _, e1, q1⟩ := g 1 _ (by omega) rfl
 obtain ⟨_, _, e2, q2⟩ := g 2 _ (by omega) rfl
 obtain ⟨_, _, e3, q3⟩ := g 3 _ (by omega) rfl
 obtain ⟨_, _, e4, q4⟩ := g 4 _ (by omega) rfl
 obtain ⟨_, _, e5, q5⟩ := g 5 _ (by omega) rfl
 cases e1; cases e2; cases e3; cases e4; cases e5
 exact ⟨by simpa using q0, by simpa [Nat.add_assoc] using q1, by simpa [Nat.add_assoc] using q2, by simpa [Nat.add_assoc] using q3, by simpa [Nat.add_assoc] using q4, by simpa [Nat.add_assoc] using q5⟩
theorem elT : ElemT Tryz.prog 22 53 (.agg #[.int .i64 0, .int .i64 0, .string ⟨#[]⟩, .int .i64 0, .int .i64 0, .string ⟨#[]⟩]) 6 64 := ElemT.mk Tryz.underlying22 (by kernel_rfl) (by simp [Value.cells])
end Go.Proofs.YtjlliohjeiclaaaGreatDoor
namespace Go.Proofs.YtjlliohjeiclaaaGreatDoor
open Go.Shelf Go.RowKit Go.Lib Go.Sort Go.Proofs St Pm Kn
def layN20_ren : Go.Shelf.Ren := ⟨fun | 20 => 138 | n => n, fun | 0 => 0 | 3 => 3 | 4 => 4 | 22 => 22 | 24 => 53 | 25 => 120 | n => n, fun n => n⟩
theorem layN20 : Go.Proofs.SlLaysF0.n20 Tryz.prog layN20_ren := {
 mixed := by kernel_rfl
 f20 := ⟨"slices.insertionSortCmpFunc[estuary/api.Element]", by decide, Tryz.func138.trans (congrArg some (by kernel_rfl))⟩
 t0 := Tryz.underlying0
 a0 := Tryz.isAgg0
 z0 := Tryz.sizeOf0
 v0 := Tryz.zeroValue0
 t3 := Tryz.underlying3
 a3 := Tryz.isAgg3
 z3 := Tryz.sizeOf3
 v3 := Tryz.zeroValue3
 t4 := Tryz.underlying4
 a4 := Tryz.isAgg4
 z4 := Tryz.sizeOf4
 v4 := Tryz.zeroValue4
 t22 := Tryz.underlying22
 a22 := Tryz.isAgg22
 z22 := Tryz.sizeOf22
 v22 := Tryz.zeroValue22
 t25 := Tryz.underlying120
 a25 := Tryz.isAgg120
 z25 := Tryz.sizeOf120
 v25 := Tryz.zeroValue120
}
theorem lyS : StL Tryz.prog 6 := {
 mixed := by kernel_rfl
 fW := Tryz.func205
 fR := Tryz.func179
 fM := Tryz.func139
 t0 := Tryz.underlying0
 a0 := Tryz.isAgg0
 z0 := Tryz.sizeOf0
 v0 := Tryz.zeroValue0
 t3 := Tryz.underlying3
 a3 := Tryz.isAgg3
 z3 := Tryz.sizeOf3
 v3 := Tryz.zeroValue3
 t4 := Tryz.underlying4
 a4 := Tryz.isAgg4
 z4 := Tryz.sizeOf4
 v4 := Tryz.zeroValue4
 t22 := Tryz.underlying22
 a22 := Tryz.isAgg22
 z22 := Tryz.sizeOf22
 v22 := Tryz.zeroValue22
 t25 := Tryz.underlying120
 a25 := Tryz.isAgg120
 z25 := Tryz.sizeOf120
 v25 := Tryz.zeroValue120
 t39 := Tryz.underlying186
 a39 := Tryz.isAgg186
 z39 := Tryz.sizeOf186
 v39 := Tryz.zeroValue186
 aE := Tryz.isAgg53
 zE := Tryz.sizeOf53
}
theorem ins_w (g : Nat) (cb : Array Value) (blk off cap N : Nat) (d0 : Array Ev) (w0 : World) (R : RowK elV 6 w0 blk off d0) (hs : d0.size = N) (hC : CmpLays Tryz.prog g cb elV 6 evC blk off N w0) (eg : ∀ args w, (callFunc g args).run Tryz.prog w = .ok (.enter g args) w) (hsz : N < 4611686018427387904)
 (Q X S : List Ev) (a b : Nat) (w : World) (hN : (Q ++ (X ++ S)).length = N) (H : SWK elV 6 w0 blk off (Q ++ (X ++ S)).toArray w) (hX : Stb X) (ea : Q.length = a) (eb : a + X.length = b) :
 Calls Tryz.prog 138 #[.slice (some ⟨blk, off, none⟩) N cap, .int .i64 a, .int .i64 b, .func (.func g) #[] cb] w fun e w' => e = .returned (.tuple #[]) ∧ SWK elV 6 w0 blk off (Q ++ (sortV X ++ S)).toArray w' := by
 have hsN : (Q ++ (X ++ S)).toArray.size = N := by simpa using hN
 have hl : a + (X.length + S.length) = N := by rw [← hN, ← ea]; simp
 have hC2 : CmpLays Tryz.prog g cb elV 6 evC blk off (Q ++ (X ++ S)).toArray.size w := fun m os dk hdk x y => by
  obtain ⟨n0, os0, rfl⟩ := H
  rw [sortWorldK_on elV 6 w0 blk off n0 m (Q ++ (X ++ S)).toArray dk os0 os R.hblk hdk]
  exact hC _ _ dk (by rw [hdk, hsN]) x y
 have h := AnyQ.insertionSortCmpFunc layN20 6 Tryz.isAgg53 Tryz.sizeOf53 elV R.hk R.h1 evC g cb blk off cap a b (Q ++ (X ++ S)).toArray w eg hC2 (H.holds R.hblk R.hH (hsN.trans hs.symm)) (H.lt R.hblk) (by omega) (by rw [hsN]; omega) (by rw [hsN]; exact hsz)
 have e1 := sort_lists Q X S hX.nd hX.cm
 rw [ea, eb] at e1
 rw [e1, hsN] at h
 refine h.mono ?_
 rintro e w' ⟨rfl, n, os, rfl⟩
 exact ⟨rfl, H.on R.hblk n _ os (by simp [sortV_length])⟩
end Go.Proofs.YtjlliohjeiclaaaGreatDoor
namespace Go.Proofs.YtjlliohjeiclaaaGreatDoor
open Go.Shelf Go.RowKit Go.Lib Go.Sort Go.Proofs St Pm Kn
set_option maxHeartbeats 40000000 in
set_option maxRecDepth 1000000 in
theorem sl_stable (g : Nat) (cb : Array Value) (blk off cap N : Nat) (d0 : Array Ev) (w0 : World) (R : RowK elV 6 w0 blk off d0) (hs : d0.size = N) (hC : CmpLays Tryz.prog g cb elV 6 evC blk off N w0) (eg : ∀ args w, (callFunc g args).run Tryz.prog w = .ok (.enter g args) w) (hsz : N ≤ 1000000)
 (L : List Ev) (w : World) (hN : L.length = N) (H : SWK elV 6 w0 blk off L.toArray w) (hL : Stb L) :
 Calls Tryz.prog 105 #[.slice (some ⟨blk, off, none⟩) N cap, .int .i64 N, .func (.func g) #[] cb] w fun e w' => e = .returned (.tuple #[]) ∧ SWK elV 6 w0 blk off (sortV L).toArray w' := by
 have INS : Aside (∀ (Q X S : List Ev) (a b : Nat) (w : World), (Q ++ (X ++ S)).length = N → SWK elV 6 w0 blk off (Q ++ (X ++ S)).toArray w → Stb X → Q.length = a → a + X.length = b →
  Calls Tryz.prog 138 #[.slice (some ⟨blk, off, none⟩) N cap, .int .i64 a, .int .i64 b, .func (.func g) #[] cb] w fun e w' => e = .returned (.tuple #[]) ∧ SWK elV 6 w0 blk off (Q ++ (sortV X ++ S)).toArray w') :=
  fun Q X S a b w h1 h2 h3 h4 h5 => ins_w g cb blk off cap N d0 w0 R hs hC eg (by omega) Q X S a b w h1 h2 h3 h4 h5
 have MRG : Aside (∀ (Q A B S : List Ev) (a m b : Nat) (w : World), MrA Q A B S a m b N → SWK elV 6 w0 blk off (Q ++ (A ++ (B ++ S))).toArray w →
  Calls Tryz.prog 139 #[.slice (some ⟨blk, off, none⟩) N cap, .int .i64 a, .int .i64 m, .int .i64 b, .func (.func g) #[] cb] w fun e w' => e = .returned (.tuple #[]) ∧ SWK elV 6 w0 blk off (Q ++ (sortV (A ++ B) ++ S)).toArray w') :=
  fun Q A B S a m b w h1 h2 => sw_symMerge lyS elV g cb blk off cap N d0 w0 R hs hC eg (by omega) _ Q A B S a m b w (Nat.le_refl _) h1 h2
 have HL : Hid (Stb L) := hL
 have HN : Hid (L.length = N) := hN
 have S0 : Aside (SWK elV 6 w0 blk off (blkL 20 L 0).toArray w) := by rw [blk_zero]; exact H
 have e1 : ∀ args w, (callFunc 138 args).run Tryz.prog w = .ok (.enter 138 args) w := enters_of Tryz.func138 (by kernel_rfl) rfl
 have e2 : ∀ args w, (callFunc 139 args).run Tryz.prog w = .ok (.enter 139 args) w := enters_of Tryz.func139 (by kernel_rfl) rfl
 clear hL hN H hC R eg hs
 go_enter Tryz.func105, Tryz.ntmps105
 go_wp2
 go_loopg [7, 8] N (fun kx s7 s8 wr => ∃ t a b : Nat, s7 = .int .i64 (a : Int) ∧ s8 = .int .i64 (b : Int) ∧ Hid (a = t * 20) ∧ Hid (b = a + 20) ∧ a ≤ N ∧ N - a ≤ kx ∧ Aside (SWK elV 6 w0 blk off (blkL 20 L a).toArray wr))
 case atStart => exact ⟨0, 0, 20, rfl, rfl, Lib.hid rfl, Lib.hid rfl, Nat.zero_le _, Nat.le_refl _, S0⟩
 case round =>
  clear S0
  obtain ⟨t, a, b, rfl, rfl, HAT, HAB, haN, hkx, S1⟩ := hrel
  have hbb : b ≤ a + 20 := Nat.le_of_eq HAB.out
  have hbc : a + 20 ≤ b := Nat.le_of_eq HAB.out.symm
  by_cases hlt : b ≤ N
  · have hltz : (b : Int) ≤ (N : Int) := by omega
    obtain ⟨T, X, Y, hcut, l1, l2, k1, k2, k3, k4⟩ := cut_at L a 20 (by have := HN.out; omega)
    have CALL : Aside (Calls Tryz.prog 138 #[.slice (some ⟨blk, off, none⟩) N cap, .int .i64 a, .int .i64 b, .func (.func g) #[] cb] wr fun e w' => e = .returned (.tuple #[]) ∧ SWK elV 6 w0 blk off (blkL 20 L b).toArray w') := by
     have hat := HAT.out
     have hab := HAB.out
     have hl := HN.out
     have h := S1.out
     have hTl : (full 20 T).length = a := by rw [full_len (by omega) _ T (Nat.le_refl _)]; exact l1
     have st : Stb X := by have h := HL.out; rw [hcut] at h; exact h.right.left
     unfold blkL at h ⊢
     rw [k1, k2] at h
     rw [hab, k3, k4, full_snoc (by omega) (by omega) t T (by rw [l1]; exact hat), List.append_assoc]
     exact INS.out (full 20 T) X Y a (a + 20) wr (by have e := congrArg List.length hcut; simp only [List.length_append] at e ⊢; omega) h st hTl (by omega)
    clear S1 hcut l1 l2 k1 k2 k3 k4
    go_wp2_with (go_at_fn 138; refine CALL.mono ?_; rintro e w1 ⟨rfl, S2⟩)
    go_roundg (N - b)
    case measure => omega
    case rel => exact ⟨t + 1, b, b + 20, rfl, by first | rfl | go_num, Lib.hid (by have := HAT.out; omega), Lib.hid rfl, hlt, Nat.le_refl _, S2⟩
  · have hltz : ¬ (b : Int) ≤ (N : Int) := by omega
    have CALL : Aside (Calls Tryz.prog 138 #[.slice (some ⟨blk, off, none⟩) N cap, .int .i64 a, .int .i64 N, .func (.func g) #[] cb] wr fun e w' => e = .returned (.tuple #[]) ∧ SWK elV 6 w0 blk off (full 20 L).toArray w') := by
     have hat := HAT.out
     have hab := HAB.out
     have hl := HN.out
     have h := S1.out
     obtain ⟨T, X, hcut, l1, l2, k1, k2⟩ : ∃ T X, L = T ++ X ∧ T.length = a ∧ X.length = N - a ∧ L.take a = T ∧ L.drop a = X := ⟨L.take a, L.drop a, (List.take_append_drop _ _).symm, by rw [List.length_take]; omega, by rw [List.length_drop]; omega, rfl, rfl⟩
     have hTl : (full 20 T).length = a := by rw [full_len (by omega) _ T (Nat.le_refl _)]; exact l1
     have st : Stb X := by have h := HL.out; rw [hcut] at h; exact h.right
     unfold blkL at h
     rw [k1, k2] at h
     have e3 : full 20 L = full 20 T ++ (sortV X ++ []) := by rw [hcut, full_snoc (by omega) (by omega) t T (by rw [l1]; exact hat), List.append_nil]
     rw [e3]
     exact INS.out (full 20 T) X [] a N wr (by simp only [List.length_append, List.length_nil]; omega) (by rw [List.append_nil]; exact h) st hTl (by omega)
    clear S1
    go_upto_region 7 with (go_at_fn 138; refine CALL.mono ?_; rintro e w1 ⟨rfl, S2⟩)
    clear CALL
    have S0 : Aside (SWK elV 6 w0 blk off (full 20 L).toArray w1) := S2
    clear S2 hkx hltz hlt hbb hbc HAT HAB haN
    go_loopg [6, 7, 8, 9] N (fun kx s6 _ _ _ wr => ∃ bs : Nat, s6 = .int .i64 (bs : Int) ∧ 20 ≤ bs ∧ bs ≤ 2000020 ∧ N - bs ≤ kx ∧ Aside (SWK elV 6 w0 blk off (full bs L).toArray wr))
    case atStart => exact ⟨20, rfl, Nat.le_refl _, by omega, by omega, S0⟩
    case round =>
     clear S0
     obtain ⟨bs, rfl, hb20, hbM, hkx, S1⟩ := hrel
     by_cases hlt : bs < N
     · have hltz : (bs : Int) < (N : Int) := by omega
       have S0 : Aside (SWK elV 6 w0 blk off (mrgL bs L 0).toArray wr) := by rw [mrg_zero]; exact S1
       have ecb : ((2 * bs : Nat) : Int) = 2 * (bs : Int) := by omega
       clear S1
       go_wp2
       go_loopg [7, 8] N (fun kx s7 s8 wr => ∃ t a b : Nat, s7 = .int .i64 (a : Int) ∧ s8 = .int .i64 (b : Int) ∧ Hid (a = t * (2 * bs)) ∧ Hid (b = a + 2 * bs) ∧ a ≤ N ∧ N - a ≤ kx ∧ Aside (SWK elV 6 w0 blk off (mrgL bs L a).toArray wr))
       case atStart => exact ⟨0, 0, 2 * bs, rfl, by first | rfl | rw [ecb], Lib.hid (by omega), Lib.hid (by omega), Nat.zero_le _, Nat.le_refl _, S0⟩
       case round =>
        clear S0
        obtain ⟨t, a, b, rfl, rfl, HAT, HAB, haN, hkx2, S1⟩ := hrel
        have hbb : b ≤ a + 2 * bs := Nat.le_of_eq HAB.out
        have hbc : a + 2 * bs ≤ b := Nat.le_of_eq HAB.out.symm
        by_cases hlt2 : b ≤ N
        · have hltz2 : (b : Int) ≤ (N : Int) := by omega
          have CALL : Aside (∀ M : Int, M = (a : Int) + bs → Calls Tryz.prog 139 #[.slice (some ⟨blk, off, none⟩) N cap, .int .i64 a, .int .i64 M, .int .i64 b, .func (.func g) #[] cb] wr fun e w' => e = .returned (.tuple #[]) ∧ SWK elV 6 w0 blk off (mrgL bs L b).toArray w') := fun M hM => by
           have hat := HAT.out
           have hab := HAB.out
           have hl := HN.out
           have h := S1.out
           obtain ⟨T, X, Y, hcut, l1, l2, k1, k2, k3, k4⟩ := cut_at L a (2 * bs) (by omega)
           obtain ⟨X1, X2, rfl, m1, m2⟩ : ∃ X1 X2, X = X1 ++ X2 ∧ X1.length = bs ∧ X2.length = bs := ⟨X.take bs, X.drop bs, (List.take_append_drop _ _).symm, by rw [List.length_take]; omega, by rw [List.length_drop]; omega⟩
           have hTl : (full (2 * bs) T).length = a := by rw [full_len (by omega) _ T (Nat.le_refl _)]; exact l1
           have st : Stb (X1 ++ X2) := by have h := HL.out; rw [hcut] at h; exact h.right.left
           unfold mrgL at h ⊢
           have e3 : full bs ((X1 ++ X2) ++ Y) = sortV X1 ++ (sortV X2 ++ full bs Y) := by rw [List.append_assoc, full_step (X2 ++ Y) m1 (by omega), full_step Y m2 (by omega)]
           rw [k1, k2, e3] at h
           rw [hab, k3, k4, full_snoc (by omega) (by rw [l2]; exact Nat.le_refl _) t T (by rw [l1]; exact hat), List.append_assoc, ← sortV_two st.nd]
           have hfl : (full bs Y).length = Y.length := full_len (by omega) _ Y (Nat.le_refl _)
           have eM : ((a + bs : Nat) : Int) = M := by rw [hM]; omega
           rw [← eM]
           exact MRG.out (full (2 * bs) T) (sortV X1) (sortV X2) (full bs Y) a (a + bs) (a + 2 * bs) wr (st.mra (by have e := congrArg List.length hcut; simp only [List.length_append, sortV_length] at e ⊢; omega) (by omega) (by omega) hTl (by omega) (by omega)) h
          clear S1
          go_wp2_with (go_at_fn 139; refine (CALL _ (by omega)).mono ?_; rintro e w1 ⟨rfl, S2⟩)
          go_roundg (N - b)
          case measure => omega
          case rel => exact ⟨t + 1, b, b + 2 * bs, rfl, by first | rfl | go_num | (congr 1; omega), Lib.hid (by have := HAT.out; rw [HAB.out, this]; exact (Nat.succ_mul t (2 * bs)).symm), Lib.hid rfl, hlt2, Nat.le_refl _, S2⟩
        · have hltz2 : ¬ (b : Int) ≤ (N : Int) := by omega
          have FIN : Hid (2 * bs ≤ 2000020) := Lib.hid (by omega)
          by_cases hm : a + bs < N
          · have hmz : (a : Int) + (bs : Int) < (N : Int) := by omega
            have CALL : Aside (∀ M : Int, M = (a : Int) + bs → Calls Tryz.prog 139 #[.slice (some ⟨blk, off, none⟩) N cap, .int .i64 a, .int .i64 M, .int .i64 N, .func (.func g) #[] cb] wr fun e w' => e = .returned (.tuple #[]) ∧ SWK elV 6 w0 blk off (full (2 * bs) L).toArray w') := fun M hM => by
             have hat := HAT.out
             have hab := HAB.out
             have hl := HN.out
             have h := S1.out
             obtain ⟨T, X1, X2, hcut, l1, l2, k1, k2, _, _⟩ := cut_at L a bs (by omega)
             have l3 : X2.length + bs + a = N := by have e := congrArg List.length hcut; simp only [List.length_append] at e; omega
             have hTl : (full (2 * bs) T).length = a := by rw [full_len (by omega) _ T (Nat.le_refl _)]; exact l1
             have st : Stb (X1 ++ X2) := by have h := HL.out; rw [hcut] at h; exact h.right
             unfold mrgL at h
             have e3 : full bs (X1 ++ X2) = sortV X1 ++ (sortV X2 ++ []) := by rw [full_step X2 l2 (by omega), full_last (by omega), List.append_nil]
             rw [k1, k2, e3] at h
             have e4 : full (2 * bs) L = full (2 * bs) T ++ (sortV (sortV X1 ++ sortV X2) ++ []) := by rw [sortV_two st.nd, hcut, full_snoc (by omega) (by rw [List.length_append]; omega) t T (by rw [l1]; exact hat), List.append_nil]
             rw [e4]
             have eM : ((a + bs : Nat) : Int) = M := by rw [hM]; omega
             rw [← eM]
             exact MRG.out (full (2 * bs) T) (sortV X1) (sortV X2) [] a (a + bs) N wr (st.mra (by simp only [List.length_append, sortV_length, List.length_nil]; omega) (by omega) (by omega) hTl (by omega) (by omega)) h
            clear S1
            go_wp2_with (go_at_fn 139; refine (CALL _ (by omega)).mono ?_; rintro e w1 ⟨rfl, S2⟩)
            go_roundg (N - 2 * bs)
            case measure => omega
            case rel => exact ⟨2 * bs, by first | go_num | (congr 1; omega), by omega, FIN.out, Nat.le_refl _, S2⟩
          · have hmz : ¬ (a : Int) + (bs : Int) < (N : Int) := by omega
            have S2 : Aside (SWK elV 6 w0 blk off (full (2 * bs) L).toArray wr) := by
             have hat := HAT.out
             have hl := HN.out
             have h := S1.out
             obtain ⟨T, X, hcut, l1, l2, k1, k2⟩ : ∃ T X, L = T ++ X ∧ T.length = a ∧ X.length = N - a ∧ L.take a = T ∧ L.drop a = X := ⟨L.take a, L.drop a, (List.take_append_drop _ _).symm, by rw [List.length_take]; omega, by rw [List.length_drop]; omega, rfl, rfl⟩
             unfold mrgL at h
             rw [k1, k2, full_last (bs := bs) (R := X) (by omega)] at h
             have e4 : full (2 * bs) L = full (2 * bs) T ++ sortV X := by rw [hcut, full_snoc (by omega) (by omega) t T (by rw [l1]; exact hat)]
             rw [e4]
             exact h
            clear S1
            go_wp2
            go_roundg (N - 2 * bs)
            case measure => omega
            case rel => exact ⟨2 * bs, by first | go_num | (congr 1; omega), by omega, FIN.out, Nat.le_refl _, S2⟩
     · have hltz : ¬ (bs : Int) < (N : Int) := by omega
       have h := S1.out
       rw [full_last (by have := HN.out; omega)] at h
       clear S1
       go_wp2
       go_end0
       exact ⟨rfl, h⟩
end Go.Proofs.YtjlliohjeiclaaaGreatDoor
namespace Go.Proofs.YtjlliohjeiclaaaGreatDoor
open Go.RowKit Go.Shelf Go.Proofs
def lay196_ren : Go.Shelf.Ren := ⟨fun | 196 => 155 | 259 => 187 | n => n, fun | 0 => 0 | 3 => 3 | 4 => 4 | 5 => 5 | 9 => 9 | 12 => 12 | 46 => 186 | 53 => 224 | 119 => 240 | 138 => 242 | 139 => 243 | n => n, fun | 3 => 0 | 4 => 1 | n => n⟩
theorem lay196 : Go.Proofs.Lays.n196 Tryz.prog lay196_ren := {
 mixed := by kernel_rfl
 f196 := Tryz.func155.trans (congrArg some (by kernel_rfl))
 f259 := Tryz.func187.trans (congrArg some (by kernel_rfl))
 t0 := Tryz.underlying0
 a0 := Tryz.isAgg0
 z0 := Tryz.sizeOf0
 v0 := Tryz.zeroValue0
 t3 := Tryz.underlying3
 a3 := Tryz.isAgg3
 z3 := Tryz.sizeOf3
 v3 := Tryz.zeroValue3
 t4 := Tryz.underlying4
 a4 := Tryz.isAgg4
 z4 := Tryz.sizeOf4
 v4 := Tryz.zeroValue4
 t5 := Tryz.underlying5
 a5 := Tryz.isAgg5
 z5 := Tryz.sizeOf5
 v5 := Tryz.zeroValue5
 t9 := Tryz.underlying9
 a9 := Tryz.isAgg9
 z9 := Tryz.sizeOf9
 v9 := Tryz.zeroValue9
 t12 := Tryz.underlying12
 a12 := Tryz.isAgg12
 z12 := Tryz.sizeOf12
 v12 := Tryz.zeroValue12
 t46 := Tryz.underlying186
 a46 := Tryz.isAgg186
 z46 := Tryz.sizeOf186
 v46 := Tryz.zeroValue186
 t53 := Tryz.underlying224
 a53 := Tryz.isAgg224
 z53 := Tryz.sizeOf224
 v53 := Tryz.zeroValue224
 t119 := Tryz.underlying240
 a119 := Tryz.isAgg240
 z119 := Tryz.sizeOf240
 t138 := Tryz.underlying242
 a138 := Tryz.isAgg242
 z138 := Tryz.sizeOf242
 v138 := Tryz.zeroValue242
 t139 := Tryz.underlying243
 a139 := Tryz.isAgg243
 z139 := Tryz.sizeOf243
 v139 := Tryz.zeroValue243
 g3 := by kernel_rfl
 g4 := by kernel_rfl
}
def lay106_ren : Go.Shelf.Ren := ⟨fun | 106 => 206 | 213 => 219 | 265 => 226 | n => n, fun | 3 => 3 | 9 => 9 | n => n, fun n => n⟩
theorem lay106 : Go.Proofs.Lays.n106 Tryz.prog lay106_ren := {
 mixed := by kernel_rfl
 f106 := Tryz.func206.trans (congrArg some (by kernel_rfl))
 f213 := Tryz.func219.trans (congrArg some (by kernel_rfl))
 f265 := Tryz.func226.trans (congrArg some (by kernel_rfl))
 t3 := Tryz.underlying3
 a3 := Tryz.isAgg3
 z3 := Tryz.sizeOf3
 v3 := Tryz.zeroValue3
 t9 := Tryz.underlying9
 a9 := Tryz.isAgg9
 z9 := Tryz.sizeOf9
 v9 := Tryz.zeroValue9
}
theorem ks_Compare (a b : ByteArray) (w : World) :
 Calls Tryz.prog 206 #[.string a, .string b] w fun e w' => e = .returned (.int .i64 (Lib.compareBytes a.data.toList b.data.toList)) ∧ w' = w :=
 Any.strings_Compare lay106 a b w
def Glob (w : World) : Prop := Lib.Utf8Tabs 0 1 w ∧ ∃ m, w.cell? ⟨2, 0, none⟩ = some (.int .i64 m)
theorem Glob.below {w w' : World} (h : Glob w) (hb : Below w.heap.size w w') : Glob w' := by
 have hc : ∀ p v, w.cell? p = some v → w'.cell? p = some v := fun p v hv => (hb.cell (cell_lt hv)).trans hv
 obtain ⟨⟨h1, h2⟩, m, h3⟩ := h
 exact ⟨⟨fun c hc' => hc _ _ (h1 c hc'), fun i hi => ⟨hc _ _ (h2 i hi).1, hc _ _ (h2 i hi).2⟩⟩, m, hc _ _ h3⟩
end Go.Proofs.YtjlliohjeiclaaaGreatDoor
namespace Go.Proofs.YtjlliohjeiclaaaGreatDoor
namespace Ku
open Go.Op (bytesLess)
open St
theorem cmpB_eq : ∀ (l m : List UInt8), Lib.compareBytes l m = if bytesLess l m = true then -1 else if bytesLess m l = true then 1 else 0
 | [], [] => by simp [Lib.compareBytes, bytesLess]
 | [], _ :: _ => by simp [Lib.compareBytes, bytesLess]
 | _ :: _, [] => by simp [Lib.compareBytes, bytesLess]
 | a :: la, b :: lb => by
  have ih := cmpB_eq la lb
  unfold Lib.compareBytes
  by_cases h1 : a < b
  · rw [if_pos h1]; simp [bytesLess, h1]
  · rw [if_neg h1]
    by_cases h2 : b < a
    · rw [if_pos h2]
      have h3 : ¬ a = b := fun e => by rw [e] at h2; exact absurd h2 (by rw [UInt8.lt_iff_toNat_lt]; omega)
      simp [bytesLess, h1, h2, h3]
    · rw [if_neg h2]
      have h3 : a = b := by
       have n1 : ¬ a.toNat < b.toNat := fun h => h1 (UInt8.lt_iff_toNat_lt.2 h)
       have n2 : ¬ b.toNat < a.toNat := fun h => h2 (UInt8.lt_iff_toNat_lt.2 h)
       exact UInt8.toNat_inj.1 (by omega)
      subst h3
      rw [ih]
      simp [bytesLess, h1]
theorem cmpB_txt (a b : ByteArray) : Lib.compareBytes a.data.toList b.data.toList = txtC a b := by
 rw [cmpB_eq]
 unfold txtC Pm.klt
 rw [ByteArray.toList_eq, ByteArray.toList_eq]
end Ku
end Go.Proofs.YtjlliohjeiclaaaGreatDoor
namespace Go.Proofs.YtjlliohjeiclaaaGreatDoor
open Go.RowKit
def txV (l : List ByteArray) : List Value := l.map Value.string
theorem tx_get {w : World} {a : Option Addr} {l : List ByteArray} (h : CellsAt w a (txV l)) (k : Nat) (hk : k < l.length) : ∃ b off, a = some ⟨b, off, none⟩ ∧ w.cell? ⟨b, off + k, none⟩ = some (.string l[k]) := h.get k _ (by simp [txV, hk])
end Go.Proofs.YtjlliohjeiclaaaGreatDoor
namespace Go.Proofs.YtjlliohjeiclaaaGreatDoor
open Go.RowKit St
theorem toList_iff (a b : ByteArray) : (a.toList = b.toList) = (a = b) := propext ⟨fun h => Pm.key_ext (by rw [← ByteArray.toList_eq, ← ByteArray.toList_eq]; exact h), fun h => by rw [h]⟩
theorem sv_eql (s t : Sv) (w : World) : (binOp .eql 43 (.agg #[.int .i64 s.g, .int .i64 s.r, .string s.l, .int .i64 s.n, .int .i64 s.i]) (.agg #[.int .i64 t.g, .int .i64 t.r, .string t.l, .int .i64 t.n, .int .i64 t.i])).run Tryz.prog w = .ok (.bool (decide (s = t))) w := by
 rw [run_eql_struct]
 simp [go_sem, Tryz.underlying43]
 obtain ⟨g, r, l, n, i⟩ := s
 obtain ⟨g', r', l', n', i'⟩ := t
 simp only [toList_iff, Sv.mk.injEq]
 by_cases h1 : g = g' <;> by_cases h2 : r = r' <;> by_cases h3 : l = l' <;> by_cases h4 : n = n' <;> by_cases h5 : i = i' <;> simp [h1, h2, h3, h4, h5]
theorem sv_neq (s t : Sv) (w : World) : (binOp .neq 43 (.agg #[.int .i64 s.g, .int .i64 s.r, .string s.l, .int .i64 s.n, .int .i64 s.i]) (.agg #[.int .i64 t.g, .int .i64 t.r, .string t.l, .int .i64 t.n, .int .i64 t.i])).run Tryz.prog w = .ok (.bool (!decide (s = t))) w := by
 rw [run_neq_struct]
 simp [go_sem, Tryz.underlying43]
 obtain ⟨g, r, l, n, i⟩ := s
 obtain ⟨g', r', l', n', i'⟩ := t
 simp only [toList_iff, Sv.mk.injEq]
 by_cases h1 : g = g' <;> by_cases h2 : r = r' <;> by_cases h3 : l = l' <;> by_cases h4 : n = n' <;> by_cases h5 : i = i' <;> simp [h1, h2, h3, h4, h5]
theorem ev_neq (s t : Ev) (w : World) : (binOp .neq 53 (.agg #[.int .i64 s.1.g, .int .i64 s.1.r, .string s.1.l, .int .i64 s.1.n, .int .i64 s.1.i, .string s.2]) (.agg #[.int .i64 t.1.g, .int .i64 t.1.r, .string t.1.l, .int .i64 t.1.n, .int .i64 t.1.i, .string t.2])).run Tryz.prog w = .ok (.bool (!decide (s = t))) w := by
 rw [run_neq_struct]
 simp [go_sem, Tryz.underlying53]
 obtain ⟨⟨g, r, l, n, i⟩, x⟩ := s
 obtain ⟨⟨g', r', l', n', i'⟩, x'⟩ := t
 simp only [toList_iff, Sv.mk.injEq, Prod.mk.injEq]
 by_cases h1 : g = g' <;> by_cases h2 : r = r' <;> by_cases h3 : l = l' <;> by_cases h4 : n = n' <;> by_cases h5 : i = i' <;> by_cases h6 : x = x' <;> simp [h1, h2, h3, h4, h5, h6]
theorem ne_at {α : Type} [DecidableEq α] {l m : List α} {k : Nat} (h1 : k < l.length) (h2 : k < m.length) (h : l[k] ≠ m[k]) : decide (l = m) = false := by
 rw [decide_eq_false_iff_not]
 intro e
 subst e
 exact h rfl
theorem eq_all {α : Type} [DecidableEq α] {l m : List α} (hl : l.length = m.length) (h : l.take l.length = m.take l.length) : decide (l = m) = true := by
 rw [decide_eq_true_eq]
 rw [List.take_length, hl, List.take_length] at h
 exact h
theorem take_eq {α : Type} {l m : List α} {k : Nat} (h1 : k < l.length) (h2 : k < m.length) (h : l.take k = m.take k) (e : l[k] = m[k]) : l.take (k + 1) = m.take (k + 1) := by
 rw [List.take_succ_eq_append_getElem h1, List.take_succ_eq_append_getElem h2, h, e]
set_option maxRecDepth 100000 in
set_option maxHeartbeats 2000000 in
theorem ref9_SameElements (l m : List Ev) (a b : Option Addr) (n1 n2 c1 c2 : Nat) (w : World) (hl : CellsAt w a (elsV l)) (hm : CellsAt w b (elsV m)) (hn1 : n1 = l.length) (hn2 : n2 = m.length) (hb : n1 ≤ 9223372036854775807) :
 Calls Tryz.prog 30 #[.slice a n1 c1, .slice b n2 c2] w fun e w' => e = .returned (.bool (decide (l = m))) ∧ Below w.heap.size w w' := by
 have HL := Lib.hid hl
 have HM := Lib.hid hm
 clear hl hm
 have EN := ev_neq
 go_enter Tryz.func30, Tryz.ntmps30
 by_cases hlen : n1 = n2
 · subst hlen
   have hN : Hid (l.length = m.length) := Lib.hid (by omega)
   have E : Hid (l.take n1 = m.take n1 → decide (l = m) = true) := Lib.hid (fun h => eq_all hN.out (by rw [← hn1]; exact h))
   have F : Hid (∀ k (h1 : k < l.length) (h2 : k < m.length), l[k] ≠ m[k] → decide (l = m) = false) := Lib.hid (fun k h1 h2 h => ne_at h1 h2 h)
   generalize decide (l = m) = res at *
   go_wp2_with fail
   go_loopw [5] (fun i wr => ∃ k : Nat, k ≤ n1 ∧ i = .int .i64 (k : Int) ∧ Hid (l.take k = m.take k) ∧ Hid (Below w.heap.size w wr)) (fun i _ => n1 - (intOf i).toNat)
   case atStart => exact ⟨0, Nat.zero_le _, rfl, Lib.hid rfl, Lib.hid (Below.refl _ _)⟩
   case round =>
    obtain ⟨k, hk, rfl, HT, HB⟩ := hrel
    by_cases hlt : k < n1
    · have hk1 : k < l.length := by omega
      have hk2 : k < m.length := by omega
      obtain ⟨ba, oa, rfl, ca⟩ := els_get (HL.out.below HB.out rfl) k hk1
      obtain ⟨bb, ob, rfl, cb⟩ := els_get (HM.out.below HB.out rfl) k hk2
      obtain ⟨p0, p1, p2, p3, p4, p5⟩ := ca
      obtain ⟨q0, q1, q2, q3, q4, q5⟩ := cb
      have G1 : Hid (l[k] ≠ m[k] → res = false) := Lib.hid (F.out k hk1 hk2)
      have G2 : Hid (l[k] = m[k] → l.take (k + 1) = m.take (k + 1)) := Lib.hid (take_eq hk1 hk2 HT.out)
      generalize l[k] = x at *
      generalize m[k] = y at *
      have hki : (k : Int) < (n1 : Int) := by omega
      by_cases hxy : x = y
      · have H := Lib.hid (G2.out hxy)
        have hd : decide (x = y) = true := decide_eq_true hxy
        clear hxy
        go_wp2_with fail
        go_quiet (fail)
        go_wp2_with fail
        refine ⟨⟨k + 1, by omega, by go_num, H, Lib.hid (below_drews HB.out _)⟩, by simp [intOf]; omega⟩
      · have hr := Lib.hid (G1.out hxy)
        have hd : decide (x = y) = false := decide_eq_false hxy
        clear hxy
        go_wp2_with fail
        go_quiet (fail)
        go_wp2_with fail
        go_ret
        rw [hr.out]
        exact ⟨rfl, below_drews HB.out _⟩
    · obtain rfl : k = n1 := by omega
      have hr := Lib.hid (E.out HT.out)
      go_wp2_with fail
      go_ret
      rw [hr.out]
      exact ⟨rfl, HB.out⟩
 · have hr : Hid (decide (l = m) = false) := Lib.hid (by rw [decide_eq_false_iff_not]; rintro rfl; omega)
   have hne : ((n1 : Int) == (n2 : Int)) = false := by simp; omega
   have hne' : ¬ (n1 : Int) = (n2 : Int) := by omega
   generalize decide (l = m) = res at *
   go_wp2_with fail
   go_ret
   rw [hr.out]
   exact ⟨rfl, Below.refl _ _⟩
end Go.Proofs.YtjlliohjeiclaaaGreatDoor
namespace Go.Proofs.YtjlliohjeiclaaaGreatDoor
open Go.RowKit
def Grw (w w' : World) : Prop := ∃ (q : Nat) (os : Array Obj), w' = Sort.grow (w.drewN q) os
theorem drewN_drewN (w : World) (a b : Nat) : (w.drewN a).drewN b = w.drewN (a + b) := by
 induction b with
 | zero => rfl
 | succ b ih => show ((w.drewN a).drewN b).drew = (w.drewN (a + b)).drew; rw [ih]
theorem grow_drewN (w : World) (os : Array Obj) (n : Nat) : (Sort.grow w os).drewN n = Sort.grow (w.drewN n) os := by
 induction n with
 | zero => rfl
 | succ n ih => show ((Sort.grow w os).drewN n).drew = _; rw [ih]; rfl
theorem Grw.refl (w : World) : Grw w w := ⟨0, #[], by simp [Sort.grow]; rfl⟩
theorem Grw.trans {a b c : World} (h : Grw a b) (k : Grw b c) : Grw a c := by
 obtain ⟨q, os, rfl⟩ := h
 obtain ⟨q', os', rfl⟩ := k
 exact ⟨q + q', os ++ os', by rw [grow_drewN, Sort.grow_grow, drewN_drewN]⟩
theorem Grw.drew {a b : World} (h : Grw a b) : Grw a b.drew := h.trans ⟨1, #[], by simp [Sort.grow]; rfl⟩
theorem Grw.alloc {a b : World} (h : Grw a b) (o : Obj) : Grw a (b.alloc o) := h.trans ⟨0, #[o], by rw [Sort.alloc_eq_grow]; rfl⟩
theorem Grw.below {a b : World} (h : Grw a b) : Below a.heap.size a b := by
 obtain ⟨q, os, rfl⟩ := h
 have hd : ∀ n, (a.drewN n).heap = a.heap ∧ (a.drewN n).os = a.os ∧ (a.drewN n).tape = a.tape ∧ (a.drewN n).output = a.output := fun n => by
  induction n with
  | zero => exact ⟨rfl, rfl, rfl, rfl⟩
  | succ n ih => exact ih
 obtain ⟨h1, h2, h3, h4⟩ := hd q
 refine ⟨h2, h3, h4, by simp [Sort.grow, h1], fun k hk => ?_⟩
 show ((a.drewN q).heap ++ os)[k]? = _
 rw [h1, Array.getElem?_append_left hk]
end Go.Proofs.YtjlliohjeiclaaaGreatDoor
