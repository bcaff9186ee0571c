/- Words, contracts and walks that the proof stands on (KyI TrC TrW EvP CellsB CellsN KyE KyL KyM KyS TxP KyT PmW1S). -/
import Derived.Deep.CutBlock
import Derived.Deep.DeepCutAuto
import Derived.Laws.StructEq
import Derived.Test.YtjlliohjeiclaaaGreatDoorKC1
import Derived.Test.YtjlliohjeiclaaaGreatDoorKC3
namespace Go.Proofs.YtjlliohjeiclaaaGreatDoor
open Go.RowKit St
set_option maxRecDepth 100000 in
set_option maxHeartbeats 2000000 in
theorem ref6_OfKey (k : ByteArray) (w : World) (hs : k.size ≤ 9223372036854775807) : Calls Tryz.prog 58 #[.string k] w fun e w' => e = .returned (stO (ofK k)) ∧ Below w.heap.size w w' := by
 by_cases hlt : k.size < 19
 · have E : Hid (stO (ofK k) = .tuple #[.agg #[.int .i64 0, .int .i64 0, .string ⟨#[]⟩, .int .i64 0, .int .i64 0], .int .i64 4]) := Lib.hid (by rw [ofK_short hlt]; rfl)
   have X1 := Lib.hid (heap_alloc_new w (.cells #[.int .i64 0, .int .i64 0, .string ⟨#[]⟩, .int .i64 0, .int .i64 0] 43))
   go_enter Tryz.func58, Tryz.ntmps58
   go_wp2_with (refine wpList_store_row rfl 43 (.tmp 2) (.tmp 9) rfl w.heap.size #[.int .i64 0, .int .i64 0, .string ⟨#[]⟩, .int .i64 0, .int .i64 0] rfl rfl 43 _ X1.out (by kernel_rfl) rfl (st_one _ _ _ _ _) ?_)
   have Y := setRow_heap (w.alloc (.cells #[.int .i64 0, .int .i64 0, .string ⟨#[]⟩, .int .i64 0, .int .i64 0] 43)) w.heap.size _ #[.int .i64 0, .int .i64 0, .string ⟨#[]⟩, .int .i64 0, .int .i64 0] _ _ X1.out
   have q0 := cell_of_row _ _ 0 _ _ _ Y
   have q1 := cell_of_row _ _ 1 _ _ _ Y
   have q2 := cell_of_row _ _ 2 _ _ _ Y
   have q3 := cell_of_row _ _ 3 _ _ _ Y
   have q4 := cell_of_row _ _ 4 _ _ _ Y
   refine bodyPost_ret (v := .tuple #[.agg #[.int .i64 0, .int .i64 0, .string ⟨#[]⟩, .int .i64 0, .int .i64 0], .int .i64 4]) (by simp [results, Tryz.results58, go_sem, q0, q1, q2, q3, q4]) rfl ?_
   exact ⟨by rw [E.out], below_setRow (below_new _ _) (Nat.le_refl _) _⟩
 · have hge : 19 ≤ k.size := by omega
   have E := Lib.hid (ofK_long hge)
   have X1 := heap_alloc_new w (.cells #[.int .i64 0, .int .i64 0, .string ⟨#[]⟩, .int .i64 0, .int .i64 0] 43)
   have B1 := below_new w (.cells #[.int .i64 0, .int .i64 0, .string ⟨#[]⟩, .int .i64 0, .int .i64 0] 43)
   have hz : (w.alloc (.cells #[.int .i64 0, .int .i64 0, .string ⟨#[]⟩, .int .i64 0, .int .i64 0] 43)).heap.size = w.heap.size + 1 := by simp
   go_enter Tryz.func58, Tryz.ntmps58
   go_upto_region 4 with (fail)
   generalize w.alloc (.cells #[.int .i64 0, .int .i64 0, .string ⟨#[]⟩, .int .i64 0, .int .i64 0] 43) = W at *
   have f1 : (8 : Int) < (k.size : Int) := by omega
   have h8k : 8 < k.size := by omega
   have F1 := Lib.hid f1
   have W10 : Hid (IntKind.i64.wrap ((k.size : Int) - 10) = ((k.size - 10 : Nat) : Int)) := Lib.hid (by rw [wr64 (by omega) (by omega)]; omega)
   have W9 : Hid (IntKind.i64.wrap ((k.size : Int) - 9) = ((k.size - 9 : Nat) : Int)) := Lib.hid (by rw [wr64 (by omega) (by omega)]; omega)
   have W11 : Hid (IntKind.i64.wrap ((k.size : Int) - 1) = ((k.size - 1 : Nat) : Int)) := Lib.hid (by rw [wr64 (by omega) (by omega)]; omega)
   obtain ⟨r, hr⟩ : ∃ r, ((k.data.toList.getD 8 0).toNat : Int) = r := ⟨_, rfl⟩
   obtain ⟨l, hl⟩ : ∃ l, k.extract 9 (k.size - 10) = l := ⟨_, rfl⟩
   have hrb : 0 ≤ r ∧ r < 256 := by have := (k.data.toList.getD 8 0).toNat_lt; omega
   have WR := Lib.hid (wr64 hrb.1 (by omega))
   have IX := Lib.hid (fun w' => ix_str (P := Tryz.prog) w' 9 Tryz.underlying9 k 8 8 rfl h8k)
   have SM := Lib.hid (fun w' => sl_mid (P := Tryz.prog) w' 9 Tryz.underlying9 k 9 (k.size - 10) 9 ((k.size - 10 : Nat) : Int) rfl rfl (by omega) (by omega))
   rw [hr] at IX
   rw [hl] at SM
   obtain ⟨g, hg⟩ : ∃ g, IntKind.i64.wrap (num8 (k.data.toList.take 8)) = g := ⟨_, rfl⟩
   obtain ⟨m, hm⟩ : ∃ m, k.extract (k.size - 9) k.size = m := ⟨_, rfl⟩
   have hmd : m.data.toList = k.data.toList.drop (k.size - 9) := by
    rw [← hm]
    have := dlen k
    simp [List.take_of_length_le]
   have hms : 8 ≤ m.size := by
    have h1 := dlen m
    have h2 := dlen k
    rw [hmd, List.length_drop, h2] at h1
    omega
   obtain ⟨nn, hnn⟩ : ∃ nn, IntKind.i64.wrap (num8 (m.data.toList.take 8)) = nn := ⟨_, rfl⟩
   obtain ⟨ii, hii⟩ : ∃ ii, ((k.data.toList.getD (k.size - 1) 0).toNat : Int) = ii := ⟨_, rfl⟩
   have hib : 0 ≤ ii ∧ ii < 256 := by have := (k.data.toList.getD (k.size - 1) 0).toNat_lt; omega
   have WI := Lib.hid (wr64 hib.1 (by omega))
   have SF := Lib.hid (fun w' => sl_from (P := Tryz.prog) w' 9 Tryz.underlying9 k (k.size - 9) ((k.size - 9 : Nat) : Int) rfl (by omega))
   rw [hm] at SF
   have IY := Lib.hid (fun w' => ix_str (P := Tryz.prog) w' 9 Tryz.underlying9 k (k.size - 1) ((k.size - 1 : Nat) : Int) rfl (by omega))
   rw [hii] at IY
   have SV : Hid (svK k = ⟨g, r, l, nn, ii⟩) := Lib.hid (by unfold svK; rw [hr, hl, hg, hii, ← hmd, hnn])
   have K1 : Hid (∀ w', Calls Tryz.prog 101 #[.string k] w' fun e w'' => e = .returned (.int .i64 g) ∧ Below w'.heap.size w' w'') := Lib.hid (fun w' => by rw [← hg]; exact (ref6_back k w' (by omega)).mono (by rintro e w'' ⟨rfl, rfl⟩; exact ⟨rfl, Below.refl _ _⟩))
   have K2 : Hid (∀ w', Calls Tryz.prog 101 #[.string m] w' fun e w'' => e = .returned (.int .i64 nn) ∧ Below w'.heap.size w' w'') := Lib.hid (fun w' => by rw [← hnn]; exact (ref6_back m w' hms).mono (by rintro e w'' ⟨rfl, rfl⟩; exact ⟨rfl, Below.refl _ _⟩))
   have hlz : l.size ≤ 9223372036854775807 := by have := ext_size k 9 (k.size - 10); rw [hl] at this; omega
   have Y1 := Lib.hid X1
   have C1 := Lib.hid B1
   clear f1 hg hm hmd hms hnn hii hib hr hl hrb X1 B1
   refine relG_start (slots := [12, 13, 14, 15, 16, 17, 18, 19, 20, 21, 22, 23, 24, 25, 26, 27, 28, 29, 30, 31, 32, 33, 5]) (so := []) (by kernel_rfl) (by kernel_rfl) (by rfl) ?_
   refine relG_pure (i := 0) (o := ⟨some 12, _, _, _, _, _⟩) (v := ?v1) [] [0] rfl rfl (by kernel_rfl) (by kernel_rfl) (fun t w1 hB hf hbf => ?y1) ?n1
   case y1 =>
    simp only [BasF] at hbf
    clear hf
    obtain ⟨⟨b0, k0⟩, _⟩ := hbf
    have f1 := F1.out
    have w9 := W9.out
    have w10 := W10.out
    have w11 := W11.out
    have wr := WR.out
    have wi := WI.out
    refine Or.inl ⟨wanted_none rfl, ?_⟩
    rintro _ rfl
    go_simp <;> with_reducible rfl
   refine relG_call (i := 1) (o := ⟨some 13, _, _, _, _, _⟩) ((fun v _ => v = .int .i64 g)) [(0, 12, 0)] [] rfl rfl (by kernel_rfl) (by kernel_rfl) ((fun _ _ _ h _ => h)) ?_ ?_
   · intro t w1 hB hf hbf K hK
     simp only [DepF, List.getD_cons_zero] at hf
     obtain ⟨⟨_, ⟨e12, i12⟩, rfl⟩, _⟩ := hf
     clear hbf
     have f1 := F1.out
     have w9 := W9.out
     have w10 := W10.out
     have w11 := W11.out
     have wr := WR.out
     have wi := WI.out
     refine ⟨wanted_none rfl, ?_⟩
     go_simp
     refine (K1.out w1).mono ?_
     rintro e w2 ⟨rfl, hb⟩
     exact hK.out _ w2 (rfl) hb
   refine relG_pure (i := 2) (o := ⟨some 14, _, _, _, _, _⟩) (v := ?v2) [] [0] rfl rfl (by kernel_rfl) (by kernel_rfl) (fun t w1 hB hf hbf => ?y2) ?n2
   case y2 =>
    simp only [BasF] at hbf
    clear hf
    obtain ⟨⟨b0, k0⟩, _⟩ := hbf
    have f1 := F1.out
    have w9 := W9.out
    have w10 := W10.out
    have w11 := W11.out
    have wr := WR.out
    have wi := WI.out
    refine Or.inl ⟨wanted_none rfl, ?_⟩
    rintro _ rfl
    go_simp <;> with_reducible rfl
   refine relG_pure (i := 3) (o := ⟨some 15, _, _, _, _, _⟩) (v := ?v3) [(2, 14, 0)] [] rfl rfl (by kernel_rfl) (by kernel_rfl) (fun t w1 hB hf hbf => ?y3) ?n3
   case y3 =>
    simp only [DepF, List.getD_cons_zero] at hf
    obtain ⟨⟨_, ⟨e14, i14⟩, rfl⟩, _⟩ := hf
    clear hbf
    have f1 := F1.out
    have w9 := W9.out
    have w10 := W10.out
    have w11 := W11.out
    have wr := WR.out
    have wi := WI.out
    have ix := IX.out w1
    refine Or.inl ⟨wanted_none rfl, ?_⟩
    rintro _ rfl
    go_simp <;> with_reducible rfl
   refine relG_pure (i := 4) (o := ⟨some 16, _, _, _, _, _⟩) (v := ?v4) [(3, 15, 0)] [] rfl rfl (by kernel_rfl) (by kernel_rfl) (fun t w1 hB hf hbf => ?y4) ?n4
   case y4 =>
    simp only [DepF, List.getD_cons_zero] at hf
    obtain ⟨⟨_, ⟨e15, i15⟩, rfl⟩, _⟩ := hf
    clear hbf
    have f1 := F1.out
    have w9 := W9.out
    have w10 := W10.out
    have w11 := W11.out
    have wr := WR.out
    have wi := WI.out
    refine Or.inl ⟨wanted_none rfl, ?_⟩
    rintro _ rfl
    go_simp <;> with_reducible rfl
   refine relG_pure (i := 5) (o := ⟨some 17, _, _, _, _, _⟩) (v := ?v5) [] [0] rfl rfl (by kernel_rfl) (by kernel_rfl) (fun t w1 hB hf hbf => ?y5) ?n5
   case y5 =>
    simp only [BasF] at hbf
    clear hf
    obtain ⟨⟨b0, k0⟩, _⟩ := hbf
    have f1 := F1.out
    have w9 := W9.out
    have w10 := W10.out
    have w11 := W11.out
    have wr := WR.out
    have wi := WI.out
    refine Or.inl ⟨wanted_none rfl, ?_⟩
    rintro _ rfl
    go_simp <;> with_reducible rfl
   refine relG_pure (i := 6) (o := ⟨some 18, _, _, _, _, _⟩) (v := ?v6) [] [4] rfl rfl (by kernel_rfl) (by kernel_rfl) (fun t w1 hB hf hbf => ?y6) ?n6
   case y6 =>
    simp only [BasF] at hbf
    clear hf
    obtain ⟨⟨b4, k4⟩, _⟩ := hbf
    have f1 := F1.out
    have w9 := W9.out
    have w10 := W10.out
    have w11 := W11.out
    have wr := WR.out
    have wi := WI.out
    refine Or.inl ⟨wanted_none rfl, ?_⟩
    rintro _ rfl
    go_simp <;> with_reducible rfl
   refine relG_pure (i := 7) (o := ⟨some 19, _, _, _, _, _⟩) (v := ?v7) [(6, 18, 0)] [] rfl rfl (by kernel_rfl) (by kernel_rfl) (fun t w1 hB hf hbf => ?y7) ?n7
   case y7 =>
    simp only [DepF, List.getD_cons_zero] at hf
    obtain ⟨⟨_, ⟨e18, i18⟩, rfl⟩, _⟩ := hf
    clear hbf
    have f1 := F1.out
    have w9 := W9.out
    have w10 := W10.out
    have w11 := W11.out
    have wr := WR.out
    have wi := WI.out
    refine Or.inl ⟨wanted_none rfl, ?_⟩
    rintro _ rfl
    go_simp <;> with_reducible rfl
   refine relG_pure (i := 8) (o := ⟨some 20, _, _, _, _, _⟩) (v := ?v8) [(5, 17, 2), (7, 19, 0)] [] rfl rfl (by kernel_rfl) (by kernel_rfl) (fun t w1 hB hf hbf => ?y8) ?n8
   case y8 =>
    simp only [DepF, List.getD_cons_zero, List.getD_cons_succ] at hf
    obtain ⟨⟨_, ⟨e17, i17⟩, rfl⟩, ⟨_, ⟨e19, i19⟩, rfl⟩, _⟩ := hf
    clear hbf
    have f1 := F1.out
    have w9 := W9.out
    have w10 := W10.out
    have w11 := W11.out
    have wr := WR.out
    have wi := WI.out
    have sm := SM.out w1
    refine Or.inl ⟨wanted_none rfl, ?_⟩
    rintro _ rfl
    go_simp <;> with_reducible rfl
   refine relG_pure (i := 9) (o := ⟨some 21, _, _, _, _, _⟩) (v := ?v9) [(4, 16, 4), (8, 20, 0)] [] rfl rfl (by kernel_rfl) (by kernel_rfl) (fun t w1 hB hf hbf => ?y9) ?n9
   case y9 =>
    simp only [DepF, List.getD_cons_zero, List.getD_cons_succ] at hf
    obtain ⟨⟨_, ⟨e16, i16⟩, rfl⟩, ⟨_, ⟨e20, i20⟩, rfl⟩, _⟩ := hf
    clear hbf
    have f1 := F1.out
    have w9 := W9.out
    have w10 := W10.out
    have w11 := W11.out
    have wr := WR.out
    have wi := WI.out
    refine Or.inl ⟨wanted_none rfl, ?_⟩
    rintro _ rfl
    go_simp <;> with_reducible rfl
   refine relG_pure (i := 10) (o := ⟨some 22, _, _, _, _, _⟩) (v := ?v10) [] [0] rfl rfl (by kernel_rfl) (by kernel_rfl) (fun t w1 hB hf hbf => ?y10) ?n10
   case y10 =>
    simp only [BasF] at hbf
    clear hf
    obtain ⟨⟨b0, k0⟩, _⟩ := hbf
    have f1 := F1.out
    have w9 := W9.out
    have w10 := W10.out
    have w11 := W11.out
    have wr := WR.out
    have wi := WI.out
    refine Or.inl ⟨wanted_none rfl, ?_⟩
    rintro _ rfl
    go_simp <;> with_reducible rfl
   refine relG_pure (i := 11) (o := ⟨some 23, _, _, _, _, _⟩) (v := ?v11) [] [4] rfl rfl (by kernel_rfl) (by kernel_rfl) (fun t w1 hB hf hbf => ?y11) ?n11
   case y11 =>
    simp only [BasF] at hbf
    clear hf
    obtain ⟨⟨b4, k4⟩, _⟩ := hbf
    have f1 := F1.out
    have w9 := W9.out
    have w10 := W10.out
    have w11 := W11.out
    have wr := WR.out
    have wi := WI.out
    refine Or.inl ⟨wanted_none rfl, ?_⟩
    rintro _ rfl
    go_simp <;> with_reducible rfl
   refine relG_pure (i := 12) (o := ⟨some 24, _, _, _, _, _⟩) (v := ?v12) [(11, 23, 0)] [] rfl rfl (by kernel_rfl) (by kernel_rfl) (fun t w1 hB hf hbf => ?y12) ?n12
   case y12 =>
    simp only [DepF, List.getD_cons_zero] at hf
    obtain ⟨⟨_, ⟨e23, i23⟩, rfl⟩, _⟩ := hf
    clear hbf
    have f1 := F1.out
    have w9 := W9.out
    have w10 := W10.out
    have w11 := W11.out
    have wr := WR.out
    have wi := WI.out
    refine Or.inl ⟨wanted_none rfl, ?_⟩
    rintro _ rfl
    go_simp <;> with_reducible rfl
   refine relG_pure (i := 13) (o := ⟨some 25, _, _, _, _, _⟩) (v := ?v13) [(10, 22, 2), (12, 24, 0)] [] rfl rfl (by kernel_rfl) (by kernel_rfl) (fun t w1 hB hf hbf => ?y13) ?n13
   case y13 =>
    simp only [DepF, List.getD_cons_zero, List.getD_cons_succ] at hf
    obtain ⟨⟨_, ⟨e22, i22⟩, rfl⟩, ⟨_, ⟨e24, i24⟩, rfl⟩, _⟩ := hf
    clear hbf
    have f1 := F1.out
    have w9 := W9.out
    have w10 := W10.out
    have w11 := W11.out
    have wr := WR.out
    have wi := WI.out
    have sf := SF.out w1
    refine Or.inl ⟨wanted_none rfl, ?_⟩
    rintro _ rfl
    go_simp <;> with_reducible rfl
   refine relG_call (i := 14) (o := ⟨some 26, _, _, _, _, _⟩) ((fun v _ => v = .int .i64 nn)) [(13, 25, 0)] [] rfl rfl (by kernel_rfl) (by kernel_rfl) ((fun _ _ _ h _ => h)) ?_ ?_
   · intro t w1 hB hf hbf K hK
     simp only [DepF, List.getD_cons_zero] at hf
     obtain ⟨⟨_, ⟨e25, i25⟩, rfl⟩, _⟩ := hf
     clear hbf
     have f1 := F1.out
     have w9 := W9.out
     have w10 := W10.out
     have w11 := W11.out
     have wr := WR.out
     have wi := WI.out
     refine ⟨wanted_none rfl, ?_⟩
     go_simp
     refine (K2.out w1).mono ?_
     rintro e w2 ⟨rfl, hb⟩
     exact hK.out _ w2 (rfl) hb
   refine relG_pure (i := 15) (o := ⟨some 27, _, _, _, _, _⟩) (v := ?v14) [(9, 21, 5), (14, 26, 0)] [] rfl rfl (by kernel_rfl) (by kernel_rfl) (fun t w1 hB hf hbf => ?y14) ?n14
   case y14 =>
    simp only [DepF, List.getD_cons_zero, List.getD_cons_succ] at hf
    obtain ⟨⟨_, ⟨e21, i21⟩, rfl⟩, ⟨_, ⟨e26, i26⟩, rfl⟩, _⟩ := hf
    clear hbf
    have f1 := F1.out
    have w9 := W9.out
    have w10 := W10.out
    have w11 := W11.out
    have wr := WR.out
    have wi := WI.out
    refine Or.inl ⟨wanted_none rfl, ?_⟩
    rintro _ rfl
    go_simp <;> with_reducible rfl
   refine relG_pure (i := 16) (o := ⟨some 28, _, _, _, _, _⟩) (v := ?v15) [] [0] rfl rfl (by kernel_rfl) (by kernel_rfl) (fun t w1 hB hf hbf => ?y15) ?n15
   case y15 =>
    simp only [BasF] at hbf
    clear hf
    obtain ⟨⟨b0, k0⟩, _⟩ := hbf
    have f1 := F1.out
    have w9 := W9.out
    have w10 := W10.out
    have w11 := W11.out
    have wr := WR.out
    have wi := WI.out
    refine Or.inl ⟨wanted_none rfl, ?_⟩
    rintro _ rfl
    go_simp <;> with_reducible rfl
   refine relG_pure (i := 17) (o := ⟨some 29, _, _, _, _, _⟩) (v := ?v16) [] [4] rfl rfl (by kernel_rfl) (by kernel_rfl) (fun t w1 hB hf hbf => ?y16) ?n16
   case y16 =>
    simp only [BasF] at hbf
    clear hf
    obtain ⟨⟨b4, k4⟩, _⟩ := hbf
    have f1 := F1.out
    have w9 := W9.out
    have w10 := W10.out
    have w11 := W11.out
    have wr := WR.out
    have wi := WI.out
    refine Or.inl ⟨wanted_none rfl, ?_⟩
    rintro _ rfl
    go_simp <;> with_reducible rfl
   refine relG_pure (i := 18) (o := ⟨some 30, _, _, _, _, _⟩) (v := ?v17) [(17, 29, 0)] [] rfl rfl (by kernel_rfl) (by kernel_rfl) (fun t w1 hB hf hbf => ?y17) ?n17
   case y17 =>
    simp only [DepF, List.getD_cons_zero] at hf
    obtain ⟨⟨_, ⟨e29, i29⟩, rfl⟩, _⟩ := hf
    clear hbf
    have f1 := F1.out
    have w9 := W9.out
    have w10 := W10.out
    have w11 := W11.out
    have wr := WR.out
    have wi := WI.out
    refine Or.inl ⟨wanted_none rfl, ?_⟩
    rintro _ rfl
    go_simp <;> with_reducible rfl
   refine relG_pure (i := 19) (o := ⟨some 31, _, _, _, _, _⟩) (v := ?v18) [(16, 28, 2), (18, 30, 0)] [] rfl rfl (by kernel_rfl) (by kernel_rfl) (fun t w1 hB hf hbf => ?y18) ?n18
   case y18 =>
    simp only [DepF, List.getD_cons_zero, List.getD_cons_succ] at hf
    obtain ⟨⟨_, ⟨e28, i28⟩, rfl⟩, ⟨_, ⟨e30, i30⟩, rfl⟩, _⟩ := hf
    clear hbf
    have f1 := F1.out
    have w9 := W9.out
    have w10 := W10.out
    have w11 := W11.out
    have wr := WR.out
    have wi := WI.out
    have iy := IY.out w1
    refine Or.inl ⟨wanted_none rfl, ?_⟩
    rintro _ rfl
    go_simp <;> with_reducible rfl
   refine relG_pure (i := 20) (o := ⟨some 32, _, _, _, _, _⟩) (v := ?v19) [(19, 31, 0)] [] rfl rfl (by kernel_rfl) (by kernel_rfl) (fun t w1 hB hf hbf => ?y19) ?n19
   case y19 =>
    simp only [DepF, List.getD_cons_zero] at hf
    obtain ⟨⟨_, ⟨e31, i31⟩, rfl⟩, _⟩ := hf
    clear hbf
    have f1 := F1.out
    have w9 := W9.out
    have w10 := W10.out
    have w11 := W11.out
    have wr := WR.out
    have wi := WI.out
    refine Or.inl ⟨wanted_none rfl, ?_⟩
    rintro _ rfl
    go_simp <;> with_reducible rfl
   refine relG_pure (i := 21) (o := ⟨some 33, _, _, _, _, _⟩) (v := ?v20) [(1, 13, 19), (15, 27, 5), (20, 32, 0)] [] rfl rfl (by kernel_rfl) (by kernel_rfl) (fun t w1 hB hf hbf => ?y20) ?n20
   case y20 =>
    simp only [DepF, List.getD_cons_zero, List.getD_cons_succ] at hf
    obtain ⟨⟨_, ⟨e13, i13⟩, rfl⟩, ⟨_, ⟨e27, i27⟩, rfl⟩, ⟨_, ⟨e32, i32⟩, rfl⟩, _⟩ := hf
    clear hbf
    have f1 := F1.out
    have w9 := W9.out
    have w10 := W10.out
    have w11 := W11.out
    have wr := WR.out
    have wi := WI.out
    refine Or.inl ⟨wanted_none rfl, ?_⟩
    rintro _ rfl
    go_simp <;> with_reducible rfl
   refine relG_call (i := 22) (o := ⟨some 5, _, _, _, _, _⟩) ((fun v w' => ∃ b, v = .pointer (some ⟨b, 0, none⟩) ∧ W.heap.size ≤ b ∧ w'.heap[b]? = some (.cells #[.int .i64 0, .int .i64 0, .string ⟨#[]⟩, .int .i64 0, .int .i64 0] 43 (0, 0)))) [] [] rfl rfl (by kernel_rfl) (by kernel_rfl) ((fun v w' w'' h hb => by obtain ⟨b, e1, e2, e3⟩ := h; exact ⟨b, e1, e2, boxStays e3 hb⟩)) ?_ ?_
   · intro t w1 hB hf hbf K hK
     clear hf
     clear hbf
     have f1 := F1.out
     have w9 := W9.out
     have w10 := W10.out
     have w11 := W11.out
     have wr := WR.out
     have wi := WI.out
     refine ⟨wanted_none rfl, ?_⟩
     go_simp
     exact hK.out _ _ (⟨_, rfl, hB.size, heap_alloc_new _ _⟩) (below_new _ _)
   refine relG_tail 23 [(0, 12, 22), (1, 13, 21), (2, 14, 20), (3, 15, 19), (4, 16, 18), (5, 17, 17), (6, 18, 16), (7, 19, 15), (8, 20, 14), (9, 21, 13), (10, 22, 12), (11, 23, 11), (12, 24, 10), (13, 25, 9), (14, 26, 8), (15, 27, 7), (16, 28, 6), (17, 29, 5), (18, 30, 4), (19, 31, 3), (20, 32, 2), (21, 33, 1), (22, 5, 0)] (by kernel_rfl) rfl (by kernel_rfl) (by kernel_rfl) (fun f wE hB hf => ?_) (by kernel_rfl)
   simp only [FinF, List.getD_cons_zero, List.getD_cons_succ] at hf
   obtain ⟨⟨_, e12, rfl⟩, ⟨_, e13, rfl⟩, ⟨_, e14, rfl⟩, ⟨_, e15, rfl⟩, ⟨_, e16, rfl⟩, ⟨_, e17, rfl⟩, ⟨_, e18, rfl⟩, ⟨_, e19, rfl⟩, ⟨_, e20, rfl⟩, ⟨_, e21, rfl⟩, ⟨_, e22, rfl⟩, ⟨_, e23, rfl⟩, ⟨_, e24, rfl⟩, ⟨_, e25, rfl⟩, ⟨_, e26, rfl⟩, ⟨_, e27, rfl⟩, ⟨_, e28, rfl⟩, ⟨_, e29, rfl⟩, ⟨_, e30, rfl⟩, ⟨_, e31, rfl⟩, ⟨_, e32, rfl⟩, ⟨_, e33, rfl⟩, ⟨_, e5, ⟨bb, rfl, hbb, hbr⟩⟩, _⟩ := hf
   simp only [regT, List.foldl_cons, List.foldl_nil, List.setIfInBounds_toArray, List.set_cons_zero, List.set_cons_succ, e12, e13, e14, e15, e16, e17, e18, e19, e20, e21, e22, e23, e24, e25, e26, e27, e28, e29, e30, e31, e32, e33, e5]
   clear e12 e13 e14 e15 e16 e17 e18 e19 e20 e21 e22 e23 e24 e25 e26 e27 e28 e29 e30 e31 e32 e33 e5
   change wpList _ _ _ [_] _ _
   have BR := Lib.hid hbr
   have hB1 := Lib.hid hB
   clear hB hbr K1 K2 IX IY SM SF W9 W10 W11 WR WI F1
   go_upto_region 5 with (refine wpList_store_row rfl 43 (.tmp 5) (.tmp 33) rfl bb #[.int .i64 g, .int .i64 r, .string l, .int .i64 nn, .int .i64 ii] rfl rfl 43 _ BR.out (by kernel_rfl) rfl (st_one _ _ _ _ _) ?_)
   simp only [Act.put]
   have hne : w.heap.size ≠ bb := by omega
   have y1 : (wE.setRow bb #[.int .i64 g, .int .i64 r, .string l, .int .i64 nn, .int .i64 ii]).heap[w.heap.size]? = _ := (setRow_other wE bb w.heap.size #[.int .i64 g, .int .i64 r, .string l, .int .i64 nn, .int .i64 ii] hne).trans (boxStays Y1.out hB1.out)
   have y2 := setRow_heap wE bb _ #[.int .i64 g, .int .i64 r, .string l, .int .i64 nn, .int .i64 ii] _ _ BR.out
   have c2 : Below w.heap.size w (wE.setRow bb #[.int .i64 g, .int .i64 r, .string l, .int .i64 nn, .int .i64 ii]) := below_setRow (C1.out.trans (hB1.out.mono (by omega))) (by omega) _
   generalize wE.setRow bb #[.int .i64 g, .int .i64 r, .string l, .int .i64 nn, .int .i64 ii] = W2 at *
   have Y2 := Lib.hid y1
   have Z2 := Lib.hid y2
   have C2 := Lib.hid c2
   have HKey := Lib.hid (fun w' h => ref6_Key (svK k) w' h)
   have HSt := Lib.hid (fun w' => ref6_Stamp (svK k) w' (by rw [SV.out]; exact hlz))
   rw [SV.out] at HKey HSt E
   simp only at HKey HSt
   obtain ⟨ok, hok⟩ : ∃ b, (⟨g, r, l, nn, ii⟩ : Sv).ok = b := ⟨_, rfl⟩
   obtain ⟨kb, hkb⟩ : ∃ b, keyB (⟨g, r, l, nn, ii⟩ : Sv).st = b := ⟨_, rfl⟩
   rw [hok, hkb] at E
   rw [hok] at HSt
   rw [hok, hkb] at HKey
   clear y1 y2 c2 Y1 C1 BR hB1 hne hok hkb SV
   have k0 := cell_of_row _ _ 0 _ _ _ Z2.out
   have k1 := cell_of_row _ _ 1 _ _ _ Z2.out
   have k2 := cell_of_row _ _ 2 _ _ _ Z2.out
   have k3 := cell_of_row _ _ 3 _ _ _ Z2.out
   have k4 := cell_of_row _ _ 4 _ _ _ Z2.out
   go_wp2_with fail
   refine (HSt.out _).mono ?_
   rintro e w3 ⟨rfl, hb⟩
   have Y3 := Lib.hid (boxStays Y2.out hb)
   have Z3 := Lib.hid (boxStays Z2.out hb)
   have C3 := Lib.hid (C2.out.trans (hb.mono C2.out.size))
   clear hb k0 k1 k2 k3 k4 HSt Y2 Z2 C2
   cases ok with
   | false =>
    go_wp2_with (refine wpList_store_row rfl 43 (.tmp 2) (.tmp 43) rfl w.heap.size #[.int .i64 0, .int .i64 0, .string ⟨#[]⟩, .int .i64 0, .int .i64 0] rfl rfl 43 _ Y3.out (by kernel_rfl) rfl (st_one _ _ _ _ _) ?_)
    have Y := setRow_heap _ w.heap.size _ #[.int .i64 0, .int .i64 0, .string ⟨#[]⟩, .int .i64 0, .int .i64 0] _ _ Y3.out
    have q0 := cell_of_row _ _ 0 _ _ _ Y
    have q1 := cell_of_row _ _ 1 _ _ _ Y
    have q2 := cell_of_row _ _ 2 _ _ _ Y
    have q3 := cell_of_row _ _ 3 _ _ _ Y
    have q4 := cell_of_row _ _ 4 _ _ _ Y
    refine bodyPost_ret (v := .tuple #[.agg #[.int .i64 0, .int .i64 0, .string ⟨#[]⟩, .int .i64 0, .int .i64 0], .int .i64 4]) (by simp [results, Tryz.results58, go_sem, q0, q1, q2, q3, q4]) rfl ?_
    exact ⟨by rw [E.out, if_neg (by simp)]; rfl, below_setRow C3.out (Nat.le_refl _) _⟩
   | true =>
    have k0 := cell_of_row _ _ 0 _ _ _ Z3.out
    have k1 := cell_of_row _ _ 1 _ _ _ Z3.out
    have k2 := cell_of_row _ _ 2 _ _ _ Z3.out
    have k3 := cell_of_row _ _ 3 _ _ _ Z3.out
    have k4 := cell_of_row _ _ 4 _ _ _ Z3.out
    go_wp2_with fail
    refine (HKey.out _ (by simp)).mono ?_
    rintro e w4 ⟨rfl, hb⟩
    have Y4 := Lib.hid (boxStays Y3.out hb)
    have Z4 := Lib.hid (boxStays Z3.out hb)
    have C4 := Lib.hid (C3.out.trans (hb.mono C3.out.size))
    clear hb k0 k1 k2 k3 k4 HKey Y3 Z3 C3
    by_cases hq : kb = k
    · subst hq
      have k0 := cell_of_row _ _ 0 _ _ _ Z4.out
      have k1 := cell_of_row _ _ 1 _ _ _ Z4.out
      have k2 := cell_of_row _ _ 2 _ _ _ Z4.out
      have k3 := cell_of_row _ _ 3 _ _ _ Z4.out
      have k4 := cell_of_row _ _ 4 _ _ _ Z4.out
      go_wp2_with (refine wpList_store_row rfl 43 (.tmp 2) (.tmp 44) rfl w.heap.size #[.int .i64 g, .int .i64 r, .string l, .int .i64 nn, .int .i64 ii] rfl rfl 43 _ Y4.out (by kernel_rfl) rfl (st_one _ _ _ _ _) ?_)
      have Y := setRow_heap _ w.heap.size _ #[.int .i64 g, .int .i64 r, .string l, .int .i64 nn, .int .i64 ii] _ _ Y4.out
      have q0 := cell_of_row _ _ 0 _ _ _ Y
      have q1 := cell_of_row _ _ 1 _ _ _ Y
      have q2 := cell_of_row _ _ 2 _ _ _ Y
      have q3 := cell_of_row _ _ 3 _ _ _ Y
      have q4 := cell_of_row _ _ 4 _ _ _ Y
      refine bodyPost_ret (v := .tuple #[.agg #[.int .i64 g, .int .i64 r, .string l, .int .i64 nn, .int .i64 ii], .int .i64 0]) (by simp [results, Tryz.results58, go_sem, q0, q1, q2, q3, q4]) rfl ?_
      exact ⟨by rw [E.out, if_pos (by simp)]; rfl, below_setRow C4.out (Nat.le_refl _) _⟩
    · have hne : (kb.toList == k.toList) = false := by rw [Pm.eq_iff]; simp; exact hq
      go_wp2_with (refine wpList_store_row rfl 43 (.tmp 2) (.tmp 43) rfl w.heap.size #[.int .i64 0, .int .i64 0, .string ⟨#[]⟩, .int .i64 0, .int .i64 0] rfl rfl 43 _ Y4.out (by kernel_rfl) rfl (st_one _ _ _ _ _) ?_)
      have Y := setRow_heap _ w.heap.size _ #[.int .i64 0, .int .i64 0, .string ⟨#[]⟩, .int .i64 0, .int .i64 0] _ _ Y4.out
      have q0 := cell_of_row _ _ 0 _ _ _ Y
      have q1 := cell_of_row _ _ 1 _ _ _ Y
      have q2 := cell_of_row _ _ 2 _ _ _ Y
      have q3 := cell_of_row _ _ 3 _ _ _ Y
      have q4 := cell_of_row _ _ 4 _ _ _ Y
      refine bodyPost_ret (v := .tuple #[.agg #[.int .i64 0, .int .i64 0, .string ⟨#[]⟩, .int .i64 0, .int .i64 0], .int .i64 4]) (by simp [results, Tryz.results58, go_sem, q0, q1, q2, q3, q4]) rfl ?_
      exact ⟨by rw [E.out, if_neg (fun h => hq h.2)]; rfl, below_setRow C4.out (Nat.le_refl _) _⟩
end Go.Proofs.YtjlliohjeiclaaaGreatDoor
namespace Go.Proofs.YtjlliohjeiclaaaGreatDoor
namespace Pm
section
variable {α : Type}
def rn (N : Nat) : Tr α → Prop
 | .nil => False
 | .node b _ _ _ _ => N ≤ b
def hv (N : Nat) : Tr α → Prop
 | .nil => False
 | .node _ l _ _ r => (ht r < ht l ∧ rn N l) ∨ (ht l < ht r ∧ rn N r)
end
end Pm
end Go.Proofs.YtjlliohjeiclaaaGreatDoor
namespace Go.Proofs.YtjlliohjeiclaaaGreatDoor
namespace Pm
section
variable {α : Type}
def lk (z : α) : List (ByteArray × α) → ByteArray → α × Bool
 | [], _ => (z, false)
 | x :: l, k => if x.1 = k then (x.2, true) else lk z l k
theorem lk_none {z : α} {l : List (ByteArray × α)} {k : ByteArray} (h : ∀ x ∈ l, x.1 ≠ k) : lk z l k = (z, false) := by
 induction l with
 | nil => rfl
 | cons x l ih =>
  simp only [lk]
  rw [if_neg (h x List.mem_cons_self)]
  exact ih fun y hy => h y (List.mem_cons_of_mem _ hy)
theorem lk_left {z : α} {l m : List (ByteArray × α)} {k : ByteArray} (h : ∀ x ∈ m, x.1 ≠ k) : lk z (l ++ m) k = lk z l k := by
 induction l with
 | nil => exact lk_none h
 | cons x l ih =>
  simp only [List.cons_append, lk]
  rw [ih]
theorem lk_right {z : α} {l m : List (ByteArray × α)} {k : ByteArray} (h : ∀ x ∈ l, x.1 ≠ k) : lk z (l ++ m) k = lk z m k := by
 induction l with
 | nil => rfl
 | cons x l ih =>
  simp only [List.cons_append, lk]
  rw [if_neg (h x List.mem_cons_self)]
  exact ih fun y hy => h y (List.mem_cons_of_mem _ hy)
def nrm (z : α) (p : α × Bool) : α × Bool := if p.2 = true then p else (z, false)
theorem split_lt {N : Nat} {k : ByteArray} {t a x c : Tr α} (h : SplitR N k t a x c) (hs : Srt (items t)) : (∀ y ∈ items a, klt y.1 k = true) ∧ (∀ y ∈ items c, klt k y.1 = true) := by
 induction h with
 | nil => exact ⟨fun y hy => (by cases hy), fun y hy => (by cases hy)⟩
 | lt h1 h2 h3 ih =>
  obtain ⟨s1, s2, s3⟩ := srt_append.1 hs
  obtain ⟨s4, s5⟩ := srt_cons.1 s2
  obtain ⟨i1, i2⟩ := ih s1
  refine ⟨i1, fun y hy => ?_⟩
  rw [h3.items] at hy
  rcases List.mem_append.1 hy with hy | hy
  · exact i2 y hy
  · rcases List.mem_cons.1 hy with rfl | hy
    · exact h1
    · exact klt_trans h1 (s4 y hy)
 | gt h1 h2 h3 ih =>
  obtain ⟨s1, s2, s3⟩ := srt_append.1 hs
  obtain ⟨s4, s5⟩ := srt_cons.1 s2
  obtain ⟨i1, i2⟩ := ih s5
  refine ⟨fun y hy => ?_, i2⟩
  rw [h3.items] at hy
  rcases List.mem_append.1 hy with hy | hy
  · exact klt_trans (s3 y hy _ List.mem_cons_self) h1
  · rcases List.mem_cons.1 hy with rfl | hy
    · exact h1
    · exact i1 y hy
 | eq h1 =>
  subst h1
  obtain ⟨s1, s2, s3⟩ := srt_append.1 hs
  obtain ⟨s4, s5⟩ := srt_cons.1 s2
  exact ⟨fun y hy => s3 y hy _ List.mem_cons_self, fun y hy => s4 y hy⟩
theorem split_mid {N : Nat} {k : ByteArray} {t a x c : Tr α} (h : SplitR N k t a x c) : here x = [] ∨ ∃ v, here x = [(k, v)] := by
 rw [h.seek]
 cases e : Pm.seek k t with
 | nil => exact .inl rfl
 | node b l k0 v0 r =>
  obtain ⟨rfl, _⟩ := seek_some e
  exact .inr ⟨v0, rfl⟩
structure Parts (z : α) (k : ByteArray) (t a x c : Tr α) : Prop where
 sa : Srt (items a)
 sc : Srt (items c)
 la : ∀ y ∈ items a, klt y.1 k = true
 lc : ∀ y ∈ items c, klt k y.1 = true
 ea : ∀ q, klt q k = true → lk z (items a) q = lk z (items t) q
 ec : ∀ q, klt k q = true → lk z (items c) q = lk z (items t) q
 ma : ∀ y ∈ items a, y ∈ items t
 mc : ∀ y ∈ items c, y ∈ items t
 ex : lk z (items t) k = lk z (here x) k
 sz : sz t = sz a + (here x).length + sz c
theorem SplitR.parts {N : Nat} {k : ByteArray} {t a x c : Tr α} (z : α) (h : SplitR N k t a x c) (hs : Srt (Pm.items t)) : Parts z k t a x c := by
 obtain ⟨h1, h2⟩ := split_lt h hs
 have hi := h.items
 have hm := split_mid h
 have hx : ∀ y ∈ here x, y.1 = k := by
  rcases hm with e | ⟨v, e⟩
  · rw [e]; intro y hy; cases hy
  · rw [e]; intro y hy; rw [List.mem_singleton.1 hy]
 have hs0 := hs
 rw [hi, List.append_assoc] at hs
 obtain ⟨s1, s2, _⟩ := srt_append.1 hs
 obtain ⟨_, s3, _⟩ := srt_append.1 s2
 refine ⟨s1, s3, h1, h2, fun q hq => ?_, fun q hq => ?_, fun y hy => ?_, fun y hy => ?_, ?_, ?_⟩
 · rw [hi, List.append_assoc, lk_left]
   intro y hy
   rcases List.mem_append.1 hy with hy | hy
   · rw [hx y hy]; exact Ne.symm (klt_ne hq)
   · exact Ne.symm (klt_ne (klt_trans hq (h2 y hy)))
 · rw [hi, lk_right]
   intro y hy
   rcases List.mem_append.1 hy with hy | hy
   · exact klt_ne (klt_trans (h1 y hy) hq)
   · rw [hx y hy]; exact klt_ne hq
 · rw [hi]; exact List.mem_append_left _ (List.mem_append_left _ hy)
 · rw [hi]; exact List.mem_append_right _ hy
 · rw [hi, List.append_assoc, lk_right (fun y hy => klt_ne (h1 y hy)), lk_left (fun y hy => Ne.symm (klt_ne (h2 y hy)))]
 · rw [← sz_items, hi, ← sz_items a, ← sz_items c]; simp; omega
def Dj (s a : Tr α) : Prop := ∀ b ∈ blocks s, b ∉ blocks a
structure WlkI (z : α) (B0 A0 O0 : ByteArray → α × Bool) (C : ByteArray → Prop) (s a o : Tr α) : Prop where
 ss : Srt (items s)
 sa : Srt (items a)
 so : Srt (items o)
 bs : Bal s
 ba : Bal a
 bo : Bal o
 es : ∀ k, C k → lk z (items s) k = B0 k
 ea : ∀ k, C k → lk z (items a) k = A0 k
 eo : ∀ k, C k → lk z (items o) k = O0 k
 ins : ∀ x ∈ items s, C x.1
 ina : ∀ x ∈ items a, C x.1
 ino : ∀ x ∈ items o, C x.1
structure WlkO (z : α) (R B0 A0 O0 : ByteArray → α × Bool) (C : ByteArray → Prop) (s a o m : Tr α) (asked : List ByteArray) : Prop where
 srt : Srt (items m)
 bal : Bal m
 inC : ∀ x ∈ items m, C x.1
 nd : asked.Nodup
 sub : ∀ k ∈ asked, C k ∧ ((A0 k).2 = true ∨ (O0 k).2 = true)
 len : asked.length ≤ sz a + sz o
 siz : sz m ≤ sz a + sz o
 ans : ∀ k, C k → (k ∈ asked ∧ lk z (items m) k = nrm z (R k)) ∨ (k ∉ asked ∧ (((A0 k = O0 k ∨ B0 k = O0 k) ∧ lk z (items m) k = A0 k) ∨ (B0 k = A0 k ∧ lk z (items m) k = O0 k ∧ (Dj s a → (B0 k).2 = false))))
variable {z : α} {R B0 A0 O0 : ByteArray → α × Bool} {C : ByteArray → Prop} {s a o : Tr α}
theorem WlkI.left {key : ByteArray} {sl sx sr al ax ar ol ox or' : Tr α} {N1 N2 N3 : Nat} (h : WlkI z B0 A0 O0 C s a o) (h1 : SplitR N1 key s sl sx sr) (h2 : SplitR N2 key a al ax ar) (h3 : SplitR N3 key o ol ox or') :
 WlkI z B0 A0 O0 (fun k => C k ∧ klt k key = true) sl al ol ∧ WlkI z B0 A0 O0 (fun k => C k ∧ klt key k = true) sr ar or' := by
 have p1 := h1.parts z h.ss
 have p2 := h2.parts z h.sa
 have p3 := h3.parts z h.so
 exact ⟨⟨p1.sa, p2.sa, p3.sa, (h1.bal h.bs).1, (h2.bal h.ba).1, (h3.bal h.bo).1, fun k hk => (p1.ea k hk.2).trans (h.es k hk.1), fun k hk => (p2.ea k hk.2).trans (h.ea k hk.1), fun k hk => (p3.ea k hk.2).trans (h.eo k hk.1),
  fun x hx => ⟨h.ins x (p1.ma x hx), p1.la x hx⟩, fun x hx => ⟨h.ina x (p2.ma x hx), p2.la x hx⟩, fun x hx => ⟨h.ino x (p3.ma x hx), p3.la x hx⟩⟩,
  ⟨p1.sc, p2.sc, p3.sc, (h1.bal h.bs).2, (h2.bal h.ba).2, (h3.bal h.bo).2, fun k hk => (p1.ec k hk.2).trans (h.es k hk.1), fun k hk => (p2.ec k hk.2).trans (h.ea k hk.1), fun k hk => (p3.ec k hk.2).trans (h.eo k hk.1),
  fun x hx => ⟨h.ins x (p1.mc x hx), p1.lc x hx⟩, fun x hx => ⟨h.ina x (p2.mc x hx), p2.lc x hx⟩, fun x hx => ⟨h.ino x (p3.mc x hx), p3.lc x hx⟩⟩⟩
theorem said_up {m l : List (ByteArray × α)} {asked ks : List ByteArray} {s a s' a' : Tr α} {k : ByteArray} (hl : lk z m k = lk z l k) (ha : k ∈ asked ↔ k ∈ ks) (hd : Dj s a → Dj s' a')
 (h : (k ∈ ks ∧ lk z l k = nrm z (R k)) ∨ (k ∉ ks ∧ (((A0 k = O0 k ∨ B0 k = O0 k) ∧ lk z l k = A0 k) ∨ (B0 k = A0 k ∧ lk z l k = O0 k ∧ (Dj s' a' → (B0 k).2 = false))))) :
 (k ∈ asked ∧ lk z m k = nrm z (R k)) ∨ (k ∉ asked ∧ (((A0 k = O0 k ∨ B0 k = O0 k) ∧ lk z m k = A0 k) ∨ (B0 k = A0 k ∧ lk z m k = O0 k ∧ (Dj s a → (B0 k).2 = false)))) := by
 rw [hl, ha]
 rcases h with h | ⟨h1, h | ⟨h2, h3, h4⟩⟩
 · exact .inl h
 · exact .inr ⟨h1, .inl h⟩
 · exact .inr ⟨h1, .inr ⟨h2, h3, fun h => h4 (hd h)⟩⟩
theorem WlkO.step {key : ByteArray} {sl sx sr al ax ar ol ox or' l r m : Tr α} {as1 as2 : List ByteArray} {N1 N2 N3 : Nat} (h : WlkI z B0 A0 O0 C s a o) (hk : C key)
 (hx : 1 ≤ (here ax).length + (here ox).length)
 (h1 : SplitR N1 key s sl sx sr) (h2 : SplitR N2 key a al ax ar) (h3 : SplitR N3 key o ol ox or') (hd : Dj s a → Dj sl al ∧ Dj sr ar)
 (o1 : WlkO z R B0 A0 O0 (fun k => C k ∧ klt k key = true) sl al ol l as1) (o2 : WlkO z R B0 A0 O0 (fun k => C k ∧ klt key k = true) sr ar or' r as2)
 (hm : items m = items l ++ ((if (R key).2 = true then [(key, (R key).1)] else []) ++ items r)) (hb : Bal m) : WlkO z R B0 A0 O0 C s a o m (as1 ++ as2 ++ [key]) := by
 have p2 := h2.parts z h.sa
 have p3 := h3.parts z h.so
 have l1 : ∀ k ∈ as1, klt k key = true := fun k hk => (o1.sub k hk).1.2
 have l2 : ∀ k ∈ as2, klt key k = true := fun k hk => (o2.sub k hk).1.2
 have hmid : ∀ y ∈ (if (R key).2 = true then [(key, (R key).1)] else [] : List (ByteArray × α)), y.1 = key := by
  intro y hy
  split at hy
  · rw [List.mem_singleton.1 hy]
  · cases hy
 have hml : (if (R key).2 = true then [(key, (R key).1)] else [] : List (ByteArray × α)).length ≤ 1 := by split <;> simp
 generalize hq : (if (R key).2 = true then [(key, (R key).1)] else [] : List (ByteArray × α)) = mid at *
 refine ⟨?_, hb, ?_, ?_, ?_, ?_, ?_, ?_⟩
 · rw [hm]
   refine srt_append.2 ⟨o1.srt, srt_append.2 ⟨?_, o2.srt, fun x hx y hy => ?_⟩, fun x hx y hy => ?_⟩
   · rw [← hq]; split <;> simp [Srt]
   · rw [hmid x hx]; exact (o2.inC y hy).2
   · rcases List.mem_append.1 hy with hy | hy
     · rw [hmid y hy]; exact (o1.inC x hx).2
     · exact klt_trans (o1.inC x hx).2 (o2.inC y hy).2
 · intro x hx
   rw [hm] at hx
   rcases List.mem_append.1 hx with hx | hx
   · exact (o1.inC x hx).1
   · rcases List.mem_append.1 hx with hx | hx
     · rw [hmid x hx]; exact hk
     · exact (o2.inC x hx).1
 · rw [List.nodup_append, List.nodup_append]
   refine ⟨⟨o1.nd, o2.nd, fun x hx y hy e => ?_⟩, by simp, fun x hx y hy e => ?_⟩
   · subst e; have := klt_trans (l1 x hx) (l2 x hy); rw [klt_irrefl] at this; cases this
   · rw [List.mem_singleton.1 hy] at e
     subst e
     rcases List.mem_append.1 hx with hx | hx
     · have := l1 x hx; rw [klt_irrefl] at this; cases this
     · have := l2 x hx; rw [klt_irrefl] at this; cases this
 · intro k hk'
   rcases List.mem_append.1 hk' with hk' | hk'
   · rcases List.mem_append.1 hk' with hk' | hk'
     · exact ⟨(o1.sub k hk').1.1, (o1.sub k hk').2⟩
     · exact ⟨(o2.sub k hk').1.1, (o2.sub k hk').2⟩
   · rw [List.mem_singleton.1 hk']
     refine ⟨hk, ?_⟩
     have e2 : lk z (here ax) key = A0 key := by rw [← p2.ex]; exact h.ea key hk
     have e3 : lk z (here ox) key = O0 key := by rw [← p3.ex]; exact h.eo key hk
     rcases split_mid h2 with e | ⟨v, e⟩
     · rcases split_mid h3 with e' | ⟨v, e'⟩
       · rw [e, e'] at hx; simp at hx
       · right; rw [← e3, e']; simp [lk]
     · left; rw [← e2, e]; simp [lk]
 · have := o1.len; have := o2.len; have := p2.sz; have := p3.sz
   simp only [List.length_append, List.length_cons, List.length_nil]
   omega
 · have e1 : sz m = sz l + mid.length + sz r := by rw [← sz_items, hm, ← sz_items l, ← sz_items r]; simp; omega
   have := o1.siz; have := o2.siz; have := p2.sz; have := p3.sz
   omega
 · intro k hC
   by_cases hlt : klt k key = true
   · refine said_up (l := items l) (ks := as1) ?_ ?_ (fun h => (hd h).1) (o1.ans k ⟨hC, hlt⟩)
     · rw [hm, lk_left]
       intro y hy
       rcases List.mem_append.1 hy with hy | hy
       · rw [hmid y hy]; exact Ne.symm (klt_ne hlt)
       · exact Ne.symm (klt_ne (klt_trans hlt (o2.inC y hy).2))
     · simp only [List.mem_append, List.mem_singleton]
       constructor
       · rintro ((h | h) | h)
         · exact h
         · have := klt_trans hlt (l2 k h); rw [klt_irrefl] at this; cases this
         · exact absurd h (klt_ne hlt)
       · intro h; exact .inl (.inl h)
   · by_cases hgt : klt key k = true
     · refine said_up (l := items r) (ks := as2) ?_ ?_ (fun h => (hd h).2) (o2.ans k ⟨hC, hgt⟩)
       · rw [hm, lk_right (fun y hy => klt_ne (klt_trans (o1.inC y hy).2 hgt)), lk_right]
         intro y hy; rw [hmid y hy]; exact klt_ne hgt
       · simp only [List.mem_append, List.mem_singleton]
         constructor
         · rintro ((h | h) | h)
           · have := klt_trans (l1 k h) hgt; rw [klt_irrefl] at this; cases this
           · exact h
           · exact absurd h.symm (klt_ne hgt)
         · intro h; exact .inl (.inr h)
     · have e := klt_tri (by simpa using hlt) (by simpa using hgt)
       subst e
       refine .inl ⟨by simp, ?_⟩
       rw [hm, lk_right (fun y hy => klt_ne (o1.inC y hy).2), lk_left (fun y hy => Ne.symm (klt_ne (o2.inC y hy).2)), ← hq]
       unfold nrm
       split
       · simp [lk]; exact Prod.ext rfl (by simpa using (‹(R k).2 = true›).symm)
       · rfl
theorem WlkO.all {m : Tr α} {asked : List ByteArray} (h : WlkO z R B0 A0 O0 C s a o m asked) (k : ByteArray) (hk : C k) (h1 : A0 k = O0 k ∨ B0 k = O0 k → nrm z (R k) = A0 k) (h2 : B0 k = A0 k → nrm z (R k) = O0 k ∨ (Dj s a ∧ (B0 k).2 = true)) : lk z (items m) k = nrm z (R k) := by
 rcases h.ans k hk with ⟨_, h⟩ | ⟨_, ⟨h3, h4⟩ | ⟨h3, h4, h5⟩⟩
 · exact h
 · rw [h4, h1 h3]
 · rcases h2 h3 with h6 | ⟨h6, h7⟩
   · rw [h4, h6]
   · rw [h5 h6] at h7; cases h7
end
end Pm
end Go.Proofs.YtjlliohjeiclaaaGreatDoor
namespace Go.Proofs.YtjlliohjeiclaaaGreatDoor
namespace St
open Pm
abbrev Ev := Sv × ByteArray
def toV (e : El) : Ev := (e.1.sv, e.2)
def toE (e : Ev) : El := (e.1.st, e.2)
def okV (e : Ev) : Bool := e.1.ok && decide (e.2.size ≤ 256)
theorem okE_iff {e : El} : okE e = true ↔ e.1.ok = true ∧ e.2.size ≤ 256 := by
 unfold okE
 simp only [Bool.and_eq_true, decide_eq_true_eq]
theorem okV_iff {e : Ev} : okV e = true ↔ e.1.ok = true ∧ e.2.size ≤ 256 := by
 unfold okV
 simp only [Bool.and_eq_true, decide_eq_true_eq]
theorem okV_toE {e : Ev} (h : okV e = true) : okE (toE e) = true ∧ toV (toE e) = e := by
 obtain ⟨h1, h2⟩ := okV_iff.1 h
 obtain ⟨k1, k2⟩ := Sv.ok_st h1
 exact ⟨okE_iff.2 ⟨k1, h2⟩, by unfold toV toE; rw [k2]⟩
def mayV (l : List Ev) : Bool := l.all okV && decide ((l.map (·.1)).Nodup)
theorem mayV_iff {l : List Ev} : mayV l = true ↔ (∀ x ∈ l, okV x = true) ∧ (l.map (·.1)).Nodup := by
 unfold mayV
 simp only [Bool.and_eq_true, List.all_eq_true, decide_eq_true_eq]
theorem mayV_nil : mayV [] = true := by simp [mayV]
theorem mayV_snoc {l : List Ev} {x : Ev} : mayV (l ++ [x]) = true ↔ mayV l = true ∧ okV x = true ∧ ∀ y ∈ l, y.1 ≠ x.1 := by
 rw [mayV_iff, mayV_iff]
 simp only [List.mem_append, List.mem_singleton, List.map_append, List.map_cons, List.map_nil, List.nodup_append, List.mem_map]
 constructor
 · rintro ⟨h1, h2, _, h3⟩
   exact ⟨⟨fun y hy => h1 y (.inl hy), h2⟩, h1 x (.inr rfl), fun y hy => h3 _ ⟨y, hy, rfl⟩ _ rfl⟩
 · rintro ⟨⟨h1, h2⟩, h3, h4⟩
   refine ⟨fun y hy => ?_, h2, by simp, ?_⟩
   · rcases hy with hy | rfl
     · exact h1 y hy
     · exact h3
   · rintro _ ⟨y, hy, rfl⟩ _ rfl
     exact h4 y hy
theorem mayV_left {l m : List Ev} (h : mayV (l ++ m) = true) : mayV l = true := by
 rw [mayV_iff] at h ⊢
 rw [List.map_append, List.nodup_append] at h
 exact ⟨fun x hx => h.1 x (List.mem_append_left _ hx), h.2.1⟩
end St
end Go.Proofs.YtjlliohjeiclaaaGreatDoor
namespace Go.Proofs.YtjlliohjeiclaaaGreatDoor
open Go.RowKit
theorem CellsAt.take {w : World} {a : Option Addr} {vs : List Value} (h : CellsAt w a vs) (k : Nat) : CellsAt w a (vs.take k) := by
 intro i hi
 obtain ⟨b, off, e, c⟩ := h i (by simp at hi; omega)
 exact ⟨b, off, e, by rw [c]; simp⟩
theorem CellsAt.drop {w : World} {a : Option Addr} {vs : List Value} (h : CellsAt w a vs) (k : Nat) : CellsAt w (Option.map (fun x => x.add k) a) (vs.drop k) := by
 intro i hi
 obtain ⟨b, off, rfl, c⟩ := h (k + i) (by simp at hi; omega)
 exact ⟨b, off + k, by simp [Addr_add], by rw [show off + k + i = off + (k + i) by omega, c]; simp⟩
theorem CellsAt.src {P : Program} {w : World} {a : Option Addr} {vs : List Value} {size n : Nat} (h : CellsAt w a vs) (hlen : vs.length = n * size) (hone : ∀ u ∈ vs, u.oneCell' = true) {tx e' : TypeId} (hk : P.underlying tx = some (.slice e')) (cap : Nat) (hsz : size = 1 ∨ size = 2) : Src P size tx (.slice a n cap) n vs w := by
 cases a with
 | none =>
  have : vs = [] := by
   cases vs with
   | nil => rfl
   | cons c r => obtain ⟨b, off, hh, _⟩ := h 0 (by simp); cases hh
  subst this
  have hn : n = 0 := by rcases hsz with rfl | rfl <;> (simp only [List.length_nil] at hlen; omega)
  subst hn
  exact Src.ofNil w hk cap
 | some a =>
  refine Src.ofSlice w hk a _ cap vs hlen (fun j u hu => ?_) hone
  obtain ⟨hj, he⟩ := List.getElem?_eq_some_iff.1 hu
  obtain ⟨b, off, hh, hc⟩ := h j hj
  cases hh
  rw [Addr_add, hc, he]
def subN (a : Option Addr) (cap l size : Nat) : Option Addr := if cap = l then a else a.map (·.add (l * size))
theorem run_from {P : Program} (w : World) (t e : TypeId) (ht : P.underlying t = some (.slice e)) (size : Nat) (hz : ∀ w, (Go.sizeOf e).run P w = .ok size w) (a : Option Addr) (len cap l : Nat) (x : Int) (hx : x = (l : Int)) (hl : l ≤ len) :
 (Instr.slice t (.slice a len cap) (some (.int .i64 x)) none none).run P w = .ok (.slice (subN a cap l size) (len - l) (cap - l)) w := by
 have ht' : P.underlying t = some (.slice (P.elem t)) := by simp [Program.elem, ht]
 have he : P.elem t = e := by simp [Program.elem, ht]
 subst hx
 rw [run_slice_l w t _ _ _ ht' .i64 _ (by omega) (by omega), he, hz]
 simp [Result.andThen, sliced, subN]
theorem CellsAt.one {P : Program} (w : World) (t : TypeId) (v : Value) (hv : v.oneCell' = true) {tx e' : TypeId} (hk : P.underlying tx = some (.slice e')) : Src P 1 tx (.slice (some ⟨w.heap.size, 0, none⟩) 1 1) 1 [v] (w.alloc (.cells #[v] t)) :=
 (CellsAt.new w t (0, 0) [v]).src (n := 1) rfl (by simp [hv]) hk 1 (Or.inl rfl)
end Go.Proofs.YtjlliohjeiclaaaGreatDoor
namespace Go.Proofs.YtjlliohjeiclaaaGreatDoor
open Go.RowKit
theorem CellsAt.srcN {P : Program} {w : World} {a : Option Addr} {vs : List Value} {size n : Nat} (h : CellsAt w a vs) (hlen : vs.length = n * size) (hone : ∀ u ∈ vs, u.oneCell' = true) {tx e' : TypeId} (hk : P.underlying tx = some (.slice e')) (cap : Nat) (hsz : 0 < size) : Src P size tx (.slice a n cap) n vs w := by
 cases a with
 | none =>
  have : vs = [] := by
   cases vs with
   | nil => rfl
   | cons c r => obtain ⟨b, off, hh, _⟩ := h 0 (by simp); cases hh
  subst this
  have hn : n = 0 := by
   rw [List.length_nil] at hlen
   rcases Nat.eq_zero_or_pos n with h0 | h0
   · exact h0
   · have := Nat.mul_pos h0 hsz; omega
  subst hn
  exact Src.ofNil w hk cap
 | some a =>
  refine Src.ofSlice w hk a _ cap vs hlen (fun j u hu => ?_) hone
  obtain ⟨hj, he⟩ := List.getElem?_eq_some_iff.1 hu
  obtain ⟨b, off, hh, hc⟩ := h j hj
  cases hh
  rw [Addr_add, hc, he]
theorem CellsAt.ownN {w : World} {base n size : Nat} {e : TypeId} {a : Option Addr} {len cap : Nat} {vs : List Value} (h : w.ownsRow base e size (.slice a len cap) n vs) : CellsAt w a vs := by
 intro i hi
 rcases h.2 with ⟨hv, hn⟩ | ⟨g, cap', cur, hv, hb, hg, hnc, _, hcs, ht⟩
 · have := h.1
   rw [hn] at this
   omega
 · cases hv
   refine ⟨g, 0, rfl, ?_⟩
   rw [Nat.zero_add]
   have h1 := cell_of_row w g i cur e (0, 0) hg
   rw [h1]
   have h2 : cur.toList.take vs.length = vs := by have := h.1; first | exact ht | (rw [this]; exact ht)
   have h3 : (cur.toList.take vs.length)[i]? = some vs[i] := by rw [h2]; simp [hi]
   rw [List.getElem?_take_of_lt hi] at h3
   simpa using h3
theorem cellsAt_made {w w8 : World} {vs : List Value} {t : TypeId} (hw : w8 = w.alloc (.cells vs.toArray t)) : CellsAt w8 (some ⟨w.heap.size, 0, none⟩) vs := by rw [hw]; exact CellsAt.new _ _ _ vs
end Go.Proofs.YtjlliohjeiclaaaGreatDoor
namespace Go.Proofs.YtjlliohjeiclaaaGreatDoor
open Go.RowKit St
def elV (e : Ev) : List Value := [.int .i64 e.1.g, .int .i64 e.1.r, .string e.1.l, .int .i64 e.1.n, .int .i64 e.1.i, .string e.2]
def elsV (l : List Ev) : List Value := l.flatMap elV
theorem elsV_nil : elsV [] = [] := rfl
theorem elsV_cons (e : Ev) (l : List Ev) : elsV (e :: l) = elV e ++ elsV l := rfl
theorem elsV_length (l : List Ev) : (elsV l).length = l.length * 6 := by
 induction l with
 | nil => rfl
 | cons e l ih => rw [elsV_cons, List.length_append, ih, List.length_cons]; simp [elV]; omega
theorem elsV_one (l : List Ev) : ∀ u ∈ elsV l, u.oneCell' = true := fun u hu => by
 unfold elsV at hu
 obtain ⟨e, _, hu⟩ := List.mem_flatMap.1 hu
 simp only [elV, List.mem_cons, List.not_mem_nil, or_false] at hu
 rcases hu with rfl | rfl | rfl | rfl | rfl | rfl <;> rfl
theorem elsV_drop (l : List Ev) (k : Nat) : elsV (l.drop k) = (elsV l).drop (k * 6) := by
 induction l generalizing k with
 | nil => simp [elsV_nil]
 | cons e l ih =>
  cases k with
  | zero => simp
  | succ k =>
   rw [List.drop_succ_cons, elsV_cons, ih, List.drop_append, show (elV e).length = 6 from rfl, show (k + 1) * 6 - 6 = k * 6 by omega, List.drop_of_length_le (l := elV e) (by show 6 ≤ _; omega), List.nil_append]
theorem elsV_get (l : List Ev) (k j : Nat) (hk : k < l.length) (hj : j < 6) : (elsV l)[k * 6 + j]? = (elV l[k])[j]? := by
 have h1 : (elsV l).drop (k * 6) = elV l[k] ++ elsV (l.drop (k + 1)) := by rw [← elsV_drop, List.drop_eq_getElem_cons hk, elsV_cons]
 rw [← List.getElem?_drop, h1, List.getElem?_append_left (by show j < 6; exact hj)]
structure ElCell (w : World) (b o : Nat) (e : Ev) : Prop where
 c0 : w.cell? ⟨b, o, none⟩ = some (.int .i64 e.1.g)
 c1 : w.cell? ⟨b, o + 1, none⟩ = some (.int .i64 e.1.r)
 c2 : w.cell? ⟨b, o + 2, none⟩ = some (.string e.1.l)
 c3 : w.cell? ⟨b, o + 3, none⟩ = some (.int .i64 e.1.n)
 c4 : w.cell? ⟨b, o + 4, none⟩ = some (.int .i64 e.1.i)
 c5 : w.cell? ⟨b, o + 5, none⟩ = some (.string e.2)
theorem els_get {w : World} {a : Option Addr} {l : List Ev} (h : CellsAt w a (elsV l)) (k : Nat) (hk : k < l.length) : ∃ b off, a = some ⟨b, off, none⟩ ∧ ElCell w b (off + k * 6) l[k] := by
 have g : ∀ j v, j < 6 → (elV l[k])[j]? = some v → ∃ b off, a = some ⟨b, off, none⟩ ∧ w.cell? ⟨b, off + (k * 6 + j), none⟩ = some v := fun j v hj hv => h.get _ v (by rw [elsV_get l k j hk hj, hv])
 obtain ⟨b, off, rfl, q0⟩ := g 0 _ (by omega) rfl
 refine ⟨b, off, rfl, ?_⟩
 obtain ⟨_, _, e1, q1⟩ := g 1 _ (by omega) rfl
 obtain ⟨_, _, e2, q2⟩ := g 2 _ (by omega) rfl
 obtain ⟨_, _, e3, q3⟩ := g 3 _ (by omega) rfl
 obtain ⟨_, _, e4, q4⟩ := g 4 _ (by omega) rfl
 obtain ⟨_, _, e5, q5⟩ := g 5 _ (by omega) rfl
 cases e1; cases e2; cases e3; cases e4; cases e5
 exact ⟨by simpa using q0, by simpa [Nat.add_assoc] using q1, by simpa [Nat.add_assoc] using q2, by simpa [Nat.add_assoc] using q3, by simpa [Nat.add_assoc] using q4, by simpa [Nat.add_assoc] using q5⟩
theorem elT : ElemT Tryz.prog 22 53 (.agg #[.int .i64 0, .int .i64 0, .string ⟨#[]⟩, .int .i64 0, .int .i64 0, .string ⟨#[]⟩]) 6 64 := ElemT.mk Tryz.underlying22 (by kernel_rfl) (by simp [Value.cells])
end Go.Proofs.YtjlliohjeiclaaaGreatDoor
namespace Go.Proofs.YtjlliohjeiclaaaGreatDoor
open Go.RowKit St
theorem toList_iff (a b : ByteArray) : (a.toList = b.toList) = (a = b) := propext ⟨fun h => Pm.key_ext (by rw [← ByteArray.toList_eq, ← ByteArray.toList_eq]; exact h), fun h => by rw [h]⟩
theorem sv_eql (s t : Sv) (w : World) : (binOp .eql 43 (.agg #[.int .i64 s.g, .int .i64 s.r, .string s.l, .int .i64 s.n, .int .i64 s.i]) (.agg #[.int .i64 t.g, .int .i64 t.r, .string t.l, .int .i64 t.n, .int .i64 t.i])).run Tryz.prog w = .ok (.bool (decide (s = t))) w := by
 rw [run_eql_struct]
 simp [go_sem, Tryz.underlying43]
 obtain ⟨g, r, l, n, i⟩ := s
 obtain ⟨g', r', l', n', i'⟩ := t
 simp only [toList_iff, Sv.mk.injEq]
 by_cases h1 : g = g' <;> by_cases h2 : r = r' <;> by_cases h3 : l = l' <;> by_cases h4 : n = n' <;> by_cases h5 : i = i' <;> simp [h1, h2, h3, h4, h5]
theorem ne_at {α : Type} [DecidableEq α] {l m : List α} {k : Nat} (h1 : k < l.length) (h2 : k < m.length) (h : l[k] ≠ m[k]) : decide (l = m) = false := by
 rw [decide_eq_false_iff_not]
 intro e
 subst e
 exact h rfl
theorem eq_all {α : Type} [DecidableEq α] {l m : List α} (hl : l.length = m.length) (h : l.take l.length = m.take l.length) : decide (l = m) = true := by
 rw [decide_eq_true_eq]
 rw [List.take_length, hl, List.take_length] at h
 exact h
theorem take_eq {α : Type} {l m : List α} {k : Nat} (h1 : k < l.length) (h2 : k < m.length) (h : l.take k = m.take k) (e : l[k] = m[k]) : l.take (k + 1) = m.take (k + 1) := by
 rw [List.take_succ_eq_append_getElem h1, List.take_succ_eq_append_getElem h2, h, e]
end Go.Proofs.YtjlliohjeiclaaaGreatDoor
namespace Go.Proofs.YtjlliohjeiclaaaGreatDoor
open Go.RowKit St
theorem mayV_bad {l : List Ev} {k : Nat} (h : mayV (l.take k) = false) : mayV l = false := by
 cases e : mayV l with
 | false => rfl
 | true =>
  rw [← List.take_append_drop k l] at e
  rw [mayV_left e] at h
  exact h
theorem mayV_next {l : List Ev} {k : Nat} (hk : k < l.length) : mayV (l.take (k + 1)) = true ↔ mayV (l.take k) = true ∧ okV l[k] = true ∧ ∀ y ∈ l.take k, y.1 ≠ l[k].1 := by
 rw [List.take_succ_eq_append_getElem hk, mayV_snoc]
end Go.Proofs.YtjlliohjeiclaaaGreatDoor
namespace Go.Proofs.YtjlliohjeiclaaaGreatDoor
open Go.RowKit St
theorem CellsAt.subN {w : World} {a : Option Addr} {vs : List Value} (h : CellsAt w a vs) (cap l size : Nat) (hl : cap = l → vs.length ≤ l * size) : CellsAt w (subN a cap l size) (vs.drop (l * size)) := by
 unfold Go.Proofs.YtjlliohjeiclaaaGreatDoor.subN
 split
 · rename_i e
   rw [List.drop_of_length_le (hl e)]
   exact CellsAt.nil _ _
 · exact h.drop (l * size)
theorem ElCell.below {w w' : World} {b o : Nat} {e : Ev} (h : ElCell w b o e) (hb : Below w.heap.size w w') : ElCell w' b o e := by
 have hl : b < w.heap.size := cell_lt h.c0
 have k : ∀ j, w'.cell? ⟨b, j, none⟩ = w.cell? ⟨b, j, none⟩ := fun j => hb.cell (p := ⟨b, j, none⟩) hl
 exact ⟨by rw [k]; exact h.c0, by rw [k]; exact h.c1, by rw [k]; exact h.c2, by rw [k]; exact h.c3, by rw [k]; exact h.c4, by rw [k]; exact h.c5⟩
end Go.Proofs.YtjlliohjeiclaaaGreatDoor
namespace Go.Proofs.YtjlliohjeiclaaaGreatDoor
open Go.RowKit
def txV (l : List ByteArray) : List Value := l.map Value.string
theorem tx_get {w : World} {a : Option Addr} {l : List ByteArray} (h : CellsAt w a (txV l)) (k : Nat) (hk : k < l.length) : ∃ b off, a = some ⟨b, off, none⟩ ∧ w.cell? ⟨b, off + k, none⟩ = some (.string l[k]) := h.get k _ (by simp [txV, hk])
end Go.Proofs.YtjlliohjeiclaaaGreatDoor
namespace Go.Proofs.YtjlliohjeiclaaaGreatDoor
open Go.RowKit St
set_option maxRecDepth 100000 in
set_option maxHeartbeats 2000000 in
theorem ref9_SameTexts (l m : List ByteArray) (a b : Option Addr) (n1 n2 c1 c2 : Nat) (w : World) (hl : CellsAt w a (txV l)) (hm : CellsAt w b (txV m)) (hn1 : n1 = l.length) (hn2 : n2 = m.length) (hb : n1 ≤ 9223372036854775807) :
 Calls Tryz.prog 43 #[.slice a n1 c1, .slice b n2 c2] w fun e w' => e = .returned (.bool (decide (l = m))) ∧ Below w.heap.size w w' := by
 have HL := Lib.hid hl
 have HM := Lib.hid hm
 clear hl hm
 go_enter Tryz.func43, Tryz.ntmps43
 by_cases hlen : n1 = n2
 · subst hlen
   have hN : Hid (l.length = m.length) := Lib.hid (by omega)
   have E : Hid (l.take n1 = m.take n1 → decide (l = m) = true) := Lib.hid (fun h => eq_all hN.out (by rw [← hn1]; exact h))
   have F : Hid (∀ k (h1 : k < l.length) (h2 : k < m.length), l[k] ≠ m[k] → decide (l = m) = false) := Lib.hid (fun k h1 h2 h => ne_at h1 h2 h)
   generalize decide (l = m) = res at *
   go_wp2_with fail
   go_loopw [5] (fun i wr => ∃ k : Nat, k ≤ n1 ∧ i = .int .i64 (k : Int) ∧ Hid (l.take k = m.take k) ∧ Hid (Below w.heap.size w wr)) (fun i _ => n1 - (intOf i).toNat)
   case atStart => exact ⟨0, Nat.zero_le _, rfl, Lib.hid rfl, Lib.hid (Below.refl _ _)⟩
   case round =>
    obtain ⟨k, hk, rfl, HT, HB⟩ := hrel
    by_cases hlt : k < n1
    · have hk1 : k < l.length := by omega
      have hk2 : k < m.length := by omega
      obtain ⟨ba, oa, rfl, ca⟩ := tx_get (HL.out.below HB.out rfl) k hk1
      obtain ⟨bb, ob, rfl, cb⟩ := tx_get (HM.out.below HB.out rfl) k hk2
      have G1 : Hid (l[k] ≠ m[k] → res = false) := Lib.hid (F.out k hk1 hk2)
      have G2 : Hid (l[k] = m[k] → l.take (k + 1) = m.take (k + 1)) := Lib.hid (take_eq hk1 hk2 HT.out)
      generalize l[k] = x at *
      generalize m[k] = y at *
      have hki : (k : Int) < (n1 : Int) := by omega
      by_cases hxy : x = y
      · have H := Lib.hid (G2.out hxy)
        have hd : (x.toList == y.toList) = true := by rw [Pm.eq_iff]; simpa using hxy
        clear hxy
        go_wp2_with fail
        go_quiet (fail)
        go_wp2_with fail
        refine ⟨⟨k + 1, by omega, by go_num, H, Lib.hid (below_drews HB.out _)⟩, by simp [intOf]; omega⟩
      · have hr := Lib.hid (G1.out hxy)
        have hd : (x.toList == y.toList) = false := by rw [Pm.eq_iff]; simpa using hxy
        clear hxy
        go_wp2_with fail
        go_quiet (fail)
        go_wp2_with fail
        go_ret
        rw [hr.out]
        exact ⟨rfl, below_drews HB.out _⟩
    · obtain rfl : k = n1 := by omega
      have hr := Lib.hid (E.out HT.out)
      go_wp2_with fail
      go_ret
      rw [hr.out]
      exact ⟨rfl, HB.out⟩
 · have hr : Hid (decide (l = m) = false) := Lib.hid (by rw [decide_eq_false_iff_not]; rintro rfl; omega)
   have hne : ((n1 : Int) == (n2 : Int)) = false := by simp; omega
   have hne' : ¬ (n1 : Int) = (n2 : Int) := by omega
   generalize decide (l = m) = res at *
   go_wp2_with fail
   go_ret
   rw [hr.out]
   exact ⟨rfl, Below.refl _ _⟩
end Go.Proofs.YtjlliohjeiclaaaGreatDoor
namespace Go.Proofs.YtjlliohjeiclaaaGreatDoor
open Go.RowKit Pm
def AtS (w : World) : Tr ByteArray → Prop
 | .nil => True
 | .node b l k v r => w.heap[b]? = some (.cells #[.pointer (pa l), .pointer (pa r), .string k, .string v, .int .i64 (ht (.node b l k v r) : Int), .int .i64 (sz (.node b l k v r) : Int)] 111 (0, 0)) ∧ AtS w l ∧ AtS w r
theorem AtS.keep {w w' : World} {t : Tr ByteArray} (h : AtS w t) (hk : ∀ b o, w.heap[b]? = some o → b ∈ blocks t → w'.heap[b]? = some o) : AtS w' t := by
 induction t with
 | nil => trivial
 | node b l k v r ih1 ih2 =>
  obtain ⟨h1, h2, h3⟩ := h
  exact ⟨hk _ _ h1 (by simp [blocks]), ih1 h2 (fun b o hb hm => hk b o hb (by simp [blocks, hm])), ih2 h3 (fun b o hb hm => hk b o hb (by simp [blocks, hm]))⟩
theorem AtS.below {w w' : World} {t : Tr ByteArray} {B : Nat} (h : AtS w t) (hb : Below B w w') (hB : B = w.heap.size) : AtS w' t :=
 h.keep fun b o ho _ => (hb.block b (by rw [hB]; exact (Array.getElem?_eq_some_iff.1 ho).1)).trans ho
theorem AtS.lt {w : World} {t : Tr ByteArray} (h : AtS w t) : ∀ b ∈ blocks t, b < w.heap.size := by
 induction t with
 | nil => intro b hb; simp [blocks] at hb
 | node b l k v r ih1 ih2 =>
  obtain ⟨h1, h2, h3⟩ := h
  intro b' hb
  simp only [blocks, List.mem_append, List.mem_cons] at hb
  rcases hb with hb | rfl | hb
  · exact ih1 h2 b' hb
  · exact (Array.getElem?_eq_some_iff.1 h1).1
  · exact ih2 h3 b' hb
theorem AtS.cells {w : World} {b : Nat} {l r : Tr ByteArray} {k : ByteArray} {v : ByteArray} (h : AtS w (.node b l k v r)) :
 w.cell? ⟨b, 0, none⟩ = some (.pointer (pa l)) ∧ w.cell? ⟨b, 1, none⟩ = some (.pointer (pa r)) ∧ w.cell? ⟨b, 2, none⟩ = some (.string k) ∧ w.cell? ⟨b, 3, none⟩ = some (.string v) ∧
 w.cell? ⟨b, 4, none⟩ = some (.int .i64 (ht (.node b l k v r) : Int)) ∧ w.cell? ⟨b, 5, none⟩ = some (.int .i64 (sz (.node b l k v r) : Int)) :=
 ⟨cell_of_row _ _ _ _ _ _ h.1, cell_of_row _ _ _ _ _ _ h.1, cell_of_row _ _ _ _ _ _ h.1, cell_of_row _ _ _ _ _ _ h.1, cell_of_row _ _ _ _ _ _ h.1, cell_of_row _ _ _ _ _ _ h.1⟩
theorem AtS.cellsP {w : World} {b : Nat} {l r : Tr ByteArray} {k : ByteArray} {v : ByteArray} (pl pr : Option Addr) (h : AtS w (.node b l k v r)) (e1 : pa l = pl) (e2 : pa r = pr) :
 w.cell? ⟨b, 0, none⟩ = some (.pointer pl) ∧ w.cell? ⟨b, 1, none⟩ = some (.pointer pr) ∧ w.cell? ⟨b, 2, none⟩ = some (.string k) ∧ w.cell? ⟨b, 3, none⟩ = some (.string v) := by
 subst e1 e2
 obtain ⟨x0, x1, x2, x3, _⟩ := h.cells
 exact ⟨x0, x1, x2, x3⟩
theorem AtS.other {w : World} {t : Tr ByteArray} (h : AtS w t) {X : Nat} {cs : Array Value} {T : TypeId} {fr : Nat × Nat} (hx : w.heap[X]? = some (.cells cs T fr)) (hT : T ≠ 111) : X ∉ blocks t := by
 induction t with
 | nil => simp [blocks]
 | node b l k v r ih1 ih2 =>
  obtain ⟨h1, h2, h3⟩ := h
  simp only [blocks, List.mem_append, List.mem_cons]
  rintro (hm | rfl | hm)
  · exact ih1 h2 hm
  · rw [hx] at h1; cases h1; exact hT rfl
  · exact ih2 h3 hm
theorem AtS.setBox {w : World} {t : Tr ByteArray} (h : AtS w t) {X : Nat} {cs : Array Value} {T : TypeId} {fr : Nat × Nat} (hx : w.heap[X]? = some (.cells cs T fr)) (hT : T ≠ 111) (i : Nat) (u : Value) : AtS (w.setCell ⟨X, i, none⟩ u) t :=
 h.keep fun b o ho hm => (Below.heap_setCell _ _ _ _ (by intro e; have e2 : b = X := e; subst e2; exact h.other hx hT hm)).trans ho
def valOr : Tr ByteArray → ByteArray
 | .nil => (⟨#[]⟩ : ByteArray)
 | .node _ _ _ v _ => v
theorem pm_HeightS (t : Tr ByteArray) (w : World) (h : AtS w t) : Calls Tryz.prog 136 #[.pointer (pa t)] w fun e w' => e = .returned (.int .i64 (ht t : Int)) ∧ w = w' := by
 cases t with
 | nil =>
  show Calls Tryz.prog 136 #[.pointer none] w fun e w' => e = .returned (.int .i64 0) ∧ w = w'
  go_enter Tryz.func136, Tryz.ntmps136
  go_wp2_with fail
  go_ret
  exact ⟨rfl, rfl⟩
 | node b l k v r =>
  show Calls Tryz.prog 136 #[.pointer (some ⟨b, 0, none⟩)] w fun e w' => e = .returned (.int .i64 (ht (.node b l k v r) : Int)) ∧ w = w'
  obtain ⟨c0, c1, c2, c3, c4, c5⟩ := h.cells
  clear h
  go_enter Tryz.func136, Tryz.ntmps136
  go_wp2_with fail
  go_ret
  exact ⟨rfl, rfl⟩
theorem pm_LenS (t : Tr ByteArray) (w : World) (h : AtS w t) : Calls Tryz.prog 50 #[.pointer (pa t)] w fun e w' => e = .returned (.int .i64 (sz t : Int)) ∧ w = w' := by
 cases t with
 | nil =>
  show Calls Tryz.prog 50 #[.pointer none] w fun e w' => e = .returned (.int .i64 0) ∧ w = w'
  go_enter Tryz.func50, Tryz.ntmps50
  go_wp2_with fail
  go_ret
  exact ⟨rfl, rfl⟩
 | node b l k v r =>
  show Calls Tryz.prog 50 #[.pointer (some ⟨b, 0, none⟩)] w fun e w' => e = .returned (.int .i64 (sz (.node b l k v r) : Int)) ∧ w = w'
  obtain ⟨c0, c1, c2, c3, c4, c5⟩ := h.cells
  clear h
  go_enter Tryz.func50, Tryz.ntmps50
  go_wp2_with fail
  go_ret
  exact ⟨rfl, rfl⟩
theorem pm_ValueS (t : Tr ByteArray) (w : World) (h : AtS w t) : Calls Tryz.prog 57 #[.pointer (pa t)] w fun e w' => e = .returned (.string (valOr t)) ∧ w = w' := by
 cases t with
 | nil =>
  show Calls Tryz.prog 57 #[.pointer none] w fun e w' => e = .returned (.string (⟨#[]⟩ : ByteArray)) ∧ w = w'
  go_enter Tryz.func57, Tryz.ntmps57
  go_wp2_with fail
  go_ret
  exact ⟨rfl, rfl⟩
 | node b l k v r =>
  show Calls Tryz.prog 57 #[.pointer (some ⟨b, 0, none⟩)] w fun e w' => e = .returned (.string v) ∧ w = w'
  obtain ⟨c0, c1, c2, c3, c4, c5⟩ := h.cells
  clear h
  go_enter Tryz.func57, Tryz.ntmps57
  go_wp2_with fail
  go_ret
  exact ⟨rfl, rfl⟩
theorem pm_nodeS (N : Nat) (l r : Tr ByteArray) (k : ByteArray) (v : ByteArray) (w : World) (hN : N ≤ w.heap.size) (hl : AtS w l) (hr : AtS w r) (hs : sz l + sz r + 1 ≤ 1099511627776) :
 Calls Tryz.prog 99 #[.pointer (pa l), .string k, .string v, .pointer (pa r)] w fun e w' =>
  ∃ b, N ≤ b ∧ e = .returned (.pointer (pa (Tr.node b l k v r))) ∧ AtS w' (.node b l k v r) ∧ Below w.heap.size w w' := by
 have hh1 := ht_le l
 have hh2 := ht_le r
 have HL := Lib.hid hl
 have HR := Lib.hid hr
 clear hl hr
 obtain ⟨n1, hn1⟩ : ∃ n, ht l = n := ⟨_, rfl⟩
 obtain ⟨n2, hn2⟩ : ∃ n, ht r = n := ⟨_, rfl⟩
 obtain ⟨m1, hm1⟩ : ∃ n, sz l = n := ⟨_, rfl⟩
 obtain ⟨m2, hm2⟩ : ∃ n, sz r = n := ⟨_, rfl⟩
 have HN : Hid (ht l = n1 ∧ ht r = n2 ∧ sz l = m1 ∧ sz r = m2) := Lib.hid ⟨hn1, hn2, hm1, hm2⟩
 rw [hn1, hm1] at hh1
 rw [hn2, hm2] at hh2
 rw [hm1, hm2] at hs
 clear hn1 hn2 hm1 hm2
 obtain ⟨mx, hmx⟩ : ∃ mx : Nat, mx = max n1 n2 := ⟨_, rfl⟩
 have hmi : (max (n1 : Int) (n2 : Int)) = (mx : Int) := by omega
 have hmb : mx ≤ 1099511627776 := by omega
 have HM := Lib.hid hmx
 clear hmx
 go_enter Tryz.func99, Tryz.ntmps99
 go_wp2_with fail
 refine (pm_HeightS l w HL.out).mono ?_
 rintro e w' ⟨rfl, rfl⟩
 rw [HN.out.1]
 go_wp2_with fail
 refine (pm_HeightS r w HR.out).mono ?_
 rintro e w' ⟨rfl, rfl⟩
 rw [HN.out.2.1]
 go_wp2_with fail
 refine (pm_LenS l w HL.out).mono ?_
 rintro e w' ⟨rfl, rfl⟩
 rw [HN.out.2.2.1]
 go_wp2_with fail
 refine (pm_LenS r w HR.out).mono ?_
 rintro e w' ⟨rfl, rfl⟩
 rw [HN.out.2.2.2]
 go_wp2_with fail
 go_ret
 refine ⟨w.heap.size, hN, rfl, ⟨?_, HL.out.below (below_new w _) rfl, HR.out.below (below_new w _) rfl⟩, below_new w _⟩
 rw [heap_alloc_new]
 simp only [ht, sz, HN.out.1, HN.out.2.1, HN.out.2.2.1, HN.out.2.2.2, ← HM.out]
 rfl
end Go.Proofs.YtjlliohjeiclaaaGreatDoor
