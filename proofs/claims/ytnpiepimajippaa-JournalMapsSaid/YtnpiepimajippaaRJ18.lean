/- Words, contracts and walks that the proof stands on (RqM14 OpenC OpenE OpenP). -/
import Derived.Deep.Grids
import Derived.Deep.Slices
import Derived.OpenShut
import Derived.ProofKit
import Derived.SliceStrings
import Derived.Test.YtnpiepimajippaaRJ14
import Derived.Test.YtnpiepimajippaaRJ17
import Derived.Test.YtnpiepimajippaaRJ4
namespace Go.Proofs.Ytnpiepimajippaa
open Go.RowKit St Pm
set_option maxRecDepth 100000 in
set_option maxHeartbeats 4000000 in
theorem law_Maps14 (l : List (ByteArray × ByteArray)) (a : Option Addr) (n c : Nat) (w : World) (hl : CellsAt w a (pvV l)) (hn : n = l.length) (hb : n ≤ 9223372036854775807) (hs : ∀ p ∈ l, p.1.size ≤ 9223372036854775807) :
   Calls Try.prog 12 #[.slice a n c] w fun e w' => e = .returned (.bool true) ∧ Below w.heap.size w w' := by
 have HL := Lib.hid hl
 have HN := Lib.hid hn
 have HS := Lib.hid hs
 have ST := Lib.hid sT14
 clear hl hn hs
 have HC : Hid (Chain [w] w) := Lib.hid (Chain.one w)
 go_enter Try.func12, Try.ntmps12
 by_cases q1 : 60 < n
 ·
   have q1i : (60 : Int) < (n : Int) := by omega
   go_wp2_with fail
   refine (known_14 _).mono ?_
   rintro e w1 ⟨rfl, hb⟩
   replace HC := Lib.hid (HC.out.push hb)
   clear hb
   go_wp2_with fail
   go_ret
   exact ⟨rfl, (HC.out.to w (by simp))⟩
 have q1i : ¬ (60 : Int) < (n : Int) := by omega
 go_upto_region 4 with (fail)
 obtain ⟨z, hz⟩ : ∃ c, w.heap.size = c := ⟨_, rfl⟩
 try rw [hz]
 obtain ⟨w1, hw1⟩ : ∃ X, allocs w [.cells #[.pointer none] 27] = X := ⟨_, rfl⟩
 rw [show w.alloc (.cells #[.pointer none] 27) = w1 from hw1]
 have hb : Below w.heap.size w w1 := by rw [← hw1]; exact allocs_below _ _
 have HM : Hid (w1.heap[z]? = some (.cells #[.pointer none] 27 (0, 0))) := Lib.hid (by have := allocs_get [.cells #[.pointer none] 27] w 0 _ rfl; rw [hw1, hz] at this; exact this)
 have Sz : Hid (w.heap.size = z) := Lib.hid hz
 replace HC := Lib.hid (HC.out.push hb)
 clear hb hw1 hz
 go_wp2_with fail
 go_loopw [6] (fun i wr => ∃ (k : Nat) (tr : Tr ByteArray), k ≤ n ∧ i = .int .i64 (k : Int) ∧ Hid (items tr = putL (l.take k)) ∧ Hid (Bal tr) ∧ Hid (AtS wr tr) ∧ Hid (wr.heap[z]? = some (.cells #[.pointer (pa tr)] 27 (0, 0))) ∧ Hid (Below z w wr)) (fun i _ => n - (intOf i).toNat)
 case atStart => exact ⟨0, .nil, Nat.zero_le _, rfl, Lib.hid rfl, Lib.hid trivial, Lib.hid trivial, HM, Lib.hid (by rw [← Sz.out]; exact (HC.out.to w (by simp)))⟩
 case round =>
   obtain ⟨k, tr, hk, rfl, HI, HBal, HAt, HX, HB⟩ := hrel
   by_cases hlt : k < n
   · have hk1 : k < l.length := by have := HN.out; omega
     obtain ⟨ba, oa, rfl, p0, p1⟩ := pv_get (HL.out.below HB.out Sz.out.symm) k hk1
     have GP : Hid (putL (l.take (k + 1)) = ins l[k].1 l[k].2 (putL (l.take k))) := Lib.hid (by rw [List.take_succ_eq_append_getElem hk1, putL_snoc])
     have HZ : Hid (sz tr ≤ 60) := Lib.hid (by rw [← sz_items, HI.out]; have := putL_len (l.take k); have := List.length_take_le k l; omega)
     have HSR : Hid (Srt (items tr)) := Lib.hid (by rw [HI.out]; exact putL_srt _)
     generalize l[k] = p at *
     obtain ⟨pk, pv⟩ := p
     have P0 := Lib.hid p0
     have P1 := Lib.hid p1
     have hki : (k : Int) < (n : Int) := by omega
     have hzw : Hid (z < wr.heap.size) := Lib.hid (Array.getElem?_eq_some_iff.1 HX.out).1
     clear p0 p1
     go_upto_region 8 with (fail)
     refine relG_start (slots := [34, 35, 36, 37, 38, 39, 40, 41, 42, 43, 44, 45]) (so := []) (by kernel_rfl) (by kernel_rfl) (by rfl) ?_
     refine relG_pure (i := 0) (o := ⟨some 34, _, _, _, _, _⟩) (v := ?v1) [] [3] rfl rfl (by kernel_rfl) (by kernel_rfl) (fun t w1 hB hf hbf => ?y1) ?n1
     case y1 =>
       simp only [BasF] at hbf
       clear hf
       obtain ⟨⟨b3, k3⟩, _⟩ := hbf
       have k0 := cell_of_one (boxStays HX.out hB)
       have q0 := (hB.cell (p := ⟨ba, oa + k * 2, none⟩) (block_lt_of_cell P0.out)).trans P0.out
       have q1 := (hB.cell (p := ⟨ba, oa + k * 2 + 1, none⟩) (block_lt_of_cell P1.out)).trans P1.out
       refine Or.inl ⟨wanted_none rfl, ?_⟩
       rintro _ rfl
       go_simp <;> with_reducible rfl
     refine relG_pure (i := 1) (o := ⟨some 35, _, _, _, _, _⟩) (v := ?v2) [] [0] rfl rfl (by kernel_rfl) (by kernel_rfl) (fun t w1 hB hf hbf => ?y2) ?n2
     case y2 =>
       simp only [BasF] at hbf
       clear hf
       obtain ⟨⟨b0, k0⟩, _⟩ := hbf
       have k0 := cell_of_one (boxStays HX.out hB)
       have q0 := (hB.cell (p := ⟨ba, oa + k * 2, none⟩) (block_lt_of_cell P0.out)).trans P0.out
       have q1 := (hB.cell (p := ⟨ba, oa + k * 2 + 1, none⟩) (block_lt_of_cell P1.out)).trans P1.out
       refine Or.inl ⟨wanted_none rfl, ?_⟩
       rintro _ rfl
       go_simp <;> with_reducible rfl
     refine relG_pure (i := 2) (o := ⟨some 36, _, _, _, _, _⟩) (v := ?v3) [] [6] rfl rfl (by kernel_rfl) (by kernel_rfl) (fun t w1 hB hf hbf => ?y3) ?n3
     case y3 =>
       simp only [BasF] at hbf
       clear hf
       obtain ⟨⟨b6, k6⟩, _⟩ := hbf
       have k0 := cell_of_one (boxStays HX.out hB)
       have q0 := (hB.cell (p := ⟨ba, oa + k * 2, none⟩) (block_lt_of_cell P0.out)).trans P0.out
       have q1 := (hB.cell (p := ⟨ba, oa + k * 2 + 1, none⟩) (block_lt_of_cell P1.out)).trans P1.out
       refine Or.inl ⟨wanted_none rfl, ?_⟩
       rintro _ rfl
       go_simp <;> with_reducible rfl
     refine relG_pure (i := 3) (o := ⟨some 37, _, _, _, _, _⟩) (v := ?v4) [(1, 35, 1), (2, 36, 0)] [] rfl rfl (by kernel_rfl) (by kernel_rfl) (fun t w1 hB hf hbf => ?y4) ?n4
     case y4 =>
       simp only [DepF, List.getD_cons_zero, List.getD_cons_succ] at hf
       obtain ⟨⟨_, ⟨e35, i35⟩, rfl⟩, ⟨_, ⟨e36, i36⟩, rfl⟩, _⟩ := hf
       clear hbf
       have k0 := cell_of_one (boxStays HX.out hB)
       have q0 := (hB.cell (p := ⟨ba, oa + k * 2, none⟩) (block_lt_of_cell P0.out)).trans P0.out
       have q1 := (hB.cell (p := ⟨ba, oa + k * 2 + 1, none⟩) (block_lt_of_cell P1.out)).trans P1.out
       refine Or.inl ⟨wanted_none rfl, ?_⟩
       rintro _ rfl
       go_simp <;> with_reducible rfl
     refine relG_pure (i := 4) (o := ⟨some 38, _, _, _, _, _⟩) (v := ?v5) [(3, 37, 0)] [] rfl rfl (by kernel_rfl) (by kernel_rfl) (fun t w1 hB hf hbf => ?y5) ?n5
     case y5 =>
       simp only [DepF, List.getD_cons_zero] at hf
       obtain ⟨⟨_, ⟨e37, i37⟩, rfl⟩, _⟩ := hf
       clear hbf
       have k0 := cell_of_one (boxStays HX.out hB)
       have q0 := (hB.cell (p := ⟨ba, oa + k * 2, none⟩) (block_lt_of_cell P0.out)).trans P0.out
       have q1 := (hB.cell (p := ⟨ba, oa + k * 2 + 1, none⟩) (block_lt_of_cell P1.out)).trans P1.out
       refine Or.inl ⟨wanted_none rfl, ?_⟩
       rintro _ rfl
       go_simp <;> with_reducible rfl
     refine relG_pure (i := 5) (o := ⟨some 39, _, _, _, _, _⟩) (v := ?v6) [(4, 38, 0)] [] rfl rfl (by kernel_rfl) (by kernel_rfl) (fun t w1 hB hf hbf => ?y6) ?n6
     case y6 =>
       simp only [DepF, List.getD_cons_zero] at hf
       obtain ⟨⟨_, ⟨e38, i38⟩, rfl⟩, _⟩ := hf
       clear hbf
       have k0 := cell_of_one (boxStays HX.out hB)
       have q0 := (hB.cell (p := ⟨ba, oa + k * 2, none⟩) (block_lt_of_cell P0.out)).trans P0.out
       have q1 := (hB.cell (p := ⟨ba, oa + k * 2 + 1, none⟩) (block_lt_of_cell P1.out)).trans P1.out
       refine Or.inl ⟨wanted_none rfl, ?_⟩
       rintro _ rfl
       go_simp <;> with_reducible rfl
     refine relG_pure (i := 6) (o := ⟨some 40, _, _, _, _, _⟩) (v := ?v7) [] [0] rfl rfl (by kernel_rfl) (by kernel_rfl) (fun t w1 hB hf hbf => ?y7) ?n7
     case y7 =>
       simp only [BasF] at hbf
       clear hf
       obtain ⟨⟨b0, k0⟩, _⟩ := hbf
       have k0 := cell_of_one (boxStays HX.out hB)
       have q0 := (hB.cell (p := ⟨ba, oa + k * 2, none⟩) (block_lt_of_cell P0.out)).trans P0.out
       have q1 := (hB.cell (p := ⟨ba, oa + k * 2 + 1, none⟩) (block_lt_of_cell P1.out)).trans P1.out
       refine Or.inl ⟨wanted_none rfl, ?_⟩
       rintro _ rfl
       go_simp <;> with_reducible rfl
     refine relG_pure (i := 7) (o := ⟨some 41, _, _, _, _, _⟩) (v := ?v8) [] [6] rfl rfl (by kernel_rfl) (by kernel_rfl) (fun t w1 hB hf hbf => ?y8) ?n8
     case y8 =>
       simp only [BasF] at hbf
       clear hf
       obtain ⟨⟨b6, k6⟩, _⟩ := hbf
       have k0 := cell_of_one (boxStays HX.out hB)
       have q0 := (hB.cell (p := ⟨ba, oa + k * 2, none⟩) (block_lt_of_cell P0.out)).trans P0.out
       have q1 := (hB.cell (p := ⟨ba, oa + k * 2 + 1, none⟩) (block_lt_of_cell P1.out)).trans P1.out
       refine Or.inl ⟨wanted_none rfl, ?_⟩
       rintro _ rfl
       go_simp <;> with_reducible rfl
     refine relG_pure (i := 8) (o := ⟨some 42, _, _, _, _, _⟩) (v := ?v9) [(6, 40, 1), (7, 41, 0)] [] rfl rfl (by kernel_rfl) (by kernel_rfl) (fun t w1 hB hf hbf => ?y9) ?n9
     case y9 =>
       simp only [DepF, List.getD_cons_zero, List.getD_cons_succ] at hf
       obtain ⟨⟨_, ⟨e40, i40⟩, rfl⟩, ⟨_, ⟨e41, i41⟩, rfl⟩, _⟩ := hf
       clear hbf
       have k0 := cell_of_one (boxStays HX.out hB)
       have q0 := (hB.cell (p := ⟨ba, oa + k * 2, none⟩) (block_lt_of_cell P0.out)).trans P0.out
       have q1 := (hB.cell (p := ⟨ba, oa + k * 2 + 1, none⟩) (block_lt_of_cell P1.out)).trans P1.out
       refine Or.inl ⟨wanted_none rfl, ?_⟩
       rintro _ rfl
       go_simp <;> with_reducible rfl
     refine relG_pure (i := 9) (o := ⟨some 43, _, _, _, _, _⟩) (v := ?v10) [(8, 42, 0)] [] rfl rfl (by kernel_rfl) (by kernel_rfl) (fun t w1 hB hf hbf => ?y10) ?n10
     case y10 =>
       simp only [DepF, List.getD_cons_zero] at hf
       obtain ⟨⟨_, ⟨e42, i42⟩, rfl⟩, _⟩ := hf
       clear hbf
       have k0 := cell_of_one (boxStays HX.out hB)
       have q0 := (hB.cell (p := ⟨ba, oa + k * 2, none⟩) (block_lt_of_cell P0.out)).trans P0.out
       have q1 := (hB.cell (p := ⟨ba, oa + k * 2 + 1, none⟩) (block_lt_of_cell P1.out)).trans P1.out
       refine Or.inl ⟨wanted_none rfl, ?_⟩
       rintro _ rfl
       go_simp <;> with_reducible rfl
     refine relG_pure (i := 10) (o := ⟨some 44, _, _, _, _, _⟩) (v := ?v11) [(9, 43, 0)] [] rfl rfl (by kernel_rfl) (by kernel_rfl) (fun t w1 hB hf hbf => ?y11) ?n11
     case y11 =>
       simp only [DepF, List.getD_cons_zero] at hf
       obtain ⟨⟨_, ⟨e43, i43⟩, rfl⟩, _⟩ := hf
       clear hbf
       have k0 := cell_of_one (boxStays HX.out hB)
       have q0 := (hB.cell (p := ⟨ba, oa + k * 2, none⟩) (block_lt_of_cell P0.out)).trans P0.out
       have q1 := (hB.cell (p := ⟨ba, oa + k * 2 + 1, none⟩) (block_lt_of_cell P1.out)).trans P1.out
       refine Or.inl ⟨wanted_none rfl, ?_⟩
       rintro _ rfl
       go_simp <;> with_reducible rfl
     refine relG_call (i := 11) (o := ⟨some 45, _, _, _, _, _⟩) ((fun v w' => ∃ tr' : Tr ByteArray, v = .agg #[.pointer (pa tr')] ∧ AtS w' tr' ∧ PutR 0 pk pv tr tr')) [(0, 34, 10), (5, 39, 5), (10, 44, 0)] [] rfl rfl (by kernel_rfl) (by kernel_rfl) ((fun v w' w'' h hb => by obtain ⟨m, e1, e2, e3⟩ := h; exact ⟨m, e1, e2.below hb rfl, e3⟩)) ?_ ?_
     · intro t w1 hB hf hbf K hK
       simp only [DepF, List.getD_cons_zero, List.getD_cons_succ] at hf
       obtain ⟨⟨_, ⟨e34, i34⟩, rfl⟩, ⟨_, ⟨e39, i39⟩, rfl⟩, ⟨_, ⟨e44, i44⟩, rfl⟩, _⟩ := hf
       clear hbf
       have k0 := cell_of_one (boxStays HX.out hB)
       have q0 := (hB.cell (p := ⟨ba, oa + k * 2, none⟩) (block_lt_of_cell P0.out)).trans P0.out
       have q1 := (hB.cell (p := ⟨ba, oa + k * 2 + 1, none⟩) (block_lt_of_cell P1.out)).trans P1.out
       refine ⟨wanted_none rfl, ?_⟩
       go_simp
       refine (pm_MPutS tr pk pv 0 w1 (Nat.zero_le _) (HAt.out.below hB rfl) (by have := HZ.out; omega)).mono ?_
       rintro e w2 ⟨tr', hP, rfl, hm, hb⟩
       exact hK.out _ w2 (⟨tr', rfl, hm, hP⟩) hb
     refine relG_tail 12 [(0, 34, 11), (1, 35, 10), (2, 36, 9), (3, 37, 8), (4, 38, 7), (5, 39, 6), (6, 40, 5), (7, 41, 4), (8, 42, 3), (9, 43, 2), (10, 44, 1), (11, 45, 0)] (by kernel_rfl) rfl (by kernel_rfl) (by kernel_rfl) (fun f wE hB hf => ?_) (by kernel_rfl)
     simp only [FinF, List.getD_cons_zero, List.getD_cons_succ] at hf
     obtain ⟨⟨_, e34, rfl⟩, ⟨_, e35, rfl⟩, ⟨_, e36, rfl⟩, ⟨_, e37, rfl⟩, ⟨_, e38, rfl⟩, ⟨_, e39, rfl⟩, ⟨_, e40, rfl⟩, ⟨_, e41, rfl⟩, ⟨_, e42, rfl⟩, ⟨_, e43, rfl⟩, ⟨_, e44, rfl⟩, ⟨_, e45, ⟨tr', rfl, hm, hP⟩⟩, _⟩ := hf
     simp only [regT, List.foldl_cons, List.foldl_nil, List.setIfInBounds_toArray, List.set_cons_zero, List.set_cons_succ, e34, e35, e36, e37, e38, e39, e40, e41, e42, e43, e44, e45]
     clear e34 e35 e36 e37 e38 e39 e40 e41 e42 e43 e44 e45
     change wpList _ _ _ [_] _ _
     have hx := boxStays HX.out hB
     have k0 := cell_of_one hx
     have f0 := frozen_of_row _ z 0 _ _ hx
     have HI2 : Hid (items tr' = putL (l.take (k + 1))) := Lib.hid (by rw [GP.out, ← HI.out]; exact hP.items HSR.out)
     have HB2 := Lib.hid (hP.bal HBal.out).1
     have HA2 := Lib.hid (hm.setBox hx (by decide) 0 (.pointer (pa tr')))
     have HX2 := Lib.hid (Boxed.set (t := 27) (.pointer (pa tr')) hx)
     have HW2 := Lib.hid ((HB.out.trans (hB.mono (by have := hzw.out; omega))).setCell (p := ⟨z, 0, none⟩) (Nat.le_refl _) (.pointer (pa tr')))
     clear hP hm hx hB
     go_wp2_with fail
     go_roundw
     case rel => exact ⟨k + 1, tr', by omega, by go_num, HI2, HB2, HA2, HX2, HW2⟩
     case measure => simp [intOf]; omega
   · obtain rfl : n = k := by omega
     have HI3 : Hid (items tr = putL l) := Lib.hid (by have := HI.out; rw [HN.out, List.take_length] at this; exact this)
     have HSR : Hid (Srt (items tr)) := Lib.hid (by rw [HI3.out]; exact putL_srt _)
     have HZ : Hid (sz tr ≤ 60) := Lib.hid (by rw [← sz_items, HI3.out]; have := putL_len l; have := HN.out; omega)
     have HKS : Hid (∀ p ∈ items tr, p.1.size ≤ 9223372036854775807) := Lib.hid (fun p hp => by
       rw [HI3.out] at hp
       obtain ⟨q, hq, e⟩ := (putL_keys l p.1).1 ⟨p, hp, rfl⟩
       rw [← e]
       exact HS.out q hq)
     obtain ⟨VF, hVF⟩ : ∃ f : ByteArray → ByteArray, f = fun q => (lk (⟨#[]⟩ : ByteArray) (items tr) q).1 := ⟨_, rfl⟩
     have HVF : Hid (∀ q, valOr (seek q tr) = VF q) := Lib.hid (fun q => by
       have := congrArg (fun p : ByteArray × Bool => p.1) (prtT_lkS (k := q) HSR.out)
       rw [hVF]
       exact this)
     obtain ⟨g, hg⟩ : ∃ g, (items tr).all goodP = g := ⟨_, rfl⟩
     have HG := Lib.hid hg
     have HMV : Hid (mapV (l.map (·.1)) (l.map fun p => VF p.1) = g) := Lib.hid (by
       rw [← hg, hVF]
       exact maps_may HSR.out fun q => by rw [HI3.out]; exact putL_keys l q)
     clear hVF hg HI hlt hk HC
     obtain ⟨vA, rfl⟩ : ∃ X : World, X = wr := ⟨_, rfl⟩
     obtain ⟨zB, hzB⟩ : ∃ c, vA.heap.size = c := ⟨_, rfl⟩
     have SB := Lib.hid hzB
     have hzz : Hid (z < zB) := Lib.hid (by rw [← hzB]; exact (Array.getElem?_eq_some_iff.1 HX.out).1)
     clear hzB
     go_wp2_with fail
     go_loopw [4, 5, 7] (fun kv vv i wr => ∃ k : Nat, k ≤ n ∧ i = .int .i64 (k : Int) ∧ Hid (wr.ownsRow zB 9 1 kv k (txV ((l.take k).map (·.1)))) ∧ Hid (wr.ownsRow zB 9 1 vv k (txV ((l.take k).map fun p => VF p.1))) ∧ Hid (∀ b, kv.ownBlock = some b → vv.ownBlock ≠ some b) ∧ Hid (Below zB vA wr)) (fun _ _ i _ => n - (intOf i).toNat)
     case atStart => exact ⟨0, Nat.zero_le _, rfl, Lib.hid ⟨rfl, Or.inl ⟨rfl, rfl⟩⟩, Lib.hid ⟨rfl, Or.inl ⟨rfl, rfl⟩⟩, Lib.hid (fun b hb => by cases hb), Lib.hid (Below.refl _ _)⟩
     case round =>
       obtain ⟨k, hk, rfl, HO, HV, HD, HW⟩ := hrel
       by_cases hlt : k < n
       · have hk1 : k < l.length := by have := HN.out; omega
         obtain ⟨ak, ck, hkv, _, _⟩ := own_slice HO.out
         subst hkv
         obtain ⟨av, cv, hvv, _, _⟩ := own_slice HV.out
         subst hvv
         obtain ⟨ba, oa, rfl, p0, p1⟩ := pv_get ((HL.out.below HB.out Sz.out.symm).below HW.out SB.out.symm) k hk1
         have HT1 : Hid (txV ((l.take k).map (·.1)) ++ [.string l[k].1] = txV ((l.take (k + 1)).map (·.1))) := Lib.hid (by unfold txV; rw [List.take_succ_eq_append_getElem hk1, List.map_append, List.map_append]; rfl)
         have HT2 : Hid (txV ((l.take k).map fun p => VF p.1) ++ [.string (VF l[k].1)] = txV ((l.take (k + 1)).map fun p => VF p.1)) := Lib.hid (by unfold txV; rw [List.take_succ_eq_append_getElem hk1, List.map_append, List.map_append]; rfl)
         generalize l[k] = p at *
         obtain ⟨pk, pv⟩ := p
         obtain ⟨gv, hgv⟩ : ∃ x, VF pk = x := ⟨_, rfl⟩
         obtain ⟨gb, hgb⟩ : ∃ x, isNS (seek pk tr) = x := ⟨_, rfl⟩
         rw [hgv] at HT2
         have GET : Hid (∀ W, Below zB vA W → Calls Try.prog 47 #[.agg #[.pointer (pa tr)], .string pk] W fun e w' => e = .returned (.tuple #[.string gv, .bool gb]) ∧ Below W.heap.size W w') := Lib.hid (fun W hW => by
           rw [← hgv, ← hgb, ← HVF.out pk]
           exact pm_MGetS tr pk W (HAt.out.below hW SB.out.symm))
         have P0 := Lib.hid p0
         have hki : (k : Int) < (n : Int) := by omega
         have hkn : k ≤ 60 := by omega
         have HX3 := Lib.hid ((HW.out.block z (by have := hzz.out; omega)).trans HX.out)
         have hzr : Hid (zB ≤ wr.heap.size) := Lib.hid (by rw [← SB.out]; exact HW.out.size)
         clear p0 p1 hgv hgb
         go_upto_region 12 with (fail)
         refine relG_start (slots := [53, 54, 55, 56, 57, 58, 59, 52, 60, 61, 8, 9]) (so := []) (by kernel_rfl) (by kernel_rfl) (by rfl) ?_
         refine relG_pure (i := 0) (o := ⟨some 53, _, _, _, _, _⟩) (v := ?v12) [] [3] rfl rfl (by kernel_rfl) (by kernel_rfl) (fun t w1 hB hf hbf => ?y12) ?n12
         case y12 =>
           simp only [BasF] at hbf
           clear hf
           obtain ⟨⟨b3, k3⟩, _⟩ := hbf
           have m0 := cell_of_one (boxStays HX3.out hB)
           have q0 := (hB.cell (p := ⟨ba, oa + k * 2, none⟩) (block_lt_of_cell P0.out)).trans P0.out
           refine Or.inl ⟨wanted_none rfl, ?_⟩
           rintro _ rfl
           go_simp <;> with_reducible rfl
         refine relG_pure (i := 1) (o := ⟨some 54, _, _, _, _, _⟩) (v := ?v13) [] [0] rfl rfl (by kernel_rfl) (by kernel_rfl) (fun t w1 hB hf hbf => ?y13) ?n13
         case y13 =>
           simp only [BasF] at hbf
           clear hf
           obtain ⟨⟨b0, k0⟩, _⟩ := hbf
           have m0 := cell_of_one (boxStays HX3.out hB)
           have q0 := (hB.cell (p := ⟨ba, oa + k * 2, none⟩) (block_lt_of_cell P0.out)).trans P0.out
           refine Or.inl ⟨wanted_none rfl, ?_⟩
           rintro _ rfl
           go_simp <;> with_reducible rfl
         refine relG_pure (i := 2) (o := ⟨some 55, _, _, _, _, _⟩) (v := ?v14) [] [7] rfl rfl (by kernel_rfl) (by kernel_rfl) (fun t w1 hB hf hbf => ?y14) ?n14
         case y14 =>
           simp only [BasF] at hbf
           clear hf
           obtain ⟨⟨b7, k7⟩, _⟩ := hbf
           have m0 := cell_of_one (boxStays HX3.out hB)
           have q0 := (hB.cell (p := ⟨ba, oa + k * 2, none⟩) (block_lt_of_cell P0.out)).trans P0.out
           refine Or.inl ⟨wanted_none rfl, ?_⟩
           rintro _ rfl
           go_simp <;> with_reducible rfl
         refine relG_pure (i := 3) (o := ⟨some 56, _, _, _, _, _⟩) (v := ?v15) [(1, 54, 1), (2, 55, 0)] [] rfl rfl (by kernel_rfl) (by kernel_rfl) (fun t w1 hB hf hbf => ?y15) ?n15
         case y15 =>
           simp only [DepF, List.getD_cons_zero, List.getD_cons_succ] at hf
           obtain ⟨⟨_, ⟨e54, i54⟩, rfl⟩, ⟨_, ⟨e55, i55⟩, rfl⟩, _⟩ := hf
           clear hbf
           have m0 := cell_of_one (boxStays HX3.out hB)
           have q0 := (hB.cell (p := ⟨ba, oa + k * 2, none⟩) (block_lt_of_cell P0.out)).trans P0.out
           refine Or.inl ⟨wanted_none rfl, ?_⟩
           rintro _ rfl
           go_simp <;> with_reducible rfl
         refine relG_pure (i := 4) (o := ⟨some 57, _, _, _, _, _⟩) (v := ?v16) [(3, 56, 0)] [] rfl rfl (by kernel_rfl) (by kernel_rfl) (fun t w1 hB hf hbf => ?y16) ?n16
         case y16 =>
           simp only [DepF, List.getD_cons_zero] at hf
           obtain ⟨⟨_, ⟨e56, i56⟩, rfl⟩, _⟩ := hf
           clear hbf
           have m0 := cell_of_one (boxStays HX3.out hB)
           have q0 := (hB.cell (p := ⟨ba, oa + k * 2, none⟩) (block_lt_of_cell P0.out)).trans P0.out
           refine Or.inl ⟨wanted_none rfl, ?_⟩
           rintro _ rfl
           go_simp <;> with_reducible rfl
         refine relG_pure (i := 5) (o := ⟨some 58, _, _, _, _, _⟩) (v := ?v17) [(4, 57, 0)] [] rfl rfl (by kernel_rfl) (by kernel_rfl) (fun t w1 hB hf hbf => ?y17) ?n17
         case y17 =>
           simp only [DepF, List.getD_cons_zero] at hf
           obtain ⟨⟨_, ⟨e57, i57⟩, rfl⟩, _⟩ := hf
           clear hbf
           have m0 := cell_of_one (boxStays HX3.out hB)
           have q0 := (hB.cell (p := ⟨ba, oa + k * 2, none⟩) (block_lt_of_cell P0.out)).trans P0.out
           refine Or.inl ⟨wanted_none rfl, ?_⟩
           rintro _ rfl
           go_simp <;> with_reducible rfl
         refine relG_call (i := 6) (o := ⟨some 59, _, _, _, _, _⟩) ((fun v _ => v = .tuple #[.string gv, .bool gb])) [(0, 53, 5), (5, 58, 0)] [] rfl rfl (by kernel_rfl) (by kernel_rfl) ((fun _ _ _ h _ => h)) ?_ ?_
         · intro t w1 hB hf hbf K hK
           simp only [DepF, List.getD_cons_zero, List.getD_cons_succ] at hf
           obtain ⟨⟨_, ⟨e53, i53⟩, rfl⟩, ⟨_, ⟨e58, i58⟩, rfl⟩, _⟩ := hf
           clear hbf
           have m0 := cell_of_one (boxStays HX3.out hB)
           have q0 := (hB.cell (p := ⟨ba, oa + k * 2, none⟩) (block_lt_of_cell P0.out)).trans P0.out
           refine ⟨wanted_none rfl, ?_⟩
           go_simp
           refine (GET.out w1 (HW.out.trans (hB.mono hzr.out))).mono ?_
           rintro e w2 ⟨rfl, hb⟩
           exact hK.out _ w2 (rfl) hb
         refine relG_pure (i := 7) (o := ⟨some 52, _, _, _, _, _⟩) (v := ?v18) [(6, 59, 0)] [] rfl rfl (by kernel_rfl) (by kernel_rfl) (fun t w1 hB hf hbf => ?y18) ?n18
         case y18 =>
           simp only [DepF, List.getD_cons_zero] at hf
           obtain ⟨⟨_, ⟨e59, i59⟩, rfl⟩, _⟩ := hf
           clear hbf
           have m0 := cell_of_one (boxStays HX3.out hB)
           have q0 := (hB.cell (p := ⟨ba, oa + k * 2, none⟩) (block_lt_of_cell P0.out)).trans P0.out
           refine Or.inl ⟨wanted_none rfl, ?_⟩
           rintro _ rfl
           go_simp <;> with_reducible rfl
         refine relG_pure (i := 8) (o := ⟨some 60, _, _, _, _, _⟩) (v := ?v19) [(7, 52, 0)] [] rfl rfl (by kernel_rfl) (by kernel_rfl) (fun t w1 hB hf hbf => ?y19) ?n19
         case y19 =>
           simp only [DepF, List.getD_cons_zero] at hf
           obtain ⟨⟨_, ⟨e52, i52⟩, rfl⟩, _⟩ := hf
           clear hbf
           have m0 := cell_of_one (boxStays HX3.out hB)
           have q0 := (hB.cell (p := ⟨ba, oa + k * 2, none⟩) (block_lt_of_cell P0.out)).trans P0.out
           refine Or.inl ⟨wanted_none rfl, ?_⟩
           rintro _ rfl
           go_simp <;> with_reducible rfl
         refine relG_pure (i := 9) (o := ⟨some 61, _, _, _, _, _⟩) (v := ?v20) [(7, 52, 1)] [] rfl rfl (by kernel_rfl) (by kernel_rfl) (fun t w1 hB hf hbf => ?y20) ?n20
         case y20 =>
           simp only [DepF, List.getD_cons_zero, List.getD_cons_succ] at hf
           obtain ⟨⟨_, ⟨e52, i52⟩, rfl⟩, _⟩ := hf
           clear hbf
           have m0 := cell_of_one (boxStays HX3.out hB)
           have q0 := (hB.cell (p := ⟨ba, oa + k * 2, none⟩) (block_lt_of_cell P0.out)).trans P0.out
           refine Or.inl ⟨wanted_none rfl, ?_⟩
           rintro _ rfl
           go_simp <;> with_reducible rfl
         refine relG_pure (i := 10) (o := ⟨some 8, _, _, _, _, _⟩) (v := ?v21) [(8, 60, 1)] [] rfl rfl (by kernel_rfl) (by kernel_rfl) (fun t w1 hB hf hbf => ?y21) ?n21
         case y21 =>
           simp only [DepF, List.getD_cons_zero, List.getD_cons_succ] at hf
           obtain ⟨⟨_, ⟨e60, i60⟩, rfl⟩, _⟩ := hf
           clear hbf
           have m0 := cell_of_one (boxStays HX3.out hB)
           have q0 := (hB.cell (p := ⟨ba, oa + k * 2, none⟩) (block_lt_of_cell P0.out)).trans P0.out
           refine Or.inl ⟨wanted_none rfl, ?_⟩
           rintro _ rfl
           go_simp <;> with_reducible rfl
         refine relG_pure (i := 11) (o := ⟨some 9, _, _, _, _, _⟩) (v := ?v22) [(9, 61, 1)] [] rfl rfl (by kernel_rfl) (by kernel_rfl) (fun t w1 hB hf hbf => ?y22) ?n22
         case y22 =>
           simp only [DepF, List.getD_cons_zero, List.getD_cons_succ] at hf
           obtain ⟨⟨_, ⟨e61, i61⟩, rfl⟩, _⟩ := hf
           clear hbf
           have m0 := cell_of_one (boxStays HX3.out hB)
           have q0 := (hB.cell (p := ⟨ba, oa + k * 2, none⟩) (block_lt_of_cell P0.out)).trans P0.out
           refine Or.inl ⟨wanted_none rfl, ?_⟩
           rintro _ rfl
           go_simp <;> with_reducible rfl
         refine relG_done [(0, 53, 11), (1, 54, 10), (2, 55, 9), (3, 56, 8), (4, 57, 7), (5, 58, 6), (6, 59, 5), (7, 52, 4), (8, 60, 3), (9, 61, 2), (10, 8, 1), (11, 9, 0)] (by kernel_rfl) rfl (by kernel_rfl) (fun f wE hB hf => ?_)
         simp only [FinF, List.getD_cons_zero, List.getD_cons_succ] at hf
         obtain ⟨⟨_, e53, rfl⟩, ⟨_, e54, rfl⟩, ⟨_, e55, rfl⟩, ⟨_, e56, rfl⟩, ⟨_, e57, rfl⟩, ⟨_, e58, rfl⟩, ⟨_, e59, rfl⟩, ⟨_, e52, rfl⟩, ⟨_, e60, rfl⟩, ⟨_, e61, rfl⟩, ⟨_, e8, rfl⟩, ⟨_, e9, rfl⟩, _⟩ := hf
         simp only [regT, List.foldl_cons, List.foldl_nil, List.setIfInBounds_toArray, List.set_cons_zero, List.set_cons_succ, e53, e54, e55, e56, e57, e58, e59, e52, e60, e61, e8, e9]
         clear e53 e54 e55 e56 e57 e58 e59 e52 e60 e61 e8 e9
         have q0 := (hB.cell (p := ⟨ba, oa + k * 2, none⟩) (block_lt_of_cell P0.out)).trans P0.out
         have O1 := Lib.hid (own_later HO.out hB (Nat.le_refl _))
         have V1 := Lib.hid (own_later HV.out hB (Nat.le_refl _))
         have W1 := Lib.hid (HW.out.trans (hB.mono hzr.out))
         have hz1 : Hid (zB ≤ wE.heap.size) := Lib.hid (Nat.le_trans hzr.out hB.size)
         clear hB
         go_upto_region 14 with (at_builtin; go_must (refine wpList_app rfl _ _ 65 65 rfl zB 9 _ 1 16 ST.out _ k _ rfl (O1.out.alloc _) _ 1 [.string pk] rfl ((CellsAt.new wE 9 (0, 0) [.string pk]).srcN rfl (by simp [Value.oneCell']) Try.underlying65 1 (by decide)) (by omega) (by omega) (by have := hz1.out; simp; omega) ?_); go_must (intro v6 w6 hown hgr hbel hor))
         rw [HT1.out] at hown
         obtain ⟨a6, c6, hv6, _⟩ := own_slice hown
         have O6 := Lib.hid hown
         have V6 := Lib.hid (own_grown (V1.out.alloc (.cells #[.string pk] 9)) hgr (fun j hj e => HD.out j e hj))
         have W6 := Lib.hid ((W1.out.alloc hz1.out (.cells #[.string pk] 9)).trans hbel)
         have D6 : Hid (∀ b, v6.ownBlock = some b → (Value.slice av k cv).ownBlock ≠ some b) := Lib.hid (fun b hb e => by
           rcases hor with h | h
           · exact HD.out b (h.symm.trans hb) e
           · rw [h] at hb
             have h1 := ((V1.out.alloc (.cells #[.string pk] 9)).lt b e).2
             have h2 : (wE.alloc (.cells #[.string pk] 9)).heap.size = b := by simpa using hb
             omega)
         have hz6 : Hid (zB ≤ w6.heap.size) := Lib.hid (by rw [← SB.out]; exact W6.out.size)
         subst hv6
         clear hown hgr hbel hor q0
         go_wp2_with (at_builtin; go_must (refine wpList_app rfl _ _ 65 65 rfl zB 9 _ 1 16 ST.out _ k _ rfl (V6.out.alloc _) _ 1 [.string gv] rfl ((CellsAt.new w6 9 (0, 0) [.string gv]).srcN rfl (by simp [Value.oneCell']) Try.underlying65 1 (by decide)) (by omega) (by omega) (by have := hz6.out; simp; omega) ?_); go_must (intro v7 w7 hown hgr hbel hor))
         rw [HT2.out] at hown
         have O7 := Lib.hid (own_grown (O6.out.alloc (.cells #[.string gv] 9)) hgr (fun j hj e => D6.out j hj e))
         have W7 := Lib.hid ((W6.out.alloc hz6.out (.cells #[.string gv] 9)).trans hbel)
         have D7 : Hid (∀ b, (Value.slice a6 (k + 1) c6).ownBlock = some b → v7.ownBlock ≠ some b) := Lib.hid (fun b hb e => by
           rcases hor with h | h
           · exact D6.out b hb (h.symm.trans e)
           · rw [h] at e
             have h1 := ((O6.out.alloc (.cells #[.string gv] 9)).lt b hb).2
             have h2 : (w6.alloc (.cells #[.string gv] 9)).heap.size = b := by simpa using e
             omega)
         exact ⟨⟨k + 1, by omega, by go_num, O7, Lib.hid hown, D7, W7⟩, by simp [intOf]; omega⟩
       · obtain rfl : n = k := by omega
         obtain ⟨ak, ck, hkv, _, _⟩ := own_slice HO.out
         subst hkv
         obtain ⟨av, cv, hvv, _, _⟩ := own_slice HV.out
         subst hvv
         have CK : Hid (CellsAt wr ak (txV (l.map (·.1)))) := Lib.hid (by have := CellsAt.ownN HO.out; rw [HN.out, List.take_length] at this; exact this)
         have CV : Hid (CellsAt wr av (txV (l.map fun p => VF p.1))) := Lib.hid (by have := CellsAt.ownN HV.out; rw [HN.out, List.take_length] at this; exact this)
         obtain ⟨vB, rfl⟩ : ∃ X : World, X = wr := ⟨_, rfl⟩
         have TB := Lib.hid (HAt.out.below HW.out SB.out.symm)
         have HM := Lib.hid ((HW.out.block z (by have := hzz.out; omega)).trans HX.out)
         have HE : Hid (∀ W, Below vB.heap.size vB W → Below w.heap.size w W) := Lib.hid (fun W hW => by
           rw [Sz.out]
           have h1 : Below z vA vB := HW.out.mono (by have := hzz.out; omega)
           exact (HB.out.trans h1).trans (hW.mono (by have := hzz.out; have := HW.out.size; have := SB.out; omega)))
         have HZZ : Hid (sz tr ≤ 100000) := Lib.hid (by have := HZ.out; omega)
         clear HO HV HD hlt hk HAt HX
         have HC : Hid (Chain [vB] vB) := Lib.hid (Chain.one vB)
         go_wp2_with fail
         refine (ref14_Map (l.map (·.1)) (l.map fun p => VF p.1) _ _ n _ _ _ CK.out CV.out (by rw [List.length_map]; exact HN.out) (by rw [List.length_map]; exact HN.out) (by omega) (fun q hq => by obtain ⟨p, hp, rfl⟩ := List.mem_map.1 hq; exact HS.out p hp)).mono ?_
         rintro e x1 ⟨rfl, hb⟩
         replace HC := Lib.hid (HC.out.push hb)
         clear hb
         rw [HMV.out]
         have kM0 := cell_of_one (boxStays HM.out (HC.out.to vB (by simp)))
         go_wp2_with fail
         refine (may_14 tr _ (TB.out.below (HC.out.to vB (by simp)) rfl) HZZ.out HKS.out).mono ?_
         rintro e x2 ⟨rfl, hb⟩
         clear kM0
         replace HC := Lib.hid (HC.out.push hb)
         clear hb
         rw [HG.out]
         cases g
         case true =>
           go_wp2_with fail
           refine (known_14 _).mono ?_
           rintro e x3 ⟨rfl, hb⟩
           replace HC := Lib.hid (HC.out.push hb)
           clear hb
           go_wp2_with fail
           go_ret
           exact ⟨rfl, HE.out _ (HC.out.to vB (by simp))⟩
         case false =>
           have HSH : Hid (shown tr = []) := Lib.hid (by unfold shown; rw [HG.out, if_neg (by simp)])
           go_upto_region 21 with (fail)
           obtain ⟨c3, hc3⟩ : ∃ c, x2.heap.size = c := ⟨_, rfl⟩
           try rw [hc3]
           obtain ⟨x3, hx3⟩ : ∃ X, allocs x2 [.cells #[.pointer none] 27] = X := ⟨_, rfl⟩
           rw [show x2.alloc (.cells #[.pointer none] 27) = x3 from hx3]
           have hb : Below x2.heap.size x2 x3 := by rw [← hx3]; exact allocs_below _ _
           have HN0 : Hid (x3.heap[c3]? = some (.cells #[.pointer none] 27 (0, 0))) := Lib.hid (by have := allocs_get [.cells #[.pointer none] 27] x2 0 _ rfl; rw [hx3, hc3] at this; exact this)
           have Sc3 : Hid (x2.heap.size = c3) := Lib.hid hc3
           replace HC := Lib.hid (HC.out.push hb)
           clear hb hx3 hc3
           have kM0 := cell_of_one (boxStays HM.out (HC.out.to vB (by simp)))
           go_wp2_with fail
           refine (elements_14 tr _ (TB.out.below (HC.out.to vB (by simp)) rfl) HZZ.out HKS.out).mono ?_
           rintro e x4 ⟨v, ce, rfl, hb, _, h2⟩
           clear kM0
           replace HC := Lib.hid (HC.out.push hb)
           clear hb
           obtain ⟨rfl, rfl⟩ := h2 HG.out
           have kM0 := cell_of_one (boxStays HM.out (HC.out.to vB (by simp)))
           go_wp2_with fail
           refine (texts_14 tr _ (TB.out.below (HC.out.to vB (by simp)) rfl) HZZ.out HKS.out).mono ?_
           rintro e x5 ⟨v, ce, rfl, hb, _, h2⟩
           clear kM0
           replace HC := Lib.hid (HC.out.push hb)
           clear hb
           obtain ⟨rfl, rfl⟩ := h2 HG.out
           have kM0 := cell_of_one (boxStays HM.out (HC.out.to vB (by simp)))
           have kN00 := cell_of_one (boxStays HN0.out (HC.out.to x3 (by simp)))
           go_wp2_with fail
           refine (three_14 .nil .nil tr _ (Nat.zero_le _) (Nat.zero_le _) HZZ.out (wlk_inS reg_nil.srt reg_nil.srt HSR.out trivial trivial HBal.out) trivial trivial (TB.out.below (HC.out.to vB (by simp)) rfl) reg_nil.keys reg_nil.keys HKS.out).mono ?_
           rintro e x6 ⟨m, ce, rfl, _, hb, hP⟩
           clear kM0 kN00
           replace HC := Lib.hid (HC.out.push hb)
           clear hb
           obtain ⟨rfl, rfl⟩ : ce = 2 ∧ m = .nil := by
             rcases hP with ⟨_, _, h, _⟩ | ⟨_, h1, h2⟩
             · rw [HG.out] at h; cases h
             · exact ⟨h1, h2⟩
           rw [show pa (Tr.nil : Tr ByteArray) = none from rfl]
           clear hP
           go_upto_region 24 with (fail)
           obtain ⟨c7, hc7⟩ : ∃ c, x6.heap.size = c := ⟨_, rfl⟩
           try rw [hc7]
           obtain ⟨x7, hx7⟩ : ∃ X, allocs x6 [.cells #[.pointer none] 27] = X := ⟨_, rfl⟩
           rw [show x6.alloc (.cells #[.pointer none] 27) = x7 from hx7]
           have hb : Below x6.heap.size x6 x7 := by rw [← hx7]; exact allocs_below _ _
           have Sc7 : Hid (x6.heap.size = c7) := Lib.hid hc7
           replace HC := Lib.hid (HC.out.push hb)
           clear hb hx7 hc7
           have kM0 := cell_of_one (boxStays HM.out (HC.out.to vB (by simp)))
           have kN00 := cell_of_one (boxStays HN0.out (HC.out.to x3 (by simp)))
           go_wp2_with fail
           refine (three_14 tr .nil .nil _ HZZ.out (Nat.zero_le _) (Nat.zero_le _) (wlk_inS HSR.out reg_nil.srt reg_nil.srt HBal.out trivial trivial) (TB.out.below (HC.out.to vB (by simp)) rfl) trivial trivial HKS.out reg_nil.keys reg_nil.keys).mono ?_
           rintro e x8 ⟨m, ce, rfl, _, hb, hP⟩
           clear kM0 kN00
           replace HC := Lib.hid (HC.out.push hb)
           clear hb
           obtain ⟨rfl, rfl⟩ : ce = 2 ∧ m = .nil := by
             rcases hP with ⟨h, _⟩ | ⟨_, h1, h2⟩
             · rw [HG.out] at h; cases h
             · exact ⟨h1, h2⟩
           rw [show pa (Tr.nil : Tr ByteArray) = none from rfl]
           clear hP
           go_upto_region 25 with (fail)
           obtain ⟨c9, hc9⟩ : ∃ c, x8.heap.size = c := ⟨_, rfl⟩
           try rw [hc9]
           obtain ⟨x9, hx9⟩ : ∃ X, allocs x8 [.cells #[.pointer none] 27] = X := ⟨_, rfl⟩
           rw [show x8.alloc (.cells #[.pointer none] 27) = x9 from hx9]
           have hb : Below x8.heap.size x8 x9 := by rw [← hx9]; exact allocs_below _ _
           have Sc9 : Hid (x8.heap.size = c9) := Lib.hid hc9
           replace HC := Lib.hid (HC.out.push hb)
           clear hb hx9 hc9
           have M9 := Lib.hid (boxStays HM.out (HC.out.to vB (by simp)))
           have T9 := Lib.hid (TB.out.below (HC.out.to vB (by simp)) rfl)
           refine relG_start (slots := [108, 109, 110, 111, 107, 112, 113, 20, 21]) (so := [8]) (by kernel_rfl) (by kernel_rfl) (by rfl) ?_
           refine relG_pure (i := 0) (o := ⟨some 108, _, _, _, _, _⟩) (v := ?v23) [] [3] rfl rfl (by kernel_rfl) (by kernel_rfl) (fun t w1 hB hf hbf => ?y23) ?n23
           case y23 =>
             simp only [BasF] at hbf
             clear hf
             obtain ⟨⟨b3, k3⟩, _⟩ := hbf
             have m0 := cell_of_one (boxStays M9.out hB)
             refine Or.inl ⟨wanted_none rfl, ?_⟩
             rintro _ rfl
             go_simp <;> with_reducible rfl
           refine relG_call (i := 1) (o := ⟨some 109, _, _, _, _, _⟩) ((fun v _ => v = .agg #[.int .i64 1, .int .i64 0, .string labA, .int .i64 1, .int .i64 0, .string ⟨#[]⟩])) [] [] rfl rfl (by kernel_rfl) (by kernel_rfl) ((fun _ _ _ h _ => h)) ?_ ?_
           · intro t w1 hB hf hbf K hK
             clear hf
             clear hbf
             have m0 := cell_of_one (boxStays M9.out hB)
             refine ⟨wanted_none rfl, ?_⟩
             go_simp
             refine (at_14 1 ⟨#[]⟩ w1).mono ?_
             rintro e w2 ⟨rfl, hb⟩
             exact hK.out _ w2 (rfl) hb
           refine relG_pure (i := 2) (o := ⟨some 110, _, _, _, _, _⟩) (v := ?v24) [(1, 109, 0)] [] rfl rfl (by kernel_rfl) (by kernel_rfl) (fun t w1 hB hf hbf => ?y24) ?n24
           case y24 =>
             simp only [DepF, List.getD_cons_zero] at hf
             obtain ⟨⟨_, ⟨e109, i109⟩, rfl⟩, _⟩ := hf
             clear hbf
             have m0 := cell_of_one (boxStays M9.out hB)
             have fd := fld_st 1 0 1 0 labA ⟨#[]⟩
             refine Or.inl ⟨wanted_none rfl, ?_⟩
             rintro _ rfl
             go_simp <;> with_reducible rfl
           refine relG_call (i := 3) (o := ⟨some 111, _, _, _, _, _⟩) ((fun v w' => v = .tuple #[.agg #[.pointer none], .int .i64 2])) [(0, 108, 2), (2, 110, 0)] [] rfl rfl (by kernel_rfl) (by kernel_rfl) ((fun v w' w'' h hb => h)) ?_ ?_
           · intro t w1 hB hf hbf K hK
             simp only [DepF, List.getD_cons_zero, List.getD_cons_succ] at hf
             obtain ⟨⟨_, ⟨e108, i108⟩, rfl⟩, ⟨_, ⟨e110, i110⟩, rfl⟩, _⟩ := hf
             clear hbf
             have m0 := cell_of_one (boxStays M9.out hB)
             refine ⟨wanted_none rfl, ?_⟩
             go_simp
             refine (put_14 tr (atV 1 ⟨#[]⟩).1 ⟨#[120]⟩ w1 (T9.out.below hB rfl) HZZ.out HKS.out (by decide)).mono ?_
             rintro e w2 ⟨hb, m, ce, rfl, hm, hP⟩
             exact hK.out _ w2 ((by rcases hP with ⟨h, _⟩ | ⟨_, h1, h2⟩; unfold putOK14 at h; rw [HG.out] at h; simp at h; rw [h1, h2]; rfl)) hb
           refine relG_pure (i := 4) (o := ⟨some 107, _, _, _, _, _⟩) (v := ?v25) [(3, 111, 0)] [] rfl rfl (by kernel_rfl) (by kernel_rfl) (fun t w1 hB hf hbf => ?y25) ?n25
           case y25 =>
             simp only [DepF, List.getD_cons_zero] at hf
             obtain ⟨⟨_, ⟨e111, i111⟩, rfl⟩, _⟩ := hf
             clear hbf
             have m0 := cell_of_one (boxStays M9.out hB)
             refine Or.inl ⟨wanted_none rfl, ?_⟩
             rintro _ rfl
             go_simp <;> with_reducible rfl
           refine relG_pure (i := 5) (o := ⟨some 112, _, _, _, _, _⟩) (v := ?v26) [(4, 107, 0)] [] rfl rfl (by kernel_rfl) (by kernel_rfl) (fun t w1 hB hf hbf => ?y26) ?n26
           case y26 =>
             simp only [DepF, List.getD_cons_zero] at hf
             obtain ⟨⟨_, ⟨e107, i107⟩, rfl⟩, _⟩ := hf
             clear hbf
             have m0 := cell_of_one (boxStays M9.out hB)
             refine Or.inl ⟨wanted_none rfl, ?_⟩
             rintro _ rfl
             go_simp <;> with_reducible rfl
           refine relG_pure (i := 6) (o := ⟨some 113, _, _, _, _, _⟩) (v := ?v27) [(4, 107, 1)] [] rfl rfl (by kernel_rfl) (by kernel_rfl) (fun t w1 hB hf hbf => ?y27) ?n27
           case y27 =>
             simp only [DepF, List.getD_cons_zero, List.getD_cons_succ] at hf
             obtain ⟨⟨_, ⟨e107, i107⟩, rfl⟩, _⟩ := hf
             clear hbf
             have m0 := cell_of_one (boxStays M9.out hB)
             refine Or.inl ⟨wanted_none rfl, ?_⟩
             rintro _ rfl
             go_simp <;> with_reducible rfl
           refine relG_call (i := 7) (o := ⟨some 20, _, _, _, _, _⟩) ((fun v w' => ∃ b, v = .pointer (some ⟨b, 0, none⟩) ∧ x9.heap.size ≤ b ∧ w'.heap[b]? = some (.cells #[.pointer none] 27 (0, 0)))) [] [] rfl rfl (by kernel_rfl) (by kernel_rfl) ((fun v w' w'' h hb => by obtain ⟨b, e1, e2, e3⟩ := h; exact ⟨b, e1, e2, boxStays e3 hb⟩)) ?_ ?_
           · intro t w1 hB hf hbf K hK
             clear hf
             clear hbf
             have m0 := cell_of_one (boxStays M9.out hB)
             refine ⟨wanted_none rfl, ?_⟩
             go_simp
             exact hK.out _ _ (⟨_, rfl, hB.size, heap_alloc_new _ _⟩) (below_new _ _)
           refine relG_skip 8 rfl (by rfl) ?_ (by kernel_rfl)
           refine relG_pure (i := 9) (o := ⟨some 21, _, _, _, _, _⟩) (v := ?v28) [(6, 113, 2)] [] rfl rfl (by kernel_rfl) (by kernel_rfl) (fun t w1 hB hf hbf => ?y28) ?n28
           case y28 =>
             simp only [DepF, List.getD_cons_zero, List.getD_cons_succ] at hf
             obtain ⟨⟨_, ⟨e113, i113⟩, rfl⟩, _⟩ := hf
             clear hbf
             have m0 := cell_of_one (boxStays M9.out hB)
             refine Or.inl ⟨wanted_none rfl, ?_⟩
             rintro _ rfl
             go_simp <;> with_reducible rfl
           refine relG_own 8 20 7 112 5 [(0, 108, 9), (1, 109, 8), (2, 110, 7), (3, 111, 6), (4, 107, 5), (5, 112, 4), (6, 113, 3), (7, 20, 2), (9, 21, 0)] [(0, 108, 9), (1, 109, 8), (2, 110, 7), (3, 111, 6), (4, 107, 5), (5, 112, 4), (7, 20, 2)] (by kernel_rfl) rfl (by kernel_rfl) (by kernel_rfl) (by kernel_rfl) (by kernel_rfl) ?_ (fun f wE hB hf => ?_)
           · intro f w1 hB hf K hK
             simp only [FinF, List.getD_cons_zero, List.getD_cons_succ] at hf
             obtain ⟨⟨_, e108, rfl⟩, ⟨_, e109, rfl⟩, ⟨_, e110, rfl⟩, ⟨_, e111, rfl⟩, ⟨_, e107, rfl⟩, ⟨_, e112, rfl⟩, ⟨_, e20, ⟨b2, rfl, hbb, hbr⟩⟩, _⟩ := hf
             have m0 := cell_of_one (boxStays M9.out hB)
             refine sto_own (i := 8) 27 20 112 b2 (#[.pointer none]) _ _ rfl rfl rfl rfl (by rfl) (by rfl) e20 (by rfl) (by rfl) e112 (hbr) (by kernel_rfl) rfl (mp_one _) hK
           simp only [FinF, List.getD_cons_zero, List.getD_cons_succ] at hf
           obtain ⟨⟨_, e108, rfl⟩, ⟨_, e109, rfl⟩, ⟨_, e110, rfl⟩, ⟨_, e111, rfl⟩, ⟨_, e107, rfl⟩, ⟨_, e112, rfl⟩, ⟨_, e113, rfl⟩, ⟨_, e20, ⟨b2, rfl, hbb, hbr⟩⟩, ⟨_, e21, rfl⟩, _⟩ := hf
           simp only [blkOf, Value.cells, regT, List.foldl_cons, List.foldl_nil, List.setIfInBounds_toArray, List.set_cons_zero, List.set_cons_succ, e108, e109, e110, e111, e107, e112, e113, e20, e21]
           clear e108 e109 e110 e111 e107 e112 e113 e20 e21
           rw [setRow_one hbr]
           have hb8 := hB.setCell (p := ⟨b2, 0, none⟩) hbb (.pointer none)
           have QD := Lib.hid hb8
           clear hb8 hB hbb hbr
           go_upto_region 26 with (fail)
           generalize wE.setCell ⟨b2, 0, none⟩ (.pointer none) = x10 at *
           have hb := QD.out
           replace HC := Lib.hid (HC.out.push hb)
           clear hb
           have kM0 := cell_of_one (boxStays HM.out (HC.out.to vB (by simp)))
           go_wp2_with fail
           refine (jo_At tr 0 _ (TB.out.below (HC.out.to vB (by simp)) rfl) HZZ.out HKS.out (by omega) (by omega)).mono ?_
           rintro e x11 ⟨xf, rfl, hxf, hb⟩
           clear kM0
           replace HC := Lib.hid (HC.out.push hb)
           clear hb
           rw [HSH.out] at hxf ⊢
           obtain rfl : xf = zeroE := hxf
           rw [show (atE [] 0).2 = false from rfl]
           simp only [zeroE]
           go_upto_region 27 with (fail)
           obtain ⟨c12, hc12⟩ : ∃ c, x11.heap.size = c := ⟨_, rfl⟩
           try rw [hc12]
           obtain ⟨x12, hx12⟩ : ∃ X, allocs x11 [.cells #[.int .i64 0, .int .i64 0, .string ⟨#[]⟩, .int .i64 0, .int .i64 0, .string ⟨#[]⟩] 47] = X := ⟨_, rfl⟩
           rw [show x11.alloc (.cells #[.int .i64 0, .int .i64 0, .string ⟨#[]⟩, .int .i64 0, .int .i64 0, .string ⟨#[]⟩] 47) = x12 from hx12]
           have hb : Below x11.heap.size x11 x12 := by rw [← hx12]; exact allocs_below _ _
           have HXB : Hid (x12.heap[c12]? = some (.cells #[.int .i64 0, .int .i64 0, .string ⟨#[]⟩, .int .i64 0, .int .i64 0, .string ⟨#[]⟩] 47 (0, 0))) := Lib.hid (by have := allocs_get [.cells #[.int .i64 0, .int .i64 0, .string ⟨#[]⟩, .int .i64 0, .int .i64 0, .string ⟨#[]⟩] 47] x11 0 _ rfl; rw [hx12, hc12] at this; exact this)
           have Sc12 : Hid (x11.heap.size = c12) := Lib.hid hc12
           replace HC := Lib.hid (HC.out.push hb)
           clear hb hx12 hc12
           try simp only [List.append]
           go_wp2_with fail
           refine (num_14 2 _).mono ?_
           rintro e _ ⟨rfl, rfl⟩
           go_wp2_with fail
           refine (num_14 2 _).mono ?_
           rintro e _ ⟨rfl, rfl⟩
           go_wp2_with fail
           refine (num_14 2 _).mono ?_
           rintro e _ ⟨rfl, rfl⟩
           go_wp2_with fail
           refine (num_14 2 _).mono ?_
           rintro e _ ⟨rfl, rfl⟩
           go_wp2_with fail
           refine (num_14 2 _).mono ?_
           rintro e _ ⟨rfl, rfl⟩
           have EQ : ∀ W, (binOp .eql 47 (.agg #[.int .i64 0, .int .i64 0, .string ⟨#[]⟩, .int .i64 0, .int .i64 0, .string ⟨#[]⟩]) (.agg #[.int .i64 0, .int .i64 0, .string ⟨#[]⟩, .int .i64 0, .int .i64 0, .string ⟨#[]⟩])).run Try.prog W = .ok (.bool true) W := fun W => (ev_eql zeroE zeroE W).trans (by simp)
           have kM0 := cell_of_one (boxStays HM.out (HC.out.to vB (by simp)))
           have kXB0 := cell_of_row _ _ 0 _ _ _ HXB.out
           have kXB1 := cell_of_row _ _ 1 _ _ _ HXB.out
           have kXB2 := cell_of_row _ _ 2 _ _ _ HXB.out
           have kXB3 := cell_of_row _ _ 3 _ _ _ HXB.out
           have kXB4 := cell_of_row _ _ 4 _ _ _ HXB.out
           have kXB5 := cell_of_row _ _ 5 _ _ _ HXB.out
           go_wp2_with fail
           clear EQ
           refine (jo_Part tr tr _ (TB.out.below (HC.out.to vB (by simp)) rfl) (TB.out.below (HC.out.to vB (by simp)) rfl) HZZ.out HZZ.out HKS.out HKS.out).mono ?_
           rintro e x13 ⟨rfl, hb⟩
           clear kM0 kXB0 kXB1 kXB2 kXB3 kXB4 kXB5
           replace HC := Lib.hid (HC.out.push hb)
           clear hb
           rw [part_bad (.inl HG.out)]
           have kM0 := cell_of_one (boxStays HM.out (HC.out.to vB (by simp)))
           have kN00 := cell_of_one (boxStays HN0.out (HC.out.to x3 (by simp)))
           go_wp2_with fail
           refine (jo_Part .nil tr _ trivial (TB.out.below (HC.out.to vB (by simp)) rfl) (Nat.zero_le _) HZZ.out reg_nil.keys HKS.out).mono ?_
           rintro e x14 ⟨rfl, hb⟩
           clear kM0 kN00
           replace HC := Lib.hid (HC.out.push hb)
           clear hb
           rw [part_bad (.inr HG.out)]
           have kM0 := cell_of_one (boxStays HM.out (HC.out.to vB (by simp)))
           go_wp2_with fail
           refine (since_14 tr zeroS _).mono ?_
           rintro e x15 ⟨sb, mb, rfl, _, _, hm2, hs2, hb⟩
           clear kM0
           replace HC := Lib.hid (HC.out.push hb)
           clear hb
           have MBX := Lib.hid hm2
           have SBX := Lib.hid hs2
           clear hm2 hs2
           go_wp2_with fail
           refine (goes_since tr zeroS sb mb [] none 0 0 0 _ SBX.out MBX.out (TB.out.below (HC.out.to vB (by simp)) rfl) HZZ.out HKS.out (by decide) (since_bad HG.out _) (CellsAt.nil _ _) rfl (Nat.zero_le _)).mono ?_
           rintro e x16 ⟨rfl, hb⟩
           replace HC := Lib.hid (HC.out.push hb)
           clear hb
           go_wp2_with fail
           refine (known_14 _).mono ?_
           rintro e x17 ⟨rfl, hb⟩
           replace HC := Lib.hid (HC.out.push hb)
           clear hb
           go_wp2_with fail
           go_ret
           exact ⟨rfl, HE.out _ (HC.out.to vB (by simp))⟩
end Go.Proofs.Ytnpiepimajippaa
namespace Go.Proofs.Ytnpiepimajippaa
open Go.ChangeShapes Go.WideShapes Go.ChangeAt Go.RowKit Go.Deep
section
variable {H : Type} {enc : TypeId × Value → H} {P : Program} {w : World} {base : Nat} {held : Bool}
theorem spot_none {a : Addr} {v : Value} (h : w.cell? (a.add 0) = some v) : ∃ b off, a = ⟨b, off, none⟩ := by
 obtain ⟨b, off, spot⟩ := a
 have hs : spot = none := by simpa [Addr.add] using World.cell?_spot h
 subst hs
 exact ⟨b, off, rfl⟩
end
end Go.Proofs.Ytnpiepimajippaa
namespace Go.Proofs.Ytnpiepimajippaa
open Go.ChangeShapes Go.WideShapes Go.ChangeAt Go.RowKit Go.Deep St
section
variable {H : Type} {enc : TypeId × Value → H} {w : World} {base : Nat} {held : Bool}
theorem maxLen_small {n : Nat} (h : n ≤ maxLen) : n ≤ 9223372036854775807 := by unfold maxLen at h; omega
theorem flat_get {α : Type} (f : α → List Value) (m : Nat) (hf : ∀ x, (f x).length = m) (hm : 0 < m) : ∀ (l : List α) (i r : Nat) (hi : i < l.length), r < m → (l.flatMap f)[i * m + r]? = (f l[i])[r]?
 | [], i, r, hi, _ => by simp at hi
 | x :: l, 0, r, _, hr => by
   rw [List.flatMap_cons, Nat.zero_mul, Nat.zero_add, List.getElem?_append_left (by rw [hf]; exact hr)]
   rfl
 | x :: l, i + 1, r, hi, hr => by
   rw [List.flatMap_cons, List.getElem?_append_right (by rw [hf, Nat.succ_mul]; omega), hf, Nat.succ_mul]
   rw [show i * m + m + r - m = i * m + r by omega, flat_get f m hf hm l i r (by simpa using hi) hr]
   rfl
theorem flat_len {α : Type} (f : α → List Value) (m : Nat) (hf : ∀ x, (f x).length = m) : ∀ (l : List α), (l.flatMap f).length = l.length * m
 | [] => by simp
 | x :: l => by rw [List.flatMap_cons, List.length_append, hf, flat_len f m hf l, List.length_cons, Nat.succ_mul]; omega
theorem open_structs {α : Type} [Inhabited α] (f : α → List Value) (m : Nat) (hf : ∀ x, (f x).length = m) (hm : 0 < m) (G : α → Prop) {t e : TypeId} {fuel : Nat} {a0 : Option Addr} {len cap : Nat} {x : DataW H × List MemPlace} (ht : Try.prog.underlying t = some (.slice e)) (ce : Try.prog.cellsOf e = m)
   (each : ∀ {fuel : Nat} {cs : List Value} {x : DataW H × List MemPlace}, DataW.trod enc Try.prog w base (fun _ => true) held fuel e cs = some x → ∃ y : α, cs = f y ∧ G y)
   (h : DataW.trod enc Try.prog w base (fun _ => true) held fuel t (Value.slice a0 len cap).cells.toList = some x) :
   ∃ l : List α, len = l.length ∧ CellsAt w a0 (l.flatMap f) ∧ l.length ≤ maxLen ∧ ∀ y ∈ l, G y := by
 rcases open_slice ht h with ⟨hcs, _⟩ | ⟨a, l, c, k, n, D, Pl, hcs, _, hl, hmx, hmm, hx, hi⟩
 · simp [Value.cells] at hcs
   obtain ⟨rfl, rfl, rfl⟩ := hcs
   exact ⟨[], rfl, CellsAt.nil _ _, Nat.zero_le _, fun y hy => by cases hy⟩
 · simp [Value.cells] at hcs
   obtain ⟨rfl, rfl, rfl⟩ := hcs
   simp only [if_true] at hmm
   subst hmm
   have each2 : ∀ i, i < k → ∃ y : α, (∀ r, r < m → w.cell? ((a.add (i * m)).add r) = (f y)[r]?) ∧ G y := by
     intro i hik
     obtain ⟨cs', hc, htr⟩ := hi i hik
     rw [ce] at hc
     obtain ⟨y, rfl, hg⟩ := each htr
     obtain ⟨_, hcl, hat⟩ := World.cells?_some hc
     refine ⟨y, fun r hr => ?_, hg⟩
     have := hat r hr
     rw [this]
     try rw [List.getElem?_eq_getElem]
     done
   obtain ⟨F, hF⟩ := choose_lt (α := α) (n := k) (p := fun i y => (∀ r, r < m → w.cell? ((a.add (i * m)).add r) = (f y)[r]?) ∧ G y) each2
   refine ⟨(List.range len).map F, by simp, fun q hq => ?_, by simp; omega, fun y hy => ?_⟩
   · have hlenF : (((List.range len).map F).flatMap f).length = len * m := by rw [flat_len f m hf]; simp
     have hq2 : q < len * m := by rw [← hlenF]; exact hq
     have hqm : q / m < len := Nat.div_lt_of_lt_mul (by rw [Nat.mul_comm]; exact hq2)
     have hp : 0 < k := Nat.lt_of_le_of_lt (Nat.zero_le _) (Nat.lt_of_lt_of_le hqm hl)
     have z0 := (hF 0 hp).1 0 hm
     rw [List.getElem?_eq_getElem (by rw [hf]; exact hm), Nat.zero_mul] at z0
     obtain ⟨b, off, rfl⟩ := spot_none (a := a) z0
     refine ⟨b, off, rfl, ?_⟩
     have hr : q % m < m := Nat.mod_lt _ hm
     have hk := (hF (q / m) (Nat.lt_of_lt_of_le hqm hl)).1 (q % m) hr
     have hg := flat_get f m hf hm ((List.range len).map F) (q / m) (q % m) (by simpa using hqm) hr
     simp only [List.getElem_map, List.getElem_range] at hg
     have hqe : q / m * m + q % m = q := by rw [Nat.mul_comm]; exact Nat.div_add_mod q m
     rw [hqe] at hg
     rw [Addr_add, Addr_add, Nat.add_assoc, hqe] at hk
     rw [hk, ← hg, List.getElem?_eq_getElem hq]
   · obtain ⟨i, hi', rfl⟩ := List.mem_map.1 hy
     exact (hF i (by have := List.mem_range.1 hi'; omega)).2
instance : Inhabited Ev := ⟨(⟨0, 0, ⟨#[]⟩, 0, 0⟩, ⟨#[]⟩)⟩
end
end Go.Proofs.Ytnpiepimajippaa
namespace Go.Proofs.Ytnpiepimajippaa
open Go.ChangeShapes Go.WideShapes Go.ChangeAt Go.RowKit Go.Deep St
section
variable {H : Type} {enc : TypeId × Value → H} {w : World} {base : Nat} {held : Bool}
set_option maxRecDepth 100000 in
theorem open_two {fuel : Nat} {cs : List Value} {x : DataW H × List MemPlace} (h : DataW.trod enc Try.prog w base (fun _ => true) held fuel 67 cs = some x) :
   ∃ p : ByteArray × ByteArray, cs = [.string p.1, .string p.2] ∧ p.1.size ≤ maxLen ∧ p.2.size ≤ maxLen := by
 obtain ⟨xs, n, _, _, hlen, hz, hff⟩ := DataW.trod_array Try.underlying67 h
 rw [show Try.prog.cellsOf 67 = 2 by kernel_rfl] at hlen
 match cs, hlen with
 | [v0, v1], _ =>
   have q0 := hff 0 (by omega)
   have q1 := hff 1 (by omega)
   rw [show Try.prog.cellsOf 9 = 1 by kernel_rfl] at q0 q1
   rw [List.getElem?_eq_getElem (by rw [hz]; decide)] at q0 q1
   obtain ⟨r, k0, _, b0⟩ := DataW.trod_string Try.underlying9 q0
   obtain ⟨l, k1, _, b1⟩ := DataW.trod_string Try.underlying9 q1
   simp only [Nat.zero_mul, Nat.one_mul, List.drop, List.take, List.cons.injEq, and_true] at k0 k1
   subst k0 k1
   exact ⟨(r, l), rfl, b0, b1⟩
theorem open_pvs {fuel : Nat} {a0 : Option Addr} {len cap : Nat} {x : DataW H × List MemPlace} (h : DataW.trod enc Try.prog w base (fun _ => true) held fuel 64 (Value.slice a0 len cap).cells.toList = some x) :
   ∃ l : List (ByteArray × ByteArray), len = l.length ∧ CellsAt w a0 (pvV l) ∧ l.length ≤ maxLen ∧ ∀ p ∈ l, p.1.size ≤ 9223372036854775807 ∧ p.2.size ≤ maxLen :=
 open_structs (α := ByteArray × ByteArray) (fun p => [.string p.1, .string p.2]) 2 (fun _ => rfl) (by omega) (fun e => e.1.size ≤ 9223372036854775807 ∧ e.2.size ≤ maxLen) Try.underlying64 (by kernel_rfl) (fun h => by obtain ⟨e, h1, h2, h3⟩ := open_two h; exact ⟨e, h1, maxLen_small h2, h3⟩) h
end
end Go.Proofs.Ytnpiepimajippaa
