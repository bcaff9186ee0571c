/- Words, contracts and walks that the proof stands on (KsL OpenC OpenK). -/
import Derived.Deep.DeepHandedRow
import Derived.Deep.DeepWitnessRowRef
import Derived.Deep.Grids
import Derived.Deep.Slices
import Derived.Lib.LaidIn
import Derived.Lib.LaidU8T
import Derived.OpenShut
import Derived.ProofKit
import Derived.Shelf.Vars
import Derived.SliceStrings
import Derived.Test.YtkjchoamdibolaaDoorCards
import Derived.Test.YtkjchoamdibolaaDoorKA1
import Derived.Test.YtkjchoamdibolaaDoorKA3
import Derived.Test.YtkjchoamdibolaaDoorKA4
import Derived.Test.YtkjchoamdibolaaDoorTie
namespace Go.Proofs.YtkjchoamdibolaaDoor
open Go.RowKit Ku St Pm
def P3 (p q r : Plc) (i : Nat) : Plc := match i with
 | 0 => p
 | 1 => q
 | _ => r
theorem step_store_row {P : Program} {ops : Array Oper} {o : Oper} {a : Act} {w : World} {K : Act → World → Prop} {Q : Exit → Act → World → Prop} {E : Prop} (hgd : o.guard = none) (ty : TypeId) (x y : Operand) (ho : o.op = .store ty x y)
   (g : Nat) (cells : Array Value) (hx : a.eval x = .pointer (some ⟨g, 0, none⟩)) (hy : a.eval y = .agg cells)
   (t : TypeId) (old : Array Value) (hg : w.heap[g]? = some (.cells old t (0, 0))) (hi : (P.info? ty).map (·.size) = some cells.size)
   (hold : old.size = cells.size) (h1 : cells.all (·.oneCell') = true)
   (h : K (a.put o.dst undef) (w.setRow g cells)) : if Region.wanted o (yielded ops a.tmps) = true then Oper.wp P o a w K Q else E := by
 have hw : Region.wanted o (yielded ops a.tmps) = true := by simp [Region.wanted, hgd]
 rw [if_pos hw]
 exact wp_store_row ty x y ho g cells hx hy t old hg hi hold h1 h
theorem pl_one (p : Plc) : (#[.slice p.a p.n p.c, .int .i64 p.k, .string p.x] : Array Value).all (·.oneCell') = true := by simp [Value.oneCell']
theorem made_at {w w8 : World} {o : Obj} (hw : w8 = w.alloc o) : w8.heap[w.heap.size]? = some o := by rw [hw]; exact heap_alloc_new w o
set_option maxRecDepth 100000 in
set_option maxHeartbeats 4000000 in
theorem law_Orders (p q r : Plc) (w : World) (hp : PlcAt w p) (hq : PlcAt w q) (hr : PlcAt w r) (hG : Glob w) :
   Calls Tryd.prog 5 #[.agg #[.slice p.a p.n p.c, .int .i64 p.k, .string p.x, .slice q.a q.n q.c, .int .i64 q.k, .string q.x, .slice r.a r.n r.c, .int .i64 r.k, .string r.x]] w fun e w' => e = .returned (.bool true) ∧ Below w.heap.size w w' := by
 have G := Lib.hid hG
 have PS : Hid (∀ i, PlcAt w (P3 p q r i)) := Lib.hid (fun i => by unfold P3; split <;> assumption)
 clear hG hp hq hr
 have HC : Hid (Chain [w] w) := Lib.hid (Chain.one w)
 go_enter Tryd.func5, Tryd.ntmps5
 go_upto_region 1 with (fail)
 obtain ⟨z, hz⟩ : ∃ c, w.heap.size = c := ⟨_, rfl⟩
 try rw [hz]
 obtain ⟨wA, hwA⟩ : ∃ X, allocs w [.cells #[.slice p.a p.n p.c, .int .i64 p.k, .string p.x, .slice q.a q.n q.c, .int .i64 q.k, .string q.x, .slice r.a r.n r.c, .int .i64 r.k, .string r.x] 39] = X := ⟨_, rfl⟩
 rw [show w.alloc (.cells #[.slice p.a p.n p.c, .int .i64 p.k, .string p.x, .slice q.a q.n q.c, .int .i64 q.k, .string q.x, .slice r.a r.n r.c, .int .i64 r.k, .string r.x] 39) = wA from hwA]
 have hb : Below w.heap.size w wA := by rw [← hwA]; exact allocs_below _ _
 have HM : Hid (wA.heap[z]? = some (.cells #[.slice p.a p.n p.c, .int .i64 p.k, .string p.x, .slice q.a q.n q.c, .int .i64 q.k, .string q.x, .slice r.a r.n r.c, .int .i64 r.k, .string r.x] 39 (0, 0))) := Lib.hid (by have := allocs_get [.cells #[.slice p.a p.n p.c, .int .i64 p.k, .string p.x, .slice q.a q.n q.c, .int .i64 q.k, .string q.x, .slice r.a r.n r.c, .int .i64 r.k, .string r.x] 39] w 0 _ rfl; rw [hwA, hz] at this; exact this)
 have Sz : Hid (w.heap.size = z) := Lib.hid hz
 replace HC := Lib.hid (HC.out.push hb)
 clear hb hwA hz
 have LD : Hid (∀ i, i < 3 → wA.cell? ⟨z, i * 3, none⟩ = some (.slice (P3 p q r i).a (P3 p q r i).n (P3 p q r i).c) ∧ wA.cell? ⟨z, i * 3 + 1, none⟩ = some (.int .i64 (P3 p q r i).k) ∧ wA.cell? ⟨z, i * 3 + 2, none⟩ = some (.string (P3 p q r i).x)) := Lib.hid (fun i hi => by
   rcases (by omega : i = 0 ∨ i = 1 ∨ i = 2) with rfl | rfl | rfl
   · exact ⟨cell_of_row _ _ 0 _ _ _ HM.out, cell_of_row _ _ 1 _ _ _ HM.out, cell_of_row _ _ 2 _ _ _ HM.out⟩
   · exact ⟨cell_of_row _ _ 3 _ _ _ HM.out, cell_of_row _ _ 4 _ _ _ HM.out, cell_of_row _ _ 5 _ _ _ HM.out⟩
   · exact ⟨cell_of_row _ _ 6 _ _ _ HM.out, cell_of_row _ _ 7 _ _ _ HM.out, cell_of_row _ _ 8 _ _ _ HM.out⟩)
 have ZL : Hid (z < wA.heap.size) := Lib.hid (Array.getElem?_eq_some_iff.1 HM.out).1
 have PS1 : Hid (∀ i, PlcAt wA (P3 p q r i)) := Lib.hid (fun i => (PS.out i).below (HC.out.to w (by simp)))
 have G1 := Lib.hid (G.out.below (HC.out.to w (by simp)))
 have B1 := Lib.hid (HC.out.to w (by simp))
 clear HC HM Sz G PS
 generalize P3 p q r = P at *
 go_wp2_with fail
 go_loopw [3] (fun i wr => ∃ k : Nat, k ≤ 3 ∧ i = .int .i64 (k : Int) ∧ Hid (Below wA.heap.size wA wr)) (fun i _ => 3 - (intOf i).toNat)
 case atStart => exact ⟨0, by omega, rfl, Lib.hid (Below.refl _ _)⟩
 case round =>
   obtain ⟨i, hi, rfl, HB⟩ := hrel
   by_cases hlt : i < 3
   · have hlti : (i : Int) < 3 := by omega
     have PA : Hid (PlcAt wA (P i)) := Lib.hid (PS1.out i)
     obtain ⟨a, ha⟩ : ∃ x, P i = x := ⟨_, rfl⟩
     go_wp2_with fail
     go_loopw [4] (fun k wr2 => ∃ j : Nat, j ≤ 3 ∧ k = .int .i64 (j : Int) ∧ Hid (Below wA.heap.size wA wr2)) (fun k _ => 3 - (intOf k).toNat)
     case atStart => exact ⟨0, by omega, rfl, HB⟩
     case round =>
       obtain ⟨j, hj, rfl, HB2⟩ := hrel
       by_cases hlt2 : j < 3
       · have hlt2i : (j : Int) < 3 := by omega
         have PB : Hid (PlcAt wA (P j)) := Lib.hid (PS1.out j)
         have LA := Lib.hid (LD.out i hlt)
         have LB := Lib.hid (LD.out j hlt2)
         obtain ⟨b, hb⟩ : ∃ x, P j = x := ⟨_, rfl⟩
         rw [ha] at PA LA
         rw [hb] at PB LB
         clear ha hb
         obtain ⟨wz, hwz⟩ : ∃ n, wr.heap.size = n := ⟨_, rfl⟩
         have WZ := Lib.hid (show wA.heap.size ≤ wz from hwz ▸ HB2.out.size)
         have HWZ := Lib.hid hwz
         clear hwz
         go_upto_region 7 with (fail)
         go_cut [5, 6] (fun u5 u6 wx => ∃ g5 g6 : Nat, u5 = .pointer (some ⟨g5, 0, none⟩) ∧ u6 = .pointer (some ⟨g6, 0, none⟩) ∧ Hid (wx.heap[g5]? = some (.cells #[.slice a.a a.n a.c, .int .i64 a.k, .string a.x] 38 (0, 0))) ∧ Hid (wx.heap[g6]? = some (.cells #[.slice b.a b.n b.c, .int .i64 b.k, .string b.x] 38 (0, 0))) ∧ Hid (Below wA.heap.size wA wx))
         case first =>
           refine wp_region_noPanic ?_
           refine wp_region_held_drew (S := fun w' => Below wr.heap.size wr w') (by kernel_rfl) (Below.refl _ _).drew (fun hS => ?_)
           refine wpAnyH_take (i := 0) (oi := ⟨some 15, _, _, _, _, _⟩) (v := ?_) rfl (by kernel_rfl) (by kernel_rfl) (by kernel_rfl) (fun _ _ _ h => h) (Or.inl ⟨by rfl, ?_⟩) hS ?_
           rotate_left 1
           · intro w' hB; have qB := HB2.out.trans (hB.mono HB2.out.size); have qa := LA.out; have qb := LB.out; have la0 := (qB.cell (cell_lt qa.1)).trans qa.1; have la1 := (qB.cell (cell_lt qa.2.1)).trans qa.2.1; have la2 := (qB.cell (cell_lt qa.2.2)).trans qa.2.2; have lb0 := (qB.cell (cell_lt qb.1)).trans qb.1; have lb1 := (qB.cell (cell_lt qb.2.1)).trans qb.2.1; have lb2 := (qB.cell (cell_lt qb.2.2)).trans qb.2.2; clear qa qb qB; (go_simp <;> with_reducible rfl)
           try simp only [Act.put, List.setIfInBounds_toArray, List.set_cons_zero, List.set_cons_succ]
           refine wpAnyH_take (i := 1) (oi := ⟨some 16, _, _, _, _, _⟩) (v := ?_) rfl (by kernel_rfl) (by kernel_rfl) (by kernel_rfl) (fun _ _ _ h => h) (Or.inl ⟨by rfl, ?_⟩) hS ?_
           rotate_left 1
           · intro w' hB; have qB := HB2.out.trans (hB.mono HB2.out.size); have qa := LA.out; have qb := LB.out; have la0 := (qB.cell (cell_lt qa.1)).trans qa.1; have la1 := (qB.cell (cell_lt qa.2.1)).trans qa.2.1; have la2 := (qB.cell (cell_lt qa.2.2)).trans qa.2.2; have lb0 := (qB.cell (cell_lt qb.1)).trans qb.1; have lb1 := (qB.cell (cell_lt qb.2.1)).trans qb.2.1; have lb2 := (qB.cell (cell_lt qb.2.2)).trans qb.2.2; clear qa qb qB; (go_simp <;> with_reducible rfl)
           try simp only [Act.put, List.setIfInBounds_toArray, List.set_cons_zero, List.set_cons_succ]
           refine wpAnyH_take (i := 2) (oi := ⟨some 17, _, _, _, _, _⟩) (v := ?_) rfl (by kernel_rfl) (by kernel_rfl) (by kernel_rfl) (fun _ _ _ h => h) (Or.inl ⟨by rfl, ?_⟩) hS ?_
           rotate_left 1
           · intro w' hB; have qB := HB2.out.trans (hB.mono HB2.out.size); have qa := LA.out; have qb := LB.out; have la0 := (qB.cell (cell_lt qa.1)).trans qa.1; have la1 := (qB.cell (cell_lt qa.2.1)).trans qa.2.1; have la2 := (qB.cell (cell_lt qa.2.2)).trans qa.2.2; have lb0 := (qB.cell (cell_lt qb.1)).trans qb.1; have lb1 := (qB.cell (cell_lt qb.2.1)).trans qb.2.1; have lb2 := (qB.cell (cell_lt qb.2.2)).trans qb.2.2; clear qa qb qB; (go_simp <;> with_reducible rfl)
           try simp only [Act.put, List.setIfInBounds_toArray, List.set_cons_zero, List.set_cons_succ]
           refine wpAnyH_take (i := 3) (oi := ⟨some 18, _, _, _, _, _⟩) (v := ?_) rfl (by kernel_rfl) (by kernel_rfl) (by kernel_rfl) (fun _ _ _ h => h) (Or.inl ⟨by rfl, ?_⟩) hS ?_
           rotate_left 1
           · intro w' hB; have qB := HB2.out.trans (hB.mono HB2.out.size); have qa := LA.out; have qb := LB.out; have la0 := (qB.cell (cell_lt qa.1)).trans qa.1; have la1 := (qB.cell (cell_lt qa.2.1)).trans qa.2.1; have la2 := (qB.cell (cell_lt qa.2.2)).trans qa.2.2; have lb0 := (qB.cell (cell_lt qb.1)).trans qb.1; have lb1 := (qB.cell (cell_lt qb.2.1)).trans qb.2.1; have lb2 := (qB.cell (cell_lt qb.2.2)).trans qb.2.2; clear qa qb qB; (go_simp <;> with_reducible rfl)
           try simp only [Act.put, List.setIfInBounds_toArray, List.set_cons_zero, List.set_cons_succ]
           refine wpAnyH_take (i := 4) (oi := ⟨some 19, _, _, _, _, _⟩) (v := ?_) rfl (by kernel_rfl) (by kernel_rfl) (by kernel_rfl) (fun _ _ _ h => h) (Or.inl ⟨by rfl, ?_⟩) hS ?_
           rotate_left 1
           · intro w' hB; have qB := HB2.out.trans (hB.mono HB2.out.size); have qa := LA.out; have qb := LB.out; have la0 := (qB.cell (cell_lt qa.1)).trans qa.1; have la1 := (qB.cell (cell_lt qa.2.1)).trans qa.2.1; have la2 := (qB.cell (cell_lt qa.2.2)).trans qa.2.2; have lb0 := (qB.cell (cell_lt qb.1)).trans qb.1; have lb1 := (qB.cell (cell_lt qb.2.1)).trans qb.2.1; have lb2 := (qB.cell (cell_lt qb.2.2)).trans qb.2.2; clear qa qb qB; (go_simp <;> with_reducible rfl)
           try simp only [Act.put, List.setIfInBounds_toArray, List.set_cons_zero, List.set_cons_succ]
           refine wpAnyH_take (i := 5) (oi := ⟨some 20, _, _, _, _, _⟩) (v := ?_) rfl (by kernel_rfl) (by kernel_rfl) (by kernel_rfl) (fun _ _ _ h => h) (Or.inl ⟨by rfl, ?_⟩) hS ?_
           rotate_left 1
           · intro w' hB; have qB := HB2.out.trans (hB.mono HB2.out.size); have qa := LA.out; have qb := LB.out; have la0 := (qB.cell (cell_lt qa.1)).trans qa.1; have la1 := (qB.cell (cell_lt qa.2.1)).trans qa.2.1; have la2 := (qB.cell (cell_lt qa.2.2)).trans qa.2.2; have lb0 := (qB.cell (cell_lt qb.1)).trans qb.1; have lb1 := (qB.cell (cell_lt qb.2.1)).trans qb.2.1; have lb2 := (qB.cell (cell_lt qb.2.2)).trans qb.2.2; clear qa qb qB; (go_simp <;> with_reducible rfl)
           try simp only [Act.put, List.setIfInBounds_toArray, List.set_cons_zero, List.set_cons_succ]
           refine wpAnyH_ready (rs := [6, 7]) (by kernel_rfl) (by simp) (AllReadyH.cons (o := ⟨some 5, _, _, _, _, _⟩) rfl (fun K hK => ?way2) (AllReadyH.cons (o := ⟨some 6, _, _, _, _, _⟩) rfl (fun K hK => ?way1) AllReadyH.nil))
           case' way2 =>
             go_simp
             refine hK.out _ _ (hS.alloc hS.size _) (fun _ => ?_)
             clear hK K
             refine wpAnyH_madeK hS hS.size ?_
             have hS0 := hS
             clear hS
             rintro w6 hw hS
             have Y6 := Lib.hid (made_at hw)
             have G6 := Lib.hid hS0.size
             (try have NE := Lib.hid (Nat.ne_of_lt (Array.getElem?_eq_some_iff.1 Y7.out).1).symm)
             (try replace Y7 := Lib.hid (boxStays (w' := w6) Y7.out (by rw [hw]; exact below_new _ _)))
             clear hw hS0
             try simp only [Act.put, List.setIfInBounds_toArray, List.set_cons_zero, List.set_cons_succ]
             refine wpAnyH_ready (rs := [7]) (by kernel_rfl) (by simp) (AllReadyH.cons (o := ⟨some 6, _, _, _, _, _⟩) rfl (fun K hK => ?_) AllReadyH.nil)
             go_simp
             refine hK.out _ _ (hS.alloc hS.size _) (fun _ => ?_)
             clear hK K
             refine wpAnyH_madeK hS hS.size ?_
             have hS0 := hS
             clear hS
             rintro w7 hw hS
             have Y7 := Lib.hid (made_at hw)
             have G7 := Lib.hid hS0.size
             (try have NE := Lib.hid (Nat.ne_of_lt (Array.getElem?_eq_some_iff.1 Y6.out).1))
             (try replace Y6 := Lib.hid (boxStays (w' := w7) Y6.out (by rw [hw]; exact below_new _ _)))
             clear hw hS0
             try simp only [Act.put, List.setIfInBounds_toArray, List.set_cons_zero, List.set_cons_succ]
             refine wpAnyH_ready (rs := [8]) (by kernel_rfl) (by simp) (AllReadyH.cons (o := ⟨none, _, _, _, _, _⟩) rfl (fun K hK => ?_) AllReadyH.nil)
             refine step_store_row rfl 38 (.tmp 5) (.tmp 17) rfl _ #[.slice a.a a.n a.c, .int .i64 a.k, .string a.x] rfl rfl 38 _ Y6.out (by kernel_rfl) rfl (pl_one a) ?_
             replace hS := below_setRow hS G6.out #[.slice a.a a.n a.c, .int .i64 a.k, .string a.x]
             have Z6 := Lib.hid (setRow_heap _ _ _ #[.slice a.a a.n a.c, .int .i64 a.k, .string a.x] _ _ Y6.out)
             replace Y7 := Lib.hid ((setRow_other _ _ _ #[.slice a.a a.n a.c, .int .i64 a.k, .string a.x] (Ne.symm NE.out)).trans Y7.out)
             refine hK.out _ _ hS (fun _ => ?_)
             clear hK K
             try simp only [Act.put, List.setIfInBounds_toArray, List.set_cons_zero, List.set_cons_succ]
             refine wpAnyH_ready (rs := [9]) (by kernel_rfl) (by simp) (AllReadyH.cons (o := ⟨none, _, _, _, _, _⟩) rfl (fun K hK => ?_) AllReadyH.nil)
             refine step_store_row rfl 38 (.tmp 6) (.tmp 20) rfl _ #[.slice b.a b.n b.c, .int .i64 b.k, .string b.x] rfl rfl 38 _ Y7.out (by kernel_rfl) rfl (pl_one b) ?_
             replace hS := below_setRow hS G7.out #[.slice b.a b.n b.c, .int .i64 b.k, .string b.x]
             have Z7 := Lib.hid (setRow_heap _ _ _ #[.slice b.a b.n b.c, .int .i64 b.k, .string b.x] _ _ Y7.out)
             replace Z6 := Lib.hid ((setRow_other _ _ _ #[.slice b.a b.n b.c, .int .i64 b.k, .string b.x] NE.out).trans Z6.out)
             refine hK.out _ _ hS (fun _ => ?_)
             clear hK K
             try simp only [Act.put, List.setIfInBounds_toArray, List.set_cons_zero, List.set_cons_succ]
             refine wpAnyH_done (by kernel_rfl) (NoPanic.normal ?_) _
           case' way1 =>
             go_simp
             refine hK.out _ _ (hS.alloc hS.size _) (fun _ => ?_)
             clear hK K
             refine wpAnyH_madeK hS hS.size ?_
             have hS0 := hS
             clear hS
             rintro w7 hw hS
             have Y7 := Lib.hid (made_at hw)
             have G7 := Lib.hid hS0.size
             (try have NE := Lib.hid (Nat.ne_of_lt (Array.getElem?_eq_some_iff.1 Y6.out).1))
             (try replace Y6 := Lib.hid (boxStays (w' := w7) Y6.out (by rw [hw]; exact below_new _ _)))
             clear hw hS0
             try simp only [Act.put, List.setIfInBounds_toArray, List.set_cons_zero, List.set_cons_succ]
             refine wpAnyH_ready (rs := [6]) (by kernel_rfl) (by simp) (AllReadyH.cons (o := ⟨some 5, _, _, _, _, _⟩) rfl (fun K hK => ?_) AllReadyH.nil)
             go_simp
             refine hK.out _ _ (hS.alloc hS.size _) (fun _ => ?_)
             clear hK K
             refine wpAnyH_madeK hS hS.size ?_
             have hS0 := hS
             clear hS
             rintro w6 hw hS
             have Y6 := Lib.hid (made_at hw)
             have G6 := Lib.hid hS0.size
             (try have NE := Lib.hid (Nat.ne_of_lt (Array.getElem?_eq_some_iff.1 Y7.out).1).symm)
             (try replace Y7 := Lib.hid (boxStays (w' := w6) Y7.out (by rw [hw]; exact below_new _ _)))
             clear hw hS0
             try simp only [Act.put, List.setIfInBounds_toArray, List.set_cons_zero, List.set_cons_succ]
             refine wpAnyH_ready (rs := [8]) (by kernel_rfl) (by simp) (AllReadyH.cons (o := ⟨none, _, _, _, _, _⟩) rfl (fun K hK => ?_) AllReadyH.nil)
             refine step_store_row rfl 38 (.tmp 5) (.tmp 17) rfl _ #[.slice a.a a.n a.c, .int .i64 a.k, .string a.x] rfl rfl 38 _ Y6.out (by kernel_rfl) rfl (pl_one a) ?_
             replace hS := below_setRow hS G6.out #[.slice a.a a.n a.c, .int .i64 a.k, .string a.x]
             have Z6 := Lib.hid (setRow_heap _ _ _ #[.slice a.a a.n a.c, .int .i64 a.k, .string a.x] _ _ Y6.out)
             replace Y7 := Lib.hid ((setRow_other _ _ _ #[.slice a.a a.n a.c, .int .i64 a.k, .string a.x] (Ne.symm NE.out)).trans Y7.out)
             refine hK.out _ _ hS (fun _ => ?_)
             clear hK K
             try simp only [Act.put, List.setIfInBounds_toArray, List.set_cons_zero, List.set_cons_succ]
             refine wpAnyH_ready (rs := [9]) (by kernel_rfl) (by simp) (AllReadyH.cons (o := ⟨none, _, _, _, _, _⟩) rfl (fun K hK => ?_) AllReadyH.nil)
             refine step_store_row rfl 38 (.tmp 6) (.tmp 20) rfl _ #[.slice b.a b.n b.c, .int .i64 b.k, .string b.x] rfl rfl 38 _ Y7.out (by kernel_rfl) rfl (pl_one b) ?_
             replace hS := below_setRow hS G7.out #[.slice b.a b.n b.c, .int .i64 b.k, .string b.x]
             have Z7 := Lib.hid (setRow_heap _ _ _ #[.slice b.a b.n b.c, .int .i64 b.k, .string b.x] _ _ Y7.out)
             replace Z6 := Lib.hid ((setRow_other _ _ _ #[.slice b.a b.n b.c, .int .i64 b.k, .string b.x] NE.out).trans Z6.out)
             refine hK.out _ _ hS (fun _ => ?_)
             clear hK K
             try simp only [Act.put, List.setIfInBounds_toArray, List.set_cons_zero, List.set_cons_succ]
             refine wpAnyH_done (by kernel_rfl) (NoPanic.normal ?_) _
           all_goals
             go_wp2_with fail
             go_meet
             exact ⟨_, _, rfl, rfl, Z6, Z7, Lib.hid (HB2.out.trans (hS.mono HB2.out.size))⟩
         case rest =>
           obtain ⟨g5, g6, rfl, rfl, Y5, Y6, HB3⟩ := hcut
           go_upto_region 8 with (fail)
           have HPA : Hid (PlcAt wc a) := Lib.hid (PA.out.below HB3.out)
           have HPB : Hid (PlcAt wc b) := Lib.hid (PB.out.below HB3.out)
           clear PA PB LA LB HWZ WZ
           refine relG_start (slots := [21, 22, 23, 24, 25, 26, 27, 28, 29, 30, 31, 32, 33, 34, 35, 36, 37, 38, 39, 40, 41, 42, 43, 44, 45, 46, 47, 48, 49, 50, 51, 52, 53]) (so := []) (by kernel_rfl) (by kernel_rfl) (by rfl) ?_
           refine relG_pure (i := 0) (o := ⟨some 21, _, _, _, _, _⟩) (v := ?v3) [] [5] rfl rfl (by kernel_rfl) (by kernel_rfl) (fun t w1 hB hf hbf => ?y3) ?n3
           case y3 =>
             simp only [BasF] at hbf
             clear hf
             obtain ⟨⟨b5, k5⟩, _⟩ := hbf
             have ya := boxStays Y5.out hB
             have yb := boxStays Y6.out hB
             have a0 := cell_of_row _ g5 0 _ _ _ ya
             have a1 := cell_of_row _ g5 1 _ _ _ ya
             have a2 := cell_of_row _ g5 2 _ _ _ ya
             have b0 := cell_of_row _ g6 0 _ _ _ yb
             have b1 := cell_of_row _ g6 1 _ _ _ yb
             have b2 := cell_of_row _ g6 2 _ _ _ yb
             clear ya yb
             refine Or.inl ⟨wanted_none rfl, ?_⟩
             rintro _ rfl
             go_simp <;> with_reducible rfl
           refine relG_pure (i := 1) (o := ⟨some 22, _, _, _, _, _⟩) (v := ?v4) [(0, 21, 0)] [] rfl rfl (by kernel_rfl) (by kernel_rfl) (fun t w1 hB hf hbf => ?y4) ?n4
           case y4 =>
             simp only [DepF, List.getD_cons_zero] at hf
             obtain ⟨⟨_, ⟨e21, i21⟩, rfl⟩, _⟩ := hf
             clear hbf
             have ya := boxStays Y5.out hB
             have yb := boxStays Y6.out hB
             have a0 := cell_of_row _ g5 0 _ _ _ ya
             have a1 := cell_of_row _ g5 1 _ _ _ ya
             have a2 := cell_of_row _ g5 2 _ _ _ ya
             have b0 := cell_of_row _ g6 0 _ _ _ yb
             have b1 := cell_of_row _ g6 1 _ _ _ yb
             have b2 := cell_of_row _ g6 2 _ _ _ yb
             clear ya yb
             refine Or.inl ⟨wanted_none rfl, ?_⟩
             rintro _ rfl
             go_simp <;> with_reducible rfl
           refine relG_pure (i := 2) (o := ⟨some 23, _, _, _, _, _⟩) (v := ?v5) [] [6] rfl rfl (by kernel_rfl) (by kernel_rfl) (fun t w1 hB hf hbf => ?y5) ?n5
           case y5 =>
             simp only [BasF] at hbf
             clear hf
             obtain ⟨⟨b6, k6⟩, _⟩ := hbf
             have ya := boxStays Y5.out hB
             have yb := boxStays Y6.out hB
             have a0 := cell_of_row _ g5 0 _ _ _ ya
             have a1 := cell_of_row _ g5 1 _ _ _ ya
             have a2 := cell_of_row _ g5 2 _ _ _ ya
             have b0 := cell_of_row _ g6 0 _ _ _ yb
             have b1 := cell_of_row _ g6 1 _ _ _ yb
             have b2 := cell_of_row _ g6 2 _ _ _ yb
             clear ya yb
             refine Or.inl ⟨wanted_none rfl, ?_⟩
             rintro _ rfl
             go_simp <;> with_reducible rfl
           refine relG_pure (i := 3) (o := ⟨some 24, _, _, _, _, _⟩) (v := ?v6) [(2, 23, 0)] [] rfl rfl (by kernel_rfl) (by kernel_rfl) (fun t w1 hB hf hbf => ?y6) ?n6
           case y6 =>
             simp only [DepF, List.getD_cons_zero] at hf
             obtain ⟨⟨_, ⟨e23, i23⟩, rfl⟩, _⟩ := hf
             clear hbf
             have ya := boxStays Y5.out hB
             have yb := boxStays Y6.out hB
             have a0 := cell_of_row _ g5 0 _ _ _ ya
             have a1 := cell_of_row _ g5 1 _ _ _ ya
             have a2 := cell_of_row _ g5 2 _ _ _ ya
             have b0 := cell_of_row _ g6 0 _ _ _ yb
             have b1 := cell_of_row _ g6 1 _ _ _ yb
             have b2 := cell_of_row _ g6 2 _ _ _ yb
             clear ya yb
             refine Or.inl ⟨wanted_none rfl, ?_⟩
             rintro _ rfl
             go_simp <;> with_reducible rfl
           refine relG_call (i := 4) (o := ⟨some 25, _, _, _, _, _⟩) ((fun v _ => v = .int .i64 (txtC a.x b.x))) [(1, 22, 2), (3, 24, 0)] [] rfl rfl (by kernel_rfl) (by kernel_rfl) ((fun _ _ _ h _ => h)) ?_ ?_
           · intro t w1 hB hf hbf K hK
             simp only [DepF, List.getD_cons_zero, List.getD_cons_succ] at hf
             obtain ⟨⟨_, ⟨e22, i22⟩, rfl⟩, ⟨_, ⟨e24, i24⟩, rfl⟩, _⟩ := hf
             clear hbf
             have ya := boxStays Y5.out hB
             have yb := boxStays Y6.out hB
             have a0 := cell_of_row _ g5 0 _ _ _ ya
             have a1 := cell_of_row _ g5 1 _ _ _ ya
             have a2 := cell_of_row _ g5 2 _ _ _ ya
             have b0 := cell_of_row _ g6 0 _ _ _ yb
             have b1 := cell_of_row _ g6 1 _ _ _ yb
             have b2 := cell_of_row _ g6 2 _ _ _ yb
             clear ya yb
             refine ⟨wanted_none rfl, ?_⟩
             go_simp
             refine (key_Cmp a.x b.x w1).mono ?_
             rintro e w2 ⟨rfl, hb⟩
             exact hK.out _ w2 (rfl) hb
           refine relG_pure (i := 5) (o := ⟨some 26, _, _, _, _, _⟩) (v := ?v7) [] [5] rfl rfl (by kernel_rfl) (by kernel_rfl) (fun t w1 hB hf hbf => ?y7) ?n7
           case y7 =>
             simp only [BasF] at hbf
             clear hf
             obtain ⟨⟨b5, k5⟩, _⟩ := hbf
             have ya := boxStays Y5.out hB
             have yb := boxStays Y6.out hB
             have a0 := cell_of_row _ g5 0 _ _ _ ya
             have a1 := cell_of_row _ g5 1 _ _ _ ya
             have a2 := cell_of_row _ g5 2 _ _ _ ya
             have b0 := cell_of_row _ g6 0 _ _ _ yb
             have b1 := cell_of_row _ g6 1 _ _ _ yb
             have b2 := cell_of_row _ g6 2 _ _ _ yb
             clear ya yb
             refine Or.inl ⟨wanted_none rfl, ?_⟩
             rintro _ rfl
             go_simp <;> with_reducible rfl
           refine relG_pure (i := 6) (o := ⟨some 27, _, _, _, _, _⟩) (v := ?v8) [(5, 26, 0)] [] rfl rfl (by kernel_rfl) (by kernel_rfl) (fun t w1 hB hf hbf => ?y8) ?n8
           case y8 =>
             simp only [DepF, List.getD_cons_zero] at hf
             obtain ⟨⟨_, ⟨e26, i26⟩, rfl⟩, _⟩ := hf
             clear hbf
             have ya := boxStays Y5.out hB
             have yb := boxStays Y6.out hB
             have a0 := cell_of_row _ g5 0 _ _ _ ya
             have a1 := cell_of_row _ g5 1 _ _ _ ya
             have a2 := cell_of_row _ g5 2 _ _ _ ya
             have b0 := cell_of_row _ g6 0 _ _ _ yb
             have b1 := cell_of_row _ g6 1 _ _ _ yb
             have b2 := cell_of_row _ g6 2 _ _ _ yb
             clear ya yb
             refine Or.inl ⟨wanted_none rfl, ?_⟩
             rintro _ rfl
             go_simp <;> with_reducible rfl
           refine relG_pure (i := 7) (o := ⟨some 28, _, _, _, _, _⟩) (v := ?v9) [] [6] rfl rfl (by kernel_rfl) (by kernel_rfl) (fun t w1 hB hf hbf => ?y9) ?n9
           case y9 =>
             simp only [BasF] at hbf
             clear hf
             obtain ⟨⟨b6, k6⟩, _⟩ := hbf
             have ya := boxStays Y5.out hB
             have yb := boxStays Y6.out hB
             have a0 := cell_of_row _ g5 0 _ _ _ ya
             have a1 := cell_of_row _ g5 1 _ _ _ ya
             have a2 := cell_of_row _ g5 2 _ _ _ ya
             have b0 := cell_of_row _ g6 0 _ _ _ yb
             have b1 := cell_of_row _ g6 1 _ _ _ yb
             have b2 := cell_of_row _ g6 2 _ _ _ yb
             clear ya yb
             refine Or.inl ⟨wanted_none rfl, ?_⟩
             rintro _ rfl
             go_simp <;> with_reducible rfl
           refine relG_pure (i := 8) (o := ⟨some 29, _, _, _, _, _⟩) (v := ?v10) [(7, 28, 0)] [] rfl rfl (by kernel_rfl) (by kernel_rfl) (fun t w1 hB hf hbf => ?y10) ?n10
           case y10 =>
             simp only [DepF, List.getD_cons_zero] at hf
             obtain ⟨⟨_, ⟨e28, i28⟩, rfl⟩, _⟩ := hf
             clear hbf
             have ya := boxStays Y5.out hB
             have yb := boxStays Y6.out hB
             have a0 := cell_of_row _ g5 0 _ _ _ ya
             have a1 := cell_of_row _ g5 1 _ _ _ ya
             have a2 := cell_of_row _ g5 2 _ _ _ ya
             have b0 := cell_of_row _ g6 0 _ _ _ yb
             have b1 := cell_of_row _ g6 1 _ _ _ yb
             have b2 := cell_of_row _ g6 2 _ _ _ yb
             clear ya yb
             refine Or.inl ⟨wanted_none rfl, ?_⟩
             rintro _ rfl
             go_simp <;> with_reducible rfl
           refine relG_call (i := 9) (o := ⟨some 30, _, _, _, _, _⟩) ((fun v _ => v = .int .i64 (txtC a.x b.x))) [(6, 27, 2), (8, 29, 0)] [] rfl rfl (by kernel_rfl) (by kernel_rfl) ((fun _ _ _ h _ => h)) ?_ ?_
           · intro t w1 hB hf hbf K hK
             simp only [DepF, List.getD_cons_zero, List.getD_cons_succ] at hf
             obtain ⟨⟨_, ⟨e27, i27⟩, rfl⟩, ⟨_, ⟨e29, i29⟩, rfl⟩, _⟩ := hf
             clear hbf
             have ya := boxStays Y5.out hB
             have yb := boxStays Y6.out hB
             have a0 := cell_of_row _ g5 0 _ _ _ ya
             have a1 := cell_of_row _ g5 1 _ _ _ ya
             have a2 := cell_of_row _ g5 2 _ _ _ ya
             have b0 := cell_of_row _ g6 0 _ _ _ yb
             have b1 := cell_of_row _ g6 1 _ _ _ yb
             have b2 := cell_of_row _ g6 2 _ _ _ yb
             clear ya yb
             refine ⟨wanted_none rfl, ?_⟩
             go_simp
             refine (ref5_Cmp a.x b.x w1 HPA.out.sx HPB.out.sx).mono ?_
             rintro e w2 ⟨rfl, hb⟩
             exact hK.out _ w2 (rfl) hb
           refine relG_pure (i := 10) (o := ⟨some 31, _, _, _, _, _⟩) (v := ?v11) [(4, 25, 5), (9, 30, 0)] [] rfl rfl (by kernel_rfl) (by kernel_rfl) (fun t w1 hB hf hbf => ?y11) ?n11
           case y11 =>
             simp only [DepF, List.getD_cons_zero, List.getD_cons_succ] at hf
             obtain ⟨⟨_, ⟨e25, i25⟩, rfl⟩, ⟨_, ⟨e30, i30⟩, rfl⟩, _⟩ := hf
             clear hbf
             have ya := boxStays Y5.out hB
             have yb := boxStays Y6.out hB
             have a0 := cell_of_row _ g5 0 _ _ _ ya
             have a1 := cell_of_row _ g5 1 _ _ _ ya
             have a2 := cell_of_row _ g5 2 _ _ _ ya
             have b0 := cell_of_row _ g6 0 _ _ _ yb
             have b1 := cell_of_row _ g6 1 _ _ _ yb
             have b2 := cell_of_row _ g6 2 _ _ _ yb
             clear ya yb
             refine Or.inl ⟨wanted_none rfl, ?_⟩
             rintro _ rfl
             go_simp <;> with_reducible rfl
           refine relG_pure (i := 11) (o := ⟨some 32, _, _, _, _, _⟩) (v := ?v12) [(10, 31, 0)] [] rfl rfl (by kernel_rfl) (by kernel_rfl) (fun t w1 hB hf hbf => ?y12) ?n12
           case y12 =>
             simp only [DepF, List.getD_cons_zero] at hf
             obtain ⟨⟨_, ⟨e31, i31⟩, rfl⟩, _⟩ := hf
             clear hbf
             have ya := boxStays Y5.out hB
             have yb := boxStays Y6.out hB
             have a0 := cell_of_row _ g5 0 _ _ _ ya
             have a1 := cell_of_row _ g5 1 _ _ _ ya
             have a2 := cell_of_row _ g5 2 _ _ _ ya
             have b0 := cell_of_row _ g6 0 _ _ _ yb
             have b1 := cell_of_row _ g6 1 _ _ _ yb
             have b2 := cell_of_row _ g6 2 _ _ _ yb
             clear ya yb
             refine Or.inl ⟨wanted_none rfl, ?_⟩
             rintro _ rfl
             go_simp <;> with_reducible rfl
           refine relG_pure (i := 12) (o := ⟨some 33, _, _, _, _, _⟩) (v := ?v13) [(11, 32, 0)] [5] rfl rfl (by kernel_rfl) (by kernel_rfl) (fun t w1 hB hf hbf => ?y13) ?n13
           case y13 =>
             simp only [DepF, List.getD_cons_zero] at hf
             simp only [BasF] at hbf
             obtain ⟨⟨_, ⟨e32, i32⟩, rfl⟩, _⟩ := hf
             obtain ⟨⟨b5, k5⟩, _⟩ := hbf
             have ya := boxStays Y5.out hB
             have yb := boxStays Y6.out hB
             have a0 := cell_of_row _ g5 0 _ _ _ ya
             have a1 := cell_of_row _ g5 1 _ _ _ ya
             have a2 := cell_of_row _ g5 2 _ _ _ ya
             have b0 := cell_of_row _ g6 0 _ _ _ yb
             have b1 := cell_of_row _ g6 1 _ _ _ yb
             have b2 := cell_of_row _ g6 2 _ _ _ yb
             clear ya yb
             refine Or.inl ⟨(by have hg := getD_some i32; simp [Region.wanted, yielded, hg]), ?_⟩
             rintro _ rfl
             go_simp <;> with_reducible rfl
           refine relG_pure (i := 13) (o := ⟨some 34, _, _, _, _, _⟩) (v := ?v14) [(12, 33, 0), (11, 32, 1)] [] rfl rfl (by kernel_rfl) (by kernel_rfl) (fun t w1 hB hf hbf => ?y14) ?n14
           case y14 =>
             simp only [DepF, List.getD_cons_zero, List.getD_cons_succ] at hf
             obtain ⟨⟨_, ⟨e33, i33⟩, rfl⟩, ⟨_, ⟨e32, i32⟩, rfl⟩, _⟩ := hf
             clear hbf
             have ya := boxStays Y5.out hB
             have yb := boxStays Y6.out hB
             have a0 := cell_of_row _ g5 0 _ _ _ ya
             have a1 := cell_of_row _ g5 1 _ _ _ ya
             have a2 := cell_of_row _ g5 2 _ _ _ ya
             have b0 := cell_of_row _ g6 0 _ _ _ yb
             have b1 := cell_of_row _ g6 1 _ _ _ yb
             have b2 := cell_of_row _ g6 2 _ _ _ yb
             clear ya yb
             refine Or.inl ⟨(by have hg := getD_some i32; simp [Region.wanted, yielded, hg]), ?_⟩
             rintro _ rfl
             go_simp <;> with_reducible rfl
           refine relG_pure (i := 14) (o := ⟨some 35, _, _, _, _, _⟩) (v := ?v15) [(11, 32, 2)] [6] rfl rfl (by kernel_rfl) (by kernel_rfl) (fun t w1 hB hf hbf => ?y15) ?n15
           case y15 =>
             simp only [DepF, List.getD_cons_zero, List.getD_cons_succ] at hf
             simp only [BasF] at hbf
             obtain ⟨⟨_, ⟨e32, i32⟩, rfl⟩, _⟩ := hf
             obtain ⟨⟨b6, k6⟩, _⟩ := hbf
             have ya := boxStays Y5.out hB
             have yb := boxStays Y6.out hB
             have a0 := cell_of_row _ g5 0 _ _ _ ya
             have a1 := cell_of_row _ g5 1 _ _ _ ya
             have a2 := cell_of_row _ g5 2 _ _ _ ya
             have b0 := cell_of_row _ g6 0 _ _ _ yb
             have b1 := cell_of_row _ g6 1 _ _ _ yb
             have b2 := cell_of_row _ g6 2 _ _ _ yb
             clear ya yb
             refine Or.inl ⟨(by have hg := getD_some i32; simp [Region.wanted, yielded, hg]), ?_⟩
             rintro _ rfl
             go_simp <;> with_reducible rfl
           refine relG_pure (i := 15) (o := ⟨some 36, _, _, _, _, _⟩) (v := ?v16) [(14, 35, 0), (11, 32, 3)] [] rfl rfl (by kernel_rfl) (by kernel_rfl) (fun t w1 hB hf hbf => ?y16) ?n16
           case y16 =>
             simp only [DepF, List.getD_cons_zero, List.getD_cons_succ] at hf
             obtain ⟨⟨_, ⟨e35, i35⟩, rfl⟩, ⟨_, ⟨e32, i32⟩, rfl⟩, _⟩ := hf
             clear hbf
             have ya := boxStays Y5.out hB
             have yb := boxStays Y6.out hB
             have a0 := cell_of_row _ g5 0 _ _ _ ya
             have a1 := cell_of_row _ g5 1 _ _ _ ya
             have a2 := cell_of_row _ g5 2 _ _ _ ya
             have b0 := cell_of_row _ g6 0 _ _ _ yb
             have b1 := cell_of_row _ g6 1 _ _ _ yb
             have b2 := cell_of_row _ g6 2 _ _ _ yb
             clear ya yb
             refine Or.inl ⟨(by have hg := getD_some i32; simp [Region.wanted, yielded, hg]), ?_⟩
             rintro _ rfl
             go_simp <;> with_reducible rfl
           refine relG_call (i := 16) (o := ⟨some 37, _, _, _, _, _⟩) ((fun v _ => v = .int .i64 (pathC a.l b.l))) [(13, 34, 2), (15, 36, 0), (11, 32, 4)] [] rfl rfl (by kernel_rfl) (by kernel_rfl) ((fun _ _ _ h _ => h)) ?_ ?_
           · intro t w1 hB hf hbf K hK
             simp only [DepF, List.getD_cons_zero, List.getD_cons_succ] at hf
             obtain ⟨⟨_, ⟨e34, i34⟩, rfl⟩, ⟨_, ⟨e36, i36⟩, rfl⟩, ⟨_, ⟨e32, i32⟩, rfl⟩, _⟩ := hf
             clear hbf
             have ya := boxStays Y5.out hB
             have yb := boxStays Y6.out hB
             have a0 := cell_of_row _ g5 0 _ _ _ ya
             have a1 := cell_of_row _ g5 1 _ _ _ ya
             have a2 := cell_of_row _ g5 2 _ _ _ ya
             have b0 := cell_of_row _ g6 0 _ _ _ yb
             have b1 := cell_of_row _ g6 1 _ _ _ yb
             have b2 := cell_of_row _ g6 2 _ _ _ yb
             clear ya yb
             refine ⟨(by have hg := getD_some i32; simp [Region.wanted, yielded, hg]), ?_⟩
             go_simp
             refine (key_CmpPath a.l b.l a.a b.a a.n b.n a.c b.c w1 (HPA.out.at_.below hB rfl) (HPB.out.at_.below hB rfl) HPA.out.len HPB.out.len HPA.out.le HPA.out.sz HPB.out.sz).mono ?_
             rintro e w2 ⟨rfl, hb⟩
             exact hK.out _ w2 (rfl) hb
           refine relG_pure (i := 17) (o := ⟨some 38, _, _, _, _, _⟩) (v := ?v17) [(11, 32, 5)] [5] rfl rfl (by kernel_rfl) (by kernel_rfl) (fun t w1 hB hf hbf => ?y17) ?n17
           case y17 =>
             simp only [DepF, List.getD_cons_zero, List.getD_cons_succ] at hf
             simp only [BasF] at hbf
             obtain ⟨⟨_, ⟨e32, i32⟩, rfl⟩, _⟩ := hf
             obtain ⟨⟨b5, k5⟩, _⟩ := hbf
             have ya := boxStays Y5.out hB
             have yb := boxStays Y6.out hB
             have a0 := cell_of_row _ g5 0 _ _ _ ya
             have a1 := cell_of_row _ g5 1 _ _ _ ya
             have a2 := cell_of_row _ g5 2 _ _ _ ya
             have b0 := cell_of_row _ g6 0 _ _ _ yb
             have b1 := cell_of_row _ g6 1 _ _ _ yb
             have b2 := cell_of_row _ g6 2 _ _ _ yb
             clear ya yb
             refine Or.inl ⟨(by have hg := getD_some i32; simp [Region.wanted, yielded, hg]), ?_⟩
             rintro _ rfl
             go_simp <;> with_reducible rfl
           refine relG_pure (i := 18) (o := ⟨some 39, _, _, _, _, _⟩) (v := ?v18) [(17, 38, 0), (11, 32, 6)] [] rfl rfl (by kernel_rfl) (by kernel_rfl) (fun t w1 hB hf hbf => ?y18) ?n18
           case y18 =>
             simp only [DepF, List.getD_cons_zero, List.getD_cons_succ] at hf
             obtain ⟨⟨_, ⟨e38, i38⟩, rfl⟩, ⟨_, ⟨e32, i32⟩, rfl⟩, _⟩ := hf
             clear hbf
             have ya := boxStays Y5.out hB
             have yb := boxStays Y6.out hB
             have a0 := cell_of_row _ g5 0 _ _ _ ya
             have a1 := cell_of_row _ g5 1 _ _ _ ya
             have a2 := cell_of_row _ g5 2 _ _ _ ya
             have b0 := cell_of_row _ g6 0 _ _ _ yb
             have b1 := cell_of_row _ g6 1 _ _ _ yb
             have b2 := cell_of_row _ g6 2 _ _ _ yb
             clear ya yb
             refine Or.inl ⟨(by have hg := getD_some i32; simp [Region.wanted, yielded, hg]), ?_⟩
             rintro _ rfl
             go_simp <;> with_reducible rfl
           refine relG_pure (i := 19) (o := ⟨some 40, _, _, _, _, _⟩) (v := ?v19) [(11, 32, 7)] [6] rfl rfl (by kernel_rfl) (by kernel_rfl) (fun t w1 hB hf hbf => ?y19) ?n19
           case y19 =>
             simp only [DepF, List.getD_cons_zero, List.getD_cons_succ] at hf
             simp only [BasF] at hbf
             obtain ⟨⟨_, ⟨e32, i32⟩, rfl⟩, _⟩ := hf
             obtain ⟨⟨b6, k6⟩, _⟩ := hbf
             have ya := boxStays Y5.out hB
             have yb := boxStays Y6.out hB
             have a0 := cell_of_row _ g5 0 _ _ _ ya
             have a1 := cell_of_row _ g5 1 _ _ _ ya
             have a2 := cell_of_row _ g5 2 _ _ _ ya
             have b0 := cell_of_row _ g6 0 _ _ _ yb
             have b1 := cell_of_row _ g6 1 _ _ _ yb
             have b2 := cell_of_row _ g6 2 _ _ _ yb
             clear ya yb
             refine Or.inl ⟨(by have hg := getD_some i32; simp [Region.wanted, yielded, hg]), ?_⟩
             rintro _ rfl
             go_simp <;> with_reducible rfl
           refine relG_pure (i := 20) (o := ⟨some 41, _, _, _, _, _⟩) (v := ?v20) [(19, 40, 0), (11, 32, 8)] [] rfl rfl (by kernel_rfl) (by kernel_rfl) (fun t w1 hB hf hbf => ?y20) ?n20
           case y20 =>
             simp only [DepF, List.getD_cons_zero, List.getD_cons_succ] at hf
             obtain ⟨⟨_, ⟨e40, i40⟩, rfl⟩, ⟨_, ⟨e32, i32⟩, rfl⟩, _⟩ := hf
             clear hbf
             have ya := boxStays Y5.out hB
             have yb := boxStays Y6.out hB
             have a0 := cell_of_row _ g5 0 _ _ _ ya
             have a1 := cell_of_row _ g5 1 _ _ _ ya
             have a2 := cell_of_row _ g5 2 _ _ _ ya
             have b0 := cell_of_row _ g6 0 _ _ _ yb
             have b1 := cell_of_row _ g6 1 _ _ _ yb
             have b2 := cell_of_row _ g6 2 _ _ _ yb
             clear ya yb
             refine Or.inl ⟨(by have hg := getD_some i32; simp [Region.wanted, yielded, hg]), ?_⟩
             rintro _ rfl
             go_simp <;> with_reducible rfl
           refine relG_call (i := 21) (o := ⟨some 42, _, _, _, _, _⟩) ((fun v _ => v = .int .i64 (pathC a.l b.l))) [(18, 39, 2), (20, 41, 0), (11, 32, 9)] [] rfl rfl (by kernel_rfl) (by kernel_rfl) ((fun _ _ _ h _ => h)) ?_ ?_
           · intro t w1 hB hf hbf K hK
             simp only [DepF, List.getD_cons_zero, List.getD_cons_succ] at hf
             obtain ⟨⟨_, ⟨e39, i39⟩, rfl⟩, ⟨_, ⟨e41, i41⟩, rfl⟩, ⟨_, ⟨e32, i32⟩, rfl⟩, _⟩ := hf
             clear hbf
             have ya := boxStays Y5.out hB
             have yb := boxStays Y6.out hB
             have a0 := cell_of_row _ g5 0 _ _ _ ya
             have a1 := cell_of_row _ g5 1 _ _ _ ya
             have a2 := cell_of_row _ g5 2 _ _ _ ya
             have b0 := cell_of_row _ g6 0 _ _ _ yb
             have b1 := cell_of_row _ g6 1 _ _ _ yb
             have b2 := cell_of_row _ g6 2 _ _ _ yb
             clear ya yb
             refine ⟨(by have hg := getD_some i32; simp [Region.wanted, yielded, hg]), ?_⟩
             go_simp
             refine (ref5_CmpPath a.l b.l a.a b.a a.n b.n a.c b.c w1 (HPA.out.at_.below hB rfl) (HPB.out.at_.below hB rfl) HPA.out.len HPB.out.len HPA.out.le HPA.out.sz HPB.out.sz).mono ?_
             rintro e w2 ⟨rfl, hb⟩
             exact hK.out _ w2 (rfl) hb
           refine relG_pure (i := 22) (o := ⟨some 43, _, _, _, _, _⟩) (v := ?v21) [(16, 37, 5), (21, 42, 0), (11, 32, 10)] [] rfl rfl (by kernel_rfl) (by kernel_rfl) (fun t w1 hB hf hbf => ?y21) ?n21
           case y21 =>
             simp only [DepF, List.getD_cons_zero, List.getD_cons_succ] at hf
             obtain ⟨⟨_, ⟨e37, i37⟩, rfl⟩, ⟨_, ⟨e42, i42⟩, rfl⟩, ⟨_, ⟨e32, i32⟩, rfl⟩, _⟩ := hf
             clear hbf
             have ya := boxStays Y5.out hB
             have yb := boxStays Y6.out hB
             have a0 := cell_of_row _ g5 0 _ _ _ ya
             have a1 := cell_of_row _ g5 1 _ _ _ ya
             have a2 := cell_of_row _ g5 2 _ _ _ ya
             have b0 := cell_of_row _ g6 0 _ _ _ yb
             have b1 := cell_of_row _ g6 1 _ _ _ yb
             have b2 := cell_of_row _ g6 2 _ _ _ yb
             clear ya yb
             refine Or.inl ⟨(by have hg := getD_some i32; simp [Region.wanted, yielded, hg]), ?_⟩
             rintro _ rfl
             go_simp <;> with_reducible rfl
           refine relG_pure (i := 23) (o := ⟨some 44, _, _, _, _, _⟩) (v := ?v22) [(11, 32, 11), (22, 43, 0)] [] rfl rfl (by kernel_rfl) (by kernel_rfl) (fun t w1 hB hf hbf => ?y22) ?n22
           case y22 =>
             simp only [DepF, List.getD_cons_zero, List.getD_cons_succ] at hf
             obtain ⟨⟨_, ⟨e32, i32⟩, rfl⟩, ⟨_, ⟨e43, i43⟩, rfl⟩, _⟩ := hf
             clear hbf
             have ya := boxStays Y5.out hB
             have yb := boxStays Y6.out hB
             have a0 := cell_of_row _ g5 0 _ _ _ ya
             have a1 := cell_of_row _ g5 1 _ _ _ ya
             have a2 := cell_of_row _ g5 2 _ _ _ ya
             have b0 := cell_of_row _ g6 0 _ _ _ yb
             have b1 := cell_of_row _ g6 1 _ _ _ yb
             have b2 := cell_of_row _ g6 2 _ _ _ yb
             clear ya yb
             refine Or.inl ⟨wanted_none rfl, ?_⟩
             rintro _ rfl
             go_simp <;> with_reducible rfl
           refine relG_pure (i := 24) (o := ⟨some 45, _, _, _, _, _⟩) (v := ?v23) [(23, 44, 0)] [] rfl rfl (by kernel_rfl) (by kernel_rfl) (fun t w1 hB hf hbf => ?y23) ?n23
           case y23 =>
             simp only [DepF, List.getD_cons_zero] at hf
             obtain ⟨⟨_, ⟨e44, i44⟩, rfl⟩, _⟩ := hf
             clear hbf
             have ya := boxStays Y5.out hB
             have yb := boxStays Y6.out hB
             have a0 := cell_of_row _ g5 0 _ _ _ ya
             have a1 := cell_of_row _ g5 1 _ _ _ ya
             have a2 := cell_of_row _ g5 2 _ _ _ ya
             have b0 := cell_of_row _ g6 0 _ _ _ yb
             have b1 := cell_of_row _ g6 1 _ _ _ yb
             have b2 := cell_of_row _ g6 2 _ _ _ yb
             clear ya yb
             refine Or.inl ⟨wanted_none rfl, ?_⟩
             rintro _ rfl
             go_simp <;> with_reducible rfl
           refine relG_pure (i := 25) (o := ⟨some 46, _, _, _, _, _⟩) (v := ?v24) [(24, 45, 0)] [5] rfl rfl (by kernel_rfl) (by kernel_rfl) (fun t w1 hB hf hbf => ?y24) ?n24
           case y24 =>
             simp only [DepF, List.getD_cons_zero] at hf
             simp only [BasF] at hbf
             obtain ⟨⟨_, ⟨e45, i45⟩, rfl⟩, _⟩ := hf
             obtain ⟨⟨b5, k5⟩, _⟩ := hbf
             have ya := boxStays Y5.out hB
             have yb := boxStays Y6.out hB
             have a0 := cell_of_row _ g5 0 _ _ _ ya
             have a1 := cell_of_row _ g5 1 _ _ _ ya
             have a2 := cell_of_row _ g5 2 _ _ _ ya
             have b0 := cell_of_row _ g6 0 _ _ _ yb
             have b1 := cell_of_row _ g6 1 _ _ _ yb
             have b2 := cell_of_row _ g6 2 _ _ _ yb
             clear ya yb
             refine Or.inl ⟨(by have hg := getD_some i45; simp [Region.wanted, yielded, hg]), ?_⟩
             rintro _ rfl
             go_simp <;> with_reducible rfl
           refine relG_pure (i := 26) (o := ⟨some 47, _, _, _, _, _⟩) (v := ?v25) [(24, 45, 1)] [6] rfl rfl (by kernel_rfl) (by kernel_rfl) (fun t w1 hB hf hbf => ?y25) ?n25
           case y25 =>
             simp only [DepF, List.getD_cons_zero, List.getD_cons_succ] at hf
             simp only [BasF] at hbf
             obtain ⟨⟨_, ⟨e45, i45⟩, rfl⟩, _⟩ := hf
             obtain ⟨⟨b6, k6⟩, _⟩ := hbf
             have ya := boxStays Y5.out hB
             have yb := boxStays Y6.out hB
             have a0 := cell_of_row _ g5 0 _ _ _ ya
             have a1 := cell_of_row _ g5 1 _ _ _ ya
             have a2 := cell_of_row _ g5 2 _ _ _ ya
             have b0 := cell_of_row _ g6 0 _ _ _ yb
             have b1 := cell_of_row _ g6 1 _ _ _ yb
             have b2 := cell_of_row _ g6 2 _ _ _ yb
             clear ya yb
             refine Or.inl ⟨(by have hg := getD_some i45; simp [Region.wanted, yielded, hg]), ?_⟩
             rintro _ rfl
             go_simp <;> with_reducible rfl
           refine relG_call (i := 27) (o := ⟨some 48, _, _, _, _, _⟩) ((fun v _ => v = .int .i64 (plC a b))) [(25, 46, 1), (26, 47, 0), (24, 45, 2)] [] rfl rfl (by kernel_rfl) (by kernel_rfl) ((fun _ _ _ h _ => h)) ?_ ?_
           · intro t w1 hB hf hbf K hK
             simp only [DepF, List.getD_cons_zero, List.getD_cons_succ] at hf
             obtain ⟨⟨_, ⟨e46, i46⟩, rfl⟩, ⟨_, ⟨e47, i47⟩, rfl⟩, ⟨_, ⟨e45, i45⟩, rfl⟩, _⟩ := hf
             clear hbf
             have ya := boxStays Y5.out hB
             have yb := boxStays Y6.out hB
             have a0 := cell_of_row _ g5 0 _ _ _ ya
             have a1 := cell_of_row _ g5 1 _ _ _ ya
             have a2 := cell_of_row _ g5 2 _ _ _ ya
             have b0 := cell_of_row _ g6 0 _ _ _ yb
             have b1 := cell_of_row _ g6 1 _ _ _ yb
             have b2 := cell_of_row _ g6 2 _ _ _ yb
             clear ya yb
             refine ⟨(by have hg := getD_some i45; simp [Region.wanted, yielded, hg]), ?_⟩
             go_simp
             refine (key_CmpPlace a b w1 (HPA.out.below hB) (HPB.out.below hB)).mono ?_
             rintro e w2 ⟨rfl, hb⟩
             exact hK.out _ w2 (rfl) hb
           refine relG_pure (i := 28) (o := ⟨some 49, _, _, _, _, _⟩) (v := ?v26) [(24, 45, 3)] [5] rfl rfl (by kernel_rfl) (by kernel_rfl) (fun t w1 hB hf hbf => ?y26) ?n26
           case y26 =>
             simp only [DepF, List.getD_cons_zero, List.getD_cons_succ] at hf
             simp only [BasF] at hbf
             obtain ⟨⟨_, ⟨e45, i45⟩, rfl⟩, _⟩ := hf
             obtain ⟨⟨b5, k5⟩, _⟩ := hbf
             have ya := boxStays Y5.out hB
             have yb := boxStays Y6.out hB
             have a0 := cell_of_row _ g5 0 _ _ _ ya
             have a1 := cell_of_row _ g5 1 _ _ _ ya
             have a2 := cell_of_row _ g5 2 _ _ _ ya
             have b0 := cell_of_row _ g6 0 _ _ _ yb
             have b1 := cell_of_row _ g6 1 _ _ _ yb
             have b2 := cell_of_row _ g6 2 _ _ _ yb
             clear ya yb
             refine Or.inl ⟨(by have hg := getD_some i45; simp [Region.wanted, yielded, hg]), ?_⟩
             rintro _ rfl
             go_simp <;> with_reducible rfl
           refine relG_pure (i := 29) (o := ⟨some 50, _, _, _, _, _⟩) (v := ?v27) [(24, 45, 4)] [6] rfl rfl (by kernel_rfl) (by kernel_rfl) (fun t w1 hB hf hbf => ?y27) ?n27
           case y27 =>
             simp only [DepF, List.getD_cons_zero, List.getD_cons_succ] at hf
             simp only [BasF] at hbf
             obtain ⟨⟨_, ⟨e45, i45⟩, rfl⟩, _⟩ := hf
             obtain ⟨⟨b6, k6⟩, _⟩ := hbf
             have ya := boxStays Y5.out hB
             have yb := boxStays Y6.out hB
             have a0 := cell_of_row _ g5 0 _ _ _ ya
             have a1 := cell_of_row _ g5 1 _ _ _ ya
             have a2 := cell_of_row _ g5 2 _ _ _ ya
             have b0 := cell_of_row _ g6 0 _ _ _ yb
             have b1 := cell_of_row _ g6 1 _ _ _ yb
             have b2 := cell_of_row _ g6 2 _ _ _ yb
             clear ya yb
             refine Or.inl ⟨(by have hg := getD_some i45; simp [Region.wanted, yielded, hg]), ?_⟩
             rintro _ rfl
             go_simp <;> with_reducible rfl
           refine relG_call (i := 30) (o := ⟨some 51, _, _, _, _, _⟩) ((fun v _ => v = .int .i64 (plC a b))) [(28, 49, 1), (29, 50, 0), (24, 45, 5)] [] rfl rfl (by kernel_rfl) (by kernel_rfl) ((fun _ _ _ h _ => h)) ?_ ?_
           · intro t w1 hB hf hbf K hK
             simp only [DepF, List.getD_cons_zero, List.getD_cons_succ] at hf
             obtain ⟨⟨_, ⟨e49, i49⟩, rfl⟩, ⟨_, ⟨e50, i50⟩, rfl⟩, ⟨_, ⟨e45, i45⟩, rfl⟩, _⟩ := hf
             clear hbf
             have ya := boxStays Y5.out hB
             have yb := boxStays Y6.out hB
             have a0 := cell_of_row _ g5 0 _ _ _ ya
             have a1 := cell_of_row _ g5 1 _ _ _ ya
             have a2 := cell_of_row _ g5 2 _ _ _ ya
             have b0 := cell_of_row _ g6 0 _ _ _ yb
             have b1 := cell_of_row _ g6 1 _ _ _ yb
             have b2 := cell_of_row _ g6 2 _ _ _ yb
             clear ya yb
             refine ⟨(by have hg := getD_some i45; simp [Region.wanted, yielded, hg]), ?_⟩
             go_simp
             refine (ref5_CmpPlace a b w1 (HPA.out.below hB) (HPB.out.below hB)).mono ?_
             rintro e w2 ⟨rfl, hb⟩
             exact hK.out _ w2 (rfl) hb
           refine relG_pure (i := 31) (o := ⟨some 52, _, _, _, _, _⟩) (v := ?v28) [(27, 48, 3), (30, 51, 0), (24, 45, 6)] [] rfl rfl (by kernel_rfl) (by kernel_rfl) (fun t w1 hB hf hbf => ?y28) ?n28
           case y28 =>
             simp only [DepF, List.getD_cons_zero, List.getD_cons_succ] at hf
             obtain ⟨⟨_, ⟨e48, i48⟩, rfl⟩, ⟨_, ⟨e51, i51⟩, rfl⟩, ⟨_, ⟨e45, i45⟩, rfl⟩, _⟩ := hf
             clear hbf
             have ya := boxStays Y5.out hB
             have yb := boxStays Y6.out hB
             have a0 := cell_of_row _ g5 0 _ _ _ ya
             have a1 := cell_of_row _ g5 1 _ _ _ ya
             have a2 := cell_of_row _ g5 2 _ _ _ ya
             have b0 := cell_of_row _ g6 0 _ _ _ yb
             have b1 := cell_of_row _ g6 1 _ _ _ yb
             have b2 := cell_of_row _ g6 2 _ _ _ yb
             clear ya yb
             refine Or.inl ⟨(by have hg := getD_some i45; simp [Region.wanted, yielded, hg]), ?_⟩
             rintro _ rfl
             go_simp <;> with_reducible rfl
           refine relG_pure (i := 32) (o := ⟨some 53, _, _, _, _, _⟩) (v := ?v29) [(24, 45, 7), (31, 52, 0)] [] rfl rfl (by kernel_rfl) (by kernel_rfl) (fun t w1 hB hf hbf => ?y29) ?n29
           case y29 =>
             simp only [DepF, List.getD_cons_zero, List.getD_cons_succ] at hf
             obtain ⟨⟨_, ⟨e45, i45⟩, rfl⟩, ⟨_, ⟨e52, i52⟩, rfl⟩, _⟩ := hf
             clear hbf
             have ya := boxStays Y5.out hB
             have yb := boxStays Y6.out hB
             have a0 := cell_of_row _ g5 0 _ _ _ ya
             have a1 := cell_of_row _ g5 1 _ _ _ ya
             have a2 := cell_of_row _ g5 2 _ _ _ ya
             have b0 := cell_of_row _ g6 0 _ _ _ yb
             have b1 := cell_of_row _ g6 1 _ _ _ yb
             have b2 := cell_of_row _ g6 2 _ _ _ yb
             clear ya yb
             refine Or.inl ⟨wanted_none rfl, ?_⟩
             rintro _ rfl
             go_simp <;> with_reducible rfl
           refine relG_done [(0, 21, 32), (1, 22, 31), (2, 23, 30), (3, 24, 29), (4, 25, 28), (5, 26, 27), (6, 27, 26), (7, 28, 25), (8, 29, 24), (9, 30, 23), (10, 31, 22), (11, 32, 21), (12, 33, 20), (13, 34, 19), (14, 35, 18), (15, 36, 17), (16, 37, 16), (17, 38, 15), (18, 39, 14), (19, 40, 13), (20, 41, 12), (21, 42, 11), (22, 43, 10), (23, 44, 9), (24, 45, 8), (25, 46, 7), (26, 47, 6), (27, 48, 5), (28, 49, 4), (29, 50, 3), (30, 51, 2), (31, 52, 1), (32, 53, 0)] (by kernel_rfl) rfl (by kernel_rfl) (fun f wE hB hf => ?_)
           simp only [FinF, List.getD_cons_zero, List.getD_cons_succ] at hf
           obtain ⟨⟨_, e21, rfl⟩, ⟨_, e22, rfl⟩, ⟨_, e23, rfl⟩, ⟨_, e24, rfl⟩, ⟨_, e25, rfl⟩, ⟨_, e26, rfl⟩, ⟨_, e27, rfl⟩, ⟨_, e28, rfl⟩, ⟨_, e29, rfl⟩, ⟨_, e30, rfl⟩, ⟨_, e31, rfl⟩, ⟨_, e32, rfl⟩, ⟨_, e33, rfl⟩, ⟨_, e34, rfl⟩, ⟨_, e35, rfl⟩, ⟨_, e36, rfl⟩, ⟨_, e37, rfl⟩, ⟨_, e38, rfl⟩, ⟨_, e39, rfl⟩, ⟨_, e40, rfl⟩, ⟨_, e41, rfl⟩, ⟨_, e42, rfl⟩, ⟨_, e43, rfl⟩, ⟨_, e44, rfl⟩, ⟨_, e45, rfl⟩, ⟨_, e46, rfl⟩, ⟨_, e47, rfl⟩, ⟨_, e48, rfl⟩, ⟨_, e49, rfl⟩, ⟨_, e50, rfl⟩, ⟨_, e51, rfl⟩, ⟨_, e52, rfl⟩, ⟨_, e53, rfl⟩, _⟩ := hf
           simp only [regT, List.foldl_cons, List.foldl_nil, List.setIfInBounds_toArray, List.set_cons_zero, List.set_cons_succ, e21, e22, e23, e24, e25, e26, e27, e28, e29, e30, e31, e32, e33, e34, e35, e36, e37, e38, e39, e40, e41, e42, e43, e44, e45, e46, e47, e48, e49, e50, e51, e52, e53]
           clear e21 e22 e23 e24 e25 e26 e27 e28 e29 e30 e31 e32 e33 e34 e35 e36 e37 e38 e39 e40 e41 e42 e43 e44 e45 e46 e47 e48 e49 e50 e51 e52 e53
           have HB4 := Lib.hid (HB3.out.trans (hB.mono HB3.out.size))
           clear hB
           go_wp2_with fail
           go_roundw
           case rel => exact ⟨j + 1, by omega, by go_num, HB4⟩
           case measure => simp [intOf]; omega
       · obtain rfl : j = 3 := by omega
         rw [show ((3 : Nat) : Int) = 3 from rfl]
         go_wp2_with fail
         have LA := Lib.hid (LD.out i hlt)
         rw [ha] at PA LA
         clear ha
         go_upto_region 10 with (fail)
         have HPA : Hid (PlcAt wr a) := Lib.hid (PA.out.below HB2.out)
         have HGA : Hid (Glob wr) := Lib.hid (G1.out.below HB2.out)
         clear PA
         refine relG_start (slots := [54, 55, 56, 57, 58, 59, 60, 61, 62]) (so := []) (by kernel_rfl) (by kernel_rfl) (by rfl) ?_
         refine relG_pure (i := 0) (o := ⟨some 54, _, _, _, _, _⟩) (v := ?v30) [] [3] rfl rfl (by kernel_rfl) (by kernel_rfl) (fun t w1 hB hf hbf => ?y30) ?n30
         case y30 =>
           simp only [BasF] at hbf
           clear hf
           obtain ⟨⟨b3, k3⟩, _⟩ := hbf
           have qB := HB2.out.trans (hB.mono HB2.out.size)
           have qa := LA.out
           have la0 := (qB.cell (cell_lt qa.1)).trans qa.1
           have la1 := (qB.cell (cell_lt qa.2.1)).trans qa.2.1
           have la2 := (qB.cell (cell_lt qa.2.2)).trans qa.2.2
           clear qa qB
           refine Or.inl ⟨wanted_none rfl, ?_⟩
           rintro _ rfl
           go_simp <;> with_reducible rfl
         refine relG_pure (i := 1) (o := ⟨some 55, _, _, _, _, _⟩) (v := ?v31) [(0, 54, 0)] [1] rfl rfl (by kernel_rfl) (by kernel_rfl) (fun t w1 hB hf hbf => ?y31) ?n31
         case y31 =>
           simp only [DepF, List.getD_cons_zero] at hf
           simp only [BasF] at hbf
           obtain ⟨⟨_, ⟨e54, i54⟩, rfl⟩, _⟩ := hf
           obtain ⟨⟨b1, k1⟩, _⟩ := hbf
           have qB := HB2.out.trans (hB.mono HB2.out.size)
           have qa := LA.out
           have la0 := (qB.cell (cell_lt qa.1)).trans qa.1
           have la1 := (qB.cell (cell_lt qa.2.1)).trans qa.2.1
           have la2 := (qB.cell (cell_lt qa.2.2)).trans qa.2.2
           clear qa qB
           refine Or.inl ⟨wanted_none rfl, ?_⟩
           rintro _ rfl
           go_simp <;> with_reducible rfl
         refine relG_pure (i := 2) (o := ⟨some 56, _, _, _, _, _⟩) (v := ?v32) [(1, 55, 0)] [] rfl rfl (by kernel_rfl) (by kernel_rfl) (fun t w1 hB hf hbf => ?y32) ?n32
         case y32 =>
           simp only [DepF, List.getD_cons_zero] at hf
           obtain ⟨⟨_, ⟨e55, i55⟩, rfl⟩, _⟩ := hf
           clear hbf
           have qB := HB2.out.trans (hB.mono HB2.out.size)
           have qa := LA.out
           have la0 := (qB.cell (cell_lt qa.1)).trans qa.1
           have la1 := (qB.cell (cell_lt qa.2.1)).trans qa.2.1
           have la2 := (qB.cell (cell_lt qa.2.2)).trans qa.2.2
           clear qa qB
           refine Or.inl ⟨wanted_none rfl, ?_⟩
           rintro _ rfl
           go_simp <;> with_reducible rfl
         refine relG_call (i := 3) (o := ⟨some 57, _, _, _, _, _⟩) ((fun v _ => v = .bool (plG a))) [(2, 56, 0)] [] rfl rfl (by kernel_rfl) (by kernel_rfl) ((fun _ _ _ h _ => h)) ?_ ?_
         · intro t w1 hB hf hbf K hK
           simp only [DepF, List.getD_cons_zero] at hf
           obtain ⟨⟨_, ⟨e56, i56⟩, rfl⟩, _⟩ := hf
           clear hbf
           have qB := HB2.out.trans (hB.mono HB2.out.size)
           have qa := LA.out
           have la0 := (qB.cell (cell_lt qa.1)).trans qa.1
           have la1 := (qB.cell (cell_lt qa.2.1)).trans qa.2.1
           have la2 := (qB.cell (cell_lt qa.2.2)).trans qa.2.2
           clear qa qB
           refine ⟨wanted_none rfl, ?_⟩
           go_simp
           refine (key_Place a w1 (HPA.out.below hB) (HGA.out.below hB)).mono ?_
           rintro e w2 ⟨rfl, hb⟩
           exact hK.out _ w2 (rfl) hb
         refine relG_pure (i := 4) (o := ⟨some 58, _, _, _, _, _⟩) (v := ?v33) [] [3] rfl rfl (by kernel_rfl) (by kernel_rfl) (fun t w1 hB hf hbf => ?y33) ?n33
         case y33 =>
           simp only [BasF] at hbf
           clear hf
           obtain ⟨⟨b3, k3⟩, _⟩ := hbf
           have qB := HB2.out.trans (hB.mono HB2.out.size)
           have qa := LA.out
           have la0 := (qB.cell (cell_lt qa.1)).trans qa.1
           have la1 := (qB.cell (cell_lt qa.2.1)).trans qa.2.1
           have la2 := (qB.cell (cell_lt qa.2.2)).trans qa.2.2
           clear qa qB
           refine Or.inl ⟨wanted_none rfl, ?_⟩
           rintro _ rfl
           go_simp <;> with_reducible rfl
         refine relG_pure (i := 5) (o := ⟨some 59, _, _, _, _, _⟩) (v := ?v34) [(4, 58, 0)] [1] rfl rfl (by kernel_rfl) (by kernel_rfl) (fun t w1 hB hf hbf => ?y34) ?n34
         case y34 =>
           simp only [DepF, List.getD_cons_zero] at hf
           simp only [BasF] at hbf
           obtain ⟨⟨_, ⟨e58, i58⟩, rfl⟩, _⟩ := hf
           obtain ⟨⟨b1, k1⟩, _⟩ := hbf
           have qB := HB2.out.trans (hB.mono HB2.out.size)
           have qa := LA.out
           have la0 := (qB.cell (cell_lt qa.1)).trans qa.1
           have la1 := (qB.cell (cell_lt qa.2.1)).trans qa.2.1
           have la2 := (qB.cell (cell_lt qa.2.2)).trans qa.2.2
           clear qa qB
           refine Or.inl ⟨wanted_none rfl, ?_⟩
           rintro _ rfl
           go_simp <;> with_reducible rfl
         refine relG_pure (i := 6) (o := ⟨some 60, _, _, _, _, _⟩) (v := ?v35) [(5, 59, 0)] [] rfl rfl (by kernel_rfl) (by kernel_rfl) (fun t w1 hB hf hbf => ?y35) ?n35
         case y35 =>
           simp only [DepF, List.getD_cons_zero] at hf
           obtain ⟨⟨_, ⟨e59, i59⟩, rfl⟩, _⟩ := hf
           clear hbf
           have qB := HB2.out.trans (hB.mono HB2.out.size)
           have qa := LA.out
           have la0 := (qB.cell (cell_lt qa.1)).trans qa.1
           have la1 := (qB.cell (cell_lt qa.2.1)).trans qa.2.1
           have la2 := (qB.cell (cell_lt qa.2.2)).trans qa.2.2
           clear qa qB
           refine Or.inl ⟨wanted_none rfl, ?_⟩
           rintro _ rfl
           go_simp <;> with_reducible rfl
         refine relG_call (i := 7) (o := ⟨some 61, _, _, _, _, _⟩) ((fun v _ => v = .bool (plG a))) [(6, 60, 0)] [] rfl rfl (by kernel_rfl) (by kernel_rfl) ((fun _ _ _ h _ => h)) ?_ ?_
         · intro t w1 hB hf hbf K hK
           simp only [DepF, List.getD_cons_zero] at hf
           obtain ⟨⟨_, ⟨e60, i60⟩, rfl⟩, _⟩ := hf
           clear hbf
           have qB := HB2.out.trans (hB.mono HB2.out.size)
           have qa := LA.out
           have la0 := (qB.cell (cell_lt qa.1)).trans qa.1
           have la1 := (qB.cell (cell_lt qa.2.1)).trans qa.2.1
           have la2 := (qB.cell (cell_lt qa.2.2)).trans qa.2.2
           clear qa qB
           refine ⟨wanted_none rfl, ?_⟩
           go_simp
           refine (ref5_Place a w1 (HPA.out.below hB)).mono ?_
           rintro e w2 ⟨rfl, hb⟩
           exact hK.out _ w2 (rfl) hb
         refine relG_pure (i := 8) (o := ⟨some 62, _, _, _, _, _⟩) (v := ?v36) [(3, 57, 4), (7, 61, 0)] [] rfl rfl (by kernel_rfl) (by kernel_rfl) (fun t w1 hB hf hbf => ?y36) ?n36
         case y36 =>
           simp only [DepF, List.getD_cons_zero, List.getD_cons_succ] at hf
           obtain ⟨⟨_, ⟨e57, i57⟩, rfl⟩, ⟨_, ⟨e61, i61⟩, rfl⟩, _⟩ := hf
           clear hbf
           have qB := HB2.out.trans (hB.mono HB2.out.size)
           have qa := LA.out
           have la0 := (qB.cell (cell_lt qa.1)).trans qa.1
           have la1 := (qB.cell (cell_lt qa.2.1)).trans qa.2.1
           have la2 := (qB.cell (cell_lt qa.2.2)).trans qa.2.2
           clear qa qB
           refine Or.inl ⟨wanted_none rfl, ?_⟩
           rintro _ rfl
           go_simp <;> with_reducible rfl
         refine relG_done [(0, 54, 8), (1, 55, 7), (2, 56, 6), (3, 57, 5), (4, 58, 4), (5, 59, 3), (6, 60, 2), (7, 61, 1), (8, 62, 0)] (by kernel_rfl) rfl (by kernel_rfl) (fun f wE hB hf => ?_)
         simp only [FinF, List.getD_cons_zero, List.getD_cons_succ] at hf
         obtain ⟨⟨_, e54, rfl⟩, ⟨_, e55, rfl⟩, ⟨_, e56, rfl⟩, ⟨_, e57, rfl⟩, ⟨_, e58, rfl⟩, ⟨_, e59, rfl⟩, ⟨_, e60, rfl⟩, ⟨_, e61, rfl⟩, ⟨_, e62, rfl⟩, _⟩ := hf
         simp only [regT, List.foldl_cons, List.foldl_nil, List.setIfInBounds_toArray, List.set_cons_zero, List.set_cons_succ, e54, e55, e56, e57, e58, e59, e60, e61, e62]
         clear e54 e55 e56 e57 e58 e59 e60 e61 e62
         have HB4 := Lib.hid (HB2.out.trans (hB.mono HB2.out.size))
         clear hB
         go_wp2_with fail
         go_roundw
         case rel => exact ⟨i + 1, by omega, by go_num, HB4⟩
         case measure => simp [intOf]; omega
   · obtain rfl : i = 3 := by omega
     rw [show ((3 : Nat) : Int) = 3 from rfl]
     go_wp2_with fail
     refine (known_05 _ (G1.out.below HB.out)).mono ?_
     rintro e w2 ⟨rfl, hb⟩
     have HB5 := Lib.hid (HB.out.trans (hb.mono HB.out.size))
     clear hb
     go_wp2_with fail
     go_ret
     exact ⟨rfl, B1.out.trans (HB5.out.mono B1.out.size)⟩
end Go.Proofs.YtkjchoamdibolaaDoor
namespace Go.Proofs.YtkjchoamdibolaaDoor
open Go.ChangeShapes Go.WideShapes Go.ChangeAt Go.RowKit Go.Deep
section
variable {H : Type} {enc : TypeId × Value → H} {P : Program} {w : World} {base : Nat} {held : Bool}
theorem spot_none {a : Addr} {v : Value} (h : w.cell? (a.add 0) = some v) : ∃ b off, a = ⟨b, off, none⟩ := by
 obtain ⟨b, off, spot⟩ := a
 have hs : spot = none := by simpa [Addr.add] using World.cell?_spot h
 subst hs
 exact ⟨b, off, rfl⟩
theorem open_strings_cells {t e : TypeId} {fuel : Nat} {a0 : Option Addr} {len cap : Nat} {x : DataW H × List MemPlace} (ht : P.underlying t = some (.slice e)) (he : P.underlying e = some .string)
   (ce : P.cellsOf e = 1) (h : DataW.trod enc P w base (fun _ => true) held fuel t (Value.slice a0 len cap).cells.toList = some x) :
   ∃ l : List ByteArray, len = l.length ∧ CellsAt w a0 (l.map Value.string) ∧ l.length ≤ maxLen ∧ len ≤ cap ∧ ∀ s ∈ l, s.size ≤ maxLen := by
 rcases open_strings ht he ce h with ⟨hcs, _⟩ | ⟨a, l, c, zs, hcs, _, hl, hm, hz, hx, hcell, hwz⟩
 · simp [Value.cells] at hcs
   obtain ⟨rfl, rfl, rfl⟩ := hcs
   exact ⟨[], rfl, CellsAt.nil _ _, Nat.zero_le _, Nat.le_refl _, fun n hn => by simp at hn⟩
 · have hz' : zs.length = c := by simpa using hz
   simp [Value.cells] at hcs
   obtain ⟨rfl, rfl, rfl⟩ := hcs
   refine ⟨zs.take len, by simp; omega, fun i hi => ?_, by simp; omega, hl, fun n hn => hwz n (List.mem_of_mem_take hn)⟩
   have hi' : i < len ∧ i < zs.length := by simp at hi; omega
   obtain ⟨b, off, rfl⟩ := spot_none (hcell 0 (by omega))
   refine ⟨b, off, rfl, ?_⟩
   have h0 := hcell i (by omega)
   rw [Addr_add] at h0
   rw [h0]
   simp [hi'.2]
end
end Go.Proofs.YtkjchoamdibolaaDoor
namespace Go.Proofs.YtkjchoamdibolaaDoor
open Go.ChangeShapes Go.WideShapes Go.ChangeAt Go.RowKit Go.Deep St Ku
section
variable {H : Type} {enc : TypeId × Value → H} {w : World} {base : Nat} {held : Bool}
theorem maxLen_small {n : Nat} (h : n ≤ maxLen) : n ≤ 9223372036854775807 := by unfold maxLen at h; omega
set_option maxRecDepth 100000 in
theorem open_plc {fuel : Nat} {cs : List Value} {x : DataW H × List MemPlace} (h : DataW.trod enc Tryd.prog w base (fun _ => true) held fuel 38 cs = some x) :
   ∃ p : Plc, cs = [.slice p.a p.n p.c, .int .i64 p.k, .string p.x] ∧ PlcAt w p := by
 obtain ⟨xs, n, _, _, hlen, hz, hff⟩ := DataW.trod_struct Tryd.underlying38 h
 rw [show Tryd.prog.cellsOf 38 = 3 by kernel_rfl] at hlen
 match cs, hlen with
 | [v0, v1, v2], _ =>
   have q0 := hff 0 _ rfl
   have q1 := hff 1 _ rfl
   have q2 := hff 2 _ rfl
   rw [List.getElem?_eq_getElem (by rw [hz]; decide)] at q0 q1 q2
   change DataW.trod enc _ w base _ held n 22 (List.take (Tryd.prog.cellsOf 22) [v0, v1, v2]) = _ at q0
   change DataW.trod enc _ w base _ held n 36 (List.take (Tryd.prog.cellsOf 36) [v1, v2]) = _ at q1
   change DataW.trod enc _ w base _ held n 9 (List.take (Tryd.prog.cellsOf 9) [v2]) = _ at q2
   rw [show Tryd.prog.cellsOf 22 = 1 by kernel_rfl] at q0
   rw [show Tryd.prog.cellsOf 36 = 1 by kernel_rfl] at q1
   rw [show Tryd.prog.cellsOf 9 = 1 by kernel_rfl] at q2
   obtain ⟨k, k1, _⟩ := DataW.trod_int Tryd.underlying36 q1
   obtain ⟨l, k2, _, kl⟩ := DataW.trod_string Tryd.underlying9 q2
   obtain ⟨a, m, c, k0⟩ : ∃ a m c, v0 = .slice a m c := by
     rcases open_strings Tryd.underlying22 Tryd.underlying9 (by kernel_rfl) q0 with ⟨hcs, _⟩ | ⟨a, m, c, zs, hcs, _⟩
     · simp only [List.take, List.cons.injEq, and_true] at hcs; exact ⟨_, _, _, hcs⟩
     · simp only [List.take, List.cons.injEq, and_true] at hcs; exact ⟨_, _, _, hcs⟩
   simp only [List.take, List.cons.injEq, and_true] at k1 k2
   subst k0 k1 k2
   obtain ⟨ll, hn, hc, hm, _, hs⟩ := open_strings_cells Tryd.underlying22 Tryd.underlying9 (by kernel_rfl) q0
   exact ⟨⟨ll, k, l, a, m, c⟩, rfl, hc, hn, by rw [show (⟨ll, k, l, a, m, c⟩ : Plc).n = ll.length from hn]; exact maxLen_small hm, fun x hx => maxLen_small (hs x hx), maxLen_small kl⟩
theorem arr_elem {P : Program} {fuel : Nat} {t e : TypeId} {n : Nat} {cs : List Value} {x : DataW H × List MemPlace} {sp : Nat → Bool} (ht : P.underlying t = some (.array n e))
   (h : DataW.trod enc P w base sp held fuel t cs = some x) (i : Nat) (hi : i < n) :
   ∃ fuel' y, DataW.trod enc P w base sp held fuel' e ((cs.drop (i * P.cellsOf e)).take (P.cellsOf e)) = some y := by
 cases fuel with
 | zero => simp [DataW.trod] at h
 | succ fuel =>
   simp only [DataW.trod, ht] at h
   split at h
   · obtain ⟨xs, hm, hx⟩ := Option.map_eq_some_iff.1 h
     obtain ⟨b, hb, hf⟩ := Lib.mapM_at hm i i (by simp [hi])
     exact ⟨fuel, b, hf⟩
   · cases h
theorem open_three {v : Value} {b : Nat} {r : Reach} {fuel : Nat} {x : DataW H × List MemPlace} (hok : Value.okWide Tryd.prog w r b 39 v)
   (h : DataW.trod enc Tryd.prog w base (fun _ => true) held fuel 39 v.cells.toList = some x) :
   ∃ p q r : Plc, v = .agg #[.slice p.a p.n p.c, .int .i64 p.k, .string p.x, .slice q.a q.n q.c, .int .i64 q.k, .string q.x, .slice r.a r.n r.c, .int .i64 r.k, .string r.x] ∧ PlcAt w p ∧ PlcAt w q ∧ PlcAt w r := by
 obtain ⟨cs, rfl, hsz⟩ : ∃ cs, v = .agg cs ∧ cs.size = 9 := by
   simp only [Value.okWide, Tryd.underlying39] at hok
   obtain ⟨cs, h1, h2, _⟩ := hok
   exact ⟨cs, h1, by rw [h2]; kernel_rfl⟩
 obtain ⟨l, rfl⟩ : ∃ l : List Value, cs = l.toArray := ⟨cs.toList, by simp⟩
 have hl : l.length = 9 := by simpa using hsz
 match l, hl with
 | [x0, x1, x2, x3, x4, x5, x6, x7, x8], _ =>
   have ce : Tryd.prog.cellsOf 38 = 3 := by kernel_rfl
   obtain ⟨f0, y0, h0⟩ := arr_elem Tryd.underlying39 h 0 (by decide)
   obtain ⟨f1, y1, h1⟩ := arr_elem Tryd.underlying39 h 1 (by decide)
   obtain ⟨f2, y2, h2⟩ := arr_elem Tryd.underlying39 h 2 (by decide)
   rw [ce] at h0 h1 h2
   obtain ⟨p, e0, hp⟩ := open_plc h0
   obtain ⟨q, e1, hq⟩ := open_plc h1
   obtain ⟨r, e2, hr⟩ := open_plc h2
   simp [Value.cells] at e0 e1 e2
   obtain ⟨rfl, rfl, rfl⟩ := e0
   obtain ⟨rfl, rfl, rfl⟩ := e1
   obtain ⟨rfl, rfl, rfl⟩ := e2
   exact ⟨p, q, r, rfl, hp, hq, hr⟩
end
theorem laid_eq1 : (Rows.laid_unicode_utf8_acceptRanges : DataW Unit) = Lib.acceptData := by kernel_rfl
theorem laid_eq2 : Rows.laid_unicode_utf8_first = Lib.firstData := by kernel_rfl
theorem glob_of {W : World} (hL : laidMetH Tryd.prog [("unicode/utf8.acceptRanges", Rows.laid_unicode_utf8_acceptRanges), ("unicode/utf8.first", Rows.laid_unicode_utf8_first)] W) (hS : W.ShapedOpen Tryd.prog) : Glob W := by
 refine ⟨utf8Tabs_of_readsT (U8Types.of196 lay196) ⟨by kernel_rfl, by kernel_rfl, by kernel_rfl, by kernel_rfl, by kernel_rfl, by kernel_rfl, by kernel_rfl⟩ ?_ ?_, ?_⟩
 · rw [← laid_eq2]; exact Lib.laidMet.reads hL (.tail _ (.head _))
 · rw [← laid_eq1]; exact Lib.laidMet.reads hL (.head _)
 · exact cell_of_shapedOpen_int (P := Tryd.prog) (g := 2) (t := 3) (zero := #[.int .i64 0]) hS (of_decide_eq_true (by kernel_rfl)) (by kernel_rfl) rfl (by kernel_rfl) (by kernel_rfl) Tryd.underlying3
noncomputable def laidWorld (os : Os) : World :=
 let w0 := World.holding Tryd.prog os ⟨#[], #[], []⟩
 let put (h : Array Obj) (g : Nat) (cs : Array Value) : Array Obj := h.modify g fun
   | .cells _ t frozen => .cells cs t frozen
   | o => o
 let h1 := put w0.heap 0 (Lib.firstTab.map fun z => Value.int .u8 z).toArray
 let h2 := put h1 1 ((List.range 16).flatMap fun i => [Value.int .u8 (Lib.accLo i), Value.int .u8 (Lib.accHi i)]).toArray
 { w0 with heap := h2 }
theorem laid_met (os : Os) (args : Array Value) : laidMet Tryd.prog [("unicode/utf8.acceptRanges", Rows.laid_unicode_utf8_acceptRanges), ("unicode/utf8.first", Rows.laid_unicode_utf8_first)] ((laidWorld os).forCall (fun _ _ => 0) ⟨#[], args, []⟩).memory :=
 (LaidIn.of_run (l := [("unicode/utf8.acceptRanges", Rows.laid_unicode_utf8_acceptRanges), ("unicode/utf8.first", Rows.laid_unicode_utf8_first)]) [1, 0] 8 (by kernel_rfl) (by kernel_rfl) (by kernel_rfl) (by kernel_rfl)).met
end Go.Proofs.YtkjchoamdibolaaDoor
