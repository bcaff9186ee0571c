/- Words, contracts and walks that the proof stands on (KsM). -/
import Derived.Test.YtkjchoamdibolaaDoorKB4
namespace Go.Proofs.YtkjchoamdibolaaDoor
open Go.RowKit Ku St Pm
theorem regT_run (base : Array Value) (slots : List Nat) (f : Nat → Value) (s n : Nat) (h : slots = List.range' s n) (hb : s + n ≤ base.size) :
 regT base slots f = (base.toList.take s ++ (slots.map f ++ base.toList.drop (s + n))).toArray := by
 subst h
 apply Array.ext_getElem?
 intro k
 rw [regT_get]
 simp only [List.getElem?_toArray, List.mem_range'_1]
 by_cases h1 : k < s
 · rw [if_neg (by omega), List.getElem?_append_left (by simp; omega), List.getElem?_take_of_lt h1]
   simp
 · rw [List.getElem?_append_right (by simp; omega)]
   have e : (List.take s base.toList).length = s := by simp; omega
   rw [e]
   by_cases h2 : k < s + n
   · rw [if_pos (by omega), List.getElem?_append_left (by simp; omega)]
     simp [List.getElem?_range', show k - s < n by omega]
     congr 1
     omega
   · rw [if_neg (by omega), List.getElem?_append_right (by simp; omega), List.getElem?_drop]
     simp
     congr 1
     omega
theorem wrap_neg {c : Int} (h : c = -1 ∨ c = 0 ∨ c = 1) : IntKind.i64.wrap (-c) = -c := by
 rcases h with rfl | rfl | rfl <;> decide
theorem bne_self (c : Int) : (c != c) = false := by simp
theorem ownNe_or {w : World} {v v' : Value} {g : Nat} {o : Obj} (hor : v'.ownBlock = v.ownBlock ∨ v'.ownBlock = some w.heap.size) (hd : v.ownBlock ≠ some g) (hY : w.heap[g]? = some o) : v'.ownBlock ≠ some g := fun e => by
 rcases hor with h | h
 · exact hd (h.symm.trans e)
 · have h2 := Option.some.inj (h.symm.trans e)
   have h3 := (Array.getElem?_eq_some_iff.1 hY).1
   omega
theorem ownNe_size {w : World} {base size n : Nat} {e : TypeId} {v : Value} {xs : List Value} (h : w.ownsRow base e size v n xs) : v.ownBlock ≠ some w.heap.size := fun e => Nat.lt_irrefl _ (h.lt _ e).2
theorem ne_of_own {g9 n k g : Nat} (h : (Value.slice (some ⟨g9, 0, none⟩) n k).ownBlock ≠ some g) : g9 ≠ g := fun e => h (by rw [e]; rfl)
theorem grow_keep {w w' : World} {b : Option Nat} {g : Nat} {o : Obj} (hgr : w.grownBy w' b) (hY : w.heap[g]? = some o) (hd : b ≠ some g) : w'.heap[g]? = some o :=
 (hgr.block g (Array.getElem?_eq_some_iff.1 hY).1 (fun e => hd e.symm)).trans hY
theorem cellsAt_setRow {w : World} {g9 g : Nat} {cs : Array Value} {vs : List Value} (h : CellsAt w (some ⟨g9, 0, none⟩) vs) (hne : g9 ≠ g) : CellsAt (w.setRow g cs) (some ⟨g9, 0, none⟩) vs := by
 intro i hi
 obtain ⟨b, off, e, hc⟩ := h i hi
 cases e
 refine ⟨_, _, rfl, ?_⟩
 unfold World.cell? at hc ⊢
 rw [setRow_other _ _ _ _ hne]
 exact hc
theorem key_JoinT (l : List ByteArray) (a : Option Addr) (n c : Nat) (w : World) (hl : CellsAt w a (txV l)) (hn : n = l.length) (hs : ∀ x ∈ l, x.size ≤ 9223372036854775807) (hG : Glob w) (h : pathG l = true) :
 Calls Tryd.prog 8 #[.slice a n c] w fun e w' => e = .returned (.tuple #[.string (joinB l), .int .i64 0]) ∧ Below w.heap.size w w' := by
 have := key_Join l a n c w hl hn hs hG
 rw [if_pos h, if_pos h] at this
 exact this
theorem key_JoinF (l : List ByteArray) (a : Option Addr) (n c : Nat) (w : World) (hl : CellsAt w a (txV l)) (hn : n = l.length) (hs : ∀ x ∈ l, x.size ≤ 9223372036854775807) (hG : Glob w) (h : ¬ pathG l = true) :
 Calls Tryd.prog 8 #[.slice a n c] w fun e w' => e = .returned (.tuple #[.string ⟨#[]⟩, .int .i64 2]) ∧ Below w.heap.size w w' := by
 have := key_Join l a n c w hl hn hs hG
 rw [if_neg h, if_neg h] at this
 exact this
set_option maxRecDepth 100000 in
set_option maxHeartbeats 8000000 in
theorem law_Order (p q r : Plc) (w : World) (hp : PlcAt w p) (hq : PlcAt w q) (hr : PlcAt w r) (hG : Glob w) :
 Calls Tryd.prog 4 #[.agg #[.slice p.a p.n p.c, .int .i64 p.k, .string p.x, .slice q.a q.n q.c, .int .i64 q.k, .string q.x, .slice r.a r.n r.c, .int .i64 r.k, .string r.x]] w fun e w' => e = .returned (.bool true) ∧ Below w.heap.size w w' := by
 have G := Lib.hid hG
 have HP := Lib.hid hp
 have HQ := Lib.hid hq
 have HR := Lib.hid hr
 clear hG hp hq hr
 have HC : Hid (Chain [w] w) := Lib.hid (Chain.one w)
 go_enter Tryd.func4, Tryd.ntmps4
 go_upto_region 1 with (fail)
 obtain ⟨z, hz⟩ : ∃ c, w.heap.size = c := ⟨_, rfl⟩
 try rw [hz]
 obtain ⟨wA, hwA⟩ : ∃ X, allocs w [.cells #[.slice p.a p.n p.c, .int .i64 p.k, .string p.x, .slice q.a q.n q.c, .int .i64 q.k, .string q.x, .slice r.a r.n r.c, .int .i64 r.k, .string r.x] 39] = X := ⟨_, rfl⟩
 rw [show w.alloc (.cells #[.slice p.a p.n p.c, .int .i64 p.k, .string p.x, .slice q.a q.n q.c, .int .i64 q.k, .string q.x, .slice r.a r.n r.c, .int .i64 r.k, .string r.x] 39) = wA from hwA]
 have hb : Below w.heap.size w wA := by rw [← hwA]; exact allocs_below _ _
 have HM : Hid (wA.heap[z]? = some (.cells #[.slice p.a p.n p.c, .int .i64 p.k, .string p.x, .slice q.a q.n q.c, .int .i64 q.k, .string q.x, .slice r.a r.n r.c, .int .i64 r.k, .string r.x] 39 (0, 0))) := Lib.hid (by have := allocs_get [.cells #[.slice p.a p.n p.c, .int .i64 p.k, .string p.x, .slice q.a q.n q.c, .int .i64 q.k, .string q.x, .slice r.a r.n r.c, .int .i64 r.k, .string r.x] 39] w 0 _ rfl; rw [hwA, hz] at this; exact this)
 have Sz : Hid (w.heap.size = z) := Lib.hid hz
 replace HC := Lib.hid (HC.out.push hb)
 clear hb hwA hz
 go_wp2_with fail
 refine (known_05 _ (G.out.below (HC.out.to w (by simp)))).mono ?_
 rintro e wB ⟨rfl, hb⟩
 replace HC := Lib.hid (HC.out.push hb)
 clear hb
 go_upto_region 3 with (fail)
 have MB := Lib.hid (boxStays HM.out (HC.out.to wA (by simp)))
 go_cut [3, 4, 5] (fun u3 u4 u5 wx => ∃ g3 g4 g5 : Nat, u3 = .pointer (some ⟨g3, 0, none⟩) ∧ u4 = .pointer (some ⟨g4, 0, none⟩) ∧ u5 = .pointer (some ⟨g5, 0, none⟩) ∧ Hid (wx.heap[g3]? = some (.cells #[.slice p.a p.n p.c, .int .i64 p.k, .string p.x] 38 (0, 0))) ∧ Hid (wx.heap[g4]? = some (.cells #[.slice q.a q.n q.c, .int .i64 q.k, .string q.x] 38 (0, 0))) ∧ Hid (wx.heap[g5]? = some (.cells #[.slice r.a r.n r.c, .int .i64 r.k, .string r.x] 38 (0, 0))) ∧ Hid (Below wB.heap.size wB wx))
 case first =>
  as_aux_lemma =>
   refine wp_region_noPanic ?_
   refine wp_region_held_drew (S := fun w' => Below wB.heap.size wB w') (by kernel_rfl) (Below.refl _ _).drew (fun hS => ?_)
   refine wpAnyH_take (i := 0) (oi := ⟨some 15, _, _, _, _, _⟩) (v := ?_) rfl (by kernel_rfl) (by kernel_rfl) (by kernel_rfl) (fun _ _ _ h => h) (Or.inl ⟨by rfl, ?_⟩) hS ?_
   rotate_left 1
   · intro w' hB; have mb := boxStays MB.out hB; have m0 := cell_of_row _ _ 0 _ _ _ mb; have m1 := cell_of_row _ _ 1 _ _ _ mb; have m2 := cell_of_row _ _ 2 _ _ _ mb; have m3 := cell_of_row _ _ 3 _ _ _ mb; have m4 := cell_of_row _ _ 4 _ _ _ mb; have m5 := cell_of_row _ _ 5 _ _ _ mb; have m6 := cell_of_row _ _ 6 _ _ _ mb; have m7 := cell_of_row _ _ 7 _ _ _ mb; have m8 := cell_of_row _ _ 8 _ _ _ mb; clear mb; (go_simp <;> with_reducible rfl)
   try simp only [Act.put, List.setIfInBounds_toArray, List.set_cons_zero, List.set_cons_succ]
   refine wpAnyH_take (i := 1) (oi := ⟨some 16, _, _, _, _, _⟩) (v := ?_) rfl (by kernel_rfl) (by kernel_rfl) (by kernel_rfl) (fun _ _ _ h => h) (Or.inl ⟨by rfl, ?_⟩) hS ?_
   rotate_left 1
   · intro w' hB; have mb := boxStays MB.out hB; have m0 := cell_of_row _ _ 0 _ _ _ mb; have m1 := cell_of_row _ _ 1 _ _ _ mb; have m2 := cell_of_row _ _ 2 _ _ _ mb; have m3 := cell_of_row _ _ 3 _ _ _ mb; have m4 := cell_of_row _ _ 4 _ _ _ mb; have m5 := cell_of_row _ _ 5 _ _ _ mb; have m6 := cell_of_row _ _ 6 _ _ _ mb; have m7 := cell_of_row _ _ 7 _ _ _ mb; have m8 := cell_of_row _ _ 8 _ _ _ mb; clear mb; (go_simp <;> with_reducible rfl)
   try simp only [Act.put, List.setIfInBounds_toArray, List.set_cons_zero, List.set_cons_succ]
   refine wpAnyH_take (i := 2) (oi := ⟨some 17, _, _, _, _, _⟩) (v := ?_) rfl (by kernel_rfl) (by kernel_rfl) (by kernel_rfl) (fun _ _ _ h => h) (Or.inl ⟨by rfl, ?_⟩) hS ?_
   rotate_left 1
   · intro w' hB; have mb := boxStays MB.out hB; have m0 := cell_of_row _ _ 0 _ _ _ mb; have m1 := cell_of_row _ _ 1 _ _ _ mb; have m2 := cell_of_row _ _ 2 _ _ _ mb; have m3 := cell_of_row _ _ 3 _ _ _ mb; have m4 := cell_of_row _ _ 4 _ _ _ mb; have m5 := cell_of_row _ _ 5 _ _ _ mb; have m6 := cell_of_row _ _ 6 _ _ _ mb; have m7 := cell_of_row _ _ 7 _ _ _ mb; have m8 := cell_of_row _ _ 8 _ _ _ mb; clear mb; (go_simp <;> with_reducible rfl)
   try simp only [Act.put, List.setIfInBounds_toArray, List.set_cons_zero, List.set_cons_succ]
   refine wpAnyH_take (i := 3) (oi := ⟨some 18, _, _, _, _, _⟩) (v := ?_) rfl (by kernel_rfl) (by kernel_rfl) (by kernel_rfl) (fun _ _ _ h => h) (Or.inl ⟨by rfl, ?_⟩) hS ?_
   rotate_left 1
   · intro w' hB; have mb := boxStays MB.out hB; have m0 := cell_of_row _ _ 0 _ _ _ mb; have m1 := cell_of_row _ _ 1 _ _ _ mb; have m2 := cell_of_row _ _ 2 _ _ _ mb; have m3 := cell_of_row _ _ 3 _ _ _ mb; have m4 := cell_of_row _ _ 4 _ _ _ mb; have m5 := cell_of_row _ _ 5 _ _ _ mb; have m6 := cell_of_row _ _ 6 _ _ _ mb; have m7 := cell_of_row _ _ 7 _ _ _ mb; have m8 := cell_of_row _ _ 8 _ _ _ mb; clear mb; (go_simp <;> with_reducible rfl)
   try simp only [Act.put, List.setIfInBounds_toArray, List.set_cons_zero, List.set_cons_succ]
   refine wpAnyH_take (i := 4) (oi := ⟨some 19, _, _, _, _, _⟩) (v := ?_) rfl (by kernel_rfl) (by kernel_rfl) (by kernel_rfl) (fun _ _ _ h => h) (Or.inl ⟨by rfl, ?_⟩) hS ?_
   rotate_left 1
   · intro w' hB; have mb := boxStays MB.out hB; have m0 := cell_of_row _ _ 0 _ _ _ mb; have m1 := cell_of_row _ _ 1 _ _ _ mb; have m2 := cell_of_row _ _ 2 _ _ _ mb; have m3 := cell_of_row _ _ 3 _ _ _ mb; have m4 := cell_of_row _ _ 4 _ _ _ mb; have m5 := cell_of_row _ _ 5 _ _ _ mb; have m6 := cell_of_row _ _ 6 _ _ _ mb; have m7 := cell_of_row _ _ 7 _ _ _ mb; have m8 := cell_of_row _ _ 8 _ _ _ mb; clear mb; (go_simp <;> with_reducible rfl)
   try simp only [Act.put, List.setIfInBounds_toArray, List.set_cons_zero, List.set_cons_succ]
   refine wpAnyH_take (i := 5) (oi := ⟨some 20, _, _, _, _, _⟩) (v := ?_) rfl (by kernel_rfl) (by kernel_rfl) (by kernel_rfl) (fun _ _ _ h => h) (Or.inl ⟨by rfl, ?_⟩) hS ?_
   rotate_left 1
   · intro w' hB; have mb := boxStays MB.out hB; have m0 := cell_of_row _ _ 0 _ _ _ mb; have m1 := cell_of_row _ _ 1 _ _ _ mb; have m2 := cell_of_row _ _ 2 _ _ _ mb; have m3 := cell_of_row _ _ 3 _ _ _ mb; have m4 := cell_of_row _ _ 4 _ _ _ mb; have m5 := cell_of_row _ _ 5 _ _ _ mb; have m6 := cell_of_row _ _ 6 _ _ _ mb; have m7 := cell_of_row _ _ 7 _ _ _ mb; have m8 := cell_of_row _ _ 8 _ _ _ mb; clear mb; (go_simp <;> with_reducible rfl)
   try simp only [Act.put, List.setIfInBounds_toArray, List.set_cons_zero, List.set_cons_succ]
   refine wpAnyH_ready (rs := [6, 7, 8]) (by kernel_rfl) (by simp) (AllReadyH.cons (o := ⟨some 3, _, _, _, _, _⟩) rfl (fun K hK => ?way3) (AllReadyH.cons (o := ⟨some 4, _, _, _, _, _⟩) rfl (fun K hK => ?way2) (AllReadyH.cons (o := ⟨some 5, _, _, _, _, _⟩) rfl (fun K hK => ?way1) AllReadyH.nil)))
   case' way3 =>
    go_simp
    refine hK.out _ _ (hS.alloc hS.size _) (fun _ => ?_)
    clear hK K
    refine wpAnyH_madeK hS hS.size ?_
    have hS0 := hS
    clear hS
    rintro v6 hw hS
    have Y6 := Lib.hid (made_at hw)
    have G6 := Lib.hid hS0.size
    (try have N67 := Lib.hid ((Nat.ne_of_lt (Array.getElem?_eq_some_iff.1 Y7.out).1).symm))
    (try have N68 := Lib.hid ((Nat.ne_of_lt (Array.getElem?_eq_some_iff.1 Y8.out).1).symm))
    (try replace Y7 := Lib.hid (boxStays (w' := v6) Y7.out (by rw [hw]; exact below_new _ _)))
    (try replace Y8 := Lib.hid (boxStays (w' := v6) Y8.out (by rw [hw]; exact below_new _ _)))
    clear hw hS0
    try simp only [Act.put, List.setIfInBounds_toArray, List.set_cons_zero, List.set_cons_succ]
    refine wpAnyH_ready (rs := [7, 8]) (by kernel_rfl) (by simp) (AllReadyH.cons (o := ⟨some 4, _, _, _, _, _⟩) rfl (fun K hK => ?way5) (AllReadyH.cons (o := ⟨some 5, _, _, _, _, _⟩) rfl (fun K hK => ?way4) AllReadyH.nil))
    case' way5 =>
     go_simp
     refine hK.out _ _ (hS.alloc hS.size _) (fun _ => ?_)
     clear hK K
     refine wpAnyH_madeK hS hS.size ?_
     have hS0 := hS
     clear hS
     rintro v7 hw hS
     have Y7 := Lib.hid (made_at hw)
     have G7 := Lib.hid hS0.size
     (try have N67 := Lib.hid (Nat.ne_of_lt (Array.getElem?_eq_some_iff.1 Y6.out).1))
     (try have N78 := Lib.hid ((Nat.ne_of_lt (Array.getElem?_eq_some_iff.1 Y8.out).1).symm))
     (try replace Y6 := Lib.hid (boxStays (w' := v7) Y6.out (by rw [hw]; exact below_new _ _)))
     (try replace Y8 := Lib.hid (boxStays (w' := v7) Y8.out (by rw [hw]; exact below_new _ _)))
     clear hw hS0
     try simp only [Act.put, List.setIfInBounds_toArray, List.set_cons_zero, List.set_cons_succ]
     refine wpAnyH_ready (rs := [8]) (by kernel_rfl) (by simp) (AllReadyH.cons (o := ⟨some 5, _, _, _, _, _⟩) rfl (fun K hK => ?_) AllReadyH.nil)
     go_simp
     refine hK.out _ _ (hS.alloc hS.size _) (fun _ => ?_)
     clear hK K
     refine wpAnyH_madeK hS hS.size ?_
     have hS0 := hS
     clear hS
     rintro v8 hw hS
     have Y8 := Lib.hid (made_at hw)
     have G8 := Lib.hid hS0.size
     (try have N68 := Lib.hid (Nat.ne_of_lt (Array.getElem?_eq_some_iff.1 Y6.out).1))
     (try have N78 := Lib.hid (Nat.ne_of_lt (Array.getElem?_eq_some_iff.1 Y7.out).1))
     (try replace Y6 := Lib.hid (boxStays (w' := v8) Y6.out (by rw [hw]; exact below_new _ _)))
     (try replace Y7 := Lib.hid (boxStays (w' := v8) Y7.out (by rw [hw]; exact below_new _ _)))
     clear hw hS0
     try simp only [Act.put, List.setIfInBounds_toArray, List.set_cons_zero, List.set_cons_succ]
     refine wpAnyH_ready (rs := [9]) (by kernel_rfl) (by simp) (AllReadyH.cons (o := ⟨none, _, _, _, _, _⟩) rfl (fun K hK => ?_) AllReadyH.nil)
     refine step_store_row rfl 38 (.tmp 3) (.tmp 16) rfl _ #[.slice p.a p.n p.c, .int .i64 p.k, .string p.x] rfl rfl 38 _ Y6.out (by kernel_rfl) rfl (pl_one p) ?_
     replace hS := below_setRow hS G6.out #[.slice p.a p.n p.c, .int .i64 p.k, .string p.x]
     have Z6 := Lib.hid (setRow_heap _ _ _ #[.slice p.a p.n p.c, .int .i64 p.k, .string p.x] _ _ Y6.out)
     replace Y7 := Lib.hid ((setRow_other _ _ _ #[.slice p.a p.n p.c, .int .i64 p.k, .string p.x] (Ne.symm N67.out)).trans Y7.out)
     replace Y8 := Lib.hid ((setRow_other _ _ _ #[.slice p.a p.n p.c, .int .i64 p.k, .string p.x] (Ne.symm N68.out)).trans Y8.out)
     refine hK.out _ _ hS (fun _ => ?_)
     clear hK K
     try simp only [Act.put, List.setIfInBounds_toArray, List.set_cons_zero, List.set_cons_succ]
     refine wpAnyH_ready (rs := [10]) (by kernel_rfl) (by simp) (AllReadyH.cons (o := ⟨none, _, _, _, _, _⟩) rfl (fun K hK => ?_) AllReadyH.nil)
     refine step_store_row rfl 38 (.tmp 4) (.tmp 18) rfl _ #[.slice q.a q.n q.c, .int .i64 q.k, .string q.x] rfl rfl 38 _ Y7.out (by kernel_rfl) rfl (pl_one q) ?_
     replace hS := below_setRow hS G7.out #[.slice q.a q.n q.c, .int .i64 q.k, .string q.x]
     have Z7 := Lib.hid (setRow_heap _ _ _ #[.slice q.a q.n q.c, .int .i64 q.k, .string q.x] _ _ Y7.out)
     replace Z6 := Lib.hid ((setRow_other _ _ _ #[.slice q.a q.n q.c, .int .i64 q.k, .string q.x] N67.out).trans Z6.out)
     replace Y8 := Lib.hid ((setRow_other _ _ _ #[.slice q.a q.n q.c, .int .i64 q.k, .string q.x] (Ne.symm N78.out)).trans Y8.out)
     refine hK.out _ _ hS (fun _ => ?_)
     clear hK K
     try simp only [Act.put, List.setIfInBounds_toArray, List.set_cons_zero, List.set_cons_succ]
     refine wpAnyH_ready (rs := [11]) (by kernel_rfl) (by simp) (AllReadyH.cons (o := ⟨none, _, _, _, _, _⟩) rfl (fun K hK => ?_) AllReadyH.nil)
     refine step_store_row rfl 38 (.tmp 5) (.tmp 20) rfl _ #[.slice r.a r.n r.c, .int .i64 r.k, .string r.x] rfl rfl 38 _ Y8.out (by kernel_rfl) rfl (pl_one r) ?_
     replace hS := below_setRow hS G8.out #[.slice r.a r.n r.c, .int .i64 r.k, .string r.x]
     have Z8 := Lib.hid (setRow_heap _ _ _ #[.slice r.a r.n r.c, .int .i64 r.k, .string r.x] _ _ Y8.out)
     replace Z6 := Lib.hid ((setRow_other _ _ _ #[.slice r.a r.n r.c, .int .i64 r.k, .string r.x] N68.out).trans Z6.out)
     replace Z7 := Lib.hid ((setRow_other _ _ _ #[.slice r.a r.n r.c, .int .i64 r.k, .string r.x] N78.out).trans Z7.out)
     refine hK.out _ _ hS (fun _ => ?_)
     clear hK K
     try simp only [Act.put, List.setIfInBounds_toArray, List.set_cons_zero, List.set_cons_succ]
     refine wpAnyH_done (by kernel_rfl) (NoPanic.normal ?_) _
    case' way4 =>
     go_simp
     refine hK.out _ _ (hS.alloc hS.size _) (fun _ => ?_)
     clear hK K
     refine wpAnyH_madeK hS hS.size ?_
     have hS0 := hS
     clear hS
     rintro v8 hw hS
     have Y8 := Lib.hid (made_at hw)
     have G8 := Lib.hid hS0.size
     (try have N68 := Lib.hid (Nat.ne_of_lt (Array.getElem?_eq_some_iff.1 Y6.out).1))
     (try have N78 := Lib.hid (Nat.ne_of_lt (Array.getElem?_eq_some_iff.1 Y7.out).1))
     (try replace Y6 := Lib.hid (boxStays (w' := v8) Y6.out (by rw [hw]; exact below_new _ _)))
     (try replace Y7 := Lib.hid (boxStays (w' := v8) Y7.out (by rw [hw]; exact below_new _ _)))
     clear hw hS0
     try simp only [Act.put, List.setIfInBounds_toArray, List.set_cons_zero, List.set_cons_succ]
     refine wpAnyH_ready (rs := [7]) (by kernel_rfl) (by simp) (AllReadyH.cons (o := ⟨some 4, _, _, _, _, _⟩) rfl (fun K hK => ?_) AllReadyH.nil)
     go_simp
     refine hK.out _ _ (hS.alloc hS.size _) (fun _ => ?_)
     clear hK K
     refine wpAnyH_madeK hS hS.size ?_
     have hS0 := hS
     clear hS
     rintro v7 hw hS
     have Y7 := Lib.hid (made_at hw)
     have G7 := Lib.hid hS0.size
     (try have N67 := Lib.hid (Nat.ne_of_lt (Array.getElem?_eq_some_iff.1 Y6.out).1))
     (try have N78 := Lib.hid ((Nat.ne_of_lt (Array.getElem?_eq_some_iff.1 Y8.out).1).symm))
     (try replace Y6 := Lib.hid (boxStays (w' := v7) Y6.out (by rw [hw]; exact below_new _ _)))
     (try replace Y8 := Lib.hid (boxStays (w' := v7) Y8.out (by rw [hw]; exact below_new _ _)))
     clear hw hS0
     try simp only [Act.put, List.setIfInBounds_toArray, List.set_cons_zero, List.set_cons_succ]
     refine wpAnyH_ready (rs := [9]) (by kernel_rfl) (by simp) (AllReadyH.cons (o := ⟨none, _, _, _, _, _⟩) rfl (fun K hK => ?_) AllReadyH.nil)
     refine step_store_row rfl 38 (.tmp 3) (.tmp 16) rfl _ #[.slice p.a p.n p.c, .int .i64 p.k, .string p.x] rfl rfl 38 _ Y6.out (by kernel_rfl) rfl (pl_one p) ?_
     replace hS := below_setRow hS G6.out #[.slice p.a p.n p.c, .int .i64 p.k, .string p.x]
     have Z6 := Lib.hid (setRow_heap _ _ _ #[.slice p.a p.n p.c, .int .i64 p.k, .string p.x] _ _ Y6.out)
     replace Y7 := Lib.hid ((setRow_other _ _ _ #[.slice p.a p.n p.c, .int .i64 p.k, .string p.x] (Ne.symm N67.out)).trans Y7.out)
     replace Y8 := Lib.hid ((setRow_other _ _ _ #[.slice p.a p.n p.c, .int .i64 p.k, .string p.x] (Ne.symm N68.out)).trans Y8.out)
     refine hK.out _ _ hS (fun _ => ?_)
     clear hK K
     try simp only [Act.put, List.setIfInBounds_toArray, List.set_cons_zero, List.set_cons_succ]
     refine wpAnyH_ready (rs := [10]) (by kernel_rfl) (by simp) (AllReadyH.cons (o := ⟨none, _, _, _, _, _⟩) rfl (fun K hK => ?_) AllReadyH.nil)
     refine step_store_row rfl 38 (.tmp 4) (.tmp 18) rfl _ #[.slice q.a q.n q.c, .int .i64 q.k, .string q.x] rfl rfl 38 _ Y7.out (by kernel_rfl) rfl (pl_one q) ?_
     replace hS := below_setRow hS G7.out #[.slice q.a q.n q.c, .int .i64 q.k, .string q.x]
     have Z7 := Lib.hid (setRow_heap _ _ _ #[.slice q.a q.n q.c, .int .i64 q.k, .string q.x] _ _ Y7.out)
     replace Z6 := Lib.hid ((setRow_other _ _ _ #[.slice q.a q.n q.c, .int .i64 q.k, .string q.x] N67.out).trans Z6.out)
     replace Y8 := Lib.hid ((setRow_other _ _ _ #[.slice q.a q.n q.c, .int .i64 q.k, .string q.x] (Ne.symm N78.out)).trans Y8.out)
     refine hK.out _ _ hS (fun _ => ?_)
     clear hK K
     try simp only [Act.put, List.setIfInBounds_toArray, List.set_cons_zero, List.set_cons_succ]
     refine wpAnyH_ready (rs := [11]) (by kernel_rfl) (by simp) (AllReadyH.cons (o := ⟨none, _, _, _, _, _⟩) rfl (fun K hK => ?_) AllReadyH.nil)
     refine step_store_row rfl 38 (.tmp 5) (.tmp 20) rfl _ #[.slice r.a r.n r.c, .int .i64 r.k, .string r.x] rfl rfl 38 _ Y8.out (by kernel_rfl) rfl (pl_one r) ?_
     replace hS := below_setRow hS G8.out #[.slice r.a r.n r.c, .int .i64 r.k, .string r.x]
     have Z8 := Lib.hid (setRow_heap _ _ _ #[.slice r.a r.n r.c, .int .i64 r.k, .string r.x] _ _ Y8.out)
     replace Z6 := Lib.hid ((setRow_other _ _ _ #[.slice r.a r.n r.c, .int .i64 r.k, .string r.x] N68.out).trans Z6.out)
     replace Z7 := Lib.hid ((setRow_other _ _ _ #[.slice r.a r.n r.c, .int .i64 r.k, .string r.x] N78.out).trans Z7.out)
     refine hK.out _ _ hS (fun _ => ?_)
     clear hK K
     try simp only [Act.put, List.setIfInBounds_toArray, List.set_cons_zero, List.set_cons_succ]
     refine wpAnyH_done (by kernel_rfl) (NoPanic.normal ?_) _
   case' way2 =>
    go_simp
    refine hK.out _ _ (hS.alloc hS.size _) (fun _ => ?_)
    clear hK K
    refine wpAnyH_madeK hS hS.size ?_
    have hS0 := hS
    clear hS
    rintro v7 hw hS
    have Y7 := Lib.hid (made_at hw)
    have G7 := Lib.hid hS0.size
    (try have N67 := Lib.hid (Nat.ne_of_lt (Array.getElem?_eq_some_iff.1 Y6.out).1))
    (try have N78 := Lib.hid ((Nat.ne_of_lt (Array.getElem?_eq_some_iff.1 Y8.out).1).symm))
    (try replace Y6 := Lib.hid (boxStays (w' := v7) Y6.out (by rw [hw]; exact below_new _ _)))
    (try replace Y8 := Lib.hid (boxStays (w' := v7) Y8.out (by rw [hw]; exact below_new _ _)))
    clear hw hS0
    try simp only [Act.put, List.setIfInBounds_toArray, List.set_cons_zero, List.set_cons_succ]
    refine wpAnyH_ready (rs := [6, 8]) (by kernel_rfl) (by simp) (AllReadyH.cons (o := ⟨some 3, _, _, _, _, _⟩) rfl (fun K hK => ?way7) (AllReadyH.cons (o := ⟨some 5, _, _, _, _, _⟩) rfl (fun K hK => ?way6) AllReadyH.nil))
    case' way7 =>
     go_simp
     refine hK.out _ _ (hS.alloc hS.size _) (fun _ => ?_)
     clear hK K
     refine wpAnyH_madeK hS hS.size ?_
     have hS0 := hS
     clear hS
     rintro v6 hw hS
     have Y6 := Lib.hid (made_at hw)
     have G6 := Lib.hid hS0.size
     (try have N67 := Lib.hid ((Nat.ne_of_lt (Array.getElem?_eq_some_iff.1 Y7.out).1).symm))
     (try have N68 := Lib.hid ((Nat.ne_of_lt (Array.getElem?_eq_some_iff.1 Y8.out).1).symm))
     (try replace Y7 := Lib.hid (boxStays (w' := v6) Y7.out (by rw [hw]; exact below_new _ _)))
     (try replace Y8 := Lib.hid (boxStays (w' := v6) Y8.out (by rw [hw]; exact below_new _ _)))
     clear hw hS0
     try simp only [Act.put, List.setIfInBounds_toArray, List.set_cons_zero, List.set_cons_succ]
     refine wpAnyH_ready (rs := [8]) (by kernel_rfl) (by simp) (AllReadyH.cons (o := ⟨some 5, _, _, _, _, _⟩) rfl (fun K hK => ?_) AllReadyH.nil)
     go_simp
     refine hK.out _ _ (hS.alloc hS.size _) (fun _ => ?_)
     clear hK K
     refine wpAnyH_madeK hS hS.size ?_
     have hS0 := hS
     clear hS
     rintro v8 hw hS
     have Y8 := Lib.hid (made_at hw)
     have G8 := Lib.hid hS0.size
     (try have N68 := Lib.hid (Nat.ne_of_lt (Array.getElem?_eq_some_iff.1 Y6.out).1))
     (try have N78 := Lib.hid (Nat.ne_of_lt (Array.getElem?_eq_some_iff.1 Y7.out).1))
     (try replace Y6 := Lib.hid (boxStays (w' := v8) Y6.out (by rw [hw]; exact below_new _ _)))
     (try replace Y7 := Lib.hid (boxStays (w' := v8) Y7.out (by rw [hw]; exact below_new _ _)))
     clear hw hS0
     try simp only [Act.put, List.setIfInBounds_toArray, List.set_cons_zero, List.set_cons_succ]
     refine wpAnyH_ready (rs := [9]) (by kernel_rfl) (by simp) (AllReadyH.cons (o := ⟨none, _, _, _, _, _⟩) rfl (fun K hK => ?_) AllReadyH.nil)
     refine step_store_row rfl 38 (.tmp 3) (.tmp 16) rfl _ #[.slice p.a p.n p.c, .int .i64 p.k, .string p.x] rfl rfl 38 _ Y6.out (by kernel_rfl) rfl (pl_one p) ?_
     replace hS := below_setRow hS G6.out #[.slice p.a p.n p.c, .int .i64 p.k, .string p.x]
     have Z6 := Lib.hid (setRow_heap _ _ _ #[.slice p.a p.n p.c, .int .i64 p.k, .string p.x] _ _ Y6.out)
     replace Y7 := Lib.hid ((setRow_other _ _ _ #[.slice p.a p.n p.c, .int .i64 p.k, .string p.x] (Ne.symm N67.out)).trans Y7.out)
     replace Y8 := Lib.hid ((setRow_other _ _ _ #[.slice p.a p.n p.c, .int .i64 p.k, .string p.x] (Ne.symm N68.out)).trans Y8.out)
     refine hK.out _ _ hS (fun _ => ?_)
     clear hK K
     try simp only [Act.put, List.setIfInBounds_toArray, List.set_cons_zero, List.set_cons_succ]
     refine wpAnyH_ready (rs := [10]) (by kernel_rfl) (by simp) (AllReadyH.cons (o := ⟨none, _, _, _, _, _⟩) rfl (fun K hK => ?_) AllReadyH.nil)
     refine step_store_row rfl 38 (.tmp 4) (.tmp 18) rfl _ #[.slice q.a q.n q.c, .int .i64 q.k, .string q.x] rfl rfl 38 _ Y7.out (by kernel_rfl) rfl (pl_one q) ?_
     replace hS := below_setRow hS G7.out #[.slice q.a q.n q.c, .int .i64 q.k, .string q.x]
     have Z7 := Lib.hid (setRow_heap _ _ _ #[.slice q.a q.n q.c, .int .i64 q.k, .string q.x] _ _ Y7.out)
     replace Z6 := Lib.hid ((setRow_other _ _ _ #[.slice q.a q.n q.c, .int .i64 q.k, .string q.x] N67.out).trans Z6.out)
     replace Y8 := Lib.hid ((setRow_other _ _ _ #[.slice q.a q.n q.c, .int .i64 q.k, .string q.x] (Ne.symm N78.out)).trans Y8.out)
     refine hK.out _ _ hS (fun _ => ?_)
     clear hK K
     try simp only [Act.put, List.setIfInBounds_toArray, List.set_cons_zero, List.set_cons_succ]
     refine wpAnyH_ready (rs := [11]) (by kernel_rfl) (by simp) (AllReadyH.cons (o := ⟨none, _, _, _, _, _⟩) rfl (fun K hK => ?_) AllReadyH.nil)
     refine step_store_row rfl 38 (.tmp 5) (.tmp 20) rfl _ #[.slice r.a r.n r.c, .int .i64 r.k, .string r.x] rfl rfl 38 _ Y8.out (by kernel_rfl) rfl (pl_one r) ?_
     replace hS := below_setRow hS G8.out #[.slice r.a r.n r.c, .int .i64 r.k, .string r.x]
     have Z8 := Lib.hid (setRow_heap _ _ _ #[.slice r.a r.n r.c, .int .i64 r.k, .string r.x] _ _ Y8.out)
     replace Z6 := Lib.hid ((setRow_other _ _ _ #[.slice r.a r.n r.c, .int .i64 r.k, .string r.x] N68.out).trans Z6.out)
     replace Z7 := Lib.hid ((setRow_other _ _ _ #[.slice r.a r.n r.c, .int .i64 r.k, .string r.x] N78.out).trans Z7.out)
     refine hK.out _ _ hS (fun _ => ?_)
     clear hK K
     try simp only [Act.put, List.setIfInBounds_toArray, List.set_cons_zero, List.set_cons_succ]
     refine wpAnyH_done (by kernel_rfl) (NoPanic.normal ?_) _
    case' way6 =>
     go_simp
     refine hK.out _ _ (hS.alloc hS.size _) (fun _ => ?_)
     clear hK K
     refine wpAnyH_madeK hS hS.size ?_
     have hS0 := hS
     clear hS
     rintro v8 hw hS
     have Y8 := Lib.hid (made_at hw)
     have G8 := Lib.hid hS0.size
     (try have N68 := Lib.hid (Nat.ne_of_lt (Array.getElem?_eq_some_iff.1 Y6.out).1))
     (try have N78 := Lib.hid (Nat.ne_of_lt (Array.getElem?_eq_some_iff.1 Y7.out).1))
     (try replace Y6 := Lib.hid (boxStays (w' := v8) Y6.out (by rw [hw]; exact below_new _ _)))
     (try replace Y7 := Lib.hid (boxStays (w' := v8) Y7.out (by rw [hw]; exact below_new _ _)))
     clear hw hS0
     try simp only [Act.put, List.setIfInBounds_toArray, List.set_cons_zero, List.set_cons_succ]
     refine wpAnyH_ready (rs := [6]) (by kernel_rfl) (by simp) (AllReadyH.cons (o := ⟨some 3, _, _, _, _, _⟩) rfl (fun K hK => ?_) AllReadyH.nil)
     go_simp
     refine hK.out _ _ (hS.alloc hS.size _) (fun _ => ?_)
     clear hK K
     refine wpAnyH_madeK hS hS.size ?_
     have hS0 := hS
     clear hS
     rintro v6 hw hS
     have Y6 := Lib.hid (made_at hw)
     have G6 := Lib.hid hS0.size
     (try have N67 := Lib.hid ((Nat.ne_of_lt (Array.getElem?_eq_some_iff.1 Y7.out).1).symm))
     (try have N68 := Lib.hid ((Nat.ne_of_lt (Array.getElem?_eq_some_iff.1 Y8.out).1).symm))
     (try replace Y7 := Lib.hid (boxStays (w' := v6) Y7.out (by rw [hw]; exact below_new _ _)))
     (try replace Y8 := Lib.hid (boxStays (w' := v6) Y8.out (by rw [hw]; exact below_new _ _)))
     clear hw hS0
     try simp only [Act.put, List.setIfInBounds_toArray, List.set_cons_zero, List.set_cons_succ]
     refine wpAnyH_ready (rs := [9]) (by kernel_rfl) (by simp) (AllReadyH.cons (o := ⟨none, _, _, _, _, _⟩) rfl (fun K hK => ?_) AllReadyH.nil)
     refine step_store_row rfl 38 (.tmp 3) (.tmp 16) rfl _ #[.slice p.a p.n p.c, .int .i64 p.k, .string p.x] rfl rfl 38 _ Y6.out (by kernel_rfl) rfl (pl_one p) ?_
     replace hS := below_setRow hS G6.out #[.slice p.a p.n p.c, .int .i64 p.k, .string p.x]
     have Z6 := Lib.hid (setRow_heap _ _ _ #[.slice p.a p.n p.c, .int .i64 p.k, .string p.x] _ _ Y6.out)
     replace Y7 := Lib.hid ((setRow_other _ _ _ #[.slice p.a p.n p.c, .int .i64 p.k, .string p.x] (Ne.symm N67.out)).trans Y7.out)
     replace Y8 := Lib.hid ((setRow_other _ _ _ #[.slice p.a p.n p.c, .int .i64 p.k, .string p.x] (Ne.symm N68.out)).trans Y8.out)
     refine hK.out _ _ hS (fun _ => ?_)
     clear hK K
     try simp only [Act.put, List.setIfInBounds_toArray, List.set_cons_zero, List.set_cons_succ]
     refine wpAnyH_ready (rs := [10]) (by kernel_rfl) (by simp) (AllReadyH.cons (o := ⟨none, _, _, _, _, _⟩) rfl (fun K hK => ?_) AllReadyH.nil)
     refine step_store_row rfl 38 (.tmp 4) (.tmp 18) rfl _ #[.slice q.a q.n q.c, .int .i64 q.k, .string q.x] rfl rfl 38 _ Y7.out (by kernel_rfl) rfl (pl_one q) ?_
     replace hS := below_setRow hS G7.out #[.slice q.a q.n q.c, .int .i64 q.k, .string q.x]
     have Z7 := Lib.hid (setRow_heap _ _ _ #[.slice q.a q.n q.c, .int .i64 q.k, .string q.x] _ _ Y7.out)
     replace Z6 := Lib.hid ((setRow_other _ _ _ #[.slice q.a q.n q.c, .int .i64 q.k, .string q.x] N67.out).trans Z6.out)
     replace Y8 := Lib.hid ((setRow_other _ _ _ #[.slice q.a q.n q.c, .int .i64 q.k, .string q.x] (Ne.symm N78.out)).trans Y8.out)
     refine hK.out _ _ hS (fun _ => ?_)
     clear hK K
     try simp only [Act.put, List.setIfInBounds_toArray, List.set_cons_zero, List.set_cons_succ]
     refine wpAnyH_ready (rs := [11]) (by kernel_rfl) (by simp) (AllReadyH.cons (o := ⟨none, _, _, _, _, _⟩) rfl (fun K hK => ?_) AllReadyH.nil)
     refine step_store_row rfl 38 (.tmp 5) (.tmp 20) rfl _ #[.slice r.a r.n r.c, .int .i64 r.k, .string r.x] rfl rfl 38 _ Y8.out (by kernel_rfl) rfl (pl_one r) ?_
     replace hS := below_setRow hS G8.out #[.slice r.a r.n r.c, .int .i64 r.k, .string r.x]
     have Z8 := Lib.hid (setRow_heap _ _ _ #[.slice r.a r.n r.c, .int .i64 r.k, .string r.x] _ _ Y8.out)
     replace Z6 := Lib.hid ((setRow_other _ _ _ #[.slice r.a r.n r.c, .int .i64 r.k, .string r.x] N68.out).trans Z6.out)
     replace Z7 := Lib.hid ((setRow_other _ _ _ #[.slice r.a r.n r.c, .int .i64 r.k, .string r.x] N78.out).trans Z7.out)
     refine hK.out _ _ hS (fun _ => ?_)
     clear hK K
     try simp only [Act.put, List.setIfInBounds_toArray, List.set_cons_zero, List.set_cons_succ]
     refine wpAnyH_done (by kernel_rfl) (NoPanic.normal ?_) _
   case' way1 =>
    go_simp
    refine hK.out _ _ (hS.alloc hS.size _) (fun _ => ?_)
    clear hK K
    refine wpAnyH_madeK hS hS.size ?_
    have hS0 := hS
    clear hS
    rintro v8 hw hS
    have Y8 := Lib.hid (made_at hw)
    have G8 := Lib.hid hS0.size
    (try have N68 := Lib.hid (Nat.ne_of_lt (Array.getElem?_eq_some_iff.1 Y6.out).1))
    (try have N78 := Lib.hid (Nat.ne_of_lt (Array.getElem?_eq_some_iff.1 Y7.out).1))
    (try replace Y6 := Lib.hid (boxStays (w' := v8) Y6.out (by rw [hw]; exact below_new _ _)))
    (try replace Y7 := Lib.hid (boxStays (w' := v8) Y7.out (by rw [hw]; exact below_new _ _)))
    clear hw hS0
    try simp only [Act.put, List.setIfInBounds_toArray, List.set_cons_zero, List.set_cons_succ]
    refine wpAnyH_ready (rs := [6, 7]) (by kernel_rfl) (by simp) (AllReadyH.cons (o := ⟨some 3, _, _, _, _, _⟩) rfl (fun K hK => ?way9) (AllReadyH.cons (o := ⟨some 4, _, _, _, _, _⟩) rfl (fun K hK => ?way8) AllReadyH.nil))
    case' way9 =>
     go_simp
     refine hK.out _ _ (hS.alloc hS.size _) (fun _ => ?_)
     clear hK K
     refine wpAnyH_madeK hS hS.size ?_
     have hS0 := hS
     clear hS
     rintro v6 hw hS
     have Y6 := Lib.hid (made_at hw)
     have G6 := Lib.hid hS0.size
     (try have N67 := Lib.hid ((Nat.ne_of_lt (Array.getElem?_eq_some_iff.1 Y7.out).1).symm))
     (try have N68 := Lib.hid ((Nat.ne_of_lt (Array.getElem?_eq_some_iff.1 Y8.out).1).symm))
     (try replace Y7 := Lib.hid (boxStays (w' := v6) Y7.out (by rw [hw]; exact below_new _ _)))
     (try replace Y8 := Lib.hid (boxStays (w' := v6) Y8.out (by rw [hw]; exact below_new _ _)))
     clear hw hS0
     try simp only [Act.put, List.setIfInBounds_toArray, List.set_cons_zero, List.set_cons_succ]
     refine wpAnyH_ready (rs := [7]) (by kernel_rfl) (by simp) (AllReadyH.cons (o := ⟨some 4, _, _, _, _, _⟩) rfl (fun K hK => ?_) AllReadyH.nil)
     go_simp
     refine hK.out _ _ (hS.alloc hS.size _) (fun _ => ?_)
     clear hK K
     refine wpAnyH_madeK hS hS.size ?_
     have hS0 := hS
     clear hS
     rintro v7 hw hS
     have Y7 := Lib.hid (made_at hw)
     have G7 := Lib.hid hS0.size
     (try have N67 := Lib.hid (Nat.ne_of_lt (Array.getElem?_eq_some_iff.1 Y6.out).1))
     (try have N78 := Lib.hid ((Nat.ne_of_lt (Array.getElem?_eq_some_iff.1 Y8.out).1).symm))
     (try replace Y6 := Lib.hid (boxStays (w' := v7) Y6.out (by rw [hw]; exact below_new _ _)))
     (try replace Y8 := Lib.hid (boxStays (w' := v7) Y8.out (by rw [hw]; exact below_new _ _)))
     clear hw hS0
     try simp only [Act.put, List.setIfInBounds_toArray, List.set_cons_zero, List.set_cons_succ]
     refine wpAnyH_ready (rs := [9]) (by kernel_rfl) (by simp) (AllReadyH.cons (o := ⟨none, _, _, _, _, _⟩) rfl (fun K hK => ?_) AllReadyH.nil)
     refine step_store_row rfl 38 (.tmp 3) (.tmp 16) rfl _ #[.slice p.a p.n p.c, .int .i64 p.k, .string p.x] rfl rfl 38 _ Y6.out (by kernel_rfl) rfl (pl_one p) ?_
     replace hS := below_setRow hS G6.out #[.slice p.a p.n p.c, .int .i64 p.k, .string p.x]
     have Z6 := Lib.hid (setRow_heap _ _ _ #[.slice p.a p.n p.c, .int .i64 p.k, .string p.x] _ _ Y6.out)
     replace Y7 := Lib.hid ((setRow_other _ _ _ #[.slice p.a p.n p.c, .int .i64 p.k, .string p.x] (Ne.symm N67.out)).trans Y7.out)
     replace Y8 := Lib.hid ((setRow_other _ _ _ #[.slice p.a p.n p.c, .int .i64 p.k, .string p.x] (Ne.symm N68.out)).trans Y8.out)
     refine hK.out _ _ hS (fun _ => ?_)
     clear hK K
     try simp only [Act.put, List.setIfInBounds_toArray, List.set_cons_zero, List.set_cons_succ]
     refine wpAnyH_ready (rs := [10]) (by kernel_rfl) (by simp) (AllReadyH.cons (o := ⟨none, _, _, _, _, _⟩) rfl (fun K hK => ?_) AllReadyH.nil)
     refine step_store_row rfl 38 (.tmp 4) (.tmp 18) rfl _ #[.slice q.a q.n q.c, .int .i64 q.k, .string q.x] rfl rfl 38 _ Y7.out (by kernel_rfl) rfl (pl_one q) ?_
     replace hS := below_setRow hS G7.out #[.slice q.a q.n q.c, .int .i64 q.k, .string q.x]
     have Z7 := Lib.hid (setRow_heap _ _ _ #[.slice q.a q.n q.c, .int .i64 q.k, .string q.x] _ _ Y7.out)
     replace Z6 := Lib.hid ((setRow_other _ _ _ #[.slice q.a q.n q.c, .int .i64 q.k, .string q.x] N67.out).trans Z6.out)
     replace Y8 := Lib.hid ((setRow_other _ _ _ #[.slice q.a q.n q.c, .int .i64 q.k, .string q.x] (Ne.symm N78.out)).trans Y8.out)
     refine hK.out _ _ hS (fun _ => ?_)
     clear hK K
     try simp only [Act.put, List.setIfInBounds_toArray, List.set_cons_zero, List.set_cons_succ]
     refine wpAnyH_ready (rs := [11]) (by kernel_rfl) (by simp) (AllReadyH.cons (o := ⟨none, _, _, _, _, _⟩) rfl (fun K hK => ?_) AllReadyH.nil)
     refine step_store_row rfl 38 (.tmp 5) (.tmp 20) rfl _ #[.slice r.a r.n r.c, .int .i64 r.k, .string r.x] rfl rfl 38 _ Y8.out (by kernel_rfl) rfl (pl_one r) ?_
     replace hS := below_setRow hS G8.out #[.slice r.a r.n r.c, .int .i64 r.k, .string r.x]
     have Z8 := Lib.hid (setRow_heap _ _ _ #[.slice r.a r.n r.c, .int .i64 r.k, .string r.x] _ _ Y8.out)
     replace Z6 := Lib.hid ((setRow_other _ _ _ #[.slice r.a r.n r.c, .int .i64 r.k, .string r.x] N68.out).trans Z6.out)
     replace Z7 := Lib.hid ((setRow_other _ _ _ #[.slice r.a r.n r.c, .int .i64 r.k, .string r.x] N78.out).trans Z7.out)
     refine hK.out _ _ hS (fun _ => ?_)
     clear hK K
     try simp only [Act.put, List.setIfInBounds_toArray, List.set_cons_zero, List.set_cons_succ]
     refine wpAnyH_done (by kernel_rfl) (NoPanic.normal ?_) _
    case' way8 =>
     go_simp
     refine hK.out _ _ (hS.alloc hS.size _) (fun _ => ?_)
     clear hK K
     refine wpAnyH_madeK hS hS.size ?_
     have hS0 := hS
     clear hS
     rintro v7 hw hS
     have Y7 := Lib.hid (made_at hw)
     have G7 := Lib.hid hS0.size
     (try have N67 := Lib.hid (Nat.ne_of_lt (Array.getElem?_eq_some_iff.1 Y6.out).1))
     (try have N78 := Lib.hid ((Nat.ne_of_lt (Array.getElem?_eq_some_iff.1 Y8.out).1).symm))
     (try replace Y6 := Lib.hid (boxStays (w' := v7) Y6.out (by rw [hw]; exact below_new _ _)))
     (try replace Y8 := Lib.hid (boxStays (w' := v7) Y8.out (by rw [hw]; exact below_new _ _)))
     clear hw hS0
     try simp only [Act.put, List.setIfInBounds_toArray, List.set_cons_zero, List.set_cons_succ]
     refine wpAnyH_ready (rs := [6]) (by kernel_rfl) (by simp) (AllReadyH.cons (o := ⟨some 3, _, _, _, _, _⟩) rfl (fun K hK => ?_) AllReadyH.nil)
     go_simp
     refine hK.out _ _ (hS.alloc hS.size _) (fun _ => ?_)
     clear hK K
     refine wpAnyH_madeK hS hS.size ?_
     have hS0 := hS
     clear hS
     rintro v6 hw hS
     have Y6 := Lib.hid (made_at hw)
     have G6 := Lib.hid hS0.size
     (try have N67 := Lib.hid ((Nat.ne_of_lt (Array.getElem?_eq_some_iff.1 Y7.out).1).symm))
     (try have N68 := Lib.hid ((Nat.ne_of_lt (Array.getElem?_eq_some_iff.1 Y8.out).1).symm))
     (try replace Y7 := Lib.hid (boxStays (w' := v6) Y7.out (by rw [hw]; exact below_new _ _)))
     (try replace Y8 := Lib.hid (boxStays (w' := v6) Y8.out (by rw [hw]; exact below_new _ _)))
     clear hw hS0
     try simp only [Act.put, List.setIfInBounds_toArray, List.set_cons_zero, List.set_cons_succ]
     refine wpAnyH_ready (rs := [9]) (by kernel_rfl) (by simp) (AllReadyH.cons (o := ⟨none, _, _, _, _, _⟩) rfl (fun K hK => ?_) AllReadyH.nil)
     refine step_store_row rfl 38 (.tmp 3) (.tmp 16) rfl _ #[.slice p.a p.n p.c, .int .i64 p.k, .string p.x] rfl rfl 38 _ Y6.out (by kernel_rfl) rfl (pl_one p) ?_
     replace hS := below_setRow hS G6.out #[.slice p.a p.n p.c, .int .i64 p.k, .string p.x]
     have Z6 := Lib.hid (setRow_heap _ _ _ #[.slice p.a p.n p.c, .int .i64 p.k, .string p.x] _ _ Y6.out)
     replace Y7 := Lib.hid ((setRow_other _ _ _ #[.slice p.a p.n p.c, .int .i64 p.k, .string p.x] (Ne.symm N67.out)).trans Y7.out)
     replace Y8 := Lib.hid ((setRow_other _ _ _ #[.slice p.a p.n p.c, .int .i64 p.k, .string p.x] (Ne.symm N68.out)).trans Y8.out)
     refine hK.out _ _ hS (fun _ => ?_)
     clear hK K
     try simp only [Act.put, List.setIfInBounds_toArray, List.set_cons_zero, List.set_cons_succ]
     refine wpAnyH_ready (rs := [10]) (by kernel_rfl) (by simp) (AllReadyH.cons (o := ⟨none, _, _, _, _, _⟩) rfl (fun K hK => ?_) AllReadyH.nil)
     refine step_store_row rfl 38 (.tmp 4) (.tmp 18) rfl _ #[.slice q.a q.n q.c, .int .i64 q.k, .string q.x] rfl rfl 38 _ Y7.out (by kernel_rfl) rfl (pl_one q) ?_
     replace hS := below_setRow hS G7.out #[.slice q.a q.n q.c, .int .i64 q.k, .string q.x]
     have Z7 := Lib.hid (setRow_heap _ _ _ #[.slice q.a q.n q.c, .int .i64 q.k, .string q.x] _ _ Y7.out)
     replace Z6 := Lib.hid ((setRow_other _ _ _ #[.slice q.a q.n q.c, .int .i64 q.k, .string q.x] N67.out).trans Z6.out)
     replace Y8 := Lib.hid ((setRow_other _ _ _ #[.slice q.a q.n q.c, .int .i64 q.k, .string q.x] (Ne.symm N78.out)).trans Y8.out)
     refine hK.out _ _ hS (fun _ => ?_)
     clear hK K
     try simp only [Act.put, List.setIfInBounds_toArray, List.set_cons_zero, List.set_cons_succ]
     refine wpAnyH_ready (rs := [11]) (by kernel_rfl) (by simp) (AllReadyH.cons (o := ⟨none, _, _, _, _, _⟩) rfl (fun K hK => ?_) AllReadyH.nil)
     refine step_store_row rfl 38 (.tmp 5) (.tmp 20) rfl _ #[.slice r.a r.n r.c, .int .i64 r.k, .string r.x] rfl rfl 38 _ Y8.out (by kernel_rfl) rfl (pl_one r) ?_
     replace hS := below_setRow hS G8.out #[.slice r.a r.n r.c, .int .i64 r.k, .string r.x]
     have Z8 := Lib.hid (setRow_heap _ _ _ #[.slice r.a r.n r.c, .int .i64 r.k, .string r.x] _ _ Y8.out)
     replace Z6 := Lib.hid ((setRow_other _ _ _ #[.slice r.a r.n r.c, .int .i64 r.k, .string r.x] N68.out).trans Z6.out)
     replace Z7 := Lib.hid ((setRow_other _ _ _ #[.slice r.a r.n r.c, .int .i64 r.k, .string r.x] N78.out).trans Z7.out)
     refine hK.out _ _ hS (fun _ => ?_)
     clear hK K
     try simp only [Act.put, List.setIfInBounds_toArray, List.set_cons_zero, List.set_cons_succ]
     refine wpAnyH_done (by kernel_rfl) (NoPanic.normal ?_) _
   all_goals
    go_wp2_with fail
    go_meet
    exact ⟨_, _, _, rfl, rfl, rfl, Z6, Z7, Z8, Lib.hid hS⟩
 case rest =>
  obtain ⟨g3, g4, g5, rfl, rfl, rfl, Y3, Y4, Y5, HBC⟩ := hcut
  obtain ⟨wq, rfl⟩ : ∃ x : World, x = wc := ⟨_, rfl⟩
  have HPC : Hid (PlcAt wq p) := Lib.hid ((HP.out.below (HC.out.to w (by simp))).below HBC.out)
  have HQC : Hid (PlcAt wq q) := Lib.hid ((HQ.out.below (HC.out.to w (by simp))).below HBC.out)
  have HRC : Hid (PlcAt wq r) := Lib.hid ((HR.out.below (HC.out.to w (by simp))).below HBC.out)
  have GC : Hid (Glob wq) := Lib.hid ((G.out.below (HC.out.to w (by simp))).below HBC.out)
  have BWC : Hid (Below w.heap.size w wq) := Lib.hid ((HC.out.to w (by simp)).trans (HBC.out.mono (HC.out.to w (by simp)).size))
  have W1 : Hid (IntKind.i64.wrap (-(plC q p)) = plC p q) := Lib.hid (by rw [wrap_neg (plO.rng _ _), plO.neg q p])
  have W2 : Hid (IntKind.i64.wrap (-(pathC q.l p.l)) = pathC p.l q.l) := Lib.hid (by rw [wrap_neg (pathO.rng _ _), pathO.neg q.l p.l])
  have W3 : Hid (IntKind.i64.wrap (-(txtC q.x p.x)) = txtC p.x q.x) := Lib.hid (by rw [wrap_neg (txtO.rng _ _), txtO.neg q.x p.x])
  clear HC MB G HP HQ HR HBC HM Sz
  go_upto_region 4 with (fail)
  go_cut [80] (fun u80 wx => u80 = .bool false ∧ Hid (Below wq.heap.size wq wx))
  case first =>
   obtain ⟨d1, h1⟩ : ∃ d, decide (plC p q ≤ 0) = d := ⟨_, rfl⟩
   obtain ⟨d2, h2⟩ : ∃ d, decide (plC q r ≤ 0) = d := ⟨_, rfl⟩
   have L3 : Hid (d1 = true → d2 = true → decide (0 < plC p r) = false) := Lib.hid (fun e1 e2 => by
    subst e1
    subst e2
    have k1 := of_decide_eq_true h1
    have k2 := of_decide_eq_true h2
    have := plO.trans p q r k1 k2
    exact decide_eq_false (Int.not_lt.2 this))
   have L1 := Lib.hid h1
   have L2 := Lib.hid h2
   clear h1 h2
   cases d1
   case false =>
    as_aux_lemma =>
     have hx0 : True := trivial
     refine relG_start (slots := [21, 22, 23, 24, 25, 26, 27, 28, 29, 30, 31, 32, 33, 34, 35, 36, 37, 38, 39, 40, 41, 42, 43, 44, 45, 46, 47, 48, 49, 50, 51, 52, 53, 54, 55, 56, 57, 58, 59, 60, 61, 62, 63, 64, 65, 66, 67, 68, 69, 70, 71, 72, 73, 74, 75, 76, 77, 78, 79, 80]) (so := []) (by kernel_rfl) (by kernel_rfl) (by rfl) ?_
     refine relG_pure (i := 0) (o := ⟨some 21, _, _, _, _, _⟩) (v := ?v10) [] [3] rfl rfl (by kernel_rfl) (by kernel_rfl) (fun t w1 hB hf hbf => ?y10) ?n10
     case y10 =>
      simp only [BasF] at hbf
      clear hf
      obtain ⟨⟨b3, k3⟩, _⟩ := hbf
      have ya := boxStays Y3.out hB
      have yb := boxStays Y4.out hB
      have yc := boxStays Y5.out hB
      have ca0 := cell_of_row _ g3 0 _ _ _ ya
      have ca1 := cell_of_row _ g3 1 _ _ _ ya
      have ca2 := cell_of_row _ g3 2 _ _ _ ya
      have cb0 := cell_of_row _ g4 0 _ _ _ yb
      have cb1 := cell_of_row _ g4 1 _ _ _ yb
      have cb2 := cell_of_row _ g4 2 _ _ _ yb
      have cc0 := cell_of_row _ g5 0 _ _ _ yc
      have cc1 := cell_of_row _ g5 1 _ _ _ yc
      have cc2 := cell_of_row _ g5 2 _ _ _ yc
      clear ya yb yc
      refine Or.inl ⟨wanted_none rfl, ?_⟩
      rintro _ rfl
      go_simp <;> with_reducible rfl
     refine relG_pure (i := 1) (o := ⟨some 22, _, _, _, _, _⟩) (v := ?v11) [] [4] rfl rfl (by kernel_rfl) (by kernel_rfl) (fun t w1 hB hf hbf => ?y11) ?n11
     case y11 =>
      simp only [BasF] at hbf
      clear hf
      obtain ⟨⟨b4, k4⟩, _⟩ := hbf
      have ya := boxStays Y3.out hB
      have yb := boxStays Y4.out hB
      have yc := boxStays Y5.out hB
      have ca0 := cell_of_row _ g3 0 _ _ _ ya
      have ca1 := cell_of_row _ g3 1 _ _ _ ya
      have ca2 := cell_of_row _ g3 2 _ _ _ ya
      have cb0 := cell_of_row _ g4 0 _ _ _ yb
      have cb1 := cell_of_row _ g4 1 _ _ _ yb
      have cb2 := cell_of_row _ g4 2 _ _ _ yb
      have cc0 := cell_of_row _ g5 0 _ _ _ yc
      have cc1 := cell_of_row _ g5 1 _ _ _ yc
      have cc2 := cell_of_row _ g5 2 _ _ _ yc
      clear ya yb yc
      refine Or.inl ⟨wanted_none rfl, ?_⟩
      rintro _ rfl
      go_simp <;> with_reducible rfl
     refine relG_call (i := 2) (o := ⟨some 23, _, _, _, _, _⟩) ((fun v _ => v = .int .i64 (plC p q))) [(0, 21, 1), (1, 22, 0)] [] rfl rfl (by kernel_rfl) (by kernel_rfl) ((fun _ _ _ h _ => h)) ?_ ?_
     · intro t w1 hB hf hbf K hK
       simp only [DepF, List.getD_cons_zero, List.getD_cons_succ] at hf
       obtain ⟨⟨_, ⟨e21, i21⟩, rfl⟩, ⟨_, ⟨e22, i22⟩, rfl⟩, _⟩ := hf
       clear hbf
       have ya := boxStays Y3.out hB
       have yb := boxStays Y4.out hB
       have yc := boxStays Y5.out hB
       have ca0 := cell_of_row _ g3 0 _ _ _ ya
       have ca1 := cell_of_row _ g3 1 _ _ _ ya
       have ca2 := cell_of_row _ g3 2 _ _ _ ya
       have cb0 := cell_of_row _ g4 0 _ _ _ yb
       have cb1 := cell_of_row _ g4 1 _ _ _ yb
       have cb2 := cell_of_row _ g4 2 _ _ _ yb
       have cc0 := cell_of_row _ g5 0 _ _ _ yc
       have cc1 := cell_of_row _ g5 1 _ _ _ yc
       have cc2 := cell_of_row _ g5 2 _ _ _ yc
       clear ya yb yc
       refine ⟨wanted_none rfl, ?_⟩
       go_simp
       refine (key_CmpPlace p q w1 (HPC.out.below hB) (HQC.out.below hB)).mono ?_
       rintro e w2 ⟨rfl, hb⟩
       exact hK.out _ w2 (rfl) hb
     refine relG_pure (i := 3) (o := ⟨some 24, _, _, _, _, _⟩) (v := ?v12) [] [4] rfl rfl (by kernel_rfl) (by kernel_rfl) (fun t w1 hB hf hbf => ?y12) ?n12
     case y12 =>
      simp only [BasF] at hbf
      clear hf
      obtain ⟨⟨b4, k4⟩, _⟩ := hbf
      have ya := boxStays Y3.out hB
      have yb := boxStays Y4.out hB
      have yc := boxStays Y5.out hB
      have ca0 := cell_of_row _ g3 0 _ _ _ ya
      have ca1 := cell_of_row _ g3 1 _ _ _ ya
      have ca2 := cell_of_row _ g3 2 _ _ _ ya
      have cb0 := cell_of_row _ g4 0 _ _ _ yb
      have cb1 := cell_of_row _ g4 1 _ _ _ yb
      have cb2 := cell_of_row _ g4 2 _ _ _ yb
      have cc0 := cell_of_row _ g5 0 _ _ _ yc
      have cc1 := cell_of_row _ g5 1 _ _ _ yc
      have cc2 := cell_of_row _ g5 2 _ _ _ yc
      clear ya yb yc
      refine Or.inl ⟨wanted_none rfl, ?_⟩
      rintro _ rfl
      go_simp <;> with_reducible rfl
     refine relG_pure (i := 4) (o := ⟨some 25, _, _, _, _, _⟩) (v := ?v13) [] [3] rfl rfl (by kernel_rfl) (by kernel_rfl) (fun t w1 hB hf hbf => ?y13) ?n13
     case y13 =>
      simp only [BasF] at hbf
      clear hf
      obtain ⟨⟨b3, k3⟩, _⟩ := hbf
      have ya := boxStays Y3.out hB
      have yb := boxStays Y4.out hB
      have yc := boxStays Y5.out hB
      have ca0 := cell_of_row _ g3 0 _ _ _ ya
      have ca1 := cell_of_row _ g3 1 _ _ _ ya
      have ca2 := cell_of_row _ g3 2 _ _ _ ya
      have cb0 := cell_of_row _ g4 0 _ _ _ yb
      have cb1 := cell_of_row _ g4 1 _ _ _ yb
      have cb2 := cell_of_row _ g4 2 _ _ _ yb
      have cc0 := cell_of_row _ g5 0 _ _ _ yc
      have cc1 := cell_of_row _ g5 1 _ _ _ yc
      have cc2 := cell_of_row _ g5 2 _ _ _ yc
      clear ya yb yc
      refine Or.inl ⟨wanted_none rfl, ?_⟩
      rintro _ rfl
      go_simp <;> with_reducible rfl
     refine relG_call (i := 5) (o := ⟨some 26, _, _, _, _, _⟩) ((fun v _ => v = .int .i64 (plC q p))) [(3, 24, 1), (4, 25, 0)] [] rfl rfl (by kernel_rfl) (by kernel_rfl) ((fun _ _ _ h _ => h)) ?_ ?_
     · intro t w1 hB hf hbf K hK
       simp only [DepF, List.getD_cons_zero, List.getD_cons_succ] at hf
       obtain ⟨⟨_, ⟨e24, i24⟩, rfl⟩, ⟨_, ⟨e25, i25⟩, rfl⟩, _⟩ := hf
       clear hbf
       have ya := boxStays Y3.out hB
       have yb := boxStays Y4.out hB
       have yc := boxStays Y5.out hB
       have ca0 := cell_of_row _ g3 0 _ _ _ ya
       have ca1 := cell_of_row _ g3 1 _ _ _ ya
       have ca2 := cell_of_row _ g3 2 _ _ _ ya
       have cb0 := cell_of_row _ g4 0 _ _ _ yb
       have cb1 := cell_of_row _ g4 1 _ _ _ yb
       have cb2 := cell_of_row _ g4 2 _ _ _ yb
       have cc0 := cell_of_row _ g5 0 _ _ _ yc
       have cc1 := cell_of_row _ g5 1 _ _ _ yc
       have cc2 := cell_of_row _ g5 2 _ _ _ yc
       clear ya yb yc
       refine ⟨wanted_none rfl, ?_⟩
       go_simp
       refine (key_CmpPlace q p w1 (HQC.out.below hB) (HPC.out.below hB)).mono ?_
       rintro e w2 ⟨rfl, hb⟩
       exact hK.out _ w2 (rfl) hb
     refine relG_pure (i := 6) (o := ⟨some 27, _, _, _, _, _⟩) (v := ?v14) [(5, 26, 0)] [] rfl rfl (by kernel_rfl) (by kernel_rfl) (fun t w1 hB hf hbf => ?y14) ?n14
     case y14 =>
      simp only [DepF, List.getD_cons_zero] at hf
      obtain ⟨⟨_, ⟨e26, i26⟩, rfl⟩, _⟩ := hf
      clear hbf
      have ya := boxStays Y3.out hB
      have yb := boxStays Y4.out hB
      have yc := boxStays Y5.out hB
      have ca0 := cell_of_row _ g3 0 _ _ _ ya
      have ca1 := cell_of_row _ g3 1 _ _ _ ya
      have ca2 := cell_of_row _ g3 2 _ _ _ ya
      have cb0 := cell_of_row _ g4 0 _ _ _ yb
      have cb1 := cell_of_row _ g4 1 _ _ _ yb
      have cb2 := cell_of_row _ g4 2 _ _ _ yb
      have cc0 := cell_of_row _ g5 0 _ _ _ yc
      have cc1 := cell_of_row _ g5 1 _ _ _ yc
      have cc2 := cell_of_row _ g5 2 _ _ _ yc
      clear ya yb yc
      have wz := W1.out
      refine Or.inl ⟨wanted_none rfl, ?_⟩
      rintro _ rfl
      go_simp <;> with_reducible rfl
     refine relG_pure (i := 7) (o := ⟨some 28, _, _, _, _, _⟩) (v := ?v15) [(2, 23, 4), (6, 27, 0)] [] rfl rfl (by kernel_rfl) (by kernel_rfl) (fun t w1 hB hf hbf => ?y15) ?n15
     case y15 =>
      simp only [DepF, List.getD_cons_zero, List.getD_cons_succ] at hf
      obtain ⟨⟨_, ⟨e23, i23⟩, rfl⟩, ⟨_, ⟨e27, i27⟩, rfl⟩, _⟩ := hf
      clear hbf
      have ya := boxStays Y3.out hB
      have yb := boxStays Y4.out hB
      have yc := boxStays Y5.out hB
      have ca0 := cell_of_row _ g3 0 _ _ _ ya
      have ca1 := cell_of_row _ g3 1 _ _ _ ya
      have ca2 := cell_of_row _ g3 2 _ _ _ ya
      have cb0 := cell_of_row _ g4 0 _ _ _ yb
      have cb1 := cell_of_row _ g4 1 _ _ _ yb
      have cb2 := cell_of_row _ g4 2 _ _ _ yb
      have cc0 := cell_of_row _ g5 0 _ _ _ yc
      have cc1 := cell_of_row _ g5 1 _ _ _ yc
      have cc2 := cell_of_row _ g5 2 _ _ _ yc
      clear ya yb yc
      have nq := bne_self (plC p q)
      refine Or.inl ⟨wanted_none rfl, ?_⟩
      rintro _ rfl
      go_simp <;> with_reducible rfl
     refine relG_pure (i := 8) (o := ⟨some 29, _, _, _, _, _⟩) (v := ?v16) [(7, 28, 0)] [] rfl rfl (by kernel_rfl) (by kernel_rfl) (fun t w1 hB hf hbf => ?y16) ?n16
     case y16 =>
      simp only [DepF, List.getD_cons_zero] at hf
      obtain ⟨⟨_, ⟨e28, i28⟩, rfl⟩, _⟩ := hf
      clear hbf
      have ya := boxStays Y3.out hB
      have yb := boxStays Y4.out hB
      have yc := boxStays Y5.out hB
      have ca0 := cell_of_row _ g3 0 _ _ _ ya
      have ca1 := cell_of_row _ g3 1 _ _ _ ya
      have ca2 := cell_of_row _ g3 2 _ _ _ ya
      have cb0 := cell_of_row _ g4 0 _ _ _ yb
      have cb1 := cell_of_row _ g4 1 _ _ _ yb
      have cb2 := cell_of_row _ g4 2 _ _ _ yb
      have cc0 := cell_of_row _ g5 0 _ _ _ yc
      have cc1 := cell_of_row _ g5 1 _ _ _ yc
      have cc2 := cell_of_row _ g5 2 _ _ _ yc
      clear ya yb yc
      refine Or.inl ⟨wanted_none rfl, ?_⟩
      rintro _ rfl
      go_simp <;> with_reducible rfl
     refine relG_pure (i := 9) (o := ⟨some 30, _, _, _, _, _⟩) (v := ?v17) [(8, 29, 0)] [3] rfl rfl (by kernel_rfl) (by kernel_rfl) (fun t w1 hB hf hbf => ?y17) ?n17
     case y17 =>
      simp only [DepF, List.getD_cons_zero] at hf
      simp only [BasF] at hbf
      obtain ⟨⟨_, ⟨e29, i29⟩, rfl⟩, _⟩ := hf
      obtain ⟨⟨b3, k3⟩, _⟩ := hbf
      have ya := boxStays Y3.out hB
      have yb := boxStays Y4.out hB
      have yc := boxStays Y5.out hB
      have ca0 := cell_of_row _ g3 0 _ _ _ ya
      have ca1 := cell_of_row _ g3 1 _ _ _ ya
      have ca2 := cell_of_row _ g3 2 _ _ _ ya
      have cb0 := cell_of_row _ g4 0 _ _ _ yb
      have cb1 := cell_of_row _ g4 1 _ _ _ yb
      have cb2 := cell_of_row _ g4 2 _ _ _ yb
      have cc0 := cell_of_row _ g5 0 _ _ _ yc
      have cc1 := cell_of_row _ g5 1 _ _ _ yc
      have cc2 := cell_of_row _ g5 2 _ _ _ yc
      clear ya yb yc
      refine Or.inl ⟨(by have hg := getD_some i29; simp [Region.wanted, yielded, hg]), ?_⟩
      rintro _ rfl
      go_simp <;> with_reducible rfl
     refine relG_pure (i := 10) (o := ⟨some 31, _, _, _, _, _⟩) (v := ?v18) [(8, 29, 1)] [3] rfl rfl (by kernel_rfl) (by kernel_rfl) (fun t w1 hB hf hbf => ?y18) ?n18
     case y18 =>
      simp only [DepF, List.getD_cons_zero, List.getD_cons_succ] at hf
      simp only [BasF] at hbf
      obtain ⟨⟨_, ⟨e29, i29⟩, rfl⟩, _⟩ := hf
      obtain ⟨⟨b3, k3⟩, _⟩ := hbf
      have ya := boxStays Y3.out hB
      have yb := boxStays Y4.out hB
      have yc := boxStays Y5.out hB
      have ca0 := cell_of_row _ g3 0 _ _ _ ya
      have ca1 := cell_of_row _ g3 1 _ _ _ ya
      have ca2 := cell_of_row _ g3 2 _ _ _ ya
      have cb0 := cell_of_row _ g4 0 _ _ _ yb
      have cb1 := cell_of_row _ g4 1 _ _ _ yb
      have cb2 := cell_of_row _ g4 2 _ _ _ yb
      have cc0 := cell_of_row _ g5 0 _ _ _ yc
      have cc1 := cell_of_row _ g5 1 _ _ _ yc
      have cc2 := cell_of_row _ g5 2 _ _ _ yc
      clear ya yb yc
      refine Or.inl ⟨(by have hg := getD_some i29; simp [Region.wanted, yielded, hg]), ?_⟩
      rintro _ rfl
      go_simp <;> with_reducible rfl
     refine relG_call (i := 11) (o := ⟨some 32, _, _, _, _, _⟩) ((fun v _ => v = .int .i64 (0))) [(9, 30, 1), (10, 31, 0), (8, 29, 2)] [] rfl rfl (by kernel_rfl) (by kernel_rfl) ((fun _ _ _ h _ => h)) ?_ ?_
     · intro t w1 hB hf hbf K hK
       simp only [DepF, List.getD_cons_zero, List.getD_cons_succ] at hf
       obtain ⟨⟨_, ⟨e30, i30⟩, rfl⟩, ⟨_, ⟨e31, i31⟩, rfl⟩, ⟨_, ⟨e29, i29⟩, rfl⟩, _⟩ := hf
       clear hbf
       have ya := boxStays Y3.out hB
       have yb := boxStays Y4.out hB
       have yc := boxStays Y5.out hB
       have ca0 := cell_of_row _ g3 0 _ _ _ ya
       have ca1 := cell_of_row _ g3 1 _ _ _ ya
       have ca2 := cell_of_row _ g3 2 _ _ _ ya
       have cb0 := cell_of_row _ g4 0 _ _ _ yb
       have cb1 := cell_of_row _ g4 1 _ _ _ yb
       have cb2 := cell_of_row _ g4 2 _ _ _ yb
       have cc0 := cell_of_row _ g5 0 _ _ _ yc
       have cc1 := cell_of_row _ g5 1 _ _ _ yc
       have cc2 := cell_of_row _ g5 2 _ _ _ yc
       clear ya yb yc
       refine ⟨(by have hg := getD_some i29; simp [Region.wanted, yielded, hg]), ?_⟩
       go_simp
       refine (key_CmpPlace p p w1 (HPC.out.below hB) (HPC.out.below hB)).mono ?_
       rintro e w2 ⟨rfl, hb⟩
       exact hK.out _ w2 (by rw [plO.self]) hb
     refine relG_pure (i := 12) (o := ⟨some 33, _, _, _, _, _⟩) (v := ?v19) [(11, 32, 0), (8, 29, 3)] [] rfl rfl (by kernel_rfl) (by kernel_rfl) (fun t w1 hB hf hbf => ?y19) ?n19
     case y19 =>
      simp only [DepF, List.getD_cons_zero, List.getD_cons_succ] at hf
      obtain ⟨⟨_, ⟨e32, i32⟩, rfl⟩, ⟨_, ⟨e29, i29⟩, rfl⟩, _⟩ := hf
      clear hbf
      have ya := boxStays Y3.out hB
      have yb := boxStays Y4.out hB
      have yc := boxStays Y5.out hB
      have ca0 := cell_of_row _ g3 0 _ _ _ ya
      have ca1 := cell_of_row _ g3 1 _ _ _ ya
      have ca2 := cell_of_row _ g3 2 _ _ _ ya
      have cb0 := cell_of_row _ g4 0 _ _ _ yb
      have cb1 := cell_of_row _ g4 1 _ _ _ yb
      have cb2 := cell_of_row _ g4 2 _ _ _ yb
      have cc0 := cell_of_row _ g5 0 _ _ _ yc
      have cc1 := cell_of_row _ g5 1 _ _ _ yc
      have cc2 := cell_of_row _ g5 2 _ _ _ yc
      clear ya yb yc
      refine Or.inl ⟨(by have hg := getD_some i29; simp [Region.wanted, yielded, hg]), ?_⟩
      rintro _ rfl
      go_simp <;> with_reducible rfl
     refine relG_pure (i := 13) (o := ⟨some 34, _, _, _, _, _⟩) (v := ?v20) [(8, 29, 4), (12, 33, 0)] [] rfl rfl (by kernel_rfl) (by kernel_rfl) (fun t w1 hB hf hbf => ?y20) ?n20
     case y20 =>
      simp only [DepF, List.getD_cons_zero, List.getD_cons_succ] at hf
      obtain ⟨⟨_, ⟨e29, i29⟩, rfl⟩, ⟨_, ⟨e33, i33⟩, rfl⟩, _⟩ := hf
      clear hbf
      have ya := boxStays Y3.out hB
      have yb := boxStays Y4.out hB
      have yc := boxStays Y5.out hB
      have ca0 := cell_of_row _ g3 0 _ _ _ ya
      have ca1 := cell_of_row _ g3 1 _ _ _ ya
      have ca2 := cell_of_row _ g3 2 _ _ _ ya
      have cb0 := cell_of_row _ g4 0 _ _ _ yb
      have cb1 := cell_of_row _ g4 1 _ _ _ yb
      have cb2 := cell_of_row _ g4 2 _ _ _ yb
      have cc0 := cell_of_row _ g5 0 _ _ _ yc
      have cc1 := cell_of_row _ g5 1 _ _ _ yc
      have cc2 := cell_of_row _ g5 2 _ _ _ yc
      clear ya yb yc
      refine Or.inl ⟨wanted_none rfl, ?_⟩
      rintro _ rfl
      go_simp <;> with_reducible rfl
     refine relG_pure (i := 14) (o := ⟨some 35, _, _, _, _, _⟩) (v := ?v21) [(13, 34, 0)] [] rfl rfl (by kernel_rfl) (by kernel_rfl) (fun t w1 hB hf hbf => ?y21) ?n21
     case y21 =>
      simp only [DepF, List.getD_cons_zero] at hf
      obtain ⟨⟨_, ⟨e34, i34⟩, rfl⟩, _⟩ := hf
      clear hbf
      have ya := boxStays Y3.out hB
      have yb := boxStays Y4.out hB
      have yc := boxStays Y5.out hB
      have ca0 := cell_of_row _ g3 0 _ _ _ ya
      have ca1 := cell_of_row _ g3 1 _ _ _ ya
      have ca2 := cell_of_row _ g3 2 _ _ _ ya
      have cb0 := cell_of_row _ g4 0 _ _ _ yb
      have cb1 := cell_of_row _ g4 1 _ _ _ yb
      have cb2 := cell_of_row _ g4 2 _ _ _ yb
      have cc0 := cell_of_row _ g5 0 _ _ _ yc
      have cc1 := cell_of_row _ g5 1 _ _ _ yc
      have cc2 := cell_of_row _ g5 2 _ _ _ yc
      clear ya yb yc
      refine Or.inl ⟨wanted_none rfl, ?_⟩
      rintro _ rfl
      go_simp <;> with_reducible rfl
     refine relG_pure (i := 15) (o := ⟨some 36, _, _, _, _, _⟩) (v := ?v22) [(14, 35, 0)] [3] rfl rfl (by kernel_rfl) (by kernel_rfl) (fun t w1 hB hf hbf => ?y22) ?n22
     case y22 =>
      simp only [DepF, List.getD_cons_zero] at hf
      simp only [BasF] at hbf
      obtain ⟨⟨_, ⟨e35, i35⟩, rfl⟩, _⟩ := hf
      obtain ⟨⟨b3, k3⟩, _⟩ := hbf
      have ya := boxStays Y3.out hB
      have yb := boxStays Y4.out hB
      have yc := boxStays Y5.out hB
      have ca0 := cell_of_row _ g3 0 _ _ _ ya
      have ca1 := cell_of_row _ g3 1 _ _ _ ya
      have ca2 := cell_of_row _ g3 2 _ _ _ ya
      have cb0 := cell_of_row _ g4 0 _ _ _ yb
      have cb1 := cell_of_row _ g4 1 _ _ _ yb
      have cb2 := cell_of_row _ g4 2 _ _ _ yb
      have cc0 := cell_of_row _ g5 0 _ _ _ yc
      have cc1 := cell_of_row _ g5 1 _ _ _ yc
      have cc2 := cell_of_row _ g5 2 _ _ _ yc
      clear ya yb yc
      refine Or.inl ⟨(by have hg := getD_some i35; simp [Region.wanted, yielded, hg]), ?_⟩
      rintro _ rfl
      go_simp <;> with_reducible rfl
     refine relG_pure (i := 16) (o := ⟨some 37, _, _, _, _, _⟩) (v := ?v23) [(14, 35, 1)] [4] rfl rfl (by kernel_rfl) (by kernel_rfl) (fun t w1 hB hf hbf => ?y23) ?n23
     case y23 =>
      simp only [DepF, List.getD_cons_zero, List.getD_cons_succ] at hf
      simp only [BasF] at hbf
      obtain ⟨⟨_, ⟨e35, i35⟩, rfl⟩, _⟩ := hf
      obtain ⟨⟨b4, k4⟩, _⟩ := hbf
      have ya := boxStays Y3.out hB
      have yb := boxStays Y4.out hB
      have yc := boxStays Y5.out hB
      have ca0 := cell_of_row _ g3 0 _ _ _ ya
      have ca1 := cell_of_row _ g3 1 _ _ _ ya
      have ca2 := cell_of_row _ g3 2 _ _ _ ya
      have cb0 := cell_of_row _ g4 0 _ _ _ yb
      have cb1 := cell_of_row _ g4 1 _ _ _ yb
      have cb2 := cell_of_row _ g4 2 _ _ _ yb
      have cc0 := cell_of_row _ g5 0 _ _ _ yc
      have cc1 := cell_of_row _ g5 1 _ _ _ yc
      have cc2 := cell_of_row _ g5 2 _ _ _ yc
      clear ya yb yc
      refine Or.inl ⟨(by have hg := getD_some i35; simp [Region.wanted, yielded, hg]), ?_⟩
      rintro _ rfl
      go_simp <;> with_reducible rfl
     refine relG_call (i := 17) (o := ⟨some 38, _, _, _, _, _⟩) ((fun v _ => v = .int .i64 (plC p q))) [(15, 36, 1), (16, 37, 0), (14, 35, 2)] [] rfl rfl (by kernel_rfl) (by kernel_rfl) ((fun _ _ _ h _ => h)) ?_ ?_
     · intro t w1 hB hf hbf K hK
       simp only [DepF, List.getD_cons_zero, List.getD_cons_succ] at hf
       obtain ⟨⟨_, ⟨e36, i36⟩, rfl⟩, ⟨_, ⟨e37, i37⟩, rfl⟩, ⟨_, ⟨e35, i35⟩, rfl⟩, _⟩ := hf
       clear hbf
       have ya := boxStays Y3.out hB
       have yb := boxStays Y4.out hB
       have yc := boxStays Y5.out hB
       have ca0 := cell_of_row _ g3 0 _ _ _ ya
       have ca1 := cell_of_row _ g3 1 _ _ _ ya
       have ca2 := cell_of_row _ g3 2 _ _ _ ya
       have cb0 := cell_of_row _ g4 0 _ _ _ yb
       have cb1 := cell_of_row _ g4 1 _ _ _ yb
       have cb2 := cell_of_row _ g4 2 _ _ _ yb
       have cc0 := cell_of_row _ g5 0 _ _ _ yc
       have cc1 := cell_of_row _ g5 1 _ _ _ yc
       have cc2 := cell_of_row _ g5 2 _ _ _ yc
       clear ya yb yc
       refine ⟨(by have hg := getD_some i35; simp [Region.wanted, yielded, hg]), ?_⟩
       go_simp
       refine (key_CmpPlace p q w1 (HPC.out.below hB) (HQC.out.below hB)).mono ?_
       rintro e w2 ⟨rfl, hb⟩
       exact hK.out _ w2 (rfl) hb
     refine relG_pure (i := 18) (o := ⟨some 39, _, _, _, _, _⟩) (v := ?v24) [(17, 38, 0), (14, 35, 3)] [] rfl rfl (by kernel_rfl) (by kernel_rfl) (fun t w1 hB hf hbf => ?y24) ?n24
     case y24 =>
      simp only [DepF, List.getD_cons_zero, List.getD_cons_succ] at hf
      obtain ⟨⟨_, ⟨e38, i38⟩, rfl⟩, ⟨_, ⟨e35, i35⟩, rfl⟩, _⟩ := hf
      clear hbf
      have ya := boxStays Y3.out hB
      have yb := boxStays Y4.out hB
      have yc := boxStays Y5.out hB
      have ca0 := cell_of_row _ g3 0 _ _ _ ya
      have ca1 := cell_of_row _ g3 1 _ _ _ ya
      have ca2 := cell_of_row _ g3 2 _ _ _ ya
      have cb0 := cell_of_row _ g4 0 _ _ _ yb
      have cb1 := cell_of_row _ g4 1 _ _ _ yb
      have cb2 := cell_of_row _ g4 2 _ _ _ yb
      have cc0 := cell_of_row _ g5 0 _ _ _ yc
      have cc1 := cell_of_row _ g5 1 _ _ _ yc
      have cc2 := cell_of_row _ g5 2 _ _ _ yc
      clear ya yb yc
      have lq := L1.out
      refine Or.inl ⟨(by have hg := getD_some i35; simp [Region.wanted, yielded, hg]), ?_⟩
      rintro _ rfl
      go_simp <;> with_reducible rfl
     refine relG_pure (i := 19) (o := ⟨some 40, _, _, _, _, _⟩) (v := ?v25) [(18, 39, 0), (14, 35, 4)] [] rfl rfl (by kernel_rfl) (by kernel_rfl) (fun t w1 hB hf hbf => ?y25) ?n25
     case y25 =>
      simp only [DepF, List.getD_cons_zero, List.getD_cons_succ] at hf
      obtain ⟨⟨_, ⟨e39, i39⟩, rfl⟩, ⟨_, ⟨e35, i35⟩, rfl⟩, _⟩ := hf
      clear hbf
      have ya := boxStays Y3.out hB
      have yb := boxStays Y4.out hB
      have yc := boxStays Y5.out hB
      have ca0 := cell_of_row _ g3 0 _ _ _ ya
      have ca1 := cell_of_row _ g3 1 _ _ _ ya
      have ca2 := cell_of_row _ g3 2 _ _ _ ya
      have cb0 := cell_of_row _ g4 0 _ _ _ yb
      have cb1 := cell_of_row _ g4 1 _ _ _ yb
      have cb2 := cell_of_row _ g4 2 _ _ _ yb
      have cc0 := cell_of_row _ g5 0 _ _ _ yc
      have cc1 := cell_of_row _ g5 1 _ _ _ yc
      have cc2 := cell_of_row _ g5 2 _ _ _ yc
      clear ya yb yc
      refine Or.inl ⟨(by have hg := getD_some i35; simp [Region.wanted, yielded, hg]), ?_⟩
      rintro _ rfl
      go_simp <;> with_reducible rfl
     refine relG_pure (i := 20) (o := ⟨some 41, _, _, _, _, _⟩) (v := undef) [(19, 40, 0)] [4] rfl rfl (by kernel_rfl) (by kernel_rfl) (fun t w1 hB hf hbf => ?_) ?_
     · simp only [DepF, List.getD_cons_zero] at hf
       obtain ⟨⟨_, ⟨e40, i40⟩, rfl⟩, _⟩ := hf
       exact Or.inr ⟨(by have hg := getD_some i40; simp [Region.wanted, yielded, hg]), rfl⟩
     refine relG_pure (i := 21) (o := ⟨some 42, _, _, _, _, _⟩) (v := undef) [(19, 40, 1)] [5] rfl rfl (by kernel_rfl) (by kernel_rfl) (fun t w1 hB hf hbf => ?_) ?_
     · simp only [DepF, List.getD_cons_zero, List.getD_cons_succ] at hf
       obtain ⟨⟨_, ⟨e40, i40⟩, rfl⟩, _⟩ := hf
       exact Or.inr ⟨(by have hg := getD_some i40; simp [Region.wanted, yielded, hg]), rfl⟩
     refine relG_pure (i := 22) (o := ⟨some 43, _, _, _, _, _⟩) (v := undef) [(20, 41, 1), (21, 42, 0), (19, 40, 2)] [] rfl rfl (by kernel_rfl) (by kernel_rfl) (fun t w1 hB hf hbf => ?_) ?_
     · simp only [DepF, List.getD_cons_zero, List.getD_cons_succ] at hf
       obtain ⟨⟨_, ⟨e41, i41⟩, rfl⟩, ⟨_, ⟨e42, i42⟩, rfl⟩, ⟨_, ⟨e40, i40⟩, rfl⟩, _⟩ := hf
       exact Or.inr ⟨(by have hg := getD_some i40; simp [Region.wanted, yielded, hg]), rfl⟩
     refine relG_pure (i := 23) (o := ⟨some 44, _, _, _, _, _⟩) (v := undef) [(22, 43, 0), (19, 40, 3)] [] rfl rfl (by kernel_rfl) (by kernel_rfl) (fun t w1 hB hf hbf => ?_) ?_
     · simp only [DepF, List.getD_cons_zero, List.getD_cons_succ] at hf
       obtain ⟨⟨_, ⟨e43, i43⟩, rfl⟩, ⟨_, ⟨e40, i40⟩, rfl⟩, _⟩ := hf
       exact Or.inr ⟨(by have hg := getD_some i40; simp [Region.wanted, yielded, hg]), rfl⟩
     refine relG_pure (i := 24) (o := ⟨some 45, _, _, _, _, _⟩) (v := ?v26) [(19, 40, 4), (23, 44, 0), (14, 35, 9)] [] rfl rfl (by kernel_rfl) (by kernel_rfl) (fun t w1 hB hf hbf => ?y26) ?n26
     case y26 =>
      simp only [DepF, List.getD_cons_zero, List.getD_cons_succ] at hf
      obtain ⟨⟨_, ⟨e40, i40⟩, rfl⟩, ⟨_, ⟨e44, i44⟩, rfl⟩, ⟨_, ⟨e35, i35⟩, rfl⟩, _⟩ := hf
      clear hbf
      have ya := boxStays Y3.out hB
      have yb := boxStays Y4.out hB
      have yc := boxStays Y5.out hB
      have ca0 := cell_of_row _ g3 0 _ _ _ ya
      have ca1 := cell_of_row _ g3 1 _ _ _ ya
      have ca2 := cell_of_row _ g3 2 _ _ _ ya
      have cb0 := cell_of_row _ g4 0 _ _ _ yb
      have cb1 := cell_of_row _ g4 1 _ _ _ yb
      have cb2 := cell_of_row _ g4 2 _ _ _ yb
      have cc0 := cell_of_row _ g5 0 _ _ _ yc
      have cc1 := cell_of_row _ g5 1 _ _ _ yc
      have cc2 := cell_of_row _ g5 2 _ _ _ yc
      clear ya yb yc
      refine Or.inl ⟨(by have hg := getD_some i35; simp [Region.wanted, yielded, hg]), ?_⟩
      rintro _ rfl
      go_simp <;> with_reducible rfl
     refine relG_pure (i := 25) (o := ⟨some 46, _, _, _, _, _⟩) (v := ?v27) [(24, 45, 0), (14, 35, 10)] [] rfl rfl (by kernel_rfl) (by kernel_rfl) (fun t w1 hB hf hbf => ?y27) ?n27
     case y27 =>
      simp only [DepF, List.getD_cons_zero, List.getD_cons_succ] at hf
      obtain ⟨⟨_, ⟨e45, i45⟩, rfl⟩, ⟨_, ⟨e35, i35⟩, rfl⟩, _⟩ := hf
      clear hbf
      have ya := boxStays Y3.out hB
      have yb := boxStays Y4.out hB
      have yc := boxStays Y5.out hB
      have ca0 := cell_of_row _ g3 0 _ _ _ ya
      have ca1 := cell_of_row _ g3 1 _ _ _ ya
      have ca2 := cell_of_row _ g3 2 _ _ _ ya
      have cb0 := cell_of_row _ g4 0 _ _ _ yb
      have cb1 := cell_of_row _ g4 1 _ _ _ yb
      have cb2 := cell_of_row _ g4 2 _ _ _ yb
      have cc0 := cell_of_row _ g5 0 _ _ _ yc
      have cc1 := cell_of_row _ g5 1 _ _ _ yc
      have cc2 := cell_of_row _ g5 2 _ _ _ yc
      clear ya yb yc
      refine Or.inl ⟨(by have hg := getD_some i35; simp [Region.wanted, yielded, hg]), ?_⟩
      rintro _ rfl
      go_simp <;> with_reducible rfl
     refine relG_pure (i := 26) (o := ⟨some 47, _, _, _, _, _⟩) (v := undef) [(25, 46, 0)] [3] rfl rfl (by kernel_rfl) (by kernel_rfl) (fun t w1 hB hf hbf => ?_) ?_
     · simp only [DepF, List.getD_cons_zero] at hf
       obtain ⟨⟨_, ⟨e46, i46⟩, rfl⟩, _⟩ := hf
       exact Or.inr ⟨(by have hg := getD_some i46; simp [Region.wanted, yielded, hg]), rfl⟩
     refine relG_pure (i := 27) (o := ⟨some 48, _, _, _, _, _⟩) (v := undef) [(25, 46, 1)] [5] rfl rfl (by kernel_rfl) (by kernel_rfl) (fun t w1 hB hf hbf => ?_) ?_
     · simp only [DepF, List.getD_cons_zero, List.getD_cons_succ] at hf
       obtain ⟨⟨_, ⟨e46, i46⟩, rfl⟩, _⟩ := hf
       exact Or.inr ⟨(by have hg := getD_some i46; simp [Region.wanted, yielded, hg]), rfl⟩
     refine relG_pure (i := 28) (o := ⟨some 49, _, _, _, _, _⟩) (v := undef) [(26, 47, 1), (27, 48, 0), (25, 46, 2)] [] rfl rfl (by kernel_rfl) (by kernel_rfl) (fun t w1 hB hf hbf => ?_) ?_
     · simp only [DepF, List.getD_cons_zero, List.getD_cons_succ] at hf
       obtain ⟨⟨_, ⟨e47, i47⟩, rfl⟩, ⟨_, ⟨e48, i48⟩, rfl⟩, ⟨_, ⟨e46, i46⟩, rfl⟩, _⟩ := hf
       exact Or.inr ⟨(by have hg := getD_some i46; simp [Region.wanted, yielded, hg]), rfl⟩
     refine relG_pure (i := 29) (o := ⟨some 50, _, _, _, _, _⟩) (v := undef) [(28, 49, 0), (25, 46, 3)] [] rfl rfl (by kernel_rfl) (by kernel_rfl) (fun t w1 hB hf hbf => ?_) ?_
     · simp only [DepF, List.getD_cons_zero, List.getD_cons_succ] at hf
       obtain ⟨⟨_, ⟨e49, i49⟩, rfl⟩, ⟨_, ⟨e46, i46⟩, rfl⟩, _⟩ := hf
       exact Or.inr ⟨(by have hg := getD_some i46; simp [Region.wanted, yielded, hg]), rfl⟩
     refine relG_pure (i := 30) (o := ⟨some 51, _, _, _, _, _⟩) (v := ?v28) [(25, 46, 4), (29, 50, 0), (14, 35, 15)] [] rfl rfl (by kernel_rfl) (by kernel_rfl) (fun t w1 hB hf hbf => ?y28) ?n28
     case y28 =>
      simp only [DepF, List.getD_cons_zero, List.getD_cons_succ] at hf
      obtain ⟨⟨_, ⟨e46, i46⟩, rfl⟩, ⟨_, ⟨e50, i50⟩, rfl⟩, ⟨_, ⟨e35, i35⟩, rfl⟩, _⟩ := hf
      clear hbf
      have ya := boxStays Y3.out hB
      have yb := boxStays Y4.out hB
      have yc := boxStays Y5.out hB
      have ca0 := cell_of_row _ g3 0 _ _ _ ya
      have ca1 := cell_of_row _ g3 1 _ _ _ ya
      have ca2 := cell_of_row _ g3 2 _ _ _ ya
      have cb0 := cell_of_row _ g4 0 _ _ _ yb
      have cb1 := cell_of_row _ g4 1 _ _ _ yb
      have cb2 := cell_of_row _ g4 2 _ _ _ yb
      have cc0 := cell_of_row _ g5 0 _ _ _ yc
      have cc1 := cell_of_row _ g5 1 _ _ _ yc
      have cc2 := cell_of_row _ g5 2 _ _ _ yc
      clear ya yb yc
      refine Or.inl ⟨(by have hg := getD_some i35; simp [Region.wanted, yielded, hg]), ?_⟩
      rintro _ rfl
      go_simp <;> with_reducible rfl
     refine relG_pure (i := 31) (o := ⟨some 52, _, _, _, _, _⟩) (v := ?v29) [(14, 35, 16), (30, 51, 0)] [] rfl rfl (by kernel_rfl) (by kernel_rfl) (fun t w1 hB hf hbf => ?y29) ?n29
     case y29 =>
      simp only [DepF, List.getD_cons_zero, List.getD_cons_succ] at hf
      obtain ⟨⟨_, ⟨e35, i35⟩, rfl⟩, ⟨_, ⟨e51, i51⟩, rfl⟩, _⟩ := hf
      clear hbf
      have ya := boxStays Y3.out hB
      have yb := boxStays Y4.out hB
      have yc := boxStays Y5.out hB
      have ca0 := cell_of_row _ g3 0 _ _ _ ya
      have ca1 := cell_of_row _ g3 1 _ _ _ ya
      have ca2 := cell_of_row _ g3 2 _ _ _ ya
      have cb0 := cell_of_row _ g4 0 _ _ _ yb
      have cb1 := cell_of_row _ g4 1 _ _ _ yb
      have cb2 := cell_of_row _ g4 2 _ _ _ yb
      have cc0 := cell_of_row _ g5 0 _ _ _ yc
      have cc1 := cell_of_row _ g5 1 _ _ _ yc
      have cc2 := cell_of_row _ g5 2 _ _ _ yc
      clear ya yb yc
      refine Or.inl ⟨wanted_none rfl, ?_⟩
      rintro _ rfl
      go_simp <;> with_reducible rfl
     refine relG_pure (i := 32) (o := ⟨some 53, _, _, _, _, _⟩) (v := ?v30) [(31, 52, 0)] [] rfl rfl (by kernel_rfl) (by kernel_rfl) (fun t w1 hB hf hbf => ?y30) ?n30
     case y30 =>
      simp only [DepF, List.getD_cons_zero] at hf
      obtain ⟨⟨_, ⟨e52, i52⟩, rfl⟩, _⟩ := hf
      clear hbf
      have ya := boxStays Y3.out hB
      have yb := boxStays Y4.out hB
      have yc := boxStays Y5.out hB
      have ca0 := cell_of_row _ g3 0 _ _ _ ya
      have ca1 := cell_of_row _ g3 1 _ _ _ ya
      have ca2 := cell_of_row _ g3 2 _ _ _ ya
      have cb0 := cell_of_row _ g4 0 _ _ _ yb
      have cb1 := cell_of_row _ g4 1 _ _ _ yb
      have cb2 := cell_of_row _ g4 2 _ _ _ yb
      have cc0 := cell_of_row _ g5 0 _ _ _ yc
      have cc1 := cell_of_row _ g5 1 _ _ _ yc
      have cc2 := cell_of_row _ g5 2 _ _ _ yc
      clear ya yb yc
      refine Or.inl ⟨wanted_none rfl, ?_⟩
      rintro _ rfl
      go_simp <;> with_reducible rfl
     refine relG_pure (i := 33) (o := ⟨some 54, _, _, _, _, _⟩) (v := ?v31) [(32, 53, 0)] [3] rfl rfl (by kernel_rfl) (by kernel_rfl) (fun t w1 hB hf hbf => ?y31) ?n31
     case y31 =>
      simp only [DepF, List.getD_cons_zero] at hf
      simp only [BasF] at hbf
      obtain ⟨⟨_, ⟨e53, i53⟩, rfl⟩, _⟩ := hf
      obtain ⟨⟨b3, k3⟩, _⟩ := hbf
      have ya := boxStays Y3.out hB
      have yb := boxStays Y4.out hB
      have yc := boxStays Y5.out hB
      have ca0 := cell_of_row _ g3 0 _ _ _ ya
      have ca1 := cell_of_row _ g3 1 _ _ _ ya
      have ca2 := cell_of_row _ g3 2 _ _ _ ya
      have cb0 := cell_of_row _ g4 0 _ _ _ yb
      have cb1 := cell_of_row _ g4 1 _ _ _ yb
      have cb2 := cell_of_row _ g4 2 _ _ _ yb
      have cc0 := cell_of_row _ g5 0 _ _ _ yc
      have cc1 := cell_of_row _ g5 1 _ _ _ yc
      have cc2 := cell_of_row _ g5 2 _ _ _ yc
      clear ya yb yc
      refine Or.inl ⟨(by have hg := getD_some i53; simp [Region.wanted, yielded, hg]), ?_⟩
      rintro _ rfl
      go_simp <;> with_reducible rfl
     refine relG_pure (i := 34) (o := ⟨some 55, _, _, _, _, _⟩) (v := ?v32) [(33, 54, 0), (32, 53, 1)] [] rfl rfl (by kernel_rfl) (by kernel_rfl) (fun t w1 hB hf hbf => ?y32) ?n32
     case y32 =>
      simp only [DepF, List.getD_cons_zero, List.getD_cons_succ] at hf
      obtain ⟨⟨_, ⟨e54, i54⟩, rfl⟩, ⟨_, ⟨e53, i53⟩, rfl⟩, _⟩ := hf
      clear hbf
      have ya := boxStays Y3.out hB
      have yb := boxStays Y4.out hB
      have yc := boxStays Y5.out hB
      have ca0 := cell_of_row _ g3 0 _ _ _ ya
      have ca1 := cell_of_row _ g3 1 _ _ _ ya
      have ca2 := cell_of_row _ g3 2 _ _ _ ya
      have cb0 := cell_of_row _ g4 0 _ _ _ yb
      have cb1 := cell_of_row _ g4 1 _ _ _ yb
      have cb2 := cell_of_row _ g4 2 _ _ _ yb
      have cc0 := cell_of_row _ g5 0 _ _ _ yc
      have cc1 := cell_of_row _ g5 1 _ _ _ yc
      have cc2 := cell_of_row _ g5 2 _ _ _ yc
      clear ya yb yc
      refine Or.inl ⟨(by have hg := getD_some i53; simp [Region.wanted, yielded, hg]), ?_⟩
      rintro _ rfl
      go_simp <;> with_reducible rfl
     refine relG_pure (i := 35) (o := ⟨some 56, _, _, _, _, _⟩) (v := ?v33) [(32, 53, 2)] [4] rfl rfl (by kernel_rfl) (by kernel_rfl) (fun t w1 hB hf hbf => ?y33) ?n33
     case y33 =>
      simp only [DepF, List.getD_cons_zero, List.getD_cons_succ] at hf
      simp only [BasF] at hbf
      obtain ⟨⟨_, ⟨e53, i53⟩, rfl⟩, _⟩ := hf
      obtain ⟨⟨b4, k4⟩, _⟩ := hbf
      have ya := boxStays Y3.out hB
      have yb := boxStays Y4.out hB
      have yc := boxStays Y5.out hB
      have ca0 := cell_of_row _ g3 0 _ _ _ ya
      have ca1 := cell_of_row _ g3 1 _ _ _ ya
      have ca2 := cell_of_row _ g3 2 _ _ _ ya
      have cb0 := cell_of_row _ g4 0 _ _ _ yb
      have cb1 := cell_of_row _ g4 1 _ _ _ yb
      have cb2 := cell_of_row _ g4 2 _ _ _ yb
      have cc0 := cell_of_row _ g5 0 _ _ _ yc
      have cc1 := cell_of_row _ g5 1 _ _ _ yc
      have cc2 := cell_of_row _ g5 2 _ _ _ yc
      clear ya yb yc
      refine Or.inl ⟨(by have hg := getD_some i53; simp [Region.wanted, yielded, hg]), ?_⟩
      rintro _ rfl
      go_simp <;> with_reducible rfl
     refine relG_pure (i := 36) (o := ⟨some 57, _, _, _, _, _⟩) (v := ?v34) [(35, 56, 0), (32, 53, 3)] [] rfl rfl (by kernel_rfl) (by kernel_rfl) (fun t w1 hB hf hbf => ?y34) ?n34
     case y34 =>
      simp only [DepF, List.getD_cons_zero, List.getD_cons_succ] at hf
      obtain ⟨⟨_, ⟨e56, i56⟩, rfl⟩, ⟨_, ⟨e53, i53⟩, rfl⟩, _⟩ := hf
      clear hbf
      have ya := boxStays Y3.out hB
      have yb := boxStays Y4.out hB
      have yc := boxStays Y5.out hB
      have ca0 := cell_of_row _ g3 0 _ _ _ ya
      have ca1 := cell_of_row _ g3 1 _ _ _ ya
      have ca2 := cell_of_row _ g3 2 _ _ _ ya
      have cb0 := cell_of_row _ g4 0 _ _ _ yb
      have cb1 := cell_of_row _ g4 1 _ _ _ yb
      have cb2 := cell_of_row _ g4 2 _ _ _ yb
      have cc0 := cell_of_row _ g5 0 _ _ _ yc
      have cc1 := cell_of_row _ g5 1 _ _ _ yc
      have cc2 := cell_of_row _ g5 2 _ _ _ yc
      clear ya yb yc
      refine Or.inl ⟨(by have hg := getD_some i53; simp [Region.wanted, yielded, hg]), ?_⟩
      rintro _ rfl
      go_simp <;> with_reducible rfl
     refine relG_call (i := 37) (o := ⟨some 58, _, _, _, _, _⟩) ((fun v _ => v = .int .i64 (pathC p.l q.l))) [(34, 55, 2), (36, 57, 0), (32, 53, 4)] [] rfl rfl (by kernel_rfl) (by kernel_rfl) ((fun _ _ _ h _ => h)) ?_ ?_
     · intro t w1 hB hf hbf K hK
       simp only [DepF, List.getD_cons_zero, List.getD_cons_succ] at hf
       obtain ⟨⟨_, ⟨e55, i55⟩, rfl⟩, ⟨_, ⟨e57, i57⟩, rfl⟩, ⟨_, ⟨e53, i53⟩, rfl⟩, _⟩ := hf
       clear hbf
       have ya := boxStays Y3.out hB
       have yb := boxStays Y4.out hB
       have yc := boxStays Y5.out hB
       have ca0 := cell_of_row _ g3 0 _ _ _ ya
       have ca1 := cell_of_row _ g3 1 _ _ _ ya
       have ca2 := cell_of_row _ g3 2 _ _ _ ya
       have cb0 := cell_of_row _ g4 0 _ _ _ yb
       have cb1 := cell_of_row _ g4 1 _ _ _ yb
       have cb2 := cell_of_row _ g4 2 _ _ _ yb
       have cc0 := cell_of_row _ g5 0 _ _ _ yc
       have cc1 := cell_of_row _ g5 1 _ _ _ yc
       have cc2 := cell_of_row _ g5 2 _ _ _ yc
       clear ya yb yc
       refine ⟨(by have hg := getD_some i53; simp [Region.wanted, yielded, hg]), ?_⟩
       go_simp
       refine (key_CmpPath p.l q.l p.a q.a p.n q.n p.c q.c w1 (HPC.out.at_.below hB rfl) (HQC.out.at_.below hB rfl) HPC.out.len HQC.out.len HPC.out.le HPC.out.sz HQC.out.sz).mono ?_
       rintro e w2 ⟨rfl, hb⟩
       exact hK.out _ w2 (rfl) hb
     refine relG_pure (i := 38) (o := ⟨some 59, _, _, _, _, _⟩) (v := ?v35) [(32, 53, 5)] [4] rfl rfl (by kernel_rfl) (by kernel_rfl) (fun t w1 hB hf hbf => ?y35) ?n35
     case y35 =>
      simp only [DepF, List.getD_cons_zero, List.getD_cons_succ] at hf
      simp only [BasF] at hbf
      obtain ⟨⟨_, ⟨e53, i53⟩, rfl⟩, _⟩ := hf
      obtain ⟨⟨b4, k4⟩, _⟩ := hbf
      have ya := boxStays Y3.out hB
      have yb := boxStays Y4.out hB
      have yc := boxStays Y5.out hB
      have ca0 := cell_of_row _ g3 0 _ _ _ ya
      have ca1 := cell_of_row _ g3 1 _ _ _ ya
      have ca2 := cell_of_row _ g3 2 _ _ _ ya
      have cb0 := cell_of_row _ g4 0 _ _ _ yb
      have cb1 := cell_of_row _ g4 1 _ _ _ yb
      have cb2 := cell_of_row _ g4 2 _ _ _ yb
      have cc0 := cell_of_row _ g5 0 _ _ _ yc
      have cc1 := cell_of_row _ g5 1 _ _ _ yc
      have cc2 := cell_of_row _ g5 2 _ _ _ yc
      clear ya yb yc
      refine Or.inl ⟨(by have hg := getD_some i53; simp [Region.wanted, yielded, hg]), ?_⟩
      rintro _ rfl
      go_simp <;> with_reducible rfl
     refine relG_pure (i := 39) (o := ⟨some 60, _, _, _, _, _⟩) (v := ?v36) [(38, 59, 0), (32, 53, 6)] [] rfl rfl (by kernel_rfl) (by kernel_rfl) (fun t w1 hB hf hbf => ?y36) ?n36
     case y36 =>
      simp only [DepF, List.getD_cons_zero, List.getD_cons_succ] at hf
      obtain ⟨⟨_, ⟨e59, i59⟩, rfl⟩, ⟨_, ⟨e53, i53⟩, rfl⟩, _⟩ := hf
      clear hbf
      have ya := boxStays Y3.out hB
      have yb := boxStays Y4.out hB
      have yc := boxStays Y5.out hB
      have ca0 := cell_of_row _ g3 0 _ _ _ ya
      have ca1 := cell_of_row _ g3 1 _ _ _ ya
      have ca2 := cell_of_row _ g3 2 _ _ _ ya
      have cb0 := cell_of_row _ g4 0 _ _ _ yb
      have cb1 := cell_of_row _ g4 1 _ _ _ yb
      have cb2 := cell_of_row _ g4 2 _ _ _ yb
      have cc0 := cell_of_row _ g5 0 _ _ _ yc
      have cc1 := cell_of_row _ g5 1 _ _ _ yc
      have cc2 := cell_of_row _ g5 2 _ _ _ yc
      clear ya yb yc
      refine Or.inl ⟨(by have hg := getD_some i53; simp [Region.wanted, yielded, hg]), ?_⟩
      rintro _ rfl
      go_simp <;> with_reducible rfl
     refine relG_pure (i := 40) (o := ⟨some 61, _, _, _, _, _⟩) (v := ?v37) [(32, 53, 7)] [3] rfl rfl (by kernel_rfl) (by kernel_rfl) (fun t w1 hB hf hbf => ?y37) ?n37
     case y37 =>
      simp only [DepF, List.getD_cons_zero, List.getD_cons_succ] at hf
      simp only [BasF] at hbf
      obtain ⟨⟨_, ⟨e53, i53⟩, rfl⟩, _⟩ := hf
      obtain ⟨⟨b3, k3⟩, _⟩ := hbf
      have ya := boxStays Y3.out hB
      have yb := boxStays Y4.out hB
      have yc := boxStays Y5.out hB
      have ca0 := cell_of_row _ g3 0 _ _ _ ya
      have ca1 := cell_of_row _ g3 1 _ _ _ ya
      have ca2 := cell_of_row _ g3 2 _ _ _ ya
      have cb0 := cell_of_row _ g4 0 _ _ _ yb
      have cb1 := cell_of_row _ g4 1 _ _ _ yb
      have cb2 := cell_of_row _ g4 2 _ _ _ yb
      have cc0 := cell_of_row _ g5 0 _ _ _ yc
      have cc1 := cell_of_row _ g5 1 _ _ _ yc
      have cc2 := cell_of_row _ g5 2 _ _ _ yc
      clear ya yb yc
      refine Or.inl ⟨(by have hg := getD_some i53; simp [Region.wanted, yielded, hg]), ?_⟩
      rintro _ rfl
      go_simp <;> with_reducible rfl
     refine relG_pure (i := 41) (o := ⟨some 62, _, _, _, _, _⟩) (v := ?v38) [(40, 61, 0), (32, 53, 8)] [] rfl rfl (by kernel_rfl) (by kernel_rfl) (fun t w1 hB hf hbf => ?y38) ?n38
     case y38 =>
      simp only [DepF, List.getD_cons_zero, List.getD_cons_succ] at hf
      obtain ⟨⟨_, ⟨e61, i61⟩, rfl⟩, ⟨_, ⟨e53, i53⟩, rfl⟩, _⟩ := hf
      clear hbf
      have ya := boxStays Y3.out hB
      have yb := boxStays Y4.out hB
      have yc := boxStays Y5.out hB
      have ca0 := cell_of_row _ g3 0 _ _ _ ya
      have ca1 := cell_of_row _ g3 1 _ _ _ ya
      have ca2 := cell_of_row _ g3 2 _ _ _ ya
      have cb0 := cell_of_row _ g4 0 _ _ _ yb
      have cb1 := cell_of_row _ g4 1 _ _ _ yb
      have cb2 := cell_of_row _ g4 2 _ _ _ yb
      have cc0 := cell_of_row _ g5 0 _ _ _ yc
      have cc1 := cell_of_row _ g5 1 _ _ _ yc
      have cc2 := cell_of_row _ g5 2 _ _ _ yc
      clear ya yb yc
      refine Or.inl ⟨(by have hg := getD_some i53; simp [Region.wanted, yielded, hg]), ?_⟩
      rintro _ rfl
      go_simp <;> with_reducible rfl
     refine relG_call (i := 42) (o := ⟨some 63, _, _, _, _, _⟩) ((fun v _ => v = .int .i64 (pathC q.l p.l))) [(39, 60, 2), (41, 62, 0), (32, 53, 9)] [] rfl rfl (by kernel_rfl) (by kernel_rfl) ((fun _ _ _ h _ => h)) ?_ ?_
     · intro t w1 hB hf hbf K hK
       simp only [DepF, List.getD_cons_zero, List.getD_cons_succ] at hf
       obtain ⟨⟨_, ⟨e60, i60⟩, rfl⟩, ⟨_, ⟨e62, i62⟩, rfl⟩, ⟨_, ⟨e53, i53⟩, rfl⟩, _⟩ := hf
       clear hbf
       have ya := boxStays Y3.out hB
       have yb := boxStays Y4.out hB
       have yc := boxStays Y5.out hB
       have ca0 := cell_of_row _ g3 0 _ _ _ ya
       have ca1 := cell_of_row _ g3 1 _ _ _ ya
       have ca2 := cell_of_row _ g3 2 _ _ _ ya
       have cb0 := cell_of_row _ g4 0 _ _ _ yb
       have cb1 := cell_of_row _ g4 1 _ _ _ yb
       have cb2 := cell_of_row _ g4 2 _ _ _ yb
       have cc0 := cell_of_row _ g5 0 _ _ _ yc
       have cc1 := cell_of_row _ g5 1 _ _ _ yc
       have cc2 := cell_of_row _ g5 2 _ _ _ yc
       clear ya yb yc
       refine ⟨(by have hg := getD_some i53; simp [Region.wanted, yielded, hg]), ?_⟩
       go_simp
       refine (key_CmpPath q.l p.l q.a p.a q.n p.n q.c p.c w1 (HQC.out.at_.below hB rfl) (HPC.out.at_.below hB rfl) HQC.out.len HPC.out.len HQC.out.le HQC.out.sz HPC.out.sz).mono ?_
       rintro e w2 ⟨rfl, hb⟩
       exact hK.out _ w2 (rfl) hb
     refine relG_pure (i := 43) (o := ⟨some 64, _, _, _, _, _⟩) (v := ?v39) [(42, 63, 0), (32, 53, 10)] [] rfl rfl (by kernel_rfl) (by kernel_rfl) (fun t w1 hB hf hbf => ?y39) ?n39
     case y39 =>
      simp only [DepF, List.getD_cons_zero, List.getD_cons_succ] at hf
      obtain ⟨⟨_, ⟨e63, i63⟩, rfl⟩, ⟨_, ⟨e53, i53⟩, rfl⟩, _⟩ := hf
      clear hbf
      have ya := boxStays Y3.out hB
      have yb := boxStays Y4.out hB
      have yc := boxStays Y5.out hB
      have ca0 := cell_of_row _ g3 0 _ _ _ ya
      have ca1 := cell_of_row _ g3 1 _ _ _ ya
      have ca2 := cell_of_row _ g3 2 _ _ _ ya
      have cb0 := cell_of_row _ g4 0 _ _ _ yb
      have cb1 := cell_of_row _ g4 1 _ _ _ yb
      have cb2 := cell_of_row _ g4 2 _ _ _ yb
      have cc0 := cell_of_row _ g5 0 _ _ _ yc
      have cc1 := cell_of_row _ g5 1 _ _ _ yc
      have cc2 := cell_of_row _ g5 2 _ _ _ yc
      clear ya yb yc
      have wz := W2.out
      refine Or.inl ⟨(by have hg := getD_some i53; simp [Region.wanted, yielded, hg]), ?_⟩
      rintro _ rfl
      go_simp <;> with_reducible rfl
     refine relG_pure (i := 44) (o := ⟨some 65, _, _, _, _, _⟩) (v := ?v40) [(37, 58, 6), (43, 64, 0), (32, 53, 11)] [] rfl rfl (by kernel_rfl) (by kernel_rfl) (fun t w1 hB hf hbf => ?y40) ?n40
     case y40 =>
      simp only [DepF, List.getD_cons_zero, List.getD_cons_succ] at hf
      obtain ⟨⟨_, ⟨e58, i58⟩, rfl⟩, ⟨_, ⟨e64, i64⟩, rfl⟩, ⟨_, ⟨e53, i53⟩, rfl⟩, _⟩ := hf
      clear hbf
      have ya := boxStays Y3.out hB
      have yb := boxStays Y4.out hB
      have yc := boxStays Y5.out hB
      have ca0 := cell_of_row _ g3 0 _ _ _ ya
      have ca1 := cell_of_row _ g3 1 _ _ _ ya
      have ca2 := cell_of_row _ g3 2 _ _ _ ya
      have cb0 := cell_of_row _ g4 0 _ _ _ yb
      have cb1 := cell_of_row _ g4 1 _ _ _ yb
      have cb2 := cell_of_row _ g4 2 _ _ _ yb
      have cc0 := cell_of_row _ g5 0 _ _ _ yc
      have cc1 := cell_of_row _ g5 1 _ _ _ yc
      have cc2 := cell_of_row _ g5 2 _ _ _ yc
      clear ya yb yc
      have nq := bne_self (pathC p.l q.l)
      refine Or.inl ⟨(by have hg := getD_some i53; simp [Region.wanted, yielded, hg]), ?_⟩
      rintro _ rfl
      go_simp <;> with_reducible rfl
     refine relG_pure (i := 45) (o := ⟨some 66, _, _, _, _, _⟩) (v := ?v41) [(32, 53, 12), (44, 65, 0)] [] rfl rfl (by kernel_rfl) (by kernel_rfl) (fun t w1 hB hf hbf => ?y41) ?n41
     case y41 =>
      simp only [DepF, List.getD_cons_zero, List.getD_cons_succ] at hf
      obtain ⟨⟨_, ⟨e53, i53⟩, rfl⟩, ⟨_, ⟨e65, i65⟩, rfl⟩, _⟩ := hf
      clear hbf
      have ya := boxStays Y3.out hB
      have yb := boxStays Y4.out hB
      have yc := boxStays Y5.out hB
      have ca0 := cell_of_row _ g3 0 _ _ _ ya
      have ca1 := cell_of_row _ g3 1 _ _ _ ya
      have ca2 := cell_of_row _ g3 2 _ _ _ ya
      have cb0 := cell_of_row _ g4 0 _ _ _ yb
      have cb1 := cell_of_row _ g4 1 _ _ _ yb
      have cb2 := cell_of_row _ g4 2 _ _ _ yb
      have cc0 := cell_of_row _ g5 0 _ _ _ yc
      have cc1 := cell_of_row _ g5 1 _ _ _ yc
      have cc2 := cell_of_row _ g5 2 _ _ _ yc
      clear ya yb yc
      refine Or.inl ⟨wanted_none rfl, ?_⟩
      rintro _ rfl
      go_simp <;> with_reducible rfl
     refine relG_pure (i := 46) (o := ⟨some 67, _, _, _, _, _⟩) (v := ?v42) [(45, 66, 0)] [] rfl rfl (by kernel_rfl) (by kernel_rfl) (fun t w1 hB hf hbf => ?y42) ?n42
     case y42 =>
      simp only [DepF, List.getD_cons_zero] at hf
      obtain ⟨⟨_, ⟨e66, i66⟩, rfl⟩, _⟩ := hf
      clear hbf
      have ya := boxStays Y3.out hB
      have yb := boxStays Y4.out hB
      have yc := boxStays Y5.out hB
      have ca0 := cell_of_row _ g3 0 _ _ _ ya
      have ca1 := cell_of_row _ g3 1 _ _ _ ya
      have ca2 := cell_of_row _ g3 2 _ _ _ ya
      have cb0 := cell_of_row _ g4 0 _ _ _ yb
      have cb1 := cell_of_row _ g4 1 _ _ _ yb
      have cb2 := cell_of_row _ g4 2 _ _ _ yb
      have cc0 := cell_of_row _ g5 0 _ _ _ yc
      have cc1 := cell_of_row _ g5 1 _ _ _ yc
      have cc2 := cell_of_row _ g5 2 _ _ _ yc
      clear ya yb yc
      refine Or.inl ⟨wanted_none rfl, ?_⟩
      rintro _ rfl
      go_simp <;> with_reducible rfl
     refine relG_pure (i := 47) (o := ⟨some 68, _, _, _, _, _⟩) (v := ?v43) [(46, 67, 0)] [3] rfl rfl (by kernel_rfl) (by kernel_rfl) (fun t w1 hB hf hbf => ?y43) ?n43
     case y43 =>
      simp only [DepF, List.getD_cons_zero] at hf
      simp only [BasF] at hbf
      obtain ⟨⟨_, ⟨e67, i67⟩, rfl⟩, _⟩ := hf
      obtain ⟨⟨b3, k3⟩, _⟩ := hbf
      have ya := boxStays Y3.out hB
      have yb := boxStays Y4.out hB
      have yc := boxStays Y5.out hB
      have ca0 := cell_of_row _ g3 0 _ _ _ ya
      have ca1 := cell_of_row _ g3 1 _ _ _ ya
      have ca2 := cell_of_row _ g3 2 _ _ _ ya
      have cb0 := cell_of_row _ g4 0 _ _ _ yb
      have cb1 := cell_of_row _ g4 1 _ _ _ yb
      have cb2 := cell_of_row _ g4 2 _ _ _ yb
      have cc0 := cell_of_row _ g5 0 _ _ _ yc
      have cc1 := cell_of_row _ g5 1 _ _ _ yc
      have cc2 := cell_of_row _ g5 2 _ _ _ yc
      clear ya yb yc
      refine Or.inl ⟨(by have hg := getD_some i67; simp [Region.wanted, yielded, hg]), ?_⟩
      rintro _ rfl
      go_simp <;> with_reducible rfl
     refine relG_pure (i := 48) (o := ⟨some 69, _, _, _, _, _⟩) (v := ?v44) [(47, 68, 0), (46, 67, 1)] [] rfl rfl (by kernel_rfl) (by kernel_rfl) (fun t w1 hB hf hbf => ?y44) ?n44
     case y44 =>
      simp only [DepF, List.getD_cons_zero, List.getD_cons_succ] at hf
      obtain ⟨⟨_, ⟨e68, i68⟩, rfl⟩, ⟨_, ⟨e67, i67⟩, rfl⟩, _⟩ := hf
      clear hbf
      have ya := boxStays Y3.out hB
      have yb := boxStays Y4.out hB
      have yc := boxStays Y5.out hB
      have ca0 := cell_of_row _ g3 0 _ _ _ ya
      have ca1 := cell_of_row _ g3 1 _ _ _ ya
      have ca2 := cell_of_row _ g3 2 _ _ _ ya
      have cb0 := cell_of_row _ g4 0 _ _ _ yb
      have cb1 := cell_of_row _ g4 1 _ _ _ yb
      have cb2 := cell_of_row _ g4 2 _ _ _ yb
      have cc0 := cell_of_row _ g5 0 _ _ _ yc
      have cc1 := cell_of_row _ g5 1 _ _ _ yc
      have cc2 := cell_of_row _ g5 2 _ _ _ yc
      clear ya yb yc
      refine Or.inl ⟨(by have hg := getD_some i67; simp [Region.wanted, yielded, hg]), ?_⟩
      rintro _ rfl
      go_simp <;> with_reducible rfl
     refine relG_pure (i := 49) (o := ⟨some 70, _, _, _, _, _⟩) (v := ?v45) [(46, 67, 2)] [4] rfl rfl (by kernel_rfl) (by kernel_rfl) (fun t w1 hB hf hbf => ?y45) ?n45
     case y45 =>
      simp only [DepF, List.getD_cons_zero, List.getD_cons_succ] at hf
      simp only [BasF] at hbf
      obtain ⟨⟨_, ⟨e67, i67⟩, rfl⟩, _⟩ := hf
      obtain ⟨⟨b4, k4⟩, _⟩ := hbf
      have ya := boxStays Y3.out hB
      have yb := boxStays Y4.out hB
      have yc := boxStays Y5.out hB
      have ca0 := cell_of_row _ g3 0 _ _ _ ya
      have ca1 := cell_of_row _ g3 1 _ _ _ ya
      have ca2 := cell_of_row _ g3 2 _ _ _ ya
      have cb0 := cell_of_row _ g4 0 _ _ _ yb
      have cb1 := cell_of_row _ g4 1 _ _ _ yb
      have cb2 := cell_of_row _ g4 2 _ _ _ yb
      have cc0 := cell_of_row _ g5 0 _ _ _ yc
      have cc1 := cell_of_row _ g5 1 _ _ _ yc
      have cc2 := cell_of_row _ g5 2 _ _ _ yc
      clear ya yb yc
      refine Or.inl ⟨(by have hg := getD_some i67; simp [Region.wanted, yielded, hg]), ?_⟩
      rintro _ rfl
      go_simp <;> with_reducible rfl
     refine relG_pure (i := 50) (o := ⟨some 71, _, _, _, _, _⟩) (v := ?v46) [(49, 70, 0), (46, 67, 3)] [] rfl rfl (by kernel_rfl) (by kernel_rfl) (fun t w1 hB hf hbf => ?y46) ?n46
     case y46 =>
      simp only [DepF, List.getD_cons_zero, List.getD_cons_succ] at hf
      obtain ⟨⟨_, ⟨e70, i70⟩, rfl⟩, ⟨_, ⟨e67, i67⟩, rfl⟩, _⟩ := hf
      clear hbf
      have ya := boxStays Y3.out hB
      have yb := boxStays Y4.out hB
      have yc := boxStays Y5.out hB
      have ca0 := cell_of_row _ g3 0 _ _ _ ya
      have ca1 := cell_of_row _ g3 1 _ _ _ ya
      have ca2 := cell_of_row _ g3 2 _ _ _ ya
      have cb0 := cell_of_row _ g4 0 _ _ _ yb
      have cb1 := cell_of_row _ g4 1 _ _ _ yb
      have cb2 := cell_of_row _ g4 2 _ _ _ yb
      have cc0 := cell_of_row _ g5 0 _ _ _ yc
      have cc1 := cell_of_row _ g5 1 _ _ _ yc
      have cc2 := cell_of_row _ g5 2 _ _ _ yc
      clear ya yb yc
      refine Or.inl ⟨(by have hg := getD_some i67; simp [Region.wanted, yielded, hg]), ?_⟩
      rintro _ rfl
      go_simp <;> with_reducible rfl
     refine relG_call (i := 51) (o := ⟨some 72, _, _, _, _, _⟩) ((fun v _ => v = .int .i64 (txtC p.x q.x))) [(48, 69, 2), (50, 71, 0), (46, 67, 4)] [] rfl rfl (by kernel_rfl) (by kernel_rfl) ((fun _ _ _ h _ => h)) ?_ ?_
     · intro t w1 hB hf hbf K hK
       simp only [DepF, List.getD_cons_zero, List.getD_cons_succ] at hf
       obtain ⟨⟨_, ⟨e69, i69⟩, rfl⟩, ⟨_, ⟨e71, i71⟩, rfl⟩, ⟨_, ⟨e67, i67⟩, rfl⟩, _⟩ := hf
       clear hbf
       have ya := boxStays Y3.out hB
       have yb := boxStays Y4.out hB
       have yc := boxStays Y5.out hB
       have ca0 := cell_of_row _ g3 0 _ _ _ ya
       have ca1 := cell_of_row _ g3 1 _ _ _ ya
       have ca2 := cell_of_row _ g3 2 _ _ _ ya
       have cb0 := cell_of_row _ g4 0 _ _ _ yb
       have cb1 := cell_of_row _ g4 1 _ _ _ yb
       have cb2 := cell_of_row _ g4 2 _ _ _ yb
       have cc0 := cell_of_row _ g5 0 _ _ _ yc
       have cc1 := cell_of_row _ g5 1 _ _ _ yc
       have cc2 := cell_of_row _ g5 2 _ _ _ yc
       clear ya yb yc
       refine ⟨(by have hg := getD_some i67; simp [Region.wanted, yielded, hg]), ?_⟩
       go_simp
       refine (key_Cmp p.x q.x w1).mono ?_
       rintro e w2 ⟨rfl, hb⟩
       exact hK.out _ w2 (rfl) hb
     refine relG_pure (i := 52) (o := ⟨some 73, _, _, _, _, _⟩) (v := ?v47) [(46, 67, 5)] [4] rfl rfl (by kernel_rfl) (by kernel_rfl) (fun t w1 hB hf hbf => ?y47) ?n47
     case y47 =>
      simp only [DepF, List.getD_cons_zero, List.getD_cons_succ] at hf
      simp only [BasF] at hbf
      obtain ⟨⟨_, ⟨e67, i67⟩, rfl⟩, _⟩ := hf
      obtain ⟨⟨b4, k4⟩, _⟩ := hbf
      have ya := boxStays Y3.out hB
      have yb := boxStays Y4.out hB
      have yc := boxStays Y5.out hB
      have ca0 := cell_of_row _ g3 0 _ _ _ ya
      have ca1 := cell_of_row _ g3 1 _ _ _ ya
      have ca2 := cell_of_row _ g3 2 _ _ _ ya
      have cb0 := cell_of_row _ g4 0 _ _ _ yb
      have cb1 := cell_of_row _ g4 1 _ _ _ yb
      have cb2 := cell_of_row _ g4 2 _ _ _ yb
      have cc0 := cell_of_row _ g5 0 _ _ _ yc
      have cc1 := cell_of_row _ g5 1 _ _ _ yc
      have cc2 := cell_of_row _ g5 2 _ _ _ yc
      clear ya yb yc
      refine Or.inl ⟨(by have hg := getD_some i67; simp [Region.wanted, yielded, hg]), ?_⟩
      rintro _ rfl
      go_simp <;> with_reducible rfl
     refine relG_pure (i := 53) (o := ⟨some 74, _, _, _, _, _⟩) (v := ?v48) [(52, 73, 0), (46, 67, 6)] [] rfl rfl (by kernel_rfl) (by kernel_rfl) (fun t w1 hB hf hbf => ?y48) ?n48
     case y48 =>
      simp only [DepF, List.getD_cons_zero, List.getD_cons_succ] at hf
      obtain ⟨⟨_, ⟨e73, i73⟩, rfl⟩, ⟨_, ⟨e67, i67⟩, rfl⟩, _⟩ := hf
      clear hbf
      have ya := boxStays Y3.out hB
      have yb := boxStays Y4.out hB
      have yc := boxStays Y5.out hB
      have ca0 := cell_of_row _ g3 0 _ _ _ ya
      have ca1 := cell_of_row _ g3 1 _ _ _ ya
      have ca2 := cell_of_row _ g3 2 _ _ _ ya
      have cb0 := cell_of_row _ g4 0 _ _ _ yb
      have cb1 := cell_of_row _ g4 1 _ _ _ yb
      have cb2 := cell_of_row _ g4 2 _ _ _ yb
      have cc0 := cell_of_row _ g5 0 _ _ _ yc
      have cc1 := cell_of_row _ g5 1 _ _ _ yc
      have cc2 := cell_of_row _ g5 2 _ _ _ yc
      clear ya yb yc
      refine Or.inl ⟨(by have hg := getD_some i67; simp [Region.wanted, yielded, hg]), ?_⟩
      rintro _ rfl
      go_simp <;> with_reducible rfl
     refine relG_pure (i := 54) (o := ⟨some 75, _, _, _, _, _⟩) (v := ?v49) [(46, 67, 7)] [3] rfl rfl (by kernel_rfl) (by kernel_rfl) (fun t w1 hB hf hbf => ?y49) ?n49
     case y49 =>
      simp only [DepF, List.getD_cons_zero, List.getD_cons_succ] at hf
      simp only [BasF] at hbf
      obtain ⟨⟨_, ⟨e67, i67⟩, rfl⟩, _⟩ := hf
      obtain ⟨⟨b3, k3⟩, _⟩ := hbf
      have ya := boxStays Y3.out hB
      have yb := boxStays Y4.out hB
      have yc := boxStays Y5.out hB
      have ca0 := cell_of_row _ g3 0 _ _ _ ya
      have ca1 := cell_of_row _ g3 1 _ _ _ ya
      have ca2 := cell_of_row _ g3 2 _ _ _ ya
      have cb0 := cell_of_row _ g4 0 _ _ _ yb
      have cb1 := cell_of_row _ g4 1 _ _ _ yb
      have cb2 := cell_of_row _ g4 2 _ _ _ yb
      have cc0 := cell_of_row _ g5 0 _ _ _ yc
      have cc1 := cell_of_row _ g5 1 _ _ _ yc
      have cc2 := cell_of_row _ g5 2 _ _ _ yc
      clear ya yb yc
      refine Or.inl ⟨(by have hg := getD_some i67; simp [Region.wanted, yielded, hg]), ?_⟩
      rintro _ rfl
      go_simp <;> with_reducible rfl
     refine relG_pure (i := 55) (o := ⟨some 76, _, _, _, _, _⟩) (v := ?v50) [(54, 75, 0), (46, 67, 8)] [] rfl rfl (by kernel_rfl) (by kernel_rfl) (fun t w1 hB hf hbf => ?y50) ?n50
     case y50 =>
      simp only [DepF, List.getD_cons_zero, List.getD_cons_succ] at hf
      obtain ⟨⟨_, ⟨e75, i75⟩, rfl⟩, ⟨_, ⟨e67, i67⟩, rfl⟩, _⟩ := hf
      clear hbf
      have ya := boxStays Y3.out hB
      have yb := boxStays Y4.out hB
      have yc := boxStays Y5.out hB
      have ca0 := cell_of_row _ g3 0 _ _ _ ya
      have ca1 := cell_of_row _ g3 1 _ _ _ ya
      have ca2 := cell_of_row _ g3 2 _ _ _ ya
      have cb0 := cell_of_row _ g4 0 _ _ _ yb
      have cb1 := cell_of_row _ g4 1 _ _ _ yb
      have cb2 := cell_of_row _ g4 2 _ _ _ yb
      have cc0 := cell_of_row _ g5 0 _ _ _ yc
      have cc1 := cell_of_row _ g5 1 _ _ _ yc
      have cc2 := cell_of_row _ g5 2 _ _ _ yc
      clear ya yb yc
      refine Or.inl ⟨(by have hg := getD_some i67; simp [Region.wanted, yielded, hg]), ?_⟩
      rintro _ rfl
      go_simp <;> with_reducible rfl
     refine relG_call (i := 56) (o := ⟨some 77, _, _, _, _, _⟩) ((fun v _ => v = .int .i64 (txtC q.x p.x))) [(53, 74, 2), (55, 76, 0), (46, 67, 9)] [] rfl rfl (by kernel_rfl) (by kernel_rfl) ((fun _ _ _ h _ => h)) ?_ ?_
     · intro t w1 hB hf hbf K hK
       simp only [DepF, List.getD_cons_zero, List.getD_cons_succ] at hf
       obtain ⟨⟨_, ⟨e74, i74⟩, rfl⟩, ⟨_, ⟨e76, i76⟩, rfl⟩, ⟨_, ⟨e67, i67⟩, rfl⟩, _⟩ := hf
       clear hbf
       have ya := boxStays Y3.out hB
       have yb := boxStays Y4.out hB
       have yc := boxStays Y5.out hB
       have ca0 := cell_of_row _ g3 0 _ _ _ ya
       have ca1 := cell_of_row _ g3 1 _ _ _ ya
       have ca2 := cell_of_row _ g3 2 _ _ _ ya
       have cb0 := cell_of_row _ g4 0 _ _ _ yb
       have cb1 := cell_of_row _ g4 1 _ _ _ yb
       have cb2 := cell_of_row _ g4 2 _ _ _ yb
       have cc0 := cell_of_row _ g5 0 _ _ _ yc
       have cc1 := cell_of_row _ g5 1 _ _ _ yc
       have cc2 := cell_of_row _ g5 2 _ _ _ yc
       clear ya yb yc
       refine ⟨(by have hg := getD_some i67; simp [Region.wanted, yielded, hg]), ?_⟩
       go_simp
       refine (key_Cmp q.x p.x w1).mono ?_
       rintro e w2 ⟨rfl, hb⟩
       exact hK.out _ w2 (rfl) hb
     refine relG_pure (i := 57) (o := ⟨some 78, _, _, _, _, _⟩) (v := ?v51) [(56, 77, 0), (46, 67, 10)] [] rfl rfl (by kernel_rfl) (by kernel_rfl) (fun t w1 hB hf hbf => ?y51) ?n51
     case y51 =>
      simp only [DepF, List.getD_cons_zero, List.getD_cons_succ] at hf
      obtain ⟨⟨_, ⟨e77, i77⟩, rfl⟩, ⟨_, ⟨e67, i67⟩, rfl⟩, _⟩ := hf
      clear hbf
      have ya := boxStays Y3.out hB
      have yb := boxStays Y4.out hB
      have yc := boxStays Y5.out hB
      have ca0 := cell_of_row _ g3 0 _ _ _ ya
      have ca1 := cell_of_row _ g3 1 _ _ _ ya
      have ca2 := cell_of_row _ g3 2 _ _ _ ya
      have cb0 := cell_of_row _ g4 0 _ _ _ yb
      have cb1 := cell_of_row _ g4 1 _ _ _ yb
      have cb2 := cell_of_row _ g4 2 _ _ _ yb
      have cc0 := cell_of_row _ g5 0 _ _ _ yc
      have cc1 := cell_of_row _ g5 1 _ _ _ yc
      have cc2 := cell_of_row _ g5 2 _ _ _ yc
      clear ya yb yc
      have wz := W3.out
      refine Or.inl ⟨(by have hg := getD_some i67; simp [Region.wanted, yielded, hg]), ?_⟩
      rintro _ rfl
      go_simp <;> with_reducible rfl
     refine relG_pure (i := 58) (o := ⟨some 79, _, _, _, _, _⟩) (v := ?v52) [(51, 72, 6), (57, 78, 0), (46, 67, 11)] [] rfl rfl (by kernel_rfl) (by kernel_rfl) (fun t w1 hB hf hbf => ?y52) ?n52
     case y52 =>
      simp only [DepF, List.getD_cons_zero, List.getD_cons_succ] at hf
      obtain ⟨⟨_, ⟨e72, i72⟩, rfl⟩, ⟨_, ⟨e78, i78⟩, rfl⟩, ⟨_, ⟨e67, i67⟩, rfl⟩, _⟩ := hf
      clear hbf
      have ya := boxStays Y3.out hB
      have yb := boxStays Y4.out hB
      have yc := boxStays Y5.out hB
      have ca0 := cell_of_row _ g3 0 _ _ _ ya
      have ca1 := cell_of_row _ g3 1 _ _ _ ya
      have ca2 := cell_of_row _ g3 2 _ _ _ ya
      have cb0 := cell_of_row _ g4 0 _ _ _ yb
      have cb1 := cell_of_row _ g4 1 _ _ _ yb
      have cb2 := cell_of_row _ g4 2 _ _ _ yb
      have cc0 := cell_of_row _ g5 0 _ _ _ yc
      have cc1 := cell_of_row _ g5 1 _ _ _ yc
      have cc2 := cell_of_row _ g5 2 _ _ _ yc
      clear ya yb yc
      have nq := bne_self (txtC p.x q.x)
      refine Or.inl ⟨(by have hg := getD_some i67; simp [Region.wanted, yielded, hg]), ?_⟩
      rintro _ rfl
      go_simp <;> with_reducible rfl
     refine relG_pure (i := 59) (o := ⟨some 80, _, _, _, _, _⟩) (v := ?v53) [(46, 67, 12), (58, 79, 0)] [] rfl rfl (by kernel_rfl) (by kernel_rfl) (fun t w1 hB hf hbf => ?y53) ?n53
     case y53 =>
      simp only [DepF, List.getD_cons_zero, List.getD_cons_succ] at hf
      obtain ⟨⟨_, ⟨e67, i67⟩, rfl⟩, ⟨_, ⟨e79, i79⟩, rfl⟩, _⟩ := hf
      clear hbf
      have ya := boxStays Y3.out hB
      have yb := boxStays Y4.out hB
      have yc := boxStays Y5.out hB
      have ca0 := cell_of_row _ g3 0 _ _ _ ya
      have ca1 := cell_of_row _ g3 1 _ _ _ ya
      have ca2 := cell_of_row _ g3 2 _ _ _ ya
      have cb0 := cell_of_row _ g4 0 _ _ _ yb
      have cb1 := cell_of_row _ g4 1 _ _ _ yb
      have cb2 := cell_of_row _ g4 2 _ _ _ yb
      have cc0 := cell_of_row _ g5 0 _ _ _ yc
      have cc1 := cell_of_row _ g5 1 _ _ _ yc
      have cc2 := cell_of_row _ g5 2 _ _ _ yc
      clear ya yb yc
      refine Or.inl ⟨wanted_none rfl, ?_⟩
      rintro _ rfl
      go_simp <;> with_reducible rfl
     refine relG_done [(59, 80, 0)] (by kernel_rfl) rfl (by kernel_rfl) (fun f wE hB hf => ?_)
     simp only [FinF, List.getD_cons_zero] at hf
     obtain ⟨⟨_, e80, rfl⟩, _⟩ := hf
     rw [regT_run (s := 21) (n := 60)]
     case h => rfl
     case hb => exact Nat.le_of_ble_eq_true (by kernel_rfl)
     simp only [List.take_succ_cons, List.take_zero, List.map_cons, List.map_nil, List.drop_succ_cons, List.drop_zero, List.cons_append, List.nil_append, e80]
     clear e80
     have HBD := Lib.hid hB
     clear hB
     go_wp2_with fail
     go_meet
     exact ⟨rfl, HBD⟩
   cases d2
   case false =>
    as_aux_lemma =>
     have hx0 : True := trivial
     refine relG_start (slots := [21, 22, 23, 24, 25, 26, 27, 28, 29, 30, 31, 32, 33, 34, 35, 36, 37, 38, 39, 40, 41, 42, 43, 44, 45, 46, 47, 48, 49, 50, 51, 52, 53, 54, 55, 56, 57, 58, 59, 60, 61, 62, 63, 64, 65, 66, 67, 68, 69, 70, 71, 72, 73, 74, 75, 76, 77, 78, 79, 80]) (so := []) (by kernel_rfl) (by kernel_rfl) (by rfl) ?_
     refine relG_pure (i := 0) (o := ⟨some 21, _, _, _, _, _⟩) (v := ?v54) [] [3] rfl rfl (by kernel_rfl) (by kernel_rfl) (fun t w1 hB hf hbf => ?y54) ?n54
     case y54 =>
      simp only [BasF] at hbf
      clear hf
      obtain ⟨⟨b3, k3⟩, _⟩ := hbf
      have ya := boxStays Y3.out hB
      have yb := boxStays Y4.out hB
      have yc := boxStays Y5.out hB
      have ca0 := cell_of_row _ g3 0 _ _ _ ya
      have ca1 := cell_of_row _ g3 1 _ _ _ ya
      have ca2 := cell_of_row _ g3 2 _ _ _ ya
      have cb0 := cell_of_row _ g4 0 _ _ _ yb
      have cb1 := cell_of_row _ g4 1 _ _ _ yb
      have cb2 := cell_of_row _ g4 2 _ _ _ yb
      have cc0 := cell_of_row _ g5 0 _ _ _ yc
      have cc1 := cell_of_row _ g5 1 _ _ _ yc
      have cc2 := cell_of_row _ g5 2 _ _ _ yc
      clear ya yb yc
      refine Or.inl ⟨wanted_none rfl, ?_⟩
      rintro _ rfl
      go_simp <;> with_reducible rfl
     refine relG_pure (i := 1) (o := ⟨some 22, _, _, _, _, _⟩) (v := ?v55) [] [4] rfl rfl (by kernel_rfl) (by kernel_rfl) (fun t w1 hB hf hbf => ?y55) ?n55
     case y55 =>
      simp only [BasF] at hbf
      clear hf
      obtain ⟨⟨b4, k4⟩, _⟩ := hbf
      have ya := boxStays Y3.out hB
      have yb := boxStays Y4.out hB
      have yc := boxStays Y5.out hB
      have ca0 := cell_of_row _ g3 0 _ _ _ ya
      have ca1 := cell_of_row _ g3 1 _ _ _ ya
      have ca2 := cell_of_row _ g3 2 _ _ _ ya
      have cb0 := cell_of_row _ g4 0 _ _ _ yb
      have cb1 := cell_of_row _ g4 1 _ _ _ yb
      have cb2 := cell_of_row _ g4 2 _ _ _ yb
      have cc0 := cell_of_row _ g5 0 _ _ _ yc
      have cc1 := cell_of_row _ g5 1 _ _ _ yc
      have cc2 := cell_of_row _ g5 2 _ _ _ yc
      clear ya yb yc
      refine Or.inl ⟨wanted_none rfl, ?_⟩
      rintro _ rfl
      go_simp <;> with_reducible rfl
     refine relG_call (i := 2) (o := ⟨some 23, _, _, _, _, _⟩) ((fun v _ => v = .int .i64 (plC p q))) [(0, 21, 1), (1, 22, 0)] [] rfl rfl (by kernel_rfl) (by kernel_rfl) ((fun _ _ _ h _ => h)) ?_ ?_
     · intro t w1 hB hf hbf K hK
       simp only [DepF, List.getD_cons_zero, List.getD_cons_succ] at hf
       obtain ⟨⟨_, ⟨e21, i21⟩, rfl⟩, ⟨_, ⟨e22, i22⟩, rfl⟩, _⟩ := hf
       clear hbf
       have ya := boxStays Y3.out hB
       have yb := boxStays Y4.out hB
       have yc := boxStays Y5.out hB
       have ca0 := cell_of_row _ g3 0 _ _ _ ya
       have ca1 := cell_of_row _ g3 1 _ _ _ ya
       have ca2 := cell_of_row _ g3 2 _ _ _ ya
       have cb0 := cell_of_row _ g4 0 _ _ _ yb
       have cb1 := cell_of_row _ g4 1 _ _ _ yb
       have cb2 := cell_of_row _ g4 2 _ _ _ yb
       have cc0 := cell_of_row _ g5 0 _ _ _ yc
       have cc1 := cell_of_row _ g5 1 _ _ _ yc
       have cc2 := cell_of_row _ g5 2 _ _ _ yc
       clear ya yb yc
       refine ⟨wanted_none rfl, ?_⟩
       go_simp
       refine (key_CmpPlace p q w1 (HPC.out.below hB) (HQC.out.below hB)).mono ?_
       rintro e w2 ⟨rfl, hb⟩
       exact hK.out _ w2 (rfl) hb
     refine relG_pure (i := 3) (o := ⟨some 24, _, _, _, _, _⟩) (v := ?v56) [] [4] rfl rfl (by kernel_rfl) (by kernel_rfl) (fun t w1 hB hf hbf => ?y56) ?n56
     case y56 =>
      simp only [BasF] at hbf
      clear hf
      obtain ⟨⟨b4, k4⟩, _⟩ := hbf
      have ya := boxStays Y3.out hB
      have yb := boxStays Y4.out hB
      have yc := boxStays Y5.out hB
      have ca0 := cell_of_row _ g3 0 _ _ _ ya
      have ca1 := cell_of_row _ g3 1 _ _ _ ya
      have ca2 := cell_of_row _ g3 2 _ _ _ ya
      have cb0 := cell_of_row _ g4 0 _ _ _ yb
      have cb1 := cell_of_row _ g4 1 _ _ _ yb
      have cb2 := cell_of_row _ g4 2 _ _ _ yb
      have cc0 := cell_of_row _ g5 0 _ _ _ yc
      have cc1 := cell_of_row _ g5 1 _ _ _ yc
      have cc2 := cell_of_row _ g5 2 _ _ _ yc
      clear ya yb yc
      refine Or.inl ⟨wanted_none rfl, ?_⟩
      rintro _ rfl
      go_simp <;> with_reducible rfl
     refine relG_pure (i := 4) (o := ⟨some 25, _, _, _, _, _⟩) (v := ?v57) [] [3] rfl rfl (by kernel_rfl) (by kernel_rfl) (fun t w1 hB hf hbf => ?y57) ?n57
     case y57 =>
      simp only [BasF] at hbf
      clear hf
      obtain ⟨⟨b3, k3⟩, _⟩ := hbf
      have ya := boxStays Y3.out hB
      have yb := boxStays Y4.out hB
      have yc := boxStays Y5.out hB
      have ca0 := cell_of_row _ g3 0 _ _ _ ya
      have ca1 := cell_of_row _ g3 1 _ _ _ ya
      have ca2 := cell_of_row _ g3 2 _ _ _ ya
      have cb0 := cell_of_row _ g4 0 _ _ _ yb
      have cb1 := cell_of_row _ g4 1 _ _ _ yb
      have cb2 := cell_of_row _ g4 2 _ _ _ yb
      have cc0 := cell_of_row _ g5 0 _ _ _ yc
      have cc1 := cell_of_row _ g5 1 _ _ _ yc
      have cc2 := cell_of_row _ g5 2 _ _ _ yc
      clear ya yb yc
      refine Or.inl ⟨wanted_none rfl, ?_⟩
      rintro _ rfl
      go_simp <;> with_reducible rfl
     refine relG_call (i := 5) (o := ⟨some 26, _, _, _, _, _⟩) ((fun v _ => v = .int .i64 (plC q p))) [(3, 24, 1), (4, 25, 0)] [] rfl rfl (by kernel_rfl) (by kernel_rfl) ((fun _ _ _ h _ => h)) ?_ ?_
     · intro t w1 hB hf hbf K hK
       simp only [DepF, List.getD_cons_zero, List.getD_cons_succ] at hf
       obtain ⟨⟨_, ⟨e24, i24⟩, rfl⟩, ⟨_, ⟨e25, i25⟩, rfl⟩, _⟩ := hf
       clear hbf
       have ya := boxStays Y3.out hB
       have yb := boxStays Y4.out hB
       have yc := boxStays Y5.out hB
       have ca0 := cell_of_row _ g3 0 _ _ _ ya
       have ca1 := cell_of_row _ g3 1 _ _ _ ya
       have ca2 := cell_of_row _ g3 2 _ _ _ ya
       have cb0 := cell_of_row _ g4 0 _ _ _ yb
       have cb1 := cell_of_row _ g4 1 _ _ _ yb
       have cb2 := cell_of_row _ g4 2 _ _ _ yb
       have cc0 := cell_of_row _ g5 0 _ _ _ yc
       have cc1 := cell_of_row _ g5 1 _ _ _ yc
       have cc2 := cell_of_row _ g5 2 _ _ _ yc
       clear ya yb yc
       refine ⟨wanted_none rfl, ?_⟩
       go_simp
       refine (key_CmpPlace q p w1 (HQC.out.below hB) (HPC.out.below hB)).mono ?_
       rintro e w2 ⟨rfl, hb⟩
       exact hK.out _ w2 (rfl) hb
     refine relG_pure (i := 6) (o := ⟨some 27, _, _, _, _, _⟩) (v := ?v58) [(5, 26, 0)] [] rfl rfl (by kernel_rfl) (by kernel_rfl) (fun t w1 hB hf hbf => ?y58) ?n58
     case y58 =>
      simp only [DepF, List.getD_cons_zero] at hf
      obtain ⟨⟨_, ⟨e26, i26⟩, rfl⟩, _⟩ := hf
      clear hbf
      have ya := boxStays Y3.out hB
      have yb := boxStays Y4.out hB
      have yc := boxStays Y5.out hB
      have ca0 := cell_of_row _ g3 0 _ _ _ ya
      have ca1 := cell_of_row _ g3 1 _ _ _ ya
      have ca2 := cell_of_row _ g3 2 _ _ _ ya
      have cb0 := cell_of_row _ g4 0 _ _ _ yb
      have cb1 := cell_of_row _ g4 1 _ _ _ yb
      have cb2 := cell_of_row _ g4 2 _ _ _ yb
      have cc0 := cell_of_row _ g5 0 _ _ _ yc
      have cc1 := cell_of_row _ g5 1 _ _ _ yc
      have cc2 := cell_of_row _ g5 2 _ _ _ yc
      clear ya yb yc
      have wz := W1.out
      refine Or.inl ⟨wanted_none rfl, ?_⟩
      rintro _ rfl
      go_simp <;> with_reducible rfl
     refine relG_pure (i := 7) (o := ⟨some 28, _, _, _, _, _⟩) (v := ?v59) [(2, 23, 4), (6, 27, 0)] [] rfl rfl (by kernel_rfl) (by kernel_rfl) (fun t w1 hB hf hbf => ?y59) ?n59
     case y59 =>
      simp only [DepF, List.getD_cons_zero, List.getD_cons_succ] at hf
      obtain ⟨⟨_, ⟨e23, i23⟩, rfl⟩, ⟨_, ⟨e27, i27⟩, rfl⟩, _⟩ := hf
      clear hbf
      have ya := boxStays Y3.out hB
      have yb := boxStays Y4.out hB
      have yc := boxStays Y5.out hB
      have ca0 := cell_of_row _ g3 0 _ _ _ ya
      have ca1 := cell_of_row _ g3 1 _ _ _ ya
      have ca2 := cell_of_row _ g3 2 _ _ _ ya
      have cb0 := cell_of_row _ g4 0 _ _ _ yb
      have cb1 := cell_of_row _ g4 1 _ _ _ yb
      have cb2 := cell_of_row _ g4 2 _ _ _ yb
      have cc0 := cell_of_row _ g5 0 _ _ _ yc
      have cc1 := cell_of_row _ g5 1 _ _ _ yc
      have cc2 := cell_of_row _ g5 2 _ _ _ yc
      clear ya yb yc
      have nq := bne_self (plC p q)
      refine Or.inl ⟨wanted_none rfl, ?_⟩
      rintro _ rfl
      go_simp <;> with_reducible rfl
     refine relG_pure (i := 8) (o := ⟨some 29, _, _, _, _, _⟩) (v := ?v60) [(7, 28, 0)] [] rfl rfl (by kernel_rfl) (by kernel_rfl) (fun t w1 hB hf hbf => ?y60) ?n60
     case y60 =>
      simp only [DepF, List.getD_cons_zero] at hf
      obtain ⟨⟨_, ⟨e28, i28⟩, rfl⟩, _⟩ := hf
      clear hbf
      have ya := boxStays Y3.out hB
      have yb := boxStays Y4.out hB
      have yc := boxStays Y5.out hB
      have ca0 := cell_of_row _ g3 0 _ _ _ ya
      have ca1 := cell_of_row _ g3 1 _ _ _ ya
      have ca2 := cell_of_row _ g3 2 _ _ _ ya
      have cb0 := cell_of_row _ g4 0 _ _ _ yb
      have cb1 := cell_of_row _ g4 1 _ _ _ yb
      have cb2 := cell_of_row _ g4 2 _ _ _ yb
      have cc0 := cell_of_row _ g5 0 _ _ _ yc
      have cc1 := cell_of_row _ g5 1 _ _ _ yc
      have cc2 := cell_of_row _ g5 2 _ _ _ yc
      clear ya yb yc
      refine Or.inl ⟨wanted_none rfl, ?_⟩
      rintro _ rfl
      go_simp <;> with_reducible rfl
     refine relG_pure (i := 9) (o := ⟨some 30, _, _, _, _, _⟩) (v := ?v61) [(8, 29, 0)] [3] rfl rfl (by kernel_rfl) (by kernel_rfl) (fun t w1 hB hf hbf => ?y61) ?n61
     case y61 =>
      simp only [DepF, List.getD_cons_zero] at hf
      simp only [BasF] at hbf
      obtain ⟨⟨_, ⟨e29, i29⟩, rfl⟩, _⟩ := hf
      obtain ⟨⟨b3, k3⟩, _⟩ := hbf
      have ya := boxStays Y3.out hB
      have yb := boxStays Y4.out hB
      have yc := boxStays Y5.out hB
      have ca0 := cell_of_row _ g3 0 _ _ _ ya
      have ca1 := cell_of_row _ g3 1 _ _ _ ya
      have ca2 := cell_of_row _ g3 2 _ _ _ ya
      have cb0 := cell_of_row _ g4 0 _ _ _ yb
      have cb1 := cell_of_row _ g4 1 _ _ _ yb
      have cb2 := cell_of_row _ g4 2 _ _ _ yb
      have cc0 := cell_of_row _ g5 0 _ _ _ yc
      have cc1 := cell_of_row _ g5 1 _ _ _ yc
      have cc2 := cell_of_row _ g5 2 _ _ _ yc
      clear ya yb yc
      refine Or.inl ⟨(by have hg := getD_some i29; simp [Region.wanted, yielded, hg]), ?_⟩
      rintro _ rfl
      go_simp <;> with_reducible rfl
     refine relG_pure (i := 10) (o := ⟨some 31, _, _, _, _, _⟩) (v := ?v62) [(8, 29, 1)] [3] rfl rfl (by kernel_rfl) (by kernel_rfl) (fun t w1 hB hf hbf => ?y62) ?n62
     case y62 =>
      simp only [DepF, List.getD_cons_zero, List.getD_cons_succ] at hf
      simp only [BasF] at hbf
      obtain ⟨⟨_, ⟨e29, i29⟩, rfl⟩, _⟩ := hf
      obtain ⟨⟨b3, k3⟩, _⟩ := hbf
      have ya := boxStays Y3.out hB
      have yb := boxStays Y4.out hB
      have yc := boxStays Y5.out hB
      have ca0 := cell_of_row _ g3 0 _ _ _ ya
      have ca1 := cell_of_row _ g3 1 _ _ _ ya
      have ca2 := cell_of_row _ g3 2 _ _ _ ya
      have cb0 := cell_of_row _ g4 0 _ _ _ yb
      have cb1 := cell_of_row _ g4 1 _ _ _ yb
      have cb2 := cell_of_row _ g4 2 _ _ _ yb
      have cc0 := cell_of_row _ g5 0 _ _ _ yc
      have cc1 := cell_of_row _ g5 1 _ _ _ yc
      have cc2 := cell_of_row _ g5 2 _ _ _ yc
      clear ya yb yc
      refine Or.inl ⟨(by have hg := getD_some i29; simp [Region.wanted, yielded, hg]), ?_⟩
      rintro _ rfl
      go_simp <;> with_reducible rfl
     refine relG_call (i := 11) (o := ⟨some 32, _, _, _, _, _⟩) ((fun v _ => v = .int .i64 (0))) [(9, 30, 1), (10, 31, 0), (8, 29, 2)] [] rfl rfl (by kernel_rfl) (by kernel_rfl) ((fun _ _ _ h _ => h)) ?_ ?_
     · intro t w1 hB hf hbf K hK
       simp only [DepF, List.getD_cons_zero, List.getD_cons_succ] at hf
       obtain ⟨⟨_, ⟨e30, i30⟩, rfl⟩, ⟨_, ⟨e31, i31⟩, rfl⟩, ⟨_, ⟨e29, i29⟩, rfl⟩, _⟩ := hf
       clear hbf
       have ya := boxStays Y3.out hB
       have yb := boxStays Y4.out hB
       have yc := boxStays Y5.out hB
       have ca0 := cell_of_row _ g3 0 _ _ _ ya
       have ca1 := cell_of_row _ g3 1 _ _ _ ya
       have ca2 := cell_of_row _ g3 2 _ _ _ ya
       have cb0 := cell_of_row _ g4 0 _ _ _ yb
       have cb1 := cell_of_row _ g4 1 _ _ _ yb
       have cb2 := cell_of_row _ g4 2 _ _ _ yb
       have cc0 := cell_of_row _ g5 0 _ _ _ yc
       have cc1 := cell_of_row _ g5 1 _ _ _ yc
       have cc2 := cell_of_row _ g5 2 _ _ _ yc
       clear ya yb yc
       refine ⟨(by have hg := getD_some i29; simp [Region.wanted, yielded, hg]), ?_⟩
       go_simp
       refine (key_CmpPlace p p w1 (HPC.out.below hB) (HPC.out.below hB)).mono ?_
       rintro e w2 ⟨rfl, hb⟩
       exact hK.out _ w2 (by rw [plO.self]) hb
     refine relG_pure (i := 12) (o := ⟨some 33, _, _, _, _, _⟩) (v := ?v63) [(11, 32, 0), (8, 29, 3)] [] rfl rfl (by kernel_rfl) (by kernel_rfl) (fun t w1 hB hf hbf => ?y63) ?n63
     case y63 =>
      simp only [DepF, List.getD_cons_zero, List.getD_cons_succ] at hf
      obtain ⟨⟨_, ⟨e32, i32⟩, rfl⟩, ⟨_, ⟨e29, i29⟩, rfl⟩, _⟩ := hf
      clear hbf
      have ya := boxStays Y3.out hB
      have yb := boxStays Y4.out hB
      have yc := boxStays Y5.out hB
      have ca0 := cell_of_row _ g3 0 _ _ _ ya
      have ca1 := cell_of_row _ g3 1 _ _ _ ya
      have ca2 := cell_of_row _ g3 2 _ _ _ ya
      have cb0 := cell_of_row _ g4 0 _ _ _ yb
      have cb1 := cell_of_row _ g4 1 _ _ _ yb
      have cb2 := cell_of_row _ g4 2 _ _ _ yb
      have cc0 := cell_of_row _ g5 0 _ _ _ yc
      have cc1 := cell_of_row _ g5 1 _ _ _ yc
      have cc2 := cell_of_row _ g5 2 _ _ _ yc
      clear ya yb yc
      refine Or.inl ⟨(by have hg := getD_some i29; simp [Region.wanted, yielded, hg]), ?_⟩
      rintro _ rfl
      go_simp <;> with_reducible rfl
     refine relG_pure (i := 13) (o := ⟨some 34, _, _, _, _, _⟩) (v := ?v64) [(8, 29, 4), (12, 33, 0)] [] rfl rfl (by kernel_rfl) (by kernel_rfl) (fun t w1 hB hf hbf => ?y64) ?n64
     case y64 =>
      simp only [DepF, List.getD_cons_zero, List.getD_cons_succ] at hf
      obtain ⟨⟨_, ⟨e29, i29⟩, rfl⟩, ⟨_, ⟨e33, i33⟩, rfl⟩, _⟩ := hf
      clear hbf
      have ya := boxStays Y3.out hB
      have yb := boxStays Y4.out hB
      have yc := boxStays Y5.out hB
      have ca0 := cell_of_row _ g3 0 _ _ _ ya
      have ca1 := cell_of_row _ g3 1 _ _ _ ya
      have ca2 := cell_of_row _ g3 2 _ _ _ ya
      have cb0 := cell_of_row _ g4 0 _ _ _ yb
      have cb1 := cell_of_row _ g4 1 _ _ _ yb
      have cb2 := cell_of_row _ g4 2 _ _ _ yb
      have cc0 := cell_of_row _ g5 0 _ _ _ yc
      have cc1 := cell_of_row _ g5 1 _ _ _ yc
      have cc2 := cell_of_row _ g5 2 _ _ _ yc
      clear ya yb yc
      refine Or.inl ⟨wanted_none rfl, ?_⟩
      rintro _ rfl
      go_simp <;> with_reducible rfl
     refine relG_pure (i := 14) (o := ⟨some 35, _, _, _, _, _⟩) (v := ?v65) [(13, 34, 0)] [] rfl rfl (by kernel_rfl) (by kernel_rfl) (fun t w1 hB hf hbf => ?y65) ?n65
     case y65 =>
      simp only [DepF, List.getD_cons_zero] at hf
      obtain ⟨⟨_, ⟨e34, i34⟩, rfl⟩, _⟩ := hf
      clear hbf
      have ya := boxStays Y3.out hB
      have yb := boxStays Y4.out hB
      have yc := boxStays Y5.out hB
      have ca0 := cell_of_row _ g3 0 _ _ _ ya
      have ca1 := cell_of_row _ g3 1 _ _ _ ya
      have ca2 := cell_of_row _ g3 2 _ _ _ ya
      have cb0 := cell_of_row _ g4 0 _ _ _ yb
      have cb1 := cell_of_row _ g4 1 _ _ _ yb
      have cb2 := cell_of_row _ g4 2 _ _ _ yb
      have cc0 := cell_of_row _ g5 0 _ _ _ yc
      have cc1 := cell_of_row _ g5 1 _ _ _ yc
      have cc2 := cell_of_row _ g5 2 _ _ _ yc
      clear ya yb yc
      refine Or.inl ⟨wanted_none rfl, ?_⟩
      rintro _ rfl
      go_simp <;> with_reducible rfl
     refine relG_pure (i := 15) (o := ⟨some 36, _, _, _, _, _⟩) (v := ?v66) [(14, 35, 0)] [3] rfl rfl (by kernel_rfl) (by kernel_rfl) (fun t w1 hB hf hbf => ?y66) ?n66
     case y66 =>
      simp only [DepF, List.getD_cons_zero] at hf
      simp only [BasF] at hbf
      obtain ⟨⟨_, ⟨e35, i35⟩, rfl⟩, _⟩ := hf
      obtain ⟨⟨b3, k3⟩, _⟩ := hbf
      have ya := boxStays Y3.out hB
      have yb := boxStays Y4.out hB
      have yc := boxStays Y5.out hB
      have ca0 := cell_of_row _ g3 0 _ _ _ ya
      have ca1 := cell_of_row _ g3 1 _ _ _ ya
      have ca2 := cell_of_row _ g3 2 _ _ _ ya
      have cb0 := cell_of_row _ g4 0 _ _ _ yb
      have cb1 := cell_of_row _ g4 1 _ _ _ yb
      have cb2 := cell_of_row _ g4 2 _ _ _ yb
      have cc0 := cell_of_row _ g5 0 _ _ _ yc
      have cc1 := cell_of_row _ g5 1 _ _ _ yc
      have cc2 := cell_of_row _ g5 2 _ _ _ yc
      clear ya yb yc
      refine Or.inl ⟨(by have hg := getD_some i35; simp [Region.wanted, yielded, hg]), ?_⟩
      rintro _ rfl
      go_simp <;> with_reducible rfl
     refine relG_pure (i := 16) (o := ⟨some 37, _, _, _, _, _⟩) (v := ?v67) [(14, 35, 1)] [4] rfl rfl (by kernel_rfl) (by kernel_rfl) (fun t w1 hB hf hbf => ?y67) ?n67
     case y67 =>
      simp only [DepF, List.getD_cons_zero, List.getD_cons_succ] at hf
      simp only [BasF] at hbf
      obtain ⟨⟨_, ⟨e35, i35⟩, rfl⟩, _⟩ := hf
      obtain ⟨⟨b4, k4⟩, _⟩ := hbf
      have ya := boxStays Y3.out hB
      have yb := boxStays Y4.out hB
      have yc := boxStays Y5.out hB
      have ca0 := cell_of_row _ g3 0 _ _ _ ya
      have ca1 := cell_of_row _ g3 1 _ _ _ ya
      have ca2 := cell_of_row _ g3 2 _ _ _ ya
      have cb0 := cell_of_row _ g4 0 _ _ _ yb
      have cb1 := cell_of_row _ g4 1 _ _ _ yb
      have cb2 := cell_of_row _ g4 2 _ _ _ yb
      have cc0 := cell_of_row _ g5 0 _ _ _ yc
      have cc1 := cell_of_row _ g5 1 _ _ _ yc
      have cc2 := cell_of_row _ g5 2 _ _ _ yc
      clear ya yb yc
      refine Or.inl ⟨(by have hg := getD_some i35; simp [Region.wanted, yielded, hg]), ?_⟩
      rintro _ rfl
      go_simp <;> with_reducible rfl
     refine relG_call (i := 17) (o := ⟨some 38, _, _, _, _, _⟩) ((fun v _ => v = .int .i64 (plC p q))) [(15, 36, 1), (16, 37, 0), (14, 35, 2)] [] rfl rfl (by kernel_rfl) (by kernel_rfl) ((fun _ _ _ h _ => h)) ?_ ?_
     · intro t w1 hB hf hbf K hK
       simp only [DepF, List.getD_cons_zero, List.getD_cons_succ] at hf
       obtain ⟨⟨_, ⟨e36, i36⟩, rfl⟩, ⟨_, ⟨e37, i37⟩, rfl⟩, ⟨_, ⟨e35, i35⟩, rfl⟩, _⟩ := hf
       clear hbf
       have ya := boxStays Y3.out hB
       have yb := boxStays Y4.out hB
       have yc := boxStays Y5.out hB
       have ca0 := cell_of_row _ g3 0 _ _ _ ya
       have ca1 := cell_of_row _ g3 1 _ _ _ ya
       have ca2 := cell_of_row _ g3 2 _ _ _ ya
       have cb0 := cell_of_row _ g4 0 _ _ _ yb
       have cb1 := cell_of_row _ g4 1 _ _ _ yb
       have cb2 := cell_of_row _ g4 2 _ _ _ yb
       have cc0 := cell_of_row _ g5 0 _ _ _ yc
       have cc1 := cell_of_row _ g5 1 _ _ _ yc
       have cc2 := cell_of_row _ g5 2 _ _ _ yc
       clear ya yb yc
       refine ⟨(by have hg := getD_some i35; simp [Region.wanted, yielded, hg]), ?_⟩
       go_simp
       refine (key_CmpPlace p q w1 (HPC.out.below hB) (HQC.out.below hB)).mono ?_
       rintro e w2 ⟨rfl, hb⟩
       exact hK.out _ w2 (rfl) hb
     refine relG_pure (i := 18) (o := ⟨some 39, _, _, _, _, _⟩) (v := ?v68) [(17, 38, 0), (14, 35, 3)] [] rfl rfl (by kernel_rfl) (by kernel_rfl) (fun t w1 hB hf hbf => ?y68) ?n68
     case y68 =>
      simp only [DepF, List.getD_cons_zero, List.getD_cons_succ] at hf
      obtain ⟨⟨_, ⟨e38, i38⟩, rfl⟩, ⟨_, ⟨e35, i35⟩, rfl⟩, _⟩ := hf
      clear hbf
      have ya := boxStays Y3.out hB
      have yb := boxStays Y4.out hB
      have yc := boxStays Y5.out hB
      have ca0 := cell_of_row _ g3 0 _ _ _ ya
      have ca1 := cell_of_row _ g3 1 _ _ _ ya
      have ca2 := cell_of_row _ g3 2 _ _ _ ya
      have cb0 := cell_of_row _ g4 0 _ _ _ yb
      have cb1 := cell_of_row _ g4 1 _ _ _ yb
      have cb2 := cell_of_row _ g4 2 _ _ _ yb
      have cc0 := cell_of_row _ g5 0 _ _ _ yc
      have cc1 := cell_of_row _ g5 1 _ _ _ yc
      have cc2 := cell_of_row _ g5 2 _ _ _ yc
      clear ya yb yc
      have lq := L1.out
      refine Or.inl ⟨(by have hg := getD_some i35; simp [Region.wanted, yielded, hg]), ?_⟩
      rintro _ rfl
      go_simp <;> with_reducible rfl
     refine relG_pure (i := 19) (o := ⟨some 40, _, _, _, _, _⟩) (v := ?v69) [(18, 39, 0), (14, 35, 4)] [] rfl rfl (by kernel_rfl) (by kernel_rfl) (fun t w1 hB hf hbf => ?y69) ?n69
     case y69 =>
      simp only [DepF, List.getD_cons_zero, List.getD_cons_succ] at hf
      obtain ⟨⟨_, ⟨e39, i39⟩, rfl⟩, ⟨_, ⟨e35, i35⟩, rfl⟩, _⟩ := hf
      clear hbf
      have ya := boxStays Y3.out hB
      have yb := boxStays Y4.out hB
      have yc := boxStays Y5.out hB
      have ca0 := cell_of_row _ g3 0 _ _ _ ya
      have ca1 := cell_of_row _ g3 1 _ _ _ ya
      have ca2 := cell_of_row _ g3 2 _ _ _ ya
      have cb0 := cell_of_row _ g4 0 _ _ _ yb
      have cb1 := cell_of_row _ g4 1 _ _ _ yb
      have cb2 := cell_of_row _ g4 2 _ _ _ yb
      have cc0 := cell_of_row _ g5 0 _ _ _ yc
      have cc1 := cell_of_row _ g5 1 _ _ _ yc
      have cc2 := cell_of_row _ g5 2 _ _ _ yc
      clear ya yb yc
      refine Or.inl ⟨(by have hg := getD_some i35; simp [Region.wanted, yielded, hg]), ?_⟩
      rintro _ rfl
      go_simp <;> with_reducible rfl
     refine relG_pure (i := 20) (o := ⟨some 41, _, _, _, _, _⟩) (v := ?v70) [(19, 40, 0)] [4] rfl rfl (by kernel_rfl) (by kernel_rfl) (fun t w1 hB hf hbf => ?y70) ?n70
     case y70 =>
      simp only [DepF, List.getD_cons_zero] at hf
      simp only [BasF] at hbf
      obtain ⟨⟨_, ⟨e40, i40⟩, rfl⟩, _⟩ := hf
      obtain ⟨⟨b4, k4⟩, _⟩ := hbf
      have ya := boxStays Y3.out hB
      have yb := boxStays Y4.out hB
      have yc := boxStays Y5.out hB
      have ca0 := cell_of_row _ g3 0 _ _ _ ya
      have ca1 := cell_of_row _ g3 1 _ _ _ ya
      have ca2 := cell_of_row _ g3 2 _ _ _ ya
      have cb0 := cell_of_row _ g4 0 _ _ _ yb
      have cb1 := cell_of_row _ g4 1 _ _ _ yb
      have cb2 := cell_of_row _ g4 2 _ _ _ yb
      have cc0 := cell_of_row _ g5 0 _ _ _ yc
      have cc1 := cell_of_row _ g5 1 _ _ _ yc
      have cc2 := cell_of_row _ g5 2 _ _ _ yc
      clear ya yb yc
      refine Or.inl ⟨(by have hg := getD_some i40; simp [Region.wanted, yielded, hg]), ?_⟩
      rintro _ rfl
      go_simp <;> with_reducible rfl
     refine relG_pure (i := 21) (o := ⟨some 42, _, _, _, _, _⟩) (v := ?v71) [(19, 40, 1)] [5] rfl rfl (by kernel_rfl) (by kernel_rfl) (fun t w1 hB hf hbf => ?y71) ?n71
     case y71 =>
      simp only [DepF, List.getD_cons_zero, List.getD_cons_succ] at hf
      simp only [BasF] at hbf
      obtain ⟨⟨_, ⟨e40, i40⟩, rfl⟩, _⟩ := hf
      obtain ⟨⟨b5, k5⟩, _⟩ := hbf
      have ya := boxStays Y3.out hB
      have yb := boxStays Y4.out hB
      have yc := boxStays Y5.out hB
      have ca0 := cell_of_row _ g3 0 _ _ _ ya
      have ca1 := cell_of_row _ g3 1 _ _ _ ya
      have ca2 := cell_of_row _ g3 2 _ _ _ ya
      have cb0 := cell_of_row _ g4 0 _ _ _ yb
      have cb1 := cell_of_row _ g4 1 _ _ _ yb
      have cb2 := cell_of_row _ g4 2 _ _ _ yb
      have cc0 := cell_of_row _ g5 0 _ _ _ yc
      have cc1 := cell_of_row _ g5 1 _ _ _ yc
      have cc2 := cell_of_row _ g5 2 _ _ _ yc
      clear ya yb yc
      refine Or.inl ⟨(by have hg := getD_some i40; simp [Region.wanted, yielded, hg]), ?_⟩
      rintro _ rfl
      go_simp <;> with_reducible rfl
     refine relG_call (i := 22) (o := ⟨some 43, _, _, _, _, _⟩) ((fun v _ => v = .int .i64 (plC q r))) [(20, 41, 1), (21, 42, 0), (19, 40, 2)] [] rfl rfl (by kernel_rfl) (by kernel_rfl) ((fun _ _ _ h _ => h)) ?_ ?_
     · intro t w1 hB hf hbf K hK
       simp only [DepF, List.getD_cons_zero, List.getD_cons_succ] at hf
       obtain ⟨⟨_, ⟨e41, i41⟩, rfl⟩, ⟨_, ⟨e42, i42⟩, rfl⟩, ⟨_, ⟨e40, i40⟩, rfl⟩, _⟩ := hf
       clear hbf
       have ya := boxStays Y3.out hB
       have yb := boxStays Y4.out hB
       have yc := boxStays Y5.out hB
       have ca0 := cell_of_row _ g3 0 _ _ _ ya
       have ca1 := cell_of_row _ g3 1 _ _ _ ya
       have ca2 := cell_of_row _ g3 2 _ _ _ ya
       have cb0 := cell_of_row _ g4 0 _ _ _ yb
       have cb1 := cell_of_row _ g4 1 _ _ _ yb
       have cb2 := cell_of_row _ g4 2 _ _ _ yb
       have cc0 := cell_of_row _ g5 0 _ _ _ yc
       have cc1 := cell_of_row _ g5 1 _ _ _ yc
       have cc2 := cell_of_row _ g5 2 _ _ _ yc
       clear ya yb yc
       refine ⟨(by have hg := getD_some i40; simp [Region.wanted, yielded, hg]), ?_⟩
       go_simp
       refine (key_CmpPlace q r w1 (HQC.out.below hB) (HRC.out.below hB)).mono ?_
       rintro e w2 ⟨rfl, hb⟩
       exact hK.out _ w2 (rfl) hb
     refine relG_pure (i := 23) (o := ⟨some 44, _, _, _, _, _⟩) (v := ?v72) [(22, 43, 0), (19, 40, 3)] [] rfl rfl (by kernel_rfl) (by kernel_rfl) (fun t w1 hB hf hbf => ?y72) ?n72
     case y72 =>
      simp only [DepF, List.getD_cons_zero, List.getD_cons_succ] at hf
      obtain ⟨⟨_, ⟨e43, i43⟩, rfl⟩, ⟨_, ⟨e40, i40⟩, rfl⟩, _⟩ := hf
      clear hbf
      have ya := boxStays Y3.out hB
      have yb := boxStays Y4.out hB
      have yc := boxStays Y5.out hB
      have ca0 := cell_of_row _ g3 0 _ _ _ ya
      have ca1 := cell_of_row _ g3 1 _ _ _ ya
      have ca2 := cell_of_row _ g3 2 _ _ _ ya
      have cb0 := cell_of_row _ g4 0 _ _ _ yb
      have cb1 := cell_of_row _ g4 1 _ _ _ yb
      have cb2 := cell_of_row _ g4 2 _ _ _ yb
      have cc0 := cell_of_row _ g5 0 _ _ _ yc
      have cc1 := cell_of_row _ g5 1 _ _ _ yc
      have cc2 := cell_of_row _ g5 2 _ _ _ yc
      clear ya yb yc
      have lq := L2.out
      refine Or.inl ⟨(by have hg := getD_some i40; simp [Region.wanted, yielded, hg]), ?_⟩
      rintro _ rfl
      go_simp <;> with_reducible rfl
     refine relG_pure (i := 24) (o := ⟨some 45, _, _, _, _, _⟩) (v := ?v73) [(19, 40, 4), (23, 44, 0), (14, 35, 9)] [] rfl rfl (by kernel_rfl) (by kernel_rfl) (fun t w1 hB hf hbf => ?y73) ?n73
     case y73 =>
      simp only [DepF, List.getD_cons_zero, List.getD_cons_succ] at hf
      obtain ⟨⟨_, ⟨e40, i40⟩, rfl⟩, ⟨_, ⟨e44, i44⟩, rfl⟩, ⟨_, ⟨e35, i35⟩, rfl⟩, _⟩ := hf
      clear hbf
      have ya := boxStays Y3.out hB
      have yb := boxStays Y4.out hB
      have yc := boxStays Y5.out hB
      have ca0 := cell_of_row _ g3 0 _ _ _ ya
      have ca1 := cell_of_row _ g3 1 _ _ _ ya
      have ca2 := cell_of_row _ g3 2 _ _ _ ya
      have cb0 := cell_of_row _ g4 0 _ _ _ yb
      have cb1 := cell_of_row _ g4 1 _ _ _ yb
      have cb2 := cell_of_row _ g4 2 _ _ _ yb
      have cc0 := cell_of_row _ g5 0 _ _ _ yc
      have cc1 := cell_of_row _ g5 1 _ _ _ yc
      have cc2 := cell_of_row _ g5 2 _ _ _ yc
      clear ya yb yc
      refine Or.inl ⟨(by have hg := getD_some i35; simp [Region.wanted, yielded, hg]), ?_⟩
      rintro _ rfl
      go_simp <;> with_reducible rfl
     refine relG_pure (i := 25) (o := ⟨some 46, _, _, _, _, _⟩) (v := ?v74) [(24, 45, 0), (14, 35, 10)] [] rfl rfl (by kernel_rfl) (by kernel_rfl) (fun t w1 hB hf hbf => ?y74) ?n74
     case y74 =>
      simp only [DepF, List.getD_cons_zero, List.getD_cons_succ] at hf
      obtain ⟨⟨_, ⟨e45, i45⟩, rfl⟩, ⟨_, ⟨e35, i35⟩, rfl⟩, _⟩ := hf
      clear hbf
      have ya := boxStays Y3.out hB
      have yb := boxStays Y4.out hB
      have yc := boxStays Y5.out hB
      have ca0 := cell_of_row _ g3 0 _ _ _ ya
      have ca1 := cell_of_row _ g3 1 _ _ _ ya
      have ca2 := cell_of_row _ g3 2 _ _ _ ya
      have cb0 := cell_of_row _ g4 0 _ _ _ yb
      have cb1 := cell_of_row _ g4 1 _ _ _ yb
      have cb2 := cell_of_row _ g4 2 _ _ _ yb
      have cc0 := cell_of_row _ g5 0 _ _ _ yc
      have cc1 := cell_of_row _ g5 1 _ _ _ yc
      have cc2 := cell_of_row _ g5 2 _ _ _ yc
      clear ya yb yc
      refine Or.inl ⟨(by have hg := getD_some i35; simp [Region.wanted, yielded, hg]), ?_⟩
      rintro _ rfl
      go_simp <;> with_reducible rfl
     refine relG_pure (i := 26) (o := ⟨some 47, _, _, _, _, _⟩) (v := undef) [(25, 46, 0)] [3] rfl rfl (by kernel_rfl) (by kernel_rfl) (fun t w1 hB hf hbf => ?_) ?_
     · simp only [DepF, List.getD_cons_zero] at hf
       obtain ⟨⟨_, ⟨e46, i46⟩, rfl⟩, _⟩ := hf
       exact Or.inr ⟨(by have hg := getD_some i46; simp [Region.wanted, yielded, hg]), rfl⟩
     refine relG_pure (i := 27) (o := ⟨some 48, _, _, _, _, _⟩) (v := undef) [(25, 46, 1)] [5] rfl rfl (by kernel_rfl) (by kernel_rfl) (fun t w1 hB hf hbf => ?_) ?_
     · simp only [DepF, List.getD_cons_zero, List.getD_cons_succ] at hf
       obtain ⟨⟨_, ⟨e46, i46⟩, rfl⟩, _⟩ := hf
       exact Or.inr ⟨(by have hg := getD_some i46; simp [Region.wanted, yielded, hg]), rfl⟩
     refine relG_pure (i := 28) (o := ⟨some 49, _, _, _, _, _⟩) (v := undef) [(26, 47, 1), (27, 48, 0), (25, 46, 2)] [] rfl rfl (by kernel_rfl) (by kernel_rfl) (fun t w1 hB hf hbf => ?_) ?_
     · simp only [DepF, List.getD_cons_zero, List.getD_cons_succ] at hf
       obtain ⟨⟨_, ⟨e47, i47⟩, rfl⟩, ⟨_, ⟨e48, i48⟩, rfl⟩, ⟨_, ⟨e46, i46⟩, rfl⟩, _⟩ := hf
       exact Or.inr ⟨(by have hg := getD_some i46; simp [Region.wanted, yielded, hg]), rfl⟩
     refine relG_pure (i := 29) (o := ⟨some 50, _, _, _, _, _⟩) (v := undef) [(28, 49, 0), (25, 46, 3)] [] rfl rfl (by kernel_rfl) (by kernel_rfl) (fun t w1 hB hf hbf => ?_) ?_
     · simp only [DepF, List.getD_cons_zero, List.getD_cons_succ] at hf
       obtain ⟨⟨_, ⟨e49, i49⟩, rfl⟩, ⟨_, ⟨e46, i46⟩, rfl⟩, _⟩ := hf
       exact Or.inr ⟨(by have hg := getD_some i46; simp [Region.wanted, yielded, hg]), rfl⟩
     refine relG_pure (i := 30) (o := ⟨some 51, _, _, _, _, _⟩) (v := ?v75) [(25, 46, 4), (29, 50, 0), (14, 35, 15)] [] rfl rfl (by kernel_rfl) (by kernel_rfl) (fun t w1 hB hf hbf => ?y75) ?n75
     case y75 =>
      simp only [DepF, List.getD_cons_zero, List.getD_cons_succ] at hf
      obtain ⟨⟨_, ⟨e46, i46⟩, rfl⟩, ⟨_, ⟨e50, i50⟩, rfl⟩, ⟨_, ⟨e35, i35⟩, rfl⟩, _⟩ := hf
      clear hbf
      have ya := boxStays Y3.out hB
      have yb := boxStays Y4.out hB
      have yc := boxStays Y5.out hB
      have ca0 := cell_of_row _ g3 0 _ _ _ ya
      have ca1 := cell_of_row _ g3 1 _ _ _ ya
      have ca2 := cell_of_row _ g3 2 _ _ _ ya
      have cb0 := cell_of_row _ g4 0 _ _ _ yb
      have cb1 := cell_of_row _ g4 1 _ _ _ yb
      have cb2 := cell_of_row _ g4 2 _ _ _ yb
      have cc0 := cell_of_row _ g5 0 _ _ _ yc
      have cc1 := cell_of_row _ g5 1 _ _ _ yc
      have cc2 := cell_of_row _ g5 2 _ _ _ yc
      clear ya yb yc
      refine Or.inl ⟨(by have hg := getD_some i35; simp [Region.wanted, yielded, hg]), ?_⟩
      rintro _ rfl
      go_simp <;> with_reducible rfl
     refine relG_pure (i := 31) (o := ⟨some 52, _, _, _, _, _⟩) (v := ?v76) [(14, 35, 16), (30, 51, 0)] [] rfl rfl (by kernel_rfl) (by kernel_rfl) (fun t w1 hB hf hbf => ?y76) ?n76
     case y76 =>
      simp only [DepF, List.getD_cons_zero, List.getD_cons_succ] at hf
      obtain ⟨⟨_, ⟨e35, i35⟩, rfl⟩, ⟨_, ⟨e51, i51⟩, rfl⟩, _⟩ := hf
      clear hbf
      have ya := boxStays Y3.out hB
      have yb := boxStays Y4.out hB
      have yc := boxStays Y5.out hB
      have ca0 := cell_of_row _ g3 0 _ _ _ ya
      have ca1 := cell_of_row _ g3 1 _ _ _ ya
      have ca2 := cell_of_row _ g3 2 _ _ _ ya
      have cb0 := cell_of_row _ g4 0 _ _ _ yb
      have cb1 := cell_of_row _ g4 1 _ _ _ yb
      have cb2 := cell_of_row _ g4 2 _ _ _ yb
      have cc0 := cell_of_row _ g5 0 _ _ _ yc
      have cc1 := cell_of_row _ g5 1 _ _ _ yc
      have cc2 := cell_of_row _ g5 2 _ _ _ yc
      clear ya yb yc
      refine Or.inl ⟨wanted_none rfl, ?_⟩
      rintro _ rfl
      go_simp <;> with_reducible rfl
     refine relG_pure (i := 32) (o := ⟨some 53, _, _, _, _, _⟩) (v := ?v77) [(31, 52, 0)] [] rfl rfl (by kernel_rfl) (by kernel_rfl) (fun t w1 hB hf hbf => ?y77) ?n77
     case y77 =>
      simp only [DepF, List.getD_cons_zero] at hf
      obtain ⟨⟨_, ⟨e52, i52⟩, rfl⟩, _⟩ := hf
      clear hbf
      have ya := boxStays Y3.out hB
      have yb := boxStays Y4.out hB
      have yc := boxStays Y5.out hB
      have ca0 := cell_of_row _ g3 0 _ _ _ ya
      have ca1 := cell_of_row _ g3 1 _ _ _ ya
      have ca2 := cell_of_row _ g3 2 _ _ _ ya
      have cb0 := cell_of_row _ g4 0 _ _ _ yb
      have cb1 := cell_of_row _ g4 1 _ _ _ yb
      have cb2 := cell_of_row _ g4 2 _ _ _ yb
      have cc0 := cell_of_row _ g5 0 _ _ _ yc
      have cc1 := cell_of_row _ g5 1 _ _ _ yc
      have cc2 := cell_of_row _ g5 2 _ _ _ yc
      clear ya yb yc
      refine Or.inl ⟨wanted_none rfl, ?_⟩
      rintro _ rfl
      go_simp <;> with_reducible rfl
     refine relG_pure (i := 33) (o := ⟨some 54, _, _, _, _, _⟩) (v := ?v78) [(32, 53, 0)] [3] rfl rfl (by kernel_rfl) (by kernel_rfl) (fun t w1 hB hf hbf => ?y78) ?n78
     case y78 =>
      simp only [DepF, List.getD_cons_zero] at hf
      simp only [BasF] at hbf
      obtain ⟨⟨_, ⟨e53, i53⟩, rfl⟩, _⟩ := hf
      obtain ⟨⟨b3, k3⟩, _⟩ := hbf
      have ya := boxStays Y3.out hB
      have yb := boxStays Y4.out hB
      have yc := boxStays Y5.out hB
      have ca0 := cell_of_row _ g3 0 _ _ _ ya
      have ca1 := cell_of_row _ g3 1 _ _ _ ya
      have ca2 := cell_of_row _ g3 2 _ _ _ ya
      have cb0 := cell_of_row _ g4 0 _ _ _ yb
      have cb1 := cell_of_row _ g4 1 _ _ _ yb
      have cb2 := cell_of_row _ g4 2 _ _ _ yb
      have cc0 := cell_of_row _ g5 0 _ _ _ yc
      have cc1 := cell_of_row _ g5 1 _ _ _ yc
      have cc2 := cell_of_row _ g5 2 _ _ _ yc
      clear ya yb yc
      refine Or.inl ⟨(by have hg := getD_some i53; simp [Region.wanted, yielded, hg]), ?_⟩
      rintro _ rfl
      go_simp <;> with_reducible rfl
     refine relG_pure (i := 34) (o := ⟨some 55, _, _, _, _, _⟩) (v := ?v79) [(33, 54, 0), (32, 53, 1)] [] rfl rfl (by kernel_rfl) (by kernel_rfl) (fun t w1 hB hf hbf => ?y79) ?n79
     case y79 =>
      simp only [DepF, List.getD_cons_zero, List.getD_cons_succ] at hf
      obtain ⟨⟨_, ⟨e54, i54⟩, rfl⟩, ⟨_, ⟨e53, i53⟩, rfl⟩, _⟩ := hf
      clear hbf
      have ya := boxStays Y3.out hB
      have yb := boxStays Y4.out hB
      have yc := boxStays Y5.out hB
      have ca0 := cell_of_row _ g3 0 _ _ _ ya
      have ca1 := cell_of_row _ g3 1 _ _ _ ya
      have ca2 := cell_of_row _ g3 2 _ _ _ ya
      have cb0 := cell_of_row _ g4 0 _ _ _ yb
      have cb1 := cell_of_row _ g4 1 _ _ _ yb
      have cb2 := cell_of_row _ g4 2 _ _ _ yb
      have cc0 := cell_of_row _ g5 0 _ _ _ yc
      have cc1 := cell_of_row _ g5 1 _ _ _ yc
      have cc2 := cell_of_row _ g5 2 _ _ _ yc
      clear ya yb yc
      refine Or.inl ⟨(by have hg := getD_some i53; simp [Region.wanted, yielded, hg]), ?_⟩
      rintro _ rfl
      go_simp <;> with_reducible rfl
     refine relG_pure (i := 35) (o := ⟨some 56, _, _, _, _, _⟩) (v := ?v80) [(32, 53, 2)] [4] rfl rfl (by kernel_rfl) (by kernel_rfl) (fun t w1 hB hf hbf => ?y80) ?n80
     case y80 =>
      simp only [DepF, List.getD_cons_zero, List.getD_cons_succ] at hf
      simp only [BasF] at hbf
      obtain ⟨⟨_, ⟨e53, i53⟩, rfl⟩, _⟩ := hf
      obtain ⟨⟨b4, k4⟩, _⟩ := hbf
      have ya := boxStays Y3.out hB
      have yb := boxStays Y4.out hB
      have yc := boxStays Y5.out hB
      have ca0 := cell_of_row _ g3 0 _ _ _ ya
      have ca1 := cell_of_row _ g3 1 _ _ _ ya
      have ca2 := cell_of_row _ g3 2 _ _ _ ya
      have cb0 := cell_of_row _ g4 0 _ _ _ yb
      have cb1 := cell_of_row _ g4 1 _ _ _ yb
      have cb2 := cell_of_row _ g4 2 _ _ _ yb
      have cc0 := cell_of_row _ g5 0 _ _ _ yc
      have cc1 := cell_of_row _ g5 1 _ _ _ yc
      have cc2 := cell_of_row _ g5 2 _ _ _ yc
      clear ya yb yc
      refine Or.inl ⟨(by have hg := getD_some i53; simp [Region.wanted, yielded, hg]), ?_⟩
      rintro _ rfl
      go_simp <;> with_reducible rfl
     refine relG_pure (i := 36) (o := ⟨some 57, _, _, _, _, _⟩) (v := ?v81) [(35, 56, 0), (32, 53, 3)] [] rfl rfl (by kernel_rfl) (by kernel_rfl) (fun t w1 hB hf hbf => ?y81) ?n81
     case y81 =>
      simp only [DepF, List.getD_cons_zero, List.getD_cons_succ] at hf
      obtain ⟨⟨_, ⟨e56, i56⟩, rfl⟩, ⟨_, ⟨e53, i53⟩, rfl⟩, _⟩ := hf
      clear hbf
      have ya := boxStays Y3.out hB
      have yb := boxStays Y4.out hB
      have yc := boxStays Y5.out hB
      have ca0 := cell_of_row _ g3 0 _ _ _ ya
      have ca1 := cell_of_row _ g3 1 _ _ _ ya
      have ca2 := cell_of_row _ g3 2 _ _ _ ya
      have cb0 := cell_of_row _ g4 0 _ _ _ yb
      have cb1 := cell_of_row _ g4 1 _ _ _ yb
      have cb2 := cell_of_row _ g4 2 _ _ _ yb
      have cc0 := cell_of_row _ g5 0 _ _ _ yc
      have cc1 := cell_of_row _ g5 1 _ _ _ yc
      have cc2 := cell_of_row _ g5 2 _ _ _ yc
      clear ya yb yc
      refine Or.inl ⟨(by have hg := getD_some i53; simp [Region.wanted, yielded, hg]), ?_⟩
      rintro _ rfl
      go_simp <;> with_reducible rfl
     refine relG_call (i := 37) (o := ⟨some 58, _, _, _, _, _⟩) ((fun v _ => v = .int .i64 (pathC p.l q.l))) [(34, 55, 2), (36, 57, 0), (32, 53, 4)] [] rfl rfl (by kernel_rfl) (by kernel_rfl) ((fun _ _ _ h _ => h)) ?_ ?_
     · intro t w1 hB hf hbf K hK
       simp only [DepF, List.getD_cons_zero, List.getD_cons_succ] at hf
       obtain ⟨⟨_, ⟨e55, i55⟩, rfl⟩, ⟨_, ⟨e57, i57⟩, rfl⟩, ⟨_, ⟨e53, i53⟩, rfl⟩, _⟩ := hf
       clear hbf
       have ya := boxStays Y3.out hB
       have yb := boxStays Y4.out hB
       have yc := boxStays Y5.out hB
       have ca0 := cell_of_row _ g3 0 _ _ _ ya
       have ca1 := cell_of_row _ g3 1 _ _ _ ya
       have ca2 := cell_of_row _ g3 2 _ _ _ ya
       have cb0 := cell_of_row _ g4 0 _ _ _ yb
       have cb1 := cell_of_row _ g4 1 _ _ _ yb
       have cb2 := cell_of_row _ g4 2 _ _ _ yb
       have cc0 := cell_of_row _ g5 0 _ _ _ yc
       have cc1 := cell_of_row _ g5 1 _ _ _ yc
       have cc2 := cell_of_row _ g5 2 _ _ _ yc
       clear ya yb yc
       refine ⟨(by have hg := getD_some i53; simp [Region.wanted, yielded, hg]), ?_⟩
       go_simp
       refine (key_CmpPath p.l q.l p.a q.a p.n q.n p.c q.c w1 (HPC.out.at_.below hB rfl) (HQC.out.at_.below hB rfl) HPC.out.len HQC.out.len HPC.out.le HPC.out.sz HQC.out.sz).mono ?_
       rintro e w2 ⟨rfl, hb⟩
       exact hK.out _ w2 (rfl) hb
     refine relG_pure (i := 38) (o := ⟨some 59, _, _, _, _, _⟩) (v := ?v82) [(32, 53, 5)] [4] rfl rfl (by kernel_rfl) (by kernel_rfl) (fun t w1 hB hf hbf => ?y82) ?n82
     case y82 =>
      simp only [DepF, List.getD_cons_zero, List.getD_cons_succ] at hf
      simp only [BasF] at hbf
      obtain ⟨⟨_, ⟨e53, i53⟩, rfl⟩, _⟩ := hf
      obtain ⟨⟨b4, k4⟩, _⟩ := hbf
      have ya := boxStays Y3.out hB
      have yb := boxStays Y4.out hB
      have yc := boxStays Y5.out hB
      have ca0 := cell_of_row _ g3 0 _ _ _ ya
      have ca1 := cell_of_row _ g3 1 _ _ _ ya
      have ca2 := cell_of_row _ g3 2 _ _ _ ya
      have cb0 := cell_of_row _ g4 0 _ _ _ yb
      have cb1 := cell_of_row _ g4 1 _ _ _ yb
      have cb2 := cell_of_row _ g4 2 _ _ _ yb
      have cc0 := cell_of_row _ g5 0 _ _ _ yc
      have cc1 := cell_of_row _ g5 1 _ _ _ yc
      have cc2 := cell_of_row _ g5 2 _ _ _ yc
      clear ya yb yc
      refine Or.inl ⟨(by have hg := getD_some i53; simp [Region.wanted, yielded, hg]), ?_⟩
      rintro _ rfl
      go_simp <;> with_reducible rfl
     refine relG_pure (i := 39) (o := ⟨some 60, _, _, _, _, _⟩) (v := ?v83) [(38, 59, 0), (32, 53, 6)] [] rfl rfl (by kernel_rfl) (by kernel_rfl) (fun t w1 hB hf hbf => ?y83) ?n83
     case y83 =>
      simp only [DepF, List.getD_cons_zero, List.getD_cons_succ] at hf
      obtain ⟨⟨_, ⟨e59, i59⟩, rfl⟩, ⟨_, ⟨e53, i53⟩, rfl⟩, _⟩ := hf
      clear hbf
      have ya := boxStays Y3.out hB
      have yb := boxStays Y4.out hB
      have yc := boxStays Y5.out hB
      have ca0 := cell_of_row _ g3 0 _ _ _ ya
      have ca1 := cell_of_row _ g3 1 _ _ _ ya
      have ca2 := cell_of_row _ g3 2 _ _ _ ya
      have cb0 := cell_of_row _ g4 0 _ _ _ yb
      have cb1 := cell_of_row _ g4 1 _ _ _ yb
      have cb2 := cell_of_row _ g4 2 _ _ _ yb
      have cc0 := cell_of_row _ g5 0 _ _ _ yc
      have cc1 := cell_of_row _ g5 1 _ _ _ yc
      have cc2 := cell_of_row _ g5 2 _ _ _ yc
      clear ya yb yc
      refine Or.inl ⟨(by have hg := getD_some i53; simp [Region.wanted, yielded, hg]), ?_⟩
      rintro _ rfl
      go_simp <;> with_reducible rfl
     refine relG_pure (i := 40) (o := ⟨some 61, _, _, _, _, _⟩) (v := ?v84) [(32, 53, 7)] [3] rfl rfl (by kernel_rfl) (by kernel_rfl) (fun t w1 hB hf hbf => ?y84) ?n84
     case y84 =>
      simp only [DepF, List.getD_cons_zero, List.getD_cons_succ] at hf
      simp only [BasF] at hbf
      obtain ⟨⟨_, ⟨e53, i53⟩, rfl⟩, _⟩ := hf
      obtain ⟨⟨b3, k3⟩, _⟩ := hbf
      have ya := boxStays Y3.out hB
      have yb := boxStays Y4.out hB
      have yc := boxStays Y5.out hB
      have ca0 := cell_of_row _ g3 0 _ _ _ ya
      have ca1 := cell_of_row _ g3 1 _ _ _ ya
      have ca2 := cell_of_row _ g3 2 _ _ _ ya
      have cb0 := cell_of_row _ g4 0 _ _ _ yb
      have cb1 := cell_of_row _ g4 1 _ _ _ yb
      have cb2 := cell_of_row _ g4 2 _ _ _ yb
      have cc0 := cell_of_row _ g5 0 _ _ _ yc
      have cc1 := cell_of_row _ g5 1 _ _ _ yc
      have cc2 := cell_of_row _ g5 2 _ _ _ yc
      clear ya yb yc
      refine Or.inl ⟨(by have hg := getD_some i53; simp [Region.wanted, yielded, hg]), ?_⟩
      rintro _ rfl
      go_simp <;> with_reducible rfl
     refine relG_pure (i := 41) (o := ⟨some 62, _, _, _, _, _⟩) (v := ?v85) [(40, 61, 0), (32, 53, 8)] [] rfl rfl (by kernel_rfl) (by kernel_rfl) (fun t w1 hB hf hbf => ?y85) ?n85
     case y85 =>
      simp only [DepF, List.getD_cons_zero, List.getD_cons_succ] at hf
      obtain ⟨⟨_, ⟨e61, i61⟩, rfl⟩, ⟨_, ⟨e53, i53⟩, rfl⟩, _⟩ := hf
      clear hbf
      have ya := boxStays Y3.out hB
      have yb := boxStays Y4.out hB
      have yc := boxStays Y5.out hB
      have ca0 := cell_of_row _ g3 0 _ _ _ ya
      have ca1 := cell_of_row _ g3 1 _ _ _ ya
      have ca2 := cell_of_row _ g3 2 _ _ _ ya
      have cb0 := cell_of_row _ g4 0 _ _ _ yb
      have cb1 := cell_of_row _ g4 1 _ _ _ yb
      have cb2 := cell_of_row _ g4 2 _ _ _ yb
      have cc0 := cell_of_row _ g5 0 _ _ _ yc
      have cc1 := cell_of_row _ g5 1 _ _ _ yc
      have cc2 := cell_of_row _ g5 2 _ _ _ yc
      clear ya yb yc
      refine Or.inl ⟨(by have hg := getD_some i53; simp [Region.wanted, yielded, hg]), ?_⟩
      rintro _ rfl
      go_simp <;> with_reducible rfl
     refine relG_call (i := 42) (o := ⟨some 63, _, _, _, _, _⟩) ((fun v _ => v = .int .i64 (pathC q.l p.l))) [(39, 60, 2), (41, 62, 0), (32, 53, 9)] [] rfl rfl (by kernel_rfl) (by kernel_rfl) ((fun _ _ _ h _ => h)) ?_ ?_
     · intro t w1 hB hf hbf K hK
       simp only [DepF, List.getD_cons_zero, List.getD_cons_succ] at hf
       obtain ⟨⟨_, ⟨e60, i60⟩, rfl⟩, ⟨_, ⟨e62, i62⟩, rfl⟩, ⟨_, ⟨e53, i53⟩, rfl⟩, _⟩ := hf
       clear hbf
       have ya := boxStays Y3.out hB
       have yb := boxStays Y4.out hB
       have yc := boxStays Y5.out hB
       have ca0 := cell_of_row _ g3 0 _ _ _ ya
       have ca1 := cell_of_row _ g3 1 _ _ _ ya
       have ca2 := cell_of_row _ g3 2 _ _ _ ya
       have cb0 := cell_of_row _ g4 0 _ _ _ yb
       have cb1 := cell_of_row _ g4 1 _ _ _ yb
       have cb2 := cell_of_row _ g4 2 _ _ _ yb
       have cc0 := cell_of_row _ g5 0 _ _ _ yc
       have cc1 := cell_of_row _ g5 1 _ _ _ yc
       have cc2 := cell_of_row _ g5 2 _ _ _ yc
       clear ya yb yc
       refine ⟨(by have hg := getD_some i53; simp [Region.wanted, yielded, hg]), ?_⟩
       go_simp
       refine (key_CmpPath q.l p.l q.a p.a q.n p.n q.c p.c w1 (HQC.out.at_.below hB rfl) (HPC.out.at_.below hB rfl) HQC.out.len HPC.out.len HQC.out.le HQC.out.sz HPC.out.sz).mono ?_
       rintro e w2 ⟨rfl, hb⟩
       exact hK.out _ w2 (rfl) hb
     refine relG_pure (i := 43) (o := ⟨some 64, _, _, _, _, _⟩) (v := ?v86) [(42, 63, 0), (32, 53, 10)] [] rfl rfl (by kernel_rfl) (by kernel_rfl) (fun t w1 hB hf hbf => ?y86) ?n86
     case y86 =>
      simp only [DepF, List.getD_cons_zero, List.getD_cons_succ] at hf
      obtain ⟨⟨_, ⟨e63, i63⟩, rfl⟩, ⟨_, ⟨e53, i53⟩, rfl⟩, _⟩ := hf
      clear hbf
      have ya := boxStays Y3.out hB
      have yb := boxStays Y4.out hB
      have yc := boxStays Y5.out hB
      have ca0 := cell_of_row _ g3 0 _ _ _ ya
      have ca1 := cell_of_row _ g3 1 _ _ _ ya
      have ca2 := cell_of_row _ g3 2 _ _ _ ya
      have cb0 := cell_of_row _ g4 0 _ _ _ yb
      have cb1 := cell_of_row _ g4 1 _ _ _ yb
      have cb2 := cell_of_row _ g4 2 _ _ _ yb
      have cc0 := cell_of_row _ g5 0 _ _ _ yc
      have cc1 := cell_of_row _ g5 1 _ _ _ yc
      have cc2 := cell_of_row _ g5 2 _ _ _ yc
      clear ya yb yc
      have wz := W2.out
      refine Or.inl ⟨(by have hg := getD_some i53; simp [Region.wanted, yielded, hg]), ?_⟩
      rintro _ rfl
      go_simp <;> with_reducible rfl
     refine relG_pure (i := 44) (o := ⟨some 65, _, _, _, _, _⟩) (v := ?v87) [(37, 58, 6), (43, 64, 0), (32, 53, 11)] [] rfl rfl (by kernel_rfl) (by kernel_rfl) (fun t w1 hB hf hbf => ?y87) ?n87
     case y87 =>
      simp only [DepF, List.getD_cons_zero, List.getD_cons_succ] at hf
      obtain ⟨⟨_, ⟨e58, i58⟩, rfl⟩, ⟨_, ⟨e64, i64⟩, rfl⟩, ⟨_, ⟨e53, i53⟩, rfl⟩, _⟩ := hf
      clear hbf
      have ya := boxStays Y3.out hB
      have yb := boxStays Y4.out hB
      have yc := boxStays Y5.out hB
      have ca0 := cell_of_row _ g3 0 _ _ _ ya
      have ca1 := cell_of_row _ g3 1 _ _ _ ya
      have ca2 := cell_of_row _ g3 2 _ _ _ ya
      have cb0 := cell_of_row _ g4 0 _ _ _ yb
      have cb1 := cell_of_row _ g4 1 _ _ _ yb
      have cb2 := cell_of_row _ g4 2 _ _ _ yb
      have cc0 := cell_of_row _ g5 0 _ _ _ yc
      have cc1 := cell_of_row _ g5 1 _ _ _ yc
      have cc2 := cell_of_row _ g5 2 _ _ _ yc
      clear ya yb yc
      have nq := bne_self (pathC p.l q.l)
      refine Or.inl ⟨(by have hg := getD_some i53; simp [Region.wanted, yielded, hg]), ?_⟩
      rintro _ rfl
      go_simp <;> with_reducible rfl
     refine relG_pure (i := 45) (o := ⟨some 66, _, _, _, _, _⟩) (v := ?v88) [(32, 53, 12), (44, 65, 0)] [] rfl rfl (by kernel_rfl) (by kernel_rfl) (fun t w1 hB hf hbf => ?y88) ?n88
     case y88 =>
      simp only [DepF, List.getD_cons_zero, List.getD_cons_succ] at hf
      obtain ⟨⟨_, ⟨e53, i53⟩, rfl⟩, ⟨_, ⟨e65, i65⟩, rfl⟩, _⟩ := hf
      clear hbf
      have ya := boxStays Y3.out hB
      have yb := boxStays Y4.out hB
      have yc := boxStays Y5.out hB
      have ca0 := cell_of_row _ g3 0 _ _ _ ya
      have ca1 := cell_of_row _ g3 1 _ _ _ ya
      have ca2 := cell_of_row _ g3 2 _ _ _ ya
      have cb0 := cell_of_row _ g4 0 _ _ _ yb
      have cb1 := cell_of_row _ g4 1 _ _ _ yb
      have cb2 := cell_of_row _ g4 2 _ _ _ yb
      have cc0 := cell_of_row _ g5 0 _ _ _ yc
      have cc1 := cell_of_row _ g5 1 _ _ _ yc
      have cc2 := cell_of_row _ g5 2 _ _ _ yc
      clear ya yb yc
      refine Or.inl ⟨wanted_none rfl, ?_⟩
      rintro _ rfl
      go_simp <;> with_reducible rfl
     refine relG_pure (i := 46) (o := ⟨some 67, _, _, _, _, _⟩) (v := ?v89) [(45, 66, 0)] [] rfl rfl (by kernel_rfl) (by kernel_rfl) (fun t w1 hB hf hbf => ?y89) ?n89
     case y89 =>
      simp only [DepF, List.getD_cons_zero] at hf
      obtain ⟨⟨_, ⟨e66, i66⟩, rfl⟩, _⟩ := hf
      clear hbf
      have ya := boxStays Y3.out hB
      have yb := boxStays Y4.out hB
      have yc := boxStays Y5.out hB
      have ca0 := cell_of_row _ g3 0 _ _ _ ya
      have ca1 := cell_of_row _ g3 1 _ _ _ ya
      have ca2 := cell_of_row _ g3 2 _ _ _ ya
      have cb0 := cell_of_row _ g4 0 _ _ _ yb
      have cb1 := cell_of_row _ g4 1 _ _ _ yb
      have cb2 := cell_of_row _ g4 2 _ _ _ yb
      have cc0 := cell_of_row _ g5 0 _ _ _ yc
      have cc1 := cell_of_row _ g5 1 _ _ _ yc
      have cc2 := cell_of_row _ g5 2 _ _ _ yc
      clear ya yb yc
      refine Or.inl ⟨wanted_none rfl, ?_⟩
      rintro _ rfl
      go_simp <;> with_reducible rfl
     refine relG_pure (i := 47) (o := ⟨some 68, _, _, _, _, _⟩) (v := ?v90) [(46, 67, 0)] [3] rfl rfl (by kernel_rfl) (by kernel_rfl) (fun t w1 hB hf hbf => ?y90) ?n90
     case y90 =>
      simp only [DepF, List.getD_cons_zero] at hf
      simp only [BasF] at hbf
      obtain ⟨⟨_, ⟨e67, i67⟩, rfl⟩, _⟩ := hf
      obtain ⟨⟨b3, k3⟩, _⟩ := hbf
      have ya := boxStays Y3.out hB
      have yb := boxStays Y4.out hB
      have yc := boxStays Y5.out hB
      have ca0 := cell_of_row _ g3 0 _ _ _ ya
      have ca1 := cell_of_row _ g3 1 _ _ _ ya
      have ca2 := cell_of_row _ g3 2 _ _ _ ya
      have cb0 := cell_of_row _ g4 0 _ _ _ yb
      have cb1 := cell_of_row _ g4 1 _ _ _ yb
      have cb2 := cell_of_row _ g4 2 _ _ _ yb
      have cc0 := cell_of_row _ g5 0 _ _ _ yc
      have cc1 := cell_of_row _ g5 1 _ _ _ yc
      have cc2 := cell_of_row _ g5 2 _ _ _ yc
      clear ya yb yc
      refine Or.inl ⟨(by have hg := getD_some i67; simp [Region.wanted, yielded, hg]), ?_⟩
      rintro _ rfl
      go_simp <;> with_reducible rfl
     refine relG_pure (i := 48) (o := ⟨some 69, _, _, _, _, _⟩) (v := ?v91) [(47, 68, 0), (46, 67, 1)] [] rfl rfl (by kernel_rfl) (by kernel_rfl) (fun t w1 hB hf hbf => ?y91) ?n91
     case y91 =>
      simp only [DepF, List.getD_cons_zero, List.getD_cons_succ] at hf
      obtain ⟨⟨_, ⟨e68, i68⟩, rfl⟩, ⟨_, ⟨e67, i67⟩, rfl⟩, _⟩ := hf
      clear hbf
      have ya := boxStays Y3.out hB
      have yb := boxStays Y4.out hB
      have yc := boxStays Y5.out hB
      have ca0 := cell_of_row _ g3 0 _ _ _ ya
      have ca1 := cell_of_row _ g3 1 _ _ _ ya
      have ca2 := cell_of_row _ g3 2 _ _ _ ya
      have cb0 := cell_of_row _ g4 0 _ _ _ yb
      have cb1 := cell_of_row _ g4 1 _ _ _ yb
      have cb2 := cell_of_row _ g4 2 _ _ _ yb
      have cc0 := cell_of_row _ g5 0 _ _ _ yc
      have cc1 := cell_of_row _ g5 1 _ _ _ yc
      have cc2 := cell_of_row _ g5 2 _ _ _ yc
      clear ya yb yc
      refine Or.inl ⟨(by have hg := getD_some i67; simp [Region.wanted, yielded, hg]), ?_⟩
      rintro _ rfl
      go_simp <;> with_reducible rfl
     refine relG_pure (i := 49) (o := ⟨some 70, _, _, _, _, _⟩) (v := ?v92) [(46, 67, 2)] [4] rfl rfl (by kernel_rfl) (by kernel_rfl) (fun t w1 hB hf hbf => ?y92) ?n92
     case y92 =>
      simp only [DepF, List.getD_cons_zero, List.getD_cons_succ] at hf
      simp only [BasF] at hbf
      obtain ⟨⟨_, ⟨e67, i67⟩, rfl⟩, _⟩ := hf
      obtain ⟨⟨b4, k4⟩, _⟩ := hbf
      have ya := boxStays Y3.out hB
      have yb := boxStays Y4.out hB
      have yc := boxStays Y5.out hB
      have ca0 := cell_of_row _ g3 0 _ _ _ ya
      have ca1 := cell_of_row _ g3 1 _ _ _ ya
      have ca2 := cell_of_row _ g3 2 _ _ _ ya
      have cb0 := cell_of_row _ g4 0 _ _ _ yb
      have cb1 := cell_of_row _ g4 1 _ _ _ yb
      have cb2 := cell_of_row _ g4 2 _ _ _ yb
      have cc0 := cell_of_row _ g5 0 _ _ _ yc
      have cc1 := cell_of_row _ g5 1 _ _ _ yc
      have cc2 := cell_of_row _ g5 2 _ _ _ yc
      clear ya yb yc
      refine Or.inl ⟨(by have hg := getD_some i67; simp [Region.wanted, yielded, hg]), ?_⟩
      rintro _ rfl
      go_simp <;> with_reducible rfl
     refine relG_pure (i := 50) (o := ⟨some 71, _, _, _, _, _⟩) (v := ?v93) [(49, 70, 0), (46, 67, 3)] [] rfl rfl (by kernel_rfl) (by kernel_rfl) (fun t w1 hB hf hbf => ?y93) ?n93
     case y93 =>
      simp only [DepF, List.getD_cons_zero, List.getD_cons_succ] at hf
      obtain ⟨⟨_, ⟨e70, i70⟩, rfl⟩, ⟨_, ⟨e67, i67⟩, rfl⟩, _⟩ := hf
      clear hbf
      have ya := boxStays Y3.out hB
      have yb := boxStays Y4.out hB
      have yc := boxStays Y5.out hB
      have ca0 := cell_of_row _ g3 0 _ _ _ ya
      have ca1 := cell_of_row _ g3 1 _ _ _ ya
      have ca2 := cell_of_row _ g3 2 _ _ _ ya
      have cb0 := cell_of_row _ g4 0 _ _ _ yb
      have cb1 := cell_of_row _ g4 1 _ _ _ yb
      have cb2 := cell_of_row _ g4 2 _ _ _ yb
      have cc0 := cell_of_row _ g5 0 _ _ _ yc
      have cc1 := cell_of_row _ g5 1 _ _ _ yc
      have cc2 := cell_of_row _ g5 2 _ _ _ yc
      clear ya yb yc
      refine Or.inl ⟨(by have hg := getD_some i67; simp [Region.wanted, yielded, hg]), ?_⟩
      rintro _ rfl
      go_simp <;> with_reducible rfl
     refine relG_call (i := 51) (o := ⟨some 72, _, _, _, _, _⟩) ((fun v _ => v = .int .i64 (txtC p.x q.x))) [(48, 69, 2), (50, 71, 0), (46, 67, 4)] [] rfl rfl (by kernel_rfl) (by kernel_rfl) ((fun _ _ _ h _ => h)) ?_ ?_
     · intro t w1 hB hf hbf K hK
       simp only [DepF, List.getD_cons_zero, List.getD_cons_succ] at hf
       obtain ⟨⟨_, ⟨e69, i69⟩, rfl⟩, ⟨_, ⟨e71, i71⟩, rfl⟩, ⟨_, ⟨e67, i67⟩, rfl⟩, _⟩ := hf
       clear hbf
       have ya := boxStays Y3.out hB
       have yb := boxStays Y4.out hB
       have yc := boxStays Y5.out hB
       have ca0 := cell_of_row _ g3 0 _ _ _ ya
       have ca1 := cell_of_row _ g3 1 _ _ _ ya
       have ca2 := cell_of_row _ g3 2 _ _ _ ya
       have cb0 := cell_of_row _ g4 0 _ _ _ yb
       have cb1 := cell_of_row _ g4 1 _ _ _ yb
       have cb2 := cell_of_row _ g4 2 _ _ _ yb
       have cc0 := cell_of_row _ g5 0 _ _ _ yc
       have cc1 := cell_of_row _ g5 1 _ _ _ yc
       have cc2 := cell_of_row _ g5 2 _ _ _ yc
       clear ya yb yc
       refine ⟨(by have hg := getD_some i67; simp [Region.wanted, yielded, hg]), ?_⟩
       go_simp
       refine (key_Cmp p.x q.x w1).mono ?_
       rintro e w2 ⟨rfl, hb⟩
       exact hK.out _ w2 (rfl) hb
     refine relG_pure (i := 52) (o := ⟨some 73, _, _, _, _, _⟩) (v := ?v94) [(46, 67, 5)] [4] rfl rfl (by kernel_rfl) (by kernel_rfl) (fun t w1 hB hf hbf => ?y94) ?n94
     case y94 =>
      simp only [DepF, List.getD_cons_zero, List.getD_cons_succ] at hf
      simp only [BasF] at hbf
      obtain ⟨⟨_, ⟨e67, i67⟩, rfl⟩, _⟩ := hf
      obtain ⟨⟨b4, k4⟩, _⟩ := hbf
      have ya := boxStays Y3.out hB
      have yb := boxStays Y4.out hB
      have yc := boxStays Y5.out hB
      have ca0 := cell_of_row _ g3 0 _ _ _ ya
      have ca1 := cell_of_row _ g3 1 _ _ _ ya
      have ca2 := cell_of_row _ g3 2 _ _ _ ya
      have cb0 := cell_of_row _ g4 0 _ _ _ yb
      have cb1 := cell_of_row _ g4 1 _ _ _ yb
      have cb2 := cell_of_row _ g4 2 _ _ _ yb
      have cc0 := cell_of_row _ g5 0 _ _ _ yc
      have cc1 := cell_of_row _ g5 1 _ _ _ yc
      have cc2 := cell_of_row _ g5 2 _ _ _ yc
      clear ya yb yc
      refine Or.inl ⟨(by have hg := getD_some i67; simp [Region.wanted, yielded, hg]), ?_⟩
      rintro _ rfl
      go_simp <;> with_reducible rfl
     refine relG_pure (i := 53) (o := ⟨some 74, _, _, _, _, _⟩) (v := ?v95) [(52, 73, 0), (46, 67, 6)] [] rfl rfl (by kernel_rfl) (by kernel_rfl) (fun t w1 hB hf hbf => ?y95) ?n95
     case y95 =>
      simp only [DepF, List.getD_cons_zero, List.getD_cons_succ] at hf
      obtain ⟨⟨_, ⟨e73, i73⟩, rfl⟩, ⟨_, ⟨e67, i67⟩, rfl⟩, _⟩ := hf
      clear hbf
      have ya := boxStays Y3.out hB
      have yb := boxStays Y4.out hB
      have yc := boxStays Y5.out hB
      have ca0 := cell_of_row _ g3 0 _ _ _ ya
      have ca1 := cell_of_row _ g3 1 _ _ _ ya
      have ca2 := cell_of_row _ g3 2 _ _ _ ya
      have cb0 := cell_of_row _ g4 0 _ _ _ yb
      have cb1 := cell_of_row _ g4 1 _ _ _ yb
      have cb2 := cell_of_row _ g4 2 _ _ _ yb
      have cc0 := cell_of_row _ g5 0 _ _ _ yc
      have cc1 := cell_of_row _ g5 1 _ _ _ yc
      have cc2 := cell_of_row _ g5 2 _ _ _ yc
      clear ya yb yc
      refine Or.inl ⟨(by have hg := getD_some i67; simp [Region.wanted, yielded, hg]), ?_⟩
      rintro _ rfl
      go_simp <;> with_reducible rfl
     refine relG_pure (i := 54) (o := ⟨some 75, _, _, _, _, _⟩) (v := ?v96) [(46, 67, 7)] [3] rfl rfl (by kernel_rfl) (by kernel_rfl) (fun t w1 hB hf hbf => ?y96) ?n96
     case y96 =>
      simp only [DepF, List.getD_cons_zero, List.getD_cons_succ] at hf
      simp only [BasF] at hbf
      obtain ⟨⟨_, ⟨e67, i67⟩, rfl⟩, _⟩ := hf
      obtain ⟨⟨b3, k3⟩, _⟩ := hbf
      have ya := boxStays Y3.out hB
      have yb := boxStays Y4.out hB
      have yc := boxStays Y5.out hB
      have ca0 := cell_of_row _ g3 0 _ _ _ ya
      have ca1 := cell_of_row _ g3 1 _ _ _ ya
      have ca2 := cell_of_row _ g3 2 _ _ _ ya
      have cb0 := cell_of_row _ g4 0 _ _ _ yb
      have cb1 := cell_of_row _ g4 1 _ _ _ yb
      have cb2 := cell_of_row _ g4 2 _ _ _ yb
      have cc0 := cell_of_row _ g5 0 _ _ _ yc
      have cc1 := cell_of_row _ g5 1 _ _ _ yc
      have cc2 := cell_of_row _ g5 2 _ _ _ yc
      clear ya yb yc
      refine Or.inl ⟨(by have hg := getD_some i67; simp [Region.wanted, yielded, hg]), ?_⟩
      rintro _ rfl
      go_simp <;> with_reducible rfl
     refine relG_pure (i := 55) (o := ⟨some 76, _, _, _, _, _⟩) (v := ?v97) [(54, 75, 0), (46, 67, 8)] [] rfl rfl (by kernel_rfl) (by kernel_rfl) (fun t w1 hB hf hbf => ?y97) ?n97
     case y97 =>
      simp only [DepF, List.getD_cons_zero, List.getD_cons_succ] at hf
      obtain ⟨⟨_, ⟨e75, i75⟩, rfl⟩, ⟨_, ⟨e67, i67⟩, rfl⟩, _⟩ := hf
      clear hbf
      have ya := boxStays Y3.out hB
      have yb := boxStays Y4.out hB
      have yc := boxStays Y5.out hB
      have ca0 := cell_of_row _ g3 0 _ _ _ ya
      have ca1 := cell_of_row _ g3 1 _ _ _ ya
      have ca2 := cell_of_row _ g3 2 _ _ _ ya
      have cb0 := cell_of_row _ g4 0 _ _ _ yb
      have cb1 := cell_of_row _ g4 1 _ _ _ yb
      have cb2 := cell_of_row _ g4 2 _ _ _ yb
      have cc0 := cell_of_row _ g5 0 _ _ _ yc
      have cc1 := cell_of_row _ g5 1 _ _ _ yc
      have cc2 := cell_of_row _ g5 2 _ _ _ yc
      clear ya yb yc
      refine Or.inl ⟨(by have hg := getD_some i67; simp [Region.wanted, yielded, hg]), ?_⟩
      rintro _ rfl
      go_simp <;> with_reducible rfl
     refine relG_call (i := 56) (o := ⟨some 77, _, _, _, _, _⟩) ((fun v _ => v = .int .i64 (txtC q.x p.x))) [(53, 74, 2), (55, 76, 0), (46, 67, 9)] [] rfl rfl (by kernel_rfl) (by kernel_rfl) ((fun _ _ _ h _ => h)) ?_ ?_
     · intro t w1 hB hf hbf K hK
       simp only [DepF, List.getD_cons_zero, List.getD_cons_succ] at hf
       obtain ⟨⟨_, ⟨e74, i74⟩, rfl⟩, ⟨_, ⟨e76, i76⟩, rfl⟩, ⟨_, ⟨e67, i67⟩, rfl⟩, _⟩ := hf
       clear hbf
       have ya := boxStays Y3.out hB
       have yb := boxStays Y4.out hB
       have yc := boxStays Y5.out hB
       have ca0 := cell_of_row _ g3 0 _ _ _ ya
       have ca1 := cell_of_row _ g3 1 _ _ _ ya
       have ca2 := cell_of_row _ g3 2 _ _ _ ya
       have cb0 := cell_of_row _ g4 0 _ _ _ yb
       have cb1 := cell_of_row _ g4 1 _ _ _ yb
       have cb2 := cell_of_row _ g4 2 _ _ _ yb
       have cc0 := cell_of_row _ g5 0 _ _ _ yc
       have cc1 := cell_of_row _ g5 1 _ _ _ yc
       have cc2 := cell_of_row _ g5 2 _ _ _ yc
       clear ya yb yc
       refine ⟨(by have hg := getD_some i67; simp [Region.wanted, yielded, hg]), ?_⟩
       go_simp
       refine (key_Cmp q.x p.x w1).mono ?_
       rintro e w2 ⟨rfl, hb⟩
       exact hK.out _ w2 (rfl) hb
     refine relG_pure (i := 57) (o := ⟨some 78, _, _, _, _, _⟩) (v := ?v98) [(56, 77, 0), (46, 67, 10)] [] rfl rfl (by kernel_rfl) (by kernel_rfl) (fun t w1 hB hf hbf => ?y98) ?n98
     case y98 =>
      simp only [DepF, List.getD_cons_zero, List.getD_cons_succ] at hf
      obtain ⟨⟨_, ⟨e77, i77⟩, rfl⟩, ⟨_, ⟨e67, i67⟩, rfl⟩, _⟩ := hf
      clear hbf
      have ya := boxStays Y3.out hB
      have yb := boxStays Y4.out hB
      have yc := boxStays Y5.out hB
      have ca0 := cell_of_row _ g3 0 _ _ _ ya
      have ca1 := cell_of_row _ g3 1 _ _ _ ya
      have ca2 := cell_of_row _ g3 2 _ _ _ ya
      have cb0 := cell_of_row _ g4 0 _ _ _ yb
      have cb1 := cell_of_row _ g4 1 _ _ _ yb
      have cb2 := cell_of_row _ g4 2 _ _ _ yb
      have cc0 := cell_of_row _ g5 0 _ _ _ yc
      have cc1 := cell_of_row _ g5 1 _ _ _ yc
      have cc2 := cell_of_row _ g5 2 _ _ _ yc
      clear ya yb yc
      have wz := W3.out
      refine Or.inl ⟨(by have hg := getD_some i67; simp [Region.wanted, yielded, hg]), ?_⟩
      rintro _ rfl
      go_simp <;> with_reducible rfl
     refine relG_pure (i := 58) (o := ⟨some 79, _, _, _, _, _⟩) (v := ?v99) [(51, 72, 6), (57, 78, 0), (46, 67, 11)] [] rfl rfl (by kernel_rfl) (by kernel_rfl) (fun t w1 hB hf hbf => ?y99) ?n99
     case y99 =>
      simp only [DepF, List.getD_cons_zero, List.getD_cons_succ] at hf
      obtain ⟨⟨_, ⟨e72, i72⟩, rfl⟩, ⟨_, ⟨e78, i78⟩, rfl⟩, ⟨_, ⟨e67, i67⟩, rfl⟩, _⟩ := hf
      clear hbf
      have ya := boxStays Y3.out hB
      have yb := boxStays Y4.out hB
      have yc := boxStays Y5.out hB
      have ca0 := cell_of_row _ g3 0 _ _ _ ya
      have ca1 := cell_of_row _ g3 1 _ _ _ ya
      have ca2 := cell_of_row _ g3 2 _ _ _ ya
      have cb0 := cell_of_row _ g4 0 _ _ _ yb
      have cb1 := cell_of_row _ g4 1 _ _ _ yb
      have cb2 := cell_of_row _ g4 2 _ _ _ yb
      have cc0 := cell_of_row _ g5 0 _ _ _ yc
      have cc1 := cell_of_row _ g5 1 _ _ _ yc
      have cc2 := cell_of_row _ g5 2 _ _ _ yc
      clear ya yb yc
      have nq := bne_self (txtC p.x q.x)
      refine Or.inl ⟨(by have hg := getD_some i67; simp [Region.wanted, yielded, hg]), ?_⟩
      rintro _ rfl
      go_simp <;> with_reducible rfl
     refine relG_pure (i := 59) (o := ⟨some 80, _, _, _, _, _⟩) (v := ?v100) [(46, 67, 12), (58, 79, 0)] [] rfl rfl (by kernel_rfl) (by kernel_rfl) (fun t w1 hB hf hbf => ?y100) ?n100
     case y100 =>
      simp only [DepF, List.getD_cons_zero, List.getD_cons_succ] at hf
      obtain ⟨⟨_, ⟨e67, i67⟩, rfl⟩, ⟨_, ⟨e79, i79⟩, rfl⟩, _⟩ := hf
      clear hbf
      have ya := boxStays Y3.out hB
      have yb := boxStays Y4.out hB
      have yc := boxStays Y5.out hB
      have ca0 := cell_of_row _ g3 0 _ _ _ ya
      have ca1 := cell_of_row _ g3 1 _ _ _ ya
      have ca2 := cell_of_row _ g3 2 _ _ _ ya
      have cb0 := cell_of_row _ g4 0 _ _ _ yb
      have cb1 := cell_of_row _ g4 1 _ _ _ yb
      have cb2 := cell_of_row _ g4 2 _ _ _ yb
      have cc0 := cell_of_row _ g5 0 _ _ _ yc
      have cc1 := cell_of_row _ g5 1 _ _ _ yc
      have cc2 := cell_of_row _ g5 2 _ _ _ yc
      clear ya yb yc
      refine Or.inl ⟨wanted_none rfl, ?_⟩
      rintro _ rfl
      go_simp <;> with_reducible rfl
     refine relG_done [(59, 80, 0)] (by kernel_rfl) rfl (by kernel_rfl) (fun f wE hB hf => ?_)
     simp only [FinF, List.getD_cons_zero] at hf
     obtain ⟨⟨_, e80, rfl⟩, _⟩ := hf
     rw [regT_run (s := 21) (n := 60)]
     case h => rfl
     case hb => exact Nat.le_of_ble_eq_true (by kernel_rfl)
     simp only [List.take_succ_cons, List.take_zero, List.map_cons, List.map_nil, List.drop_succ_cons, List.drop_zero, List.cons_append, List.nil_append, e80]
     clear e80
     have HBD := Lib.hid hB
     clear hB
     go_wp2_with fail
     go_meet
     exact ⟨rfl, HBD⟩
   replace L3 := Lib.hid (L3.out rfl rfl)
   as_aux_lemma =>
    have hx0 : True := trivial
    refine relG_start (slots := [21, 22, 23, 24, 25, 26, 27, 28, 29, 30, 31, 32, 33, 34, 35, 36, 37, 38, 39, 40, 41, 42, 43, 44, 45, 46, 47, 48, 49, 50, 51, 52, 53, 54, 55, 56, 57, 58, 59, 60, 61, 62, 63, 64, 65, 66, 67, 68, 69, 70, 71, 72, 73, 74, 75, 76, 77, 78, 79, 80]) (so := []) (by kernel_rfl) (by kernel_rfl) (by rfl) ?_
    refine relG_pure (i := 0) (o := ⟨some 21, _, _, _, _, _⟩) (v := ?v101) [] [3] rfl rfl (by kernel_rfl) (by kernel_rfl) (fun t w1 hB hf hbf => ?y101) ?n101
    case y101 =>
     simp only [BasF] at hbf
     clear hf
     obtain ⟨⟨b3, k3⟩, _⟩ := hbf
     have ya := boxStays Y3.out hB
     have yb := boxStays Y4.out hB
     have yc := boxStays Y5.out hB
     have ca0 := cell_of_row _ g3 0 _ _ _ ya
     have ca1 := cell_of_row _ g3 1 _ _ _ ya
     have ca2 := cell_of_row _ g3 2 _ _ _ ya
     have cb0 := cell_of_row _ g4 0 _ _ _ yb
     have cb1 := cell_of_row _ g4 1 _ _ _ yb
     have cb2 := cell_of_row _ g4 2 _ _ _ yb
     have cc0 := cell_of_row _ g5 0 _ _ _ yc
     have cc1 := cell_of_row _ g5 1 _ _ _ yc
     have cc2 := cell_of_row _ g5 2 _ _ _ yc
     clear ya yb yc
     refine Or.inl ⟨wanted_none rfl, ?_⟩
     rintro _ rfl
     go_simp <;> with_reducible rfl
    refine relG_pure (i := 1) (o := ⟨some 22, _, _, _, _, _⟩) (v := ?v102) [] [4] rfl rfl (by kernel_rfl) (by kernel_rfl) (fun t w1 hB hf hbf => ?y102) ?n102
    case y102 =>
     simp only [BasF] at hbf
     clear hf
     obtain ⟨⟨b4, k4⟩, _⟩ := hbf
     have ya := boxStays Y3.out hB
     have yb := boxStays Y4.out hB
     have yc := boxStays Y5.out hB
     have ca0 := cell_of_row _ g3 0 _ _ _ ya
     have ca1 := cell_of_row _ g3 1 _ _ _ ya
     have ca2 := cell_of_row _ g3 2 _ _ _ ya
     have cb0 := cell_of_row _ g4 0 _ _ _ yb
     have cb1 := cell_of_row _ g4 1 _ _ _ yb
     have cb2 := cell_of_row _ g4 2 _ _ _ yb
     have cc0 := cell_of_row _ g5 0 _ _ _ yc
     have cc1 := cell_of_row _ g5 1 _ _ _ yc
     have cc2 := cell_of_row _ g5 2 _ _ _ yc
     clear ya yb yc
     refine Or.inl ⟨wanted_none rfl, ?_⟩
     rintro _ rfl
     go_simp <;> with_reducible rfl
    refine relG_call (i := 2) (o := ⟨some 23, _, _, _, _, _⟩) ((fun v _ => v = .int .i64 (plC p q))) [(0, 21, 1), (1, 22, 0)] [] rfl rfl (by kernel_rfl) (by kernel_rfl) ((fun _ _ _ h _ => h)) ?_ ?_
    · intro t w1 hB hf hbf K hK
      simp only [DepF, List.getD_cons_zero, List.getD_cons_succ] at hf
      obtain ⟨⟨_, ⟨e21, i21⟩, rfl⟩, ⟨_, ⟨e22, i22⟩, rfl⟩, _⟩ := hf
      clear hbf
      have ya := boxStays Y3.out hB
      have yb := boxStays Y4.out hB
      have yc := boxStays Y5.out hB
      have ca0 := cell_of_row _ g3 0 _ _ _ ya
      have ca1 := cell_of_row _ g3 1 _ _ _ ya
      have ca2 := cell_of_row _ g3 2 _ _ _ ya
      have cb0 := cell_of_row _ g4 0 _ _ _ yb
      have cb1 := cell_of_row _ g4 1 _ _ _ yb
      have cb2 := cell_of_row _ g4 2 _ _ _ yb
      have cc0 := cell_of_row _ g5 0 _ _ _ yc
      have cc1 := cell_of_row _ g5 1 _ _ _ yc
      have cc2 := cell_of_row _ g5 2 _ _ _ yc
      clear ya yb yc
      refine ⟨wanted_none rfl, ?_⟩
      go_simp
      refine (key_CmpPlace p q w1 (HPC.out.below hB) (HQC.out.below hB)).mono ?_
      rintro e w2 ⟨rfl, hb⟩
      exact hK.out _ w2 (rfl) hb
    refine relG_pure (i := 3) (o := ⟨some 24, _, _, _, _, _⟩) (v := ?v103) [] [4] rfl rfl (by kernel_rfl) (by kernel_rfl) (fun t w1 hB hf hbf => ?y103) ?n103
    case y103 =>
     simp only [BasF] at hbf
     clear hf
     obtain ⟨⟨b4, k4⟩, _⟩ := hbf
     have ya := boxStays Y3.out hB
     have yb := boxStays Y4.out hB
     have yc := boxStays Y5.out hB
     have ca0 := cell_of_row _ g3 0 _ _ _ ya
     have ca1 := cell_of_row _ g3 1 _ _ _ ya
     have ca2 := cell_of_row _ g3 2 _ _ _ ya
     have cb0 := cell_of_row _ g4 0 _ _ _ yb
     have cb1 := cell_of_row _ g4 1 _ _ _ yb
     have cb2 := cell_of_row _ g4 2 _ _ _ yb
     have cc0 := cell_of_row _ g5 0 _ _ _ yc
     have cc1 := cell_of_row _ g5 1 _ _ _ yc
     have cc2 := cell_of_row _ g5 2 _ _ _ yc
     clear ya yb yc
     refine Or.inl ⟨wanted_none rfl, ?_⟩
     rintro _ rfl
     go_simp <;> with_reducible rfl
    refine relG_pure (i := 4) (o := ⟨some 25, _, _, _, _, _⟩) (v := ?v104) [] [3] rfl rfl (by kernel_rfl) (by kernel_rfl) (fun t w1 hB hf hbf => ?y104) ?n104
    case y104 =>
     simp only [BasF] at hbf
     clear hf
     obtain ⟨⟨b3, k3⟩, _⟩ := hbf
     have ya := boxStays Y3.out hB
     have yb := boxStays Y4.out hB
     have yc := boxStays Y5.out hB
     have ca0 := cell_of_row _ g3 0 _ _ _ ya
     have ca1 := cell_of_row _ g3 1 _ _ _ ya
     have ca2 := cell_of_row _ g3 2 _ _ _ ya
     have cb0 := cell_of_row _ g4 0 _ _ _ yb
     have cb1 := cell_of_row _ g4 1 _ _ _ yb
     have cb2 := cell_of_row _ g4 2 _ _ _ yb
     have cc0 := cell_of_row _ g5 0 _ _ _ yc
     have cc1 := cell_of_row _ g5 1 _ _ _ yc
     have cc2 := cell_of_row _ g5 2 _ _ _ yc
     clear ya yb yc
     refine Or.inl ⟨wanted_none rfl, ?_⟩
     rintro _ rfl
     go_simp <;> with_reducible rfl
    refine relG_call (i := 5) (o := ⟨some 26, _, _, _, _, _⟩) ((fun v _ => v = .int .i64 (plC q p))) [(3, 24, 1), (4, 25, 0)] [] rfl rfl (by kernel_rfl) (by kernel_rfl) ((fun _ _ _ h _ => h)) ?_ ?_
    · intro t w1 hB hf hbf K hK
      simp only [DepF, List.getD_cons_zero, List.getD_cons_succ] at hf
      obtain ⟨⟨_, ⟨e24, i24⟩, rfl⟩, ⟨_, ⟨e25, i25⟩, rfl⟩, _⟩ := hf
      clear hbf
      have ya := boxStays Y3.out hB
      have yb := boxStays Y4.out hB
      have yc := boxStays Y5.out hB
      have ca0 := cell_of_row _ g3 0 _ _ _ ya
      have ca1 := cell_of_row _ g3 1 _ _ _ ya
      have ca2 := cell_of_row _ g3 2 _ _ _ ya
      have cb0 := cell_of_row _ g4 0 _ _ _ yb
      have cb1 := cell_of_row _ g4 1 _ _ _ yb
      have cb2 := cell_of_row _ g4 2 _ _ _ yb
      have cc0 := cell_of_row _ g5 0 _ _ _ yc
      have cc1 := cell_of_row _ g5 1 _ _ _ yc
      have cc2 := cell_of_row _ g5 2 _ _ _ yc
      clear ya yb yc
      refine ⟨wanted_none rfl, ?_⟩
      go_simp
      refine (key_CmpPlace q p w1 (HQC.out.below hB) (HPC.out.below hB)).mono ?_
      rintro e w2 ⟨rfl, hb⟩
      exact hK.out _ w2 (rfl) hb
    refine relG_pure (i := 6) (o := ⟨some 27, _, _, _, _, _⟩) (v := ?v105) [(5, 26, 0)] [] rfl rfl (by kernel_rfl) (by kernel_rfl) (fun t w1 hB hf hbf => ?y105) ?n105
    case y105 =>
     simp only [DepF, List.getD_cons_zero] at hf
     obtain ⟨⟨_, ⟨e26, i26⟩, rfl⟩, _⟩ := hf
     clear hbf
     have ya := boxStays Y3.out hB
     have yb := boxStays Y4.out hB
     have yc := boxStays Y5.out hB
     have ca0 := cell_of_row _ g3 0 _ _ _ ya
     have ca1 := cell_of_row _ g3 1 _ _ _ ya
     have ca2 := cell_of_row _ g3 2 _ _ _ ya
     have cb0 := cell_of_row _ g4 0 _ _ _ yb
     have cb1 := cell_of_row _ g4 1 _ _ _ yb
     have cb2 := cell_of_row _ g4 2 _ _ _ yb
     have cc0 := cell_of_row _ g5 0 _ _ _ yc
     have cc1 := cell_of_row _ g5 1 _ _ _ yc
     have cc2 := cell_of_row _ g5 2 _ _ _ yc
     clear ya yb yc
     have wz := W1.out
     refine Or.inl ⟨wanted_none rfl, ?_⟩
     rintro _ rfl
     go_simp <;> with_reducible rfl
    refine relG_pure (i := 7) (o := ⟨some 28, _, _, _, _, _⟩) (v := ?v106) [(2, 23, 4), (6, 27, 0)] [] rfl rfl (by kernel_rfl) (by kernel_rfl) (fun t w1 hB hf hbf => ?y106) ?n106
    case y106 =>
     simp only [DepF, List.getD_cons_zero, List.getD_cons_succ] at hf
     obtain ⟨⟨_, ⟨e23, i23⟩, rfl⟩, ⟨_, ⟨e27, i27⟩, rfl⟩, _⟩ := hf
     clear hbf
     have ya := boxStays Y3.out hB
     have yb := boxStays Y4.out hB
     have yc := boxStays Y5.out hB
     have ca0 := cell_of_row _ g3 0 _ _ _ ya
     have ca1 := cell_of_row _ g3 1 _ _ _ ya
     have ca2 := cell_of_row _ g3 2 _ _ _ ya
     have cb0 := cell_of_row _ g4 0 _ _ _ yb
     have cb1 := cell_of_row _ g4 1 _ _ _ yb
     have cb2 := cell_of_row _ g4 2 _ _ _ yb
     have cc0 := cell_of_row _ g5 0 _ _ _ yc
     have cc1 := cell_of_row _ g5 1 _ _ _ yc
     have cc2 := cell_of_row _ g5 2 _ _ _ yc
     clear ya yb yc
     have nq := bne_self (plC p q)
     refine Or.inl ⟨wanted_none rfl, ?_⟩
     rintro _ rfl
     go_simp <;> with_reducible rfl
    refine relG_pure (i := 8) (o := ⟨some 29, _, _, _, _, _⟩) (v := ?v107) [(7, 28, 0)] [] rfl rfl (by kernel_rfl) (by kernel_rfl) (fun t w1 hB hf hbf => ?y107) ?n107
    case y107 =>
     simp only [DepF, List.getD_cons_zero] at hf
     obtain ⟨⟨_, ⟨e28, i28⟩, rfl⟩, _⟩ := hf
     clear hbf
     have ya := boxStays Y3.out hB
     have yb := boxStays Y4.out hB
     have yc := boxStays Y5.out hB
     have ca0 := cell_of_row _ g3 0 _ _ _ ya
     have ca1 := cell_of_row _ g3 1 _ _ _ ya
     have ca2 := cell_of_row _ g3 2 _ _ _ ya
     have cb0 := cell_of_row _ g4 0 _ _ _ yb
     have cb1 := cell_of_row _ g4 1 _ _ _ yb
     have cb2 := cell_of_row _ g4 2 _ _ _ yb
     have cc0 := cell_of_row _ g5 0 _ _ _ yc
     have cc1 := cell_of_row _ g5 1 _ _ _ yc
     have cc2 := cell_of_row _ g5 2 _ _ _ yc
     clear ya yb yc
     refine Or.inl ⟨wanted_none rfl, ?_⟩
     rintro _ rfl
     go_simp <;> with_reducible rfl
    refine relG_pure (i := 9) (o := ⟨some 30, _, _, _, _, _⟩) (v := ?v108) [(8, 29, 0)] [3] rfl rfl (by kernel_rfl) (by kernel_rfl) (fun t w1 hB hf hbf => ?y108) ?n108
    case y108 =>
     simp only [DepF, List.getD_cons_zero] at hf
     simp only [BasF] at hbf
     obtain ⟨⟨_, ⟨e29, i29⟩, rfl⟩, _⟩ := hf
     obtain ⟨⟨b3, k3⟩, _⟩ := hbf
     have ya := boxStays Y3.out hB
     have yb := boxStays Y4.out hB
     have yc := boxStays Y5.out hB
     have ca0 := cell_of_row _ g3 0 _ _ _ ya
     have ca1 := cell_of_row _ g3 1 _ _ _ ya
     have ca2 := cell_of_row _ g3 2 _ _ _ ya
     have cb0 := cell_of_row _ g4 0 _ _ _ yb
     have cb1 := cell_of_row _ g4 1 _ _ _ yb
     have cb2 := cell_of_row _ g4 2 _ _ _ yb
     have cc0 := cell_of_row _ g5 0 _ _ _ yc
     have cc1 := cell_of_row _ g5 1 _ _ _ yc
     have cc2 := cell_of_row _ g5 2 _ _ _ yc
     clear ya yb yc
     refine Or.inl ⟨(by have hg := getD_some i29; simp [Region.wanted, yielded, hg]), ?_⟩
     rintro _ rfl
     go_simp <;> with_reducible rfl
    refine relG_pure (i := 10) (o := ⟨some 31, _, _, _, _, _⟩) (v := ?v109) [(8, 29, 1)] [3] rfl rfl (by kernel_rfl) (by kernel_rfl) (fun t w1 hB hf hbf => ?y109) ?n109
    case y109 =>
     simp only [DepF, List.getD_cons_zero, List.getD_cons_succ] at hf
     simp only [BasF] at hbf
     obtain ⟨⟨_, ⟨e29, i29⟩, rfl⟩, _⟩ := hf
     obtain ⟨⟨b3, k3⟩, _⟩ := hbf
     have ya := boxStays Y3.out hB
     have yb := boxStays Y4.out hB
     have yc := boxStays Y5.out hB
     have ca0 := cell_of_row _ g3 0 _ _ _ ya
     have ca1 := cell_of_row _ g3 1 _ _ _ ya
     have ca2 := cell_of_row _ g3 2 _ _ _ ya
     have cb0 := cell_of_row _ g4 0 _ _ _ yb
     have cb1 := cell_of_row _ g4 1 _ _ _ yb
     have cb2 := cell_of_row _ g4 2 _ _ _ yb
     have cc0 := cell_of_row _ g5 0 _ _ _ yc
     have cc1 := cell_of_row _ g5 1 _ _ _ yc
     have cc2 := cell_of_row _ g5 2 _ _ _ yc
     clear ya yb yc
     refine Or.inl ⟨(by have hg := getD_some i29; simp [Region.wanted, yielded, hg]), ?_⟩
     rintro _ rfl
     go_simp <;> with_reducible rfl
    refine relG_call (i := 11) (o := ⟨some 32, _, _, _, _, _⟩) ((fun v _ => v = .int .i64 (0))) [(9, 30, 1), (10, 31, 0), (8, 29, 2)] [] rfl rfl (by kernel_rfl) (by kernel_rfl) ((fun _ _ _ h _ => h)) ?_ ?_
    · intro t w1 hB hf hbf K hK
      simp only [DepF, List.getD_cons_zero, List.getD_cons_succ] at hf
      obtain ⟨⟨_, ⟨e30, i30⟩, rfl⟩, ⟨_, ⟨e31, i31⟩, rfl⟩, ⟨_, ⟨e29, i29⟩, rfl⟩, _⟩ := hf
      clear hbf
      have ya := boxStays Y3.out hB
      have yb := boxStays Y4.out hB
      have yc := boxStays Y5.out hB
      have ca0 := cell_of_row _ g3 0 _ _ _ ya
      have ca1 := cell_of_row _ g3 1 _ _ _ ya
      have ca2 := cell_of_row _ g3 2 _ _ _ ya
      have cb0 := cell_of_row _ g4 0 _ _ _ yb
      have cb1 := cell_of_row _ g4 1 _ _ _ yb
      have cb2 := cell_of_row _ g4 2 _ _ _ yb
      have cc0 := cell_of_row _ g5 0 _ _ _ yc
      have cc1 := cell_of_row _ g5 1 _ _ _ yc
      have cc2 := cell_of_row _ g5 2 _ _ _ yc
      clear ya yb yc
      refine ⟨(by have hg := getD_some i29; simp [Region.wanted, yielded, hg]), ?_⟩
      go_simp
      refine (key_CmpPlace p p w1 (HPC.out.below hB) (HPC.out.below hB)).mono ?_
      rintro e w2 ⟨rfl, hb⟩
      exact hK.out _ w2 (by rw [plO.self]) hb
    refine relG_pure (i := 12) (o := ⟨some 33, _, _, _, _, _⟩) (v := ?v110) [(11, 32, 0), (8, 29, 3)] [] rfl rfl (by kernel_rfl) (by kernel_rfl) (fun t w1 hB hf hbf => ?y110) ?n110
    case y110 =>
     simp only [DepF, List.getD_cons_zero, List.getD_cons_succ] at hf
     obtain ⟨⟨_, ⟨e32, i32⟩, rfl⟩, ⟨_, ⟨e29, i29⟩, rfl⟩, _⟩ := hf
     clear hbf
     have ya := boxStays Y3.out hB
     have yb := boxStays Y4.out hB
     have yc := boxStays Y5.out hB
     have ca0 := cell_of_row _ g3 0 _ _ _ ya
     have ca1 := cell_of_row _ g3 1 _ _ _ ya
     have ca2 := cell_of_row _ g3 2 _ _ _ ya
     have cb0 := cell_of_row _ g4 0 _ _ _ yb
     have cb1 := cell_of_row _ g4 1 _ _ _ yb
     have cb2 := cell_of_row _ g4 2 _ _ _ yb
     have cc0 := cell_of_row _ g5 0 _ _ _ yc
     have cc1 := cell_of_row _ g5 1 _ _ _ yc
     have cc2 := cell_of_row _ g5 2 _ _ _ yc
     clear ya yb yc
     refine Or.inl ⟨(by have hg := getD_some i29; simp [Region.wanted, yielded, hg]), ?_⟩
     rintro _ rfl
     go_simp <;> with_reducible rfl
    refine relG_pure (i := 13) (o := ⟨some 34, _, _, _, _, _⟩) (v := ?v111) [(8, 29, 4), (12, 33, 0)] [] rfl rfl (by kernel_rfl) (by kernel_rfl) (fun t w1 hB hf hbf => ?y111) ?n111
    case y111 =>
     simp only [DepF, List.getD_cons_zero, List.getD_cons_succ] at hf
     obtain ⟨⟨_, ⟨e29, i29⟩, rfl⟩, ⟨_, ⟨e33, i33⟩, rfl⟩, _⟩ := hf
     clear hbf
     have ya := boxStays Y3.out hB
     have yb := boxStays Y4.out hB
     have yc := boxStays Y5.out hB
     have ca0 := cell_of_row _ g3 0 _ _ _ ya
     have ca1 := cell_of_row _ g3 1 _ _ _ ya
     have ca2 := cell_of_row _ g3 2 _ _ _ ya
     have cb0 := cell_of_row _ g4 0 _ _ _ yb
     have cb1 := cell_of_row _ g4 1 _ _ _ yb
     have cb2 := cell_of_row _ g4 2 _ _ _ yb
     have cc0 := cell_of_row _ g5 0 _ _ _ yc
     have cc1 := cell_of_row _ g5 1 _ _ _ yc
     have cc2 := cell_of_row _ g5 2 _ _ _ yc
     clear ya yb yc
     refine Or.inl ⟨wanted_none rfl, ?_⟩
     rintro _ rfl
     go_simp <;> with_reducible rfl
    refine relG_pure (i := 14) (o := ⟨some 35, _, _, _, _, _⟩) (v := ?v112) [(13, 34, 0)] [] rfl rfl (by kernel_rfl) (by kernel_rfl) (fun t w1 hB hf hbf => ?y112) ?n112
    case y112 =>
     simp only [DepF, List.getD_cons_zero] at hf
     obtain ⟨⟨_, ⟨e34, i34⟩, rfl⟩, _⟩ := hf
     clear hbf
     have ya := boxStays Y3.out hB
     have yb := boxStays Y4.out hB
     have yc := boxStays Y5.out hB
     have ca0 := cell_of_row _ g3 0 _ _ _ ya
     have ca1 := cell_of_row _ g3 1 _ _ _ ya
     have ca2 := cell_of_row _ g3 2 _ _ _ ya
     have cb0 := cell_of_row _ g4 0 _ _ _ yb
     have cb1 := cell_of_row _ g4 1 _ _ _ yb
     have cb2 := cell_of_row _ g4 2 _ _ _ yb
     have cc0 := cell_of_row _ g5 0 _ _ _ yc
     have cc1 := cell_of_row _ g5 1 _ _ _ yc
     have cc2 := cell_of_row _ g5 2 _ _ _ yc
     clear ya yb yc
     refine Or.inl ⟨wanted_none rfl, ?_⟩
     rintro _ rfl
     go_simp <;> with_reducible rfl
    refine relG_pure (i := 15) (o := ⟨some 36, _, _, _, _, _⟩) (v := ?v113) [(14, 35, 0)] [3] rfl rfl (by kernel_rfl) (by kernel_rfl) (fun t w1 hB hf hbf => ?y113) ?n113
    case y113 =>
     simp only [DepF, List.getD_cons_zero] at hf
     simp only [BasF] at hbf
     obtain ⟨⟨_, ⟨e35, i35⟩, rfl⟩, _⟩ := hf
     obtain ⟨⟨b3, k3⟩, _⟩ := hbf
     have ya := boxStays Y3.out hB
     have yb := boxStays Y4.out hB
     have yc := boxStays Y5.out hB
     have ca0 := cell_of_row _ g3 0 _ _ _ ya
     have ca1 := cell_of_row _ g3 1 _ _ _ ya
     have ca2 := cell_of_row _ g3 2 _ _ _ ya
     have cb0 := cell_of_row _ g4 0 _ _ _ yb
     have cb1 := cell_of_row _ g4 1 _ _ _ yb
     have cb2 := cell_of_row _ g4 2 _ _ _ yb
     have cc0 := cell_of_row _ g5 0 _ _ _ yc
     have cc1 := cell_of_row _ g5 1 _ _ _ yc
     have cc2 := cell_of_row _ g5 2 _ _ _ yc
     clear ya yb yc
     refine Or.inl ⟨(by have hg := getD_some i35; simp [Region.wanted, yielded, hg]), ?_⟩
     rintro _ rfl
     go_simp <;> with_reducible rfl
    refine relG_pure (i := 16) (o := ⟨some 37, _, _, _, _, _⟩) (v := ?v114) [(14, 35, 1)] [4] rfl rfl (by kernel_rfl) (by kernel_rfl) (fun t w1 hB hf hbf => ?y114) ?n114
    case y114 =>
     simp only [DepF, List.getD_cons_zero, List.getD_cons_succ] at hf
     simp only [BasF] at hbf
     obtain ⟨⟨_, ⟨e35, i35⟩, rfl⟩, _⟩ := hf
     obtain ⟨⟨b4, k4⟩, _⟩ := hbf
     have ya := boxStays Y3.out hB
     have yb := boxStays Y4.out hB
     have yc := boxStays Y5.out hB
     have ca0 := cell_of_row _ g3 0 _ _ _ ya
     have ca1 := cell_of_row _ g3 1 _ _ _ ya
     have ca2 := cell_of_row _ g3 2 _ _ _ ya
     have cb0 := cell_of_row _ g4 0 _ _ _ yb
     have cb1 := cell_of_row _ g4 1 _ _ _ yb
     have cb2 := cell_of_row _ g4 2 _ _ _ yb
     have cc0 := cell_of_row _ g5 0 _ _ _ yc
     have cc1 := cell_of_row _ g5 1 _ _ _ yc
     have cc2 := cell_of_row _ g5 2 _ _ _ yc
     clear ya yb yc
     refine Or.inl ⟨(by have hg := getD_some i35; simp [Region.wanted, yielded, hg]), ?_⟩
     rintro _ rfl
     go_simp <;> with_reducible rfl
    refine relG_call (i := 17) (o := ⟨some 38, _, _, _, _, _⟩) ((fun v _ => v = .int .i64 (plC p q))) [(15, 36, 1), (16, 37, 0), (14, 35, 2)] [] rfl rfl (by kernel_rfl) (by kernel_rfl) ((fun _ _ _ h _ => h)) ?_ ?_
    · intro t w1 hB hf hbf K hK
      simp only [DepF, List.getD_cons_zero, List.getD_cons_succ] at hf
      obtain ⟨⟨_, ⟨e36, i36⟩, rfl⟩, ⟨_, ⟨e37, i37⟩, rfl⟩, ⟨_, ⟨e35, i35⟩, rfl⟩, _⟩ := hf
      clear hbf
      have ya := boxStays Y3.out hB
      have yb := boxStays Y4.out hB
      have yc := boxStays Y5.out hB
      have ca0 := cell_of_row _ g3 0 _ _ _ ya
      have ca1 := cell_of_row _ g3 1 _ _ _ ya
      have ca2 := cell_of_row _ g3 2 _ _ _ ya
      have cb0 := cell_of_row _ g4 0 _ _ _ yb
      have cb1 := cell_of_row _ g4 1 _ _ _ yb
      have cb2 := cell_of_row _ g4 2 _ _ _ yb
      have cc0 := cell_of_row _ g5 0 _ _ _ yc
      have cc1 := cell_of_row _ g5 1 _ _ _ yc
      have cc2 := cell_of_row _ g5 2 _ _ _ yc
      clear ya yb yc
      refine ⟨(by have hg := getD_some i35; simp [Region.wanted, yielded, hg]), ?_⟩
      go_simp
      refine (key_CmpPlace p q w1 (HPC.out.below hB) (HQC.out.below hB)).mono ?_
      rintro e w2 ⟨rfl, hb⟩
      exact hK.out _ w2 (rfl) hb
    refine relG_pure (i := 18) (o := ⟨some 39, _, _, _, _, _⟩) (v := ?v115) [(17, 38, 0), (14, 35, 3)] [] rfl rfl (by kernel_rfl) (by kernel_rfl) (fun t w1 hB hf hbf => ?y115) ?n115
    case y115 =>
     simp only [DepF, List.getD_cons_zero, List.getD_cons_succ] at hf
     obtain ⟨⟨_, ⟨e38, i38⟩, rfl⟩, ⟨_, ⟨e35, i35⟩, rfl⟩, _⟩ := hf
     clear hbf
     have ya := boxStays Y3.out hB
     have yb := boxStays Y4.out hB
     have yc := boxStays Y5.out hB
     have ca0 := cell_of_row _ g3 0 _ _ _ ya
     have ca1 := cell_of_row _ g3 1 _ _ _ ya
     have ca2 := cell_of_row _ g3 2 _ _ _ ya
     have cb0 := cell_of_row _ g4 0 _ _ _ yb
     have cb1 := cell_of_row _ g4 1 _ _ _ yb
     have cb2 := cell_of_row _ g4 2 _ _ _ yb
     have cc0 := cell_of_row _ g5 0 _ _ _ yc
     have cc1 := cell_of_row _ g5 1 _ _ _ yc
     have cc2 := cell_of_row _ g5 2 _ _ _ yc
     clear ya yb yc
     have lq := L1.out
     refine Or.inl ⟨(by have hg := getD_some i35; simp [Region.wanted, yielded, hg]), ?_⟩
     rintro _ rfl
     go_simp <;> with_reducible rfl
    refine relG_pure (i := 19) (o := ⟨some 40, _, _, _, _, _⟩) (v := ?v116) [(18, 39, 0), (14, 35, 4)] [] rfl rfl (by kernel_rfl) (by kernel_rfl) (fun t w1 hB hf hbf => ?y116) ?n116
    case y116 =>
     simp only [DepF, List.getD_cons_zero, List.getD_cons_succ] at hf
     obtain ⟨⟨_, ⟨e39, i39⟩, rfl⟩, ⟨_, ⟨e35, i35⟩, rfl⟩, _⟩ := hf
     clear hbf
     have ya := boxStays Y3.out hB
     have yb := boxStays Y4.out hB
     have yc := boxStays Y5.out hB
     have ca0 := cell_of_row _ g3 0 _ _ _ ya
     have ca1 := cell_of_row _ g3 1 _ _ _ ya
     have ca2 := cell_of_row _ g3 2 _ _ _ ya
     have cb0 := cell_of_row _ g4 0 _ _ _ yb
     have cb1 := cell_of_row _ g4 1 _ _ _ yb
     have cb2 := cell_of_row _ g4 2 _ _ _ yb
     have cc0 := cell_of_row _ g5 0 _ _ _ yc
     have cc1 := cell_of_row _ g5 1 _ _ _ yc
     have cc2 := cell_of_row _ g5 2 _ _ _ yc
     clear ya yb yc
     refine Or.inl ⟨(by have hg := getD_some i35; simp [Region.wanted, yielded, hg]), ?_⟩
     rintro _ rfl
     go_simp <;> with_reducible rfl
    refine relG_pure (i := 20) (o := ⟨some 41, _, _, _, _, _⟩) (v := ?v117) [(19, 40, 0)] [4] rfl rfl (by kernel_rfl) (by kernel_rfl) (fun t w1 hB hf hbf => ?y117) ?n117
    case y117 =>
     simp only [DepF, List.getD_cons_zero] at hf
     simp only [BasF] at hbf
     obtain ⟨⟨_, ⟨e40, i40⟩, rfl⟩, _⟩ := hf
     obtain ⟨⟨b4, k4⟩, _⟩ := hbf
     have ya := boxStays Y3.out hB
     have yb := boxStays Y4.out hB
     have yc := boxStays Y5.out hB
     have ca0 := cell_of_row _ g3 0 _ _ _ ya
     have ca1 := cell_of_row _ g3 1 _ _ _ ya
     have ca2 := cell_of_row _ g3 2 _ _ _ ya
     have cb0 := cell_of_row _ g4 0 _ _ _ yb
     have cb1 := cell_of_row _ g4 1 _ _ _ yb
     have cb2 := cell_of_row _ g4 2 _ _ _ yb
     have cc0 := cell_of_row _ g5 0 _ _ _ yc
     have cc1 := cell_of_row _ g5 1 _ _ _ yc
     have cc2 := cell_of_row _ g5 2 _ _ _ yc
     clear ya yb yc
     refine Or.inl ⟨(by have hg := getD_some i40; simp [Region.wanted, yielded, hg]), ?_⟩
     rintro _ rfl
     go_simp <;> with_reducible rfl
    refine relG_pure (i := 21) (o := ⟨some 42, _, _, _, _, _⟩) (v := ?v118) [(19, 40, 1)] [5] rfl rfl (by kernel_rfl) (by kernel_rfl) (fun t w1 hB hf hbf => ?y118) ?n118
    case y118 =>
     simp only [DepF, List.getD_cons_zero, List.getD_cons_succ] at hf
     simp only [BasF] at hbf
     obtain ⟨⟨_, ⟨e40, i40⟩, rfl⟩, _⟩ := hf
     obtain ⟨⟨b5, k5⟩, _⟩ := hbf
     have ya := boxStays Y3.out hB
     have yb := boxStays Y4.out hB
     have yc := boxStays Y5.out hB
     have ca0 := cell_of_row _ g3 0 _ _ _ ya
     have ca1 := cell_of_row _ g3 1 _ _ _ ya
     have ca2 := cell_of_row _ g3 2 _ _ _ ya
     have cb0 := cell_of_row _ g4 0 _ _ _ yb
     have cb1 := cell_of_row _ g4 1 _ _ _ yb
     have cb2 := cell_of_row _ g4 2 _ _ _ yb
     have cc0 := cell_of_row _ g5 0 _ _ _ yc
     have cc1 := cell_of_row _ g5 1 _ _ _ yc
     have cc2 := cell_of_row _ g5 2 _ _ _ yc
     clear ya yb yc
     refine Or.inl ⟨(by have hg := getD_some i40; simp [Region.wanted, yielded, hg]), ?_⟩
     rintro _ rfl
     go_simp <;> with_reducible rfl
    refine relG_call (i := 22) (o := ⟨some 43, _, _, _, _, _⟩) ((fun v _ => v = .int .i64 (plC q r))) [(20, 41, 1), (21, 42, 0), (19, 40, 2)] [] rfl rfl (by kernel_rfl) (by kernel_rfl) ((fun _ _ _ h _ => h)) ?_ ?_
    · intro t w1 hB hf hbf K hK
      simp only [DepF, List.getD_cons_zero, List.getD_cons_succ] at hf
      obtain ⟨⟨_, ⟨e41, i41⟩, rfl⟩, ⟨_, ⟨e42, i42⟩, rfl⟩, ⟨_, ⟨e40, i40⟩, rfl⟩, _⟩ := hf
      clear hbf
      have ya := boxStays Y3.out hB
      have yb := boxStays Y4.out hB
      have yc := boxStays Y5.out hB
      have ca0 := cell_of_row _ g3 0 _ _ _ ya
      have ca1 := cell_of_row _ g3 1 _ _ _ ya
      have ca2 := cell_of_row _ g3 2 _ _ _ ya
      have cb0 := cell_of_row _ g4 0 _ _ _ yb
      have cb1 := cell_of_row _ g4 1 _ _ _ yb
      have cb2 := cell_of_row _ g4 2 _ _ _ yb
      have cc0 := cell_of_row _ g5 0 _ _ _ yc
      have cc1 := cell_of_row _ g5 1 _ _ _ yc
      have cc2 := cell_of_row _ g5 2 _ _ _ yc
      clear ya yb yc
      refine ⟨(by have hg := getD_some i40; simp [Region.wanted, yielded, hg]), ?_⟩
      go_simp
      refine (key_CmpPlace q r w1 (HQC.out.below hB) (HRC.out.below hB)).mono ?_
      rintro e w2 ⟨rfl, hb⟩
      exact hK.out _ w2 (rfl) hb
    refine relG_pure (i := 23) (o := ⟨some 44, _, _, _, _, _⟩) (v := ?v119) [(22, 43, 0), (19, 40, 3)] [] rfl rfl (by kernel_rfl) (by kernel_rfl) (fun t w1 hB hf hbf => ?y119) ?n119
    case y119 =>
     simp only [DepF, List.getD_cons_zero, List.getD_cons_succ] at hf
     obtain ⟨⟨_, ⟨e43, i43⟩, rfl⟩, ⟨_, ⟨e40, i40⟩, rfl⟩, _⟩ := hf
     clear hbf
     have ya := boxStays Y3.out hB
     have yb := boxStays Y4.out hB
     have yc := boxStays Y5.out hB
     have ca0 := cell_of_row _ g3 0 _ _ _ ya
     have ca1 := cell_of_row _ g3 1 _ _ _ ya
     have ca2 := cell_of_row _ g3 2 _ _ _ ya
     have cb0 := cell_of_row _ g4 0 _ _ _ yb
     have cb1 := cell_of_row _ g4 1 _ _ _ yb
     have cb2 := cell_of_row _ g4 2 _ _ _ yb
     have cc0 := cell_of_row _ g5 0 _ _ _ yc
     have cc1 := cell_of_row _ g5 1 _ _ _ yc
     have cc2 := cell_of_row _ g5 2 _ _ _ yc
     clear ya yb yc
     have lq := L2.out
     refine Or.inl ⟨(by have hg := getD_some i40; simp [Region.wanted, yielded, hg]), ?_⟩
     rintro _ rfl
     go_simp <;> with_reducible rfl
    refine relG_pure (i := 24) (o := ⟨some 45, _, _, _, _, _⟩) (v := ?v120) [(19, 40, 4), (23, 44, 0), (14, 35, 9)] [] rfl rfl (by kernel_rfl) (by kernel_rfl) (fun t w1 hB hf hbf => ?y120) ?n120
    case y120 =>
     simp only [DepF, List.getD_cons_zero, List.getD_cons_succ] at hf
     obtain ⟨⟨_, ⟨e40, i40⟩, rfl⟩, ⟨_, ⟨e44, i44⟩, rfl⟩, ⟨_, ⟨e35, i35⟩, rfl⟩, _⟩ := hf
     clear hbf
     have ya := boxStays Y3.out hB
     have yb := boxStays Y4.out hB
     have yc := boxStays Y5.out hB
     have ca0 := cell_of_row _ g3 0 _ _ _ ya
     have ca1 := cell_of_row _ g3 1 _ _ _ ya
     have ca2 := cell_of_row _ g3 2 _ _ _ ya
     have cb0 := cell_of_row _ g4 0 _ _ _ yb
     have cb1 := cell_of_row _ g4 1 _ _ _ yb
     have cb2 := cell_of_row _ g4 2 _ _ _ yb
     have cc0 := cell_of_row _ g5 0 _ _ _ yc
     have cc1 := cell_of_row _ g5 1 _ _ _ yc
     have cc2 := cell_of_row _ g5 2 _ _ _ yc
     clear ya yb yc
     refine Or.inl ⟨(by have hg := getD_some i35; simp [Region.wanted, yielded, hg]), ?_⟩
     rintro _ rfl
     go_simp <;> with_reducible rfl
    refine relG_pure (i := 25) (o := ⟨some 46, _, _, _, _, _⟩) (v := ?v121) [(24, 45, 0), (14, 35, 10)] [] rfl rfl (by kernel_rfl) (by kernel_rfl) (fun t w1 hB hf hbf => ?y121) ?n121
    case y121 =>
     simp only [DepF, List.getD_cons_zero, List.getD_cons_succ] at hf
     obtain ⟨⟨_, ⟨e45, i45⟩, rfl⟩, ⟨_, ⟨e35, i35⟩, rfl⟩, _⟩ := hf
     clear hbf
     have ya := boxStays Y3.out hB
     have yb := boxStays Y4.out hB
     have yc := boxStays Y5.out hB
     have ca0 := cell_of_row _ g3 0 _ _ _ ya
     have ca1 := cell_of_row _ g3 1 _ _ _ ya
     have ca2 := cell_of_row _ g3 2 _ _ _ ya
     have cb0 := cell_of_row _ g4 0 _ _ _ yb
     have cb1 := cell_of_row _ g4 1 _ _ _ yb
     have cb2 := cell_of_row _ g4 2 _ _ _ yb
     have cc0 := cell_of_row _ g5 0 _ _ _ yc
     have cc1 := cell_of_row _ g5 1 _ _ _ yc
     have cc2 := cell_of_row _ g5 2 _ _ _ yc
     clear ya yb yc
     refine Or.inl ⟨(by have hg := getD_some i35; simp [Region.wanted, yielded, hg]), ?_⟩
     rintro _ rfl
     go_simp <;> with_reducible rfl
    refine relG_pure (i := 26) (o := ⟨some 47, _, _, _, _, _⟩) (v := ?v122) [(25, 46, 0)] [3] rfl rfl (by kernel_rfl) (by kernel_rfl) (fun t w1 hB hf hbf => ?y122) ?n122
    case y122 =>
     simp only [DepF, List.getD_cons_zero] at hf
     simp only [BasF] at hbf
     obtain ⟨⟨_, ⟨e46, i46⟩, rfl⟩, _⟩ := hf
     obtain ⟨⟨b3, k3⟩, _⟩ := hbf
     have ya := boxStays Y3.out hB
     have yb := boxStays Y4.out hB
     have yc := boxStays Y5.out hB
     have ca0 := cell_of_row _ g3 0 _ _ _ ya
     have ca1 := cell_of_row _ g3 1 _ _ _ ya
     have ca2 := cell_of_row _ g3 2 _ _ _ ya
     have cb0 := cell_of_row _ g4 0 _ _ _ yb
     have cb1 := cell_of_row _ g4 1 _ _ _ yb
     have cb2 := cell_of_row _ g4 2 _ _ _ yb
     have cc0 := cell_of_row _ g5 0 _ _ _ yc
     have cc1 := cell_of_row _ g5 1 _ _ _ yc
     have cc2 := cell_of_row _ g5 2 _ _ _ yc
     clear ya yb yc
     refine Or.inl ⟨(by have hg := getD_some i46; simp [Region.wanted, yielded, hg]), ?_⟩
     rintro _ rfl
     go_simp <;> with_reducible rfl
    refine relG_pure (i := 27) (o := ⟨some 48, _, _, _, _, _⟩) (v := ?v123) [(25, 46, 1)] [5] rfl rfl (by kernel_rfl) (by kernel_rfl) (fun t w1 hB hf hbf => ?y123) ?n123
    case y123 =>
     simp only [DepF, List.getD_cons_zero, List.getD_cons_succ] at hf
     simp only [BasF] at hbf
     obtain ⟨⟨_, ⟨e46, i46⟩, rfl⟩, _⟩ := hf
     obtain ⟨⟨b5, k5⟩, _⟩ := hbf
     have ya := boxStays Y3.out hB
     have yb := boxStays Y4.out hB
     have yc := boxStays Y5.out hB
     have ca0 := cell_of_row _ g3 0 _ _ _ ya
     have ca1 := cell_of_row _ g3 1 _ _ _ ya
     have ca2 := cell_of_row _ g3 2 _ _ _ ya
     have cb0 := cell_of_row _ g4 0 _ _ _ yb
     have cb1 := cell_of_row _ g4 1 _ _ _ yb
     have cb2 := cell_of_row _ g4 2 _ _ _ yb
     have cc0 := cell_of_row _ g5 0 _ _ _ yc
     have cc1 := cell_of_row _ g5 1 _ _ _ yc
     have cc2 := cell_of_row _ g5 2 _ _ _ yc
     clear ya yb yc
     refine Or.inl ⟨(by have hg := getD_some i46; simp [Region.wanted, yielded, hg]), ?_⟩
     rintro _ rfl
     go_simp <;> with_reducible rfl
    refine relG_call (i := 28) (o := ⟨some 49, _, _, _, _, _⟩) ((fun v _ => v = .int .i64 (plC p r))) [(26, 47, 1), (27, 48, 0), (25, 46, 2)] [] rfl rfl (by kernel_rfl) (by kernel_rfl) ((fun _ _ _ h _ => h)) ?_ ?_
    · intro t w1 hB hf hbf K hK
      simp only [DepF, List.getD_cons_zero, List.getD_cons_succ] at hf
      obtain ⟨⟨_, ⟨e47, i47⟩, rfl⟩, ⟨_, ⟨e48, i48⟩, rfl⟩, ⟨_, ⟨e46, i46⟩, rfl⟩, _⟩ := hf
      clear hbf
      have ya := boxStays Y3.out hB
      have yb := boxStays Y4.out hB
      have yc := boxStays Y5.out hB
      have ca0 := cell_of_row _ g3 0 _ _ _ ya
      have ca1 := cell_of_row _ g3 1 _ _ _ ya
      have ca2 := cell_of_row _ g3 2 _ _ _ ya
      have cb0 := cell_of_row _ g4 0 _ _ _ yb
      have cb1 := cell_of_row _ g4 1 _ _ _ yb
      have cb2 := cell_of_row _ g4 2 _ _ _ yb
      have cc0 := cell_of_row _ g5 0 _ _ _ yc
      have cc1 := cell_of_row _ g5 1 _ _ _ yc
      have cc2 := cell_of_row _ g5 2 _ _ _ yc
      clear ya yb yc
      refine ⟨(by have hg := getD_some i46; simp [Region.wanted, yielded, hg]), ?_⟩
      go_simp
      refine (key_CmpPlace p r w1 (HPC.out.below hB) (HRC.out.below hB)).mono ?_
      rintro e w2 ⟨rfl, hb⟩
      exact hK.out _ w2 (rfl) hb
    refine relG_pure (i := 29) (o := ⟨some 50, _, _, _, _, _⟩) (v := ?v124) [(28, 49, 0), (25, 46, 3)] [] rfl rfl (by kernel_rfl) (by kernel_rfl) (fun t w1 hB hf hbf => ?y124) ?n124
    case y124 =>
     simp only [DepF, List.getD_cons_zero, List.getD_cons_succ] at hf
     obtain ⟨⟨_, ⟨e49, i49⟩, rfl⟩, ⟨_, ⟨e46, i46⟩, rfl⟩, _⟩ := hf
     clear hbf
     have ya := boxStays Y3.out hB
     have yb := boxStays Y4.out hB
     have yc := boxStays Y5.out hB
     have ca0 := cell_of_row _ g3 0 _ _ _ ya
     have ca1 := cell_of_row _ g3 1 _ _ _ ya
     have ca2 := cell_of_row _ g3 2 _ _ _ ya
     have cb0 := cell_of_row _ g4 0 _ _ _ yb
     have cb1 := cell_of_row _ g4 1 _ _ _ yb
     have cb2 := cell_of_row _ g4 2 _ _ _ yb
     have cc0 := cell_of_row _ g5 0 _ _ _ yc
     have cc1 := cell_of_row _ g5 1 _ _ _ yc
     have cc2 := cell_of_row _ g5 2 _ _ _ yc
     clear ya yb yc
     have lq := L3.out
     refine Or.inl ⟨(by have hg := getD_some i46; simp [Region.wanted, yielded, hg]), ?_⟩
     rintro _ rfl
     go_simp <;> with_reducible rfl
    refine relG_pure (i := 30) (o := ⟨some 51, _, _, _, _, _⟩) (v := ?v125) [(25, 46, 4), (29, 50, 0), (14, 35, 15)] [] rfl rfl (by kernel_rfl) (by kernel_rfl) (fun t w1 hB hf hbf => ?y125) ?n125
    case y125 =>
     simp only [DepF, List.getD_cons_zero, List.getD_cons_succ] at hf
     obtain ⟨⟨_, ⟨e46, i46⟩, rfl⟩, ⟨_, ⟨e50, i50⟩, rfl⟩, ⟨_, ⟨e35, i35⟩, rfl⟩, _⟩ := hf
     clear hbf
     have ya := boxStays Y3.out hB
     have yb := boxStays Y4.out hB
     have yc := boxStays Y5.out hB
     have ca0 := cell_of_row _ g3 0 _ _ _ ya
     have ca1 := cell_of_row _ g3 1 _ _ _ ya
     have ca2 := cell_of_row _ g3 2 _ _ _ ya
     have cb0 := cell_of_row _ g4 0 _ _ _ yb
     have cb1 := cell_of_row _ g4 1 _ _ _ yb
     have cb2 := cell_of_row _ g4 2 _ _ _ yb
     have cc0 := cell_of_row _ g5 0 _ _ _ yc
     have cc1 := cell_of_row _ g5 1 _ _ _ yc
     have cc2 := cell_of_row _ g5 2 _ _ _ yc
     clear ya yb yc
     refine Or.inl ⟨(by have hg := getD_some i35; simp [Region.wanted, yielded, hg]), ?_⟩
     rintro _ rfl
     go_simp <;> with_reducible rfl
    refine relG_pure (i := 31) (o := ⟨some 52, _, _, _, _, _⟩) (v := ?v126) [(14, 35, 16), (30, 51, 0)] [] rfl rfl (by kernel_rfl) (by kernel_rfl) (fun t w1 hB hf hbf => ?y126) ?n126
    case y126 =>
     simp only [DepF, List.getD_cons_zero, List.getD_cons_succ] at hf
     obtain ⟨⟨_, ⟨e35, i35⟩, rfl⟩, ⟨_, ⟨e51, i51⟩, rfl⟩, _⟩ := hf
     clear hbf
     have ya := boxStays Y3.out hB
     have yb := boxStays Y4.out hB
     have yc := boxStays Y5.out hB
     have ca0 := cell_of_row _ g3 0 _ _ _ ya
     have ca1 := cell_of_row _ g3 1 _ _ _ ya
     have ca2 := cell_of_row _ g3 2 _ _ _ ya
     have cb0 := cell_of_row _ g4 0 _ _ _ yb
     have cb1 := cell_of_row _ g4 1 _ _ _ yb
     have cb2 := cell_of_row _ g4 2 _ _ _ yb
     have cc0 := cell_of_row _ g5 0 _ _ _ yc
     have cc1 := cell_of_row _ g5 1 _ _ _ yc
     have cc2 := cell_of_row _ g5 2 _ _ _ yc
     clear ya yb yc
     refine Or.inl ⟨wanted_none rfl, ?_⟩
     rintro _ rfl
     go_simp <;> with_reducible rfl
    refine relG_pure (i := 32) (o := ⟨some 53, _, _, _, _, _⟩) (v := ?v127) [(31, 52, 0)] [] rfl rfl (by kernel_rfl) (by kernel_rfl) (fun t w1 hB hf hbf => ?y127) ?n127
    case y127 =>
     simp only [DepF, List.getD_cons_zero] at hf
     obtain ⟨⟨_, ⟨e52, i52⟩, rfl⟩, _⟩ := hf
     clear hbf
     have ya := boxStays Y3.out hB
     have yb := boxStays Y4.out hB
     have yc := boxStays Y5.out hB
     have ca0 := cell_of_row _ g3 0 _ _ _ ya
     have ca1 := cell_of_row _ g3 1 _ _ _ ya
     have ca2 := cell_of_row _ g3 2 _ _ _ ya
     have cb0 := cell_of_row _ g4 0 _ _ _ yb
     have cb1 := cell_of_row _ g4 1 _ _ _ yb
     have cb2 := cell_of_row _ g4 2 _ _ _ yb
     have cc0 := cell_of_row _ g5 0 _ _ _ yc
     have cc1 := cell_of_row _ g5 1 _ _ _ yc
     have cc2 := cell_of_row _ g5 2 _ _ _ yc
     clear ya yb yc
     refine Or.inl ⟨wanted_none rfl, ?_⟩
     rintro _ rfl
     go_simp <;> with_reducible rfl
    refine relG_pure (i := 33) (o := ⟨some 54, _, _, _, _, _⟩) (v := ?v128) [(32, 53, 0)] [3] rfl rfl (by kernel_rfl) (by kernel_rfl) (fun t w1 hB hf hbf => ?y128) ?n128
    case y128 =>
     simp only [DepF, List.getD_cons_zero] at hf
     simp only [BasF] at hbf
     obtain ⟨⟨_, ⟨e53, i53⟩, rfl⟩, _⟩ := hf
     obtain ⟨⟨b3, k3⟩, _⟩ := hbf
     have ya := boxStays Y3.out hB
     have yb := boxStays Y4.out hB
     have yc := boxStays Y5.out hB
     have ca0 := cell_of_row _ g3 0 _ _ _ ya
     have ca1 := cell_of_row _ g3 1 _ _ _ ya
     have ca2 := cell_of_row _ g3 2 _ _ _ ya
     have cb0 := cell_of_row _ g4 0 _ _ _ yb
     have cb1 := cell_of_row _ g4 1 _ _ _ yb
     have cb2 := cell_of_row _ g4 2 _ _ _ yb
     have cc0 := cell_of_row _ g5 0 _ _ _ yc
     have cc1 := cell_of_row _ g5 1 _ _ _ yc
     have cc2 := cell_of_row _ g5 2 _ _ _ yc
     clear ya yb yc
     refine Or.inl ⟨(by have hg := getD_some i53; simp [Region.wanted, yielded, hg]), ?_⟩
     rintro _ rfl
     go_simp <;> with_reducible rfl
    refine relG_pure (i := 34) (o := ⟨some 55, _, _, _, _, _⟩) (v := ?v129) [(33, 54, 0), (32, 53, 1)] [] rfl rfl (by kernel_rfl) (by kernel_rfl) (fun t w1 hB hf hbf => ?y129) ?n129
    case y129 =>
     simp only [DepF, List.getD_cons_zero, List.getD_cons_succ] at hf
     obtain ⟨⟨_, ⟨e54, i54⟩, rfl⟩, ⟨_, ⟨e53, i53⟩, rfl⟩, _⟩ := hf
     clear hbf
     have ya := boxStays Y3.out hB
     have yb := boxStays Y4.out hB
     have yc := boxStays Y5.out hB
     have ca0 := cell_of_row _ g3 0 _ _ _ ya
     have ca1 := cell_of_row _ g3 1 _ _ _ ya
     have ca2 := cell_of_row _ g3 2 _ _ _ ya
     have cb0 := cell_of_row _ g4 0 _ _ _ yb
     have cb1 := cell_of_row _ g4 1 _ _ _ yb
     have cb2 := cell_of_row _ g4 2 _ _ _ yb
     have cc0 := cell_of_row _ g5 0 _ _ _ yc
     have cc1 := cell_of_row _ g5 1 _ _ _ yc
     have cc2 := cell_of_row _ g5 2 _ _ _ yc
     clear ya yb yc
     refine Or.inl ⟨(by have hg := getD_some i53; simp [Region.wanted, yielded, hg]), ?_⟩
     rintro _ rfl
     go_simp <;> with_reducible rfl
    refine relG_pure (i := 35) (o := ⟨some 56, _, _, _, _, _⟩) (v := ?v130) [(32, 53, 2)] [4] rfl rfl (by kernel_rfl) (by kernel_rfl) (fun t w1 hB hf hbf => ?y130) ?n130
    case y130 =>
     simp only [DepF, List.getD_cons_zero, List.getD_cons_succ] at hf
     simp only [BasF] at hbf
     obtain ⟨⟨_, ⟨e53, i53⟩, rfl⟩, _⟩ := hf
     obtain ⟨⟨b4, k4⟩, _⟩ := hbf
     have ya := boxStays Y3.out hB
     have yb := boxStays Y4.out hB
     have yc := boxStays Y5.out hB
     have ca0 := cell_of_row _ g3 0 _ _ _ ya
     have ca1 := cell_of_row _ g3 1 _ _ _ ya
     have ca2 := cell_of_row _ g3 2 _ _ _ ya
     have cb0 := cell_of_row _ g4 0 _ _ _ yb
     have cb1 := cell_of_row _ g4 1 _ _ _ yb
     have cb2 := cell_of_row _ g4 2 _ _ _ yb
     have cc0 := cell_of_row _ g5 0 _ _ _ yc
     have cc1 := cell_of_row _ g5 1 _ _ _ yc
     have cc2 := cell_of_row _ g5 2 _ _ _ yc
     clear ya yb yc
     refine Or.inl ⟨(by have hg := getD_some i53; simp [Region.wanted, yielded, hg]), ?_⟩
     rintro _ rfl
     go_simp <;> with_reducible rfl
    refine relG_pure (i := 36) (o := ⟨some 57, _, _, _, _, _⟩) (v := ?v131) [(35, 56, 0), (32, 53, 3)] [] rfl rfl (by kernel_rfl) (by kernel_rfl) (fun t w1 hB hf hbf => ?y131) ?n131
    case y131 =>
     simp only [DepF, List.getD_cons_zero, List.getD_cons_succ] at hf
     obtain ⟨⟨_, ⟨e56, i56⟩, rfl⟩, ⟨_, ⟨e53, i53⟩, rfl⟩, _⟩ := hf
     clear hbf
     have ya := boxStays Y3.out hB
     have yb := boxStays Y4.out hB
     have yc := boxStays Y5.out hB
     have ca0 := cell_of_row _ g3 0 _ _ _ ya
     have ca1 := cell_of_row _ g3 1 _ _ _ ya
     have ca2 := cell_of_row _ g3 2 _ _ _ ya
     have cb0 := cell_of_row _ g4 0 _ _ _ yb
     have cb1 := cell_of_row _ g4 1 _ _ _ yb
     have cb2 := cell_of_row _ g4 2 _ _ _ yb
     have cc0 := cell_of_row _ g5 0 _ _ _ yc
     have cc1 := cell_of_row _ g5 1 _ _ _ yc
     have cc2 := cell_of_row _ g5 2 _ _ _ yc
     clear ya yb yc
     refine Or.inl ⟨(by have hg := getD_some i53; simp [Region.wanted, yielded, hg]), ?_⟩
     rintro _ rfl
     go_simp <;> with_reducible rfl
    refine relG_call (i := 37) (o := ⟨some 58, _, _, _, _, _⟩) ((fun v _ => v = .int .i64 (pathC p.l q.l))) [(34, 55, 2), (36, 57, 0), (32, 53, 4)] [] rfl rfl (by kernel_rfl) (by kernel_rfl) ((fun _ _ _ h _ => h)) ?_ ?_
    · intro t w1 hB hf hbf K hK
      simp only [DepF, List.getD_cons_zero, List.getD_cons_succ] at hf
      obtain ⟨⟨_, ⟨e55, i55⟩, rfl⟩, ⟨_, ⟨e57, i57⟩, rfl⟩, ⟨_, ⟨e53, i53⟩, rfl⟩, _⟩ := hf
      clear hbf
      have ya := boxStays Y3.out hB
      have yb := boxStays Y4.out hB
      have yc := boxStays Y5.out hB
      have ca0 := cell_of_row _ g3 0 _ _ _ ya
      have ca1 := cell_of_row _ g3 1 _ _ _ ya
      have ca2 := cell_of_row _ g3 2 _ _ _ ya
      have cb0 := cell_of_row _ g4 0 _ _ _ yb
      have cb1 := cell_of_row _ g4 1 _ _ _ yb
      have cb2 := cell_of_row _ g4 2 _ _ _ yb
      have cc0 := cell_of_row _ g5 0 _ _ _ yc
      have cc1 := cell_of_row _ g5 1 _ _ _ yc
      have cc2 := cell_of_row _ g5 2 _ _ _ yc
      clear ya yb yc
      refine ⟨(by have hg := getD_some i53; simp [Region.wanted, yielded, hg]), ?_⟩
      go_simp
      refine (key_CmpPath p.l q.l p.a q.a p.n q.n p.c q.c w1 (HPC.out.at_.below hB rfl) (HQC.out.at_.below hB rfl) HPC.out.len HQC.out.len HPC.out.le HPC.out.sz HQC.out.sz).mono ?_
      rintro e w2 ⟨rfl, hb⟩
      exact hK.out _ w2 (rfl) hb
    refine relG_pure (i := 38) (o := ⟨some 59, _, _, _, _, _⟩) (v := ?v132) [(32, 53, 5)] [4] rfl rfl (by kernel_rfl) (by kernel_rfl) (fun t w1 hB hf hbf => ?y132) ?n132
    case y132 =>
     simp only [DepF, List.getD_cons_zero, List.getD_cons_succ] at hf
     simp only [BasF] at hbf
     obtain ⟨⟨_, ⟨e53, i53⟩, rfl⟩, _⟩ := hf
     obtain ⟨⟨b4, k4⟩, _⟩ := hbf
     have ya := boxStays Y3.out hB
     have yb := boxStays Y4.out hB
     have yc := boxStays Y5.out hB
     have ca0 := cell_of_row _ g3 0 _ _ _ ya
     have ca1 := cell_of_row _ g3 1 _ _ _ ya
     have ca2 := cell_of_row _ g3 2 _ _ _ ya
     have cb0 := cell_of_row _ g4 0 _ _ _ yb
     have cb1 := cell_of_row _ g4 1 _ _ _ yb
     have cb2 := cell_of_row _ g4 2 _ _ _ yb
     have cc0 := cell_of_row _ g5 0 _ _ _ yc
     have cc1 := cell_of_row _ g5 1 _ _ _ yc
     have cc2 := cell_of_row _ g5 2 _ _ _ yc
     clear ya yb yc
     refine Or.inl ⟨(by have hg := getD_some i53; simp [Region.wanted, yielded, hg]), ?_⟩
     rintro _ rfl
     go_simp <;> with_reducible rfl
    refine relG_pure (i := 39) (o := ⟨some 60, _, _, _, _, _⟩) (v := ?v133) [(38, 59, 0), (32, 53, 6)] [] rfl rfl (by kernel_rfl) (by kernel_rfl) (fun t w1 hB hf hbf => ?y133) ?n133
    case y133 =>
     simp only [DepF, List.getD_cons_zero, List.getD_cons_succ] at hf
     obtain ⟨⟨_, ⟨e59, i59⟩, rfl⟩, ⟨_, ⟨e53, i53⟩, rfl⟩, _⟩ := hf
     clear hbf
     have ya := boxStays Y3.out hB
     have yb := boxStays Y4.out hB
     have yc := boxStays Y5.out hB
     have ca0 := cell_of_row _ g3 0 _ _ _ ya
     have ca1 := cell_of_row _ g3 1 _ _ _ ya
     have ca2 := cell_of_row _ g3 2 _ _ _ ya
     have cb0 := cell_of_row _ g4 0 _ _ _ yb
     have cb1 := cell_of_row _ g4 1 _ _ _ yb
     have cb2 := cell_of_row _ g4 2 _ _ _ yb
     have cc0 := cell_of_row _ g5 0 _ _ _ yc
     have cc1 := cell_of_row _ g5 1 _ _ _ yc
     have cc2 := cell_of_row _ g5 2 _ _ _ yc
     clear ya yb yc
     refine Or.inl ⟨(by have hg := getD_some i53; simp [Region.wanted, yielded, hg]), ?_⟩
     rintro _ rfl
     go_simp <;> with_reducible rfl
    refine relG_pure (i := 40) (o := ⟨some 61, _, _, _, _, _⟩) (v := ?v134) [(32, 53, 7)] [3] rfl rfl (by kernel_rfl) (by kernel_rfl) (fun t w1 hB hf hbf => ?y134) ?n134
    case y134 =>
     simp only [DepF, List.getD_cons_zero, List.getD_cons_succ] at hf
     simp only [BasF] at hbf
     obtain ⟨⟨_, ⟨e53, i53⟩, rfl⟩, _⟩ := hf
     obtain ⟨⟨b3, k3⟩, _⟩ := hbf
     have ya := boxStays Y3.out hB
     have yb := boxStays Y4.out hB
     have yc := boxStays Y5.out hB
     have ca0 := cell_of_row _ g3 0 _ _ _ ya
     have ca1 := cell_of_row _ g3 1 _ _ _ ya
     have ca2 := cell_of_row _ g3 2 _ _ _ ya
     have cb0 := cell_of_row _ g4 0 _ _ _ yb
     have cb1 := cell_of_row _ g4 1 _ _ _ yb
     have cb2 := cell_of_row _ g4 2 _ _ _ yb
     have cc0 := cell_of_row _ g5 0 _ _ _ yc
     have cc1 := cell_of_row _ g5 1 _ _ _ yc
     have cc2 := cell_of_row _ g5 2 _ _ _ yc
     clear ya yb yc
     refine Or.inl ⟨(by have hg := getD_some i53; simp [Region.wanted, yielded, hg]), ?_⟩
     rintro _ rfl
     go_simp <;> with_reducible rfl
    refine relG_pure (i := 41) (o := ⟨some 62, _, _, _, _, _⟩) (v := ?v135) [(40, 61, 0), (32, 53, 8)] [] rfl rfl (by kernel_rfl) (by kernel_rfl) (fun t w1 hB hf hbf => ?y135) ?n135
    case y135 =>
     simp only [DepF, List.getD_cons_zero, List.getD_cons_succ] at hf
     obtain ⟨⟨_, ⟨e61, i61⟩, rfl⟩, ⟨_, ⟨e53, i53⟩, rfl⟩, _⟩ := hf
     clear hbf
     have ya := boxStays Y3.out hB
     have yb := boxStays Y4.out hB
     have yc := boxStays Y5.out hB
     have ca0 := cell_of_row _ g3 0 _ _ _ ya
     have ca1 := cell_of_row _ g3 1 _ _ _ ya
     have ca2 := cell_of_row _ g3 2 _ _ _ ya
     have cb0 := cell_of_row _ g4 0 _ _ _ yb
     have cb1 := cell_of_row _ g4 1 _ _ _ yb
     have cb2 := cell_of_row _ g4 2 _ _ _ yb
     have cc0 := cell_of_row _ g5 0 _ _ _ yc
     have cc1 := cell_of_row _ g5 1 _ _ _ yc
     have cc2 := cell_of_row _ g5 2 _ _ _ yc
     clear ya yb yc
     refine Or.inl ⟨(by have hg := getD_some i53; simp [Region.wanted, yielded, hg]), ?_⟩
     rintro _ rfl
     go_simp <;> with_reducible rfl
    refine relG_call (i := 42) (o := ⟨some 63, _, _, _, _, _⟩) ((fun v _ => v = .int .i64 (pathC q.l p.l))) [(39, 60, 2), (41, 62, 0), (32, 53, 9)] [] rfl rfl (by kernel_rfl) (by kernel_rfl) ((fun _ _ _ h _ => h)) ?_ ?_
    · intro t w1 hB hf hbf K hK
      simp only [DepF, List.getD_cons_zero, List.getD_cons_succ] at hf
      obtain ⟨⟨_, ⟨e60, i60⟩, rfl⟩, ⟨_, ⟨e62, i62⟩, rfl⟩, ⟨_, ⟨e53, i53⟩, rfl⟩, _⟩ := hf
      clear hbf
      have ya := boxStays Y3.out hB
      have yb := boxStays Y4.out hB
      have yc := boxStays Y5.out hB
      have ca0 := cell_of_row _ g3 0 _ _ _ ya
      have ca1 := cell_of_row _ g3 1 _ _ _ ya
      have ca2 := cell_of_row _ g3 2 _ _ _ ya
      have cb0 := cell_of_row _ g4 0 _ _ _ yb
      have cb1 := cell_of_row _ g4 1 _ _ _ yb
      have cb2 := cell_of_row _ g4 2 _ _ _ yb
      have cc0 := cell_of_row _ g5 0 _ _ _ yc
      have cc1 := cell_of_row _ g5 1 _ _ _ yc
      have cc2 := cell_of_row _ g5 2 _ _ _ yc
      clear ya yb yc
      refine ⟨(by have hg := getD_some i53; simp [Region.wanted, yielded, hg]), ?_⟩
      go_simp
      refine (key_CmpPath q.l p.l q.a p.a q.n p.n q.c p.c w1 (HQC.out.at_.below hB rfl) (HPC.out.at_.below hB rfl) HQC.out.len HPC.out.len HQC.out.le HQC.out.sz HPC.out.sz).mono ?_
      rintro e w2 ⟨rfl, hb⟩
      exact hK.out _ w2 (rfl) hb
    refine relG_pure (i := 43) (o := ⟨some 64, _, _, _, _, _⟩) (v := ?v136) [(42, 63, 0), (32, 53, 10)] [] rfl rfl (by kernel_rfl) (by kernel_rfl) (fun t w1 hB hf hbf => ?y136) ?n136
    case y136 =>
     simp only [DepF, List.getD_cons_zero, List.getD_cons_succ] at hf
     obtain ⟨⟨_, ⟨e63, i63⟩, rfl⟩, ⟨_, ⟨e53, i53⟩, rfl⟩, _⟩ := hf
     clear hbf
     have ya := boxStays Y3.out hB
     have yb := boxStays Y4.out hB
     have yc := boxStays Y5.out hB
     have ca0 := cell_of_row _ g3 0 _ _ _ ya
     have ca1 := cell_of_row _ g3 1 _ _ _ ya
     have ca2 := cell_of_row _ g3 2 _ _ _ ya
     have cb0 := cell_of_row _ g4 0 _ _ _ yb
     have cb1 := cell_of_row _ g4 1 _ _ _ yb
     have cb2 := cell_of_row _ g4 2 _ _ _ yb
     have cc0 := cell_of_row _ g5 0 _ _ _ yc
     have cc1 := cell_of_row _ g5 1 _ _ _ yc
     have cc2 := cell_of_row _ g5 2 _ _ _ yc
     clear ya yb yc
     have wz := W2.out
     refine Or.inl ⟨(by have hg := getD_some i53; simp [Region.wanted, yielded, hg]), ?_⟩
     rintro _ rfl
     go_simp <;> with_reducible rfl
    refine relG_pure (i := 44) (o := ⟨some 65, _, _, _, _, _⟩) (v := ?v137) [(37, 58, 6), (43, 64, 0), (32, 53, 11)] [] rfl rfl (by kernel_rfl) (by kernel_rfl) (fun t w1 hB hf hbf => ?y137) ?n137
    case y137 =>
     simp only [DepF, List.getD_cons_zero, List.getD_cons_succ] at hf
     obtain ⟨⟨_, ⟨e58, i58⟩, rfl⟩, ⟨_, ⟨e64, i64⟩, rfl⟩, ⟨_, ⟨e53, i53⟩, rfl⟩, _⟩ := hf
     clear hbf
     have ya := boxStays Y3.out hB
     have yb := boxStays Y4.out hB
     have yc := boxStays Y5.out hB
     have ca0 := cell_of_row _ g3 0 _ _ _ ya
     have ca1 := cell_of_row _ g3 1 _ _ _ ya
     have ca2 := cell_of_row _ g3 2 _ _ _ ya
     have cb0 := cell_of_row _ g4 0 _ _ _ yb
     have cb1 := cell_of_row _ g4 1 _ _ _ yb
     have cb2 := cell_of_row _ g4 2 _ _ _ yb
     have cc0 := cell_of_row _ g5 0 _ _ _ yc
     have cc1 := cell_of_row _ g5 1 _ _ _ yc
     have cc2 := cell_of_row _ g5 2 _ _ _ yc
     clear ya yb yc
     have nq := bne_self (pathC p.l q.l)
     refine Or.inl ⟨(by have hg := getD_some i53; simp [Region.wanted, yielded, hg]), ?_⟩
     rintro _ rfl
     go_simp <;> with_reducible rfl
    refine relG_pure (i := 45) (o := ⟨some 66, _, _, _, _, _⟩) (v := ?v138) [(32, 53, 12), (44, 65, 0)] [] rfl rfl (by kernel_rfl) (by kernel_rfl) (fun t w1 hB hf hbf => ?y138) ?n138
    case y138 =>
     simp only [DepF, List.getD_cons_zero, List.getD_cons_succ] at hf
     obtain ⟨⟨_, ⟨e53, i53⟩, rfl⟩, ⟨_, ⟨e65, i65⟩, rfl⟩, _⟩ := hf
     clear hbf
     have ya := boxStays Y3.out hB
     have yb := boxStays Y4.out hB
     have yc := boxStays Y5.out hB
     have ca0 := cell_of_row _ g3 0 _ _ _ ya
     have ca1 := cell_of_row _ g3 1 _ _ _ ya
     have ca2 := cell_of_row _ g3 2 _ _ _ ya
     have cb0 := cell_of_row _ g4 0 _ _ _ yb
     have cb1 := cell_of_row _ g4 1 _ _ _ yb
     have cb2 := cell_of_row _ g4 2 _ _ _ yb
     have cc0 := cell_of_row _ g5 0 _ _ _ yc
     have cc1 := cell_of_row _ g5 1 _ _ _ yc
     have cc2 := cell_of_row _ g5 2 _ _ _ yc
     clear ya yb yc
     refine Or.inl ⟨wanted_none rfl, ?_⟩
     rintro _ rfl
     go_simp <;> with_reducible rfl
    refine relG_pure (i := 46) (o := ⟨some 67, _, _, _, _, _⟩) (v := ?v139) [(45, 66, 0)] [] rfl rfl (by kernel_rfl) (by kernel_rfl) (fun t w1 hB hf hbf => ?y139) ?n139
    case y139 =>
     simp only [DepF, List.getD_cons_zero] at hf
     obtain ⟨⟨_, ⟨e66, i66⟩, rfl⟩, _⟩ := hf
     clear hbf
     have ya := boxStays Y3.out hB
     have yb := boxStays Y4.out hB
     have yc := boxStays Y5.out hB
     have ca0 := cell_of_row _ g3 0 _ _ _ ya
     have ca1 := cell_of_row _ g3 1 _ _ _ ya
     have ca2 := cell_of_row _ g3 2 _ _ _ ya
     have cb0 := cell_of_row _ g4 0 _ _ _ yb
     have cb1 := cell_of_row _ g4 1 _ _ _ yb
     have cb2 := cell_of_row _ g4 2 _ _ _ yb
     have cc0 := cell_of_row _ g5 0 _ _ _ yc
     have cc1 := cell_of_row _ g5 1 _ _ _ yc
     have cc2 := cell_of_row _ g5 2 _ _ _ yc
     clear ya yb yc
     refine Or.inl ⟨wanted_none rfl, ?_⟩
     rintro _ rfl
     go_simp <;> with_reducible rfl
    refine relG_pure (i := 47) (o := ⟨some 68, _, _, _, _, _⟩) (v := ?v140) [(46, 67, 0)] [3] rfl rfl (by kernel_rfl) (by kernel_rfl) (fun t w1 hB hf hbf => ?y140) ?n140
    case y140 =>
     simp only [DepF, List.getD_cons_zero] at hf
     simp only [BasF] at hbf
     obtain ⟨⟨_, ⟨e67, i67⟩, rfl⟩, _⟩ := hf
     obtain ⟨⟨b3, k3⟩, _⟩ := hbf
     have ya := boxStays Y3.out hB
     have yb := boxStays Y4.out hB
     have yc := boxStays Y5.out hB
     have ca0 := cell_of_row _ g3 0 _ _ _ ya
     have ca1 := cell_of_row _ g3 1 _ _ _ ya
     have ca2 := cell_of_row _ g3 2 _ _ _ ya
     have cb0 := cell_of_row _ g4 0 _ _ _ yb
     have cb1 := cell_of_row _ g4 1 _ _ _ yb
     have cb2 := cell_of_row _ g4 2 _ _ _ yb
     have cc0 := cell_of_row _ g5 0 _ _ _ yc
     have cc1 := cell_of_row _ g5 1 _ _ _ yc
     have cc2 := cell_of_row _ g5 2 _ _ _ yc
     clear ya yb yc
     refine Or.inl ⟨(by have hg := getD_some i67; simp [Region.wanted, yielded, hg]), ?_⟩
     rintro _ rfl
     go_simp <;> with_reducible rfl
    refine relG_pure (i := 48) (o := ⟨some 69, _, _, _, _, _⟩) (v := ?v141) [(47, 68, 0), (46, 67, 1)] [] rfl rfl (by kernel_rfl) (by kernel_rfl) (fun t w1 hB hf hbf => ?y141) ?n141
    case y141 =>
     simp only [DepF, List.getD_cons_zero, List.getD_cons_succ] at hf
     obtain ⟨⟨_, ⟨e68, i68⟩, rfl⟩, ⟨_, ⟨e67, i67⟩, rfl⟩, _⟩ := hf
     clear hbf
     have ya := boxStays Y3.out hB
     have yb := boxStays Y4.out hB
     have yc := boxStays Y5.out hB
     have ca0 := cell_of_row _ g3 0 _ _ _ ya
     have ca1 := cell_of_row _ g3 1 _ _ _ ya
     have ca2 := cell_of_row _ g3 2 _ _ _ ya
     have cb0 := cell_of_row _ g4 0 _ _ _ yb
     have cb1 := cell_of_row _ g4 1 _ _ _ yb
     have cb2 := cell_of_row _ g4 2 _ _ _ yb
     have cc0 := cell_of_row _ g5 0 _ _ _ yc
     have cc1 := cell_of_row _ g5 1 _ _ _ yc
     have cc2 := cell_of_row _ g5 2 _ _ _ yc
     clear ya yb yc
     refine Or.inl ⟨(by have hg := getD_some i67; simp [Region.wanted, yielded, hg]), ?_⟩
     rintro _ rfl
     go_simp <;> with_reducible rfl
    refine relG_pure (i := 49) (o := ⟨some 70, _, _, _, _, _⟩) (v := ?v142) [(46, 67, 2)] [4] rfl rfl (by kernel_rfl) (by kernel_rfl) (fun t w1 hB hf hbf => ?y142) ?n142
    case y142 =>
     simp only [DepF, List.getD_cons_zero, List.getD_cons_succ] at hf
     simp only [BasF] at hbf
     obtain ⟨⟨_, ⟨e67, i67⟩, rfl⟩, _⟩ := hf
     obtain ⟨⟨b4, k4⟩, _⟩ := hbf
     have ya := boxStays Y3.out hB
     have yb := boxStays Y4.out hB
     have yc := boxStays Y5.out hB
     have ca0 := cell_of_row _ g3 0 _ _ _ ya
     have ca1 := cell_of_row _ g3 1 _ _ _ ya
     have ca2 := cell_of_row _ g3 2 _ _ _ ya
     have cb0 := cell_of_row _ g4 0 _ _ _ yb
     have cb1 := cell_of_row _ g4 1 _ _ _ yb
     have cb2 := cell_of_row _ g4 2 _ _ _ yb
     have cc0 := cell_of_row _ g5 0 _ _ _ yc
     have cc1 := cell_of_row _ g5 1 _ _ _ yc
     have cc2 := cell_of_row _ g5 2 _ _ _ yc
     clear ya yb yc
     refine Or.inl ⟨(by have hg := getD_some i67; simp [Region.wanted, yielded, hg]), ?_⟩
     rintro _ rfl
     go_simp <;> with_reducible rfl
    refine relG_pure (i := 50) (o := ⟨some 71, _, _, _, _, _⟩) (v := ?v143) [(49, 70, 0), (46, 67, 3)] [] rfl rfl (by kernel_rfl) (by kernel_rfl) (fun t w1 hB hf hbf => ?y143) ?n143
    case y143 =>
     simp only [DepF, List.getD_cons_zero, List.getD_cons_succ] at hf
     obtain ⟨⟨_, ⟨e70, i70⟩, rfl⟩, ⟨_, ⟨e67, i67⟩, rfl⟩, _⟩ := hf
     clear hbf
     have ya := boxStays Y3.out hB
     have yb := boxStays Y4.out hB
     have yc := boxStays Y5.out hB
     have ca0 := cell_of_row _ g3 0 _ _ _ ya
     have ca1 := cell_of_row _ g3 1 _ _ _ ya
     have ca2 := cell_of_row _ g3 2 _ _ _ ya
     have cb0 := cell_of_row _ g4 0 _ _ _ yb
     have cb1 := cell_of_row _ g4 1 _ _ _ yb
     have cb2 := cell_of_row _ g4 2 _ _ _ yb
     have cc0 := cell_of_row _ g5 0 _ _ _ yc
     have cc1 := cell_of_row _ g5 1 _ _ _ yc
     have cc2 := cell_of_row _ g5 2 _ _ _ yc
     clear ya yb yc
     refine Or.inl ⟨(by have hg := getD_some i67; simp [Region.wanted, yielded, hg]), ?_⟩
     rintro _ rfl
     go_simp <;> with_reducible rfl
    refine relG_call (i := 51) (o := ⟨some 72, _, _, _, _, _⟩) ((fun v _ => v = .int .i64 (txtC p.x q.x))) [(48, 69, 2), (50, 71, 0), (46, 67, 4)] [] rfl rfl (by kernel_rfl) (by kernel_rfl) ((fun _ _ _ h _ => h)) ?_ ?_
    · intro t w1 hB hf hbf K hK
      simp only [DepF, List.getD_cons_zero, List.getD_cons_succ] at hf
      obtain ⟨⟨_, ⟨e69, i69⟩, rfl⟩, ⟨_, ⟨e71, i71⟩, rfl⟩, ⟨_, ⟨e67, i67⟩, rfl⟩, _⟩ := hf
      clear hbf
      have ya := boxStays Y3.out hB
      have yb := boxStays Y4.out hB
      have yc := boxStays Y5.out hB
      have ca0 := cell_of_row _ g3 0 _ _ _ ya
      have ca1 := cell_of_row _ g3 1 _ _ _ ya
      have ca2 := cell_of_row _ g3 2 _ _ _ ya
      have cb0 := cell_of_row _ g4 0 _ _ _ yb
      have cb1 := cell_of_row _ g4 1 _ _ _ yb
      have cb2 := cell_of_row _ g4 2 _ _ _ yb
      have cc0 := cell_of_row _ g5 0 _ _ _ yc
      have cc1 := cell_of_row _ g5 1 _ _ _ yc
      have cc2 := cell_of_row _ g5 2 _ _ _ yc
      clear ya yb yc
      refine ⟨(by have hg := getD_some i67; simp [Region.wanted, yielded, hg]), ?_⟩
      go_simp
      refine (key_Cmp p.x q.x w1).mono ?_
      rintro e w2 ⟨rfl, hb⟩
      exact hK.out _ w2 (rfl) hb
    refine relG_pure (i := 52) (o := ⟨some 73, _, _, _, _, _⟩) (v := ?v144) [(46, 67, 5)] [4] rfl rfl (by kernel_rfl) (by kernel_rfl) (fun t w1 hB hf hbf => ?y144) ?n144
    case y144 =>
     simp only [DepF, List.getD_cons_zero, List.getD_cons_succ] at hf
     simp only [BasF] at hbf
     obtain ⟨⟨_, ⟨e67, i67⟩, rfl⟩, _⟩ := hf
     obtain ⟨⟨b4, k4⟩, _⟩ := hbf
     have ya := boxStays Y3.out hB
     have yb := boxStays Y4.out hB
     have yc := boxStays Y5.out hB
     have ca0 := cell_of_row _ g3 0 _ _ _ ya
     have ca1 := cell_of_row _ g3 1 _ _ _ ya
     have ca2 := cell_of_row _ g3 2 _ _ _ ya
     have cb0 := cell_of_row _ g4 0 _ _ _ yb
     have cb1 := cell_of_row _ g4 1 _ _ _ yb
     have cb2 := cell_of_row _ g4 2 _ _ _ yb
     have cc0 := cell_of_row _ g5 0 _ _ _ yc
     have cc1 := cell_of_row _ g5 1 _ _ _ yc
     have cc2 := cell_of_row _ g5 2 _ _ _ yc
     clear ya yb yc
     refine Or.inl ⟨(by have hg := getD_some i67; simp [Region.wanted, yielded, hg]), ?_⟩
     rintro _ rfl
     go_simp <;> with_reducible rfl
    refine relG_pure (i := 53) (o := ⟨some 74, _, _, _, _, _⟩) (v := ?v145) [(52, 73, 0), (46, 67, 6)] [] rfl rfl (by kernel_rfl) (by kernel_rfl) (fun t w1 hB hf hbf => ?y145) ?n145
    case y145 =>
     simp only [DepF, List.getD_cons_zero, List.getD_cons_succ] at hf
     obtain ⟨⟨_, ⟨e73, i73⟩, rfl⟩, ⟨_, ⟨e67, i67⟩, rfl⟩, _⟩ := hf
     clear hbf
     have ya := boxStays Y3.out hB
     have yb := boxStays Y4.out hB
     have yc := boxStays Y5.out hB
     have ca0 := cell_of_row _ g3 0 _ _ _ ya
     have ca1 := cell_of_row _ g3 1 _ _ _ ya
     have ca2 := cell_of_row _ g3 2 _ _ _ ya
     have cb0 := cell_of_row _ g4 0 _ _ _ yb
     have cb1 := cell_of_row _ g4 1 _ _ _ yb
     have cb2 := cell_of_row _ g4 2 _ _ _ yb
     have cc0 := cell_of_row _ g5 0 _ _ _ yc
     have cc1 := cell_of_row _ g5 1 _ _ _ yc
     have cc2 := cell_of_row _ g5 2 _ _ _ yc
     clear ya yb yc
     refine Or.inl ⟨(by have hg := getD_some i67; simp [Region.wanted, yielded, hg]), ?_⟩
     rintro _ rfl
     go_simp <;> with_reducible rfl
    refine relG_pure (i := 54) (o := ⟨some 75, _, _, _, _, _⟩) (v := ?v146) [(46, 67, 7)] [3] rfl rfl (by kernel_rfl) (by kernel_rfl) (fun t w1 hB hf hbf => ?y146) ?n146
    case y146 =>
     simp only [DepF, List.getD_cons_zero, List.getD_cons_succ] at hf
     simp only [BasF] at hbf
     obtain ⟨⟨_, ⟨e67, i67⟩, rfl⟩, _⟩ := hf
     obtain ⟨⟨b3, k3⟩, _⟩ := hbf
     have ya := boxStays Y3.out hB
     have yb := boxStays Y4.out hB
     have yc := boxStays Y5.out hB
     have ca0 := cell_of_row _ g3 0 _ _ _ ya
     have ca1 := cell_of_row _ g3 1 _ _ _ ya
     have ca2 := cell_of_row _ g3 2 _ _ _ ya
     have cb0 := cell_of_row _ g4 0 _ _ _ yb
     have cb1 := cell_of_row _ g4 1 _ _ _ yb
     have cb2 := cell_of_row _ g4 2 _ _ _ yb
     have cc0 := cell_of_row _ g5 0 _ _ _ yc
     have cc1 := cell_of_row _ g5 1 _ _ _ yc
     have cc2 := cell_of_row _ g5 2 _ _ _ yc
     clear ya yb yc
     refine Or.inl ⟨(by have hg := getD_some i67; simp [Region.wanted, yielded, hg]), ?_⟩
     rintro _ rfl
     go_simp <;> with_reducible rfl
    refine relG_pure (i := 55) (o := ⟨some 76, _, _, _, _, _⟩) (v := ?v147) [(54, 75, 0), (46, 67, 8)] [] rfl rfl (by kernel_rfl) (by kernel_rfl) (fun t w1 hB hf hbf => ?y147) ?n147
    case y147 =>
     simp only [DepF, List.getD_cons_zero, List.getD_cons_succ] at hf
     obtain ⟨⟨_, ⟨e75, i75⟩, rfl⟩, ⟨_, ⟨e67, i67⟩, rfl⟩, _⟩ := hf
     clear hbf
     have ya := boxStays Y3.out hB
     have yb := boxStays Y4.out hB
     have yc := boxStays Y5.out hB
     have ca0 := cell_of_row _ g3 0 _ _ _ ya
     have ca1 := cell_of_row _ g3 1 _ _ _ ya
     have ca2 := cell_of_row _ g3 2 _ _ _ ya
     have cb0 := cell_of_row _ g4 0 _ _ _ yb
     have cb1 := cell_of_row _ g4 1 _ _ _ yb
     have cb2 := cell_of_row _ g4 2 _ _ _ yb
     have cc0 := cell_of_row _ g5 0 _ _ _ yc
     have cc1 := cell_of_row _ g5 1 _ _ _ yc
     have cc2 := cell_of_row _ g5 2 _ _ _ yc
     clear ya yb yc
     refine Or.inl ⟨(by have hg := getD_some i67; simp [Region.wanted, yielded, hg]), ?_⟩
     rintro _ rfl
     go_simp <;> with_reducible rfl
    refine relG_call (i := 56) (o := ⟨some 77, _, _, _, _, _⟩) ((fun v _ => v = .int .i64 (txtC q.x p.x))) [(53, 74, 2), (55, 76, 0), (46, 67, 9)] [] rfl rfl (by kernel_rfl) (by kernel_rfl) ((fun _ _ _ h _ => h)) ?_ ?_
    · intro t w1 hB hf hbf K hK
      simp only [DepF, List.getD_cons_zero, List.getD_cons_succ] at hf
      obtain ⟨⟨_, ⟨e74, i74⟩, rfl⟩, ⟨_, ⟨e76, i76⟩, rfl⟩, ⟨_, ⟨e67, i67⟩, rfl⟩, _⟩ := hf
      clear hbf
      have ya := boxStays Y3.out hB
      have yb := boxStays Y4.out hB
      have yc := boxStays Y5.out hB
      have ca0 := cell_of_row _ g3 0 _ _ _ ya
      have ca1 := cell_of_row _ g3 1 _ _ _ ya
      have ca2 := cell_of_row _ g3 2 _ _ _ ya
      have cb0 := cell_of_row _ g4 0 _ _ _ yb
      have cb1 := cell_of_row _ g4 1 _ _ _ yb
      have cb2 := cell_of_row _ g4 2 _ _ _ yb
      have cc0 := cell_of_row _ g5 0 _ _ _ yc
      have cc1 := cell_of_row _ g5 1 _ _ _ yc
      have cc2 := cell_of_row _ g5 2 _ _ _ yc
      clear ya yb yc
      refine ⟨(by have hg := getD_some i67; simp [Region.wanted, yielded, hg]), ?_⟩
      go_simp
      refine (key_Cmp q.x p.x w1).mono ?_
      rintro e w2 ⟨rfl, hb⟩
      exact hK.out _ w2 (rfl) hb
    refine relG_pure (i := 57) (o := ⟨some 78, _, _, _, _, _⟩) (v := ?v148) [(56, 77, 0), (46, 67, 10)] [] rfl rfl (by kernel_rfl) (by kernel_rfl) (fun t w1 hB hf hbf => ?y148) ?n148
    case y148 =>
     simp only [DepF, List.getD_cons_zero, List.getD_cons_succ] at hf
     obtain ⟨⟨_, ⟨e77, i77⟩, rfl⟩, ⟨_, ⟨e67, i67⟩, rfl⟩, _⟩ := hf
     clear hbf
     have ya := boxStays Y3.out hB
     have yb := boxStays Y4.out hB
     have yc := boxStays Y5.out hB
     have ca0 := cell_of_row _ g3 0 _ _ _ ya
     have ca1 := cell_of_row _ g3 1 _ _ _ ya
     have ca2 := cell_of_row _ g3 2 _ _ _ ya
     have cb0 := cell_of_row _ g4 0 _ _ _ yb
     have cb1 := cell_of_row _ g4 1 _ _ _ yb
     have cb2 := cell_of_row _ g4 2 _ _ _ yb
     have cc0 := cell_of_row _ g5 0 _ _ _ yc
     have cc1 := cell_of_row _ g5 1 _ _ _ yc
     have cc2 := cell_of_row _ g5 2 _ _ _ yc
     clear ya yb yc
     have wz := W3.out
     refine Or.inl ⟨(by have hg := getD_some i67; simp [Region.wanted, yielded, hg]), ?_⟩
     rintro _ rfl
     go_simp <;> with_reducible rfl
    refine relG_pure (i := 58) (o := ⟨some 79, _, _, _, _, _⟩) (v := ?v149) [(51, 72, 6), (57, 78, 0), (46, 67, 11)] [] rfl rfl (by kernel_rfl) (by kernel_rfl) (fun t w1 hB hf hbf => ?y149) ?n149
    case y149 =>
     simp only [DepF, List.getD_cons_zero, List.getD_cons_succ] at hf
     obtain ⟨⟨_, ⟨e72, i72⟩, rfl⟩, ⟨_, ⟨e78, i78⟩, rfl⟩, ⟨_, ⟨e67, i67⟩, rfl⟩, _⟩ := hf
     clear hbf
     have ya := boxStays Y3.out hB
     have yb := boxStays Y4.out hB
     have yc := boxStays Y5.out hB
     have ca0 := cell_of_row _ g3 0 _ _ _ ya
     have ca1 := cell_of_row _ g3 1 _ _ _ ya
     have ca2 := cell_of_row _ g3 2 _ _ _ ya
     have cb0 := cell_of_row _ g4 0 _ _ _ yb
     have cb1 := cell_of_row _ g4 1 _ _ _ yb
     have cb2 := cell_of_row _ g4 2 _ _ _ yb
     have cc0 := cell_of_row _ g5 0 _ _ _ yc
     have cc1 := cell_of_row _ g5 1 _ _ _ yc
     have cc2 := cell_of_row _ g5 2 _ _ _ yc
     clear ya yb yc
     have nq := bne_self (txtC p.x q.x)
     refine Or.inl ⟨(by have hg := getD_some i67; simp [Region.wanted, yielded, hg]), ?_⟩
     rintro _ rfl
     go_simp <;> with_reducible rfl
    refine relG_pure (i := 59) (o := ⟨some 80, _, _, _, _, _⟩) (v := ?v150) [(46, 67, 12), (58, 79, 0)] [] rfl rfl (by kernel_rfl) (by kernel_rfl) (fun t w1 hB hf hbf => ?y150) ?n150
    case y150 =>
     simp only [DepF, List.getD_cons_zero, List.getD_cons_succ] at hf
     obtain ⟨⟨_, ⟨e67, i67⟩, rfl⟩, ⟨_, ⟨e79, i79⟩, rfl⟩, _⟩ := hf
     clear hbf
     have ya := boxStays Y3.out hB
     have yb := boxStays Y4.out hB
     have yc := boxStays Y5.out hB
     have ca0 := cell_of_row _ g3 0 _ _ _ ya
     have ca1 := cell_of_row _ g3 1 _ _ _ ya
     have ca2 := cell_of_row _ g3 2 _ _ _ ya
     have cb0 := cell_of_row _ g4 0 _ _ _ yb
     have cb1 := cell_of_row _ g4 1 _ _ _ yb
     have cb2 := cell_of_row _ g4 2 _ _ _ yb
     have cc0 := cell_of_row _ g5 0 _ _ _ yc
     have cc1 := cell_of_row _ g5 1 _ _ _ yc
     have cc2 := cell_of_row _ g5 2 _ _ _ yc
     clear ya yb yc
     refine Or.inl ⟨wanted_none rfl, ?_⟩
     rintro _ rfl
     go_simp <;> with_reducible rfl
    refine relG_done [(59, 80, 0)] (by kernel_rfl) rfl (by kernel_rfl) (fun f wE hB hf => ?_)
    simp only [FinF, List.getD_cons_zero] at hf
    obtain ⟨⟨_, e80, rfl⟩, _⟩ := hf
    rw [regT_run (s := 21) (n := 60)]
    case h => rfl
    case hb => exact Nat.le_of_ble_eq_true (by kernel_rfl)
    simp only [List.take_succ_cons, List.take_zero, List.map_cons, List.map_nil, List.drop_succ_cons, List.drop_zero, List.cons_append, List.nil_append, e80]
    clear e80
    have HBD := Lib.hid hB
    clear hB
    go_wp2_with fail
    go_meet
    exact ⟨rfl, HBD⟩
  case rest =>
   obtain ⟨rfl, HBD⟩ := hcut
   obtain ⟨w5, rfl⟩ : ∃ x : World, x = wc := ⟨_, rfl⟩
   have HA : Hid (w5.heap[g3]? = some (.cells #[.slice p.a p.n p.c, .int .i64 p.k, .string p.x] 38 (0, 0))) := Lib.hid (boxStays Y3.out HBD.out)
   have HB : Hid (w5.heap[g4]? = some (.cells #[.slice q.a q.n q.c, .int .i64 q.k, .string q.x] 38 (0, 0))) := Lib.hid (boxStays Y4.out HBD.out)
   have HP : Hid (PlcAt w5 p) := Lib.hid (HPC.out.below HBD.out)
   have HQ : Hid (PlcAt w5 q) := Lib.hid (HQC.out.below HBD.out)
   have G : Hid (Glob w5) := Lib.hid (GC.out.below HBD.out)
   have BW : Hid (Below w.heap.size w w5) := Lib.hid (BWC.out.trans (HBD.out.mono BWC.out.size))
   clear Y3 Y4 Y5 HBD HPC HQC HRC GC BWC W1 W2 W3
   have HC : Hid (Chain [w5] w5) := Lib.hid (Chain.one w5)
   by_cases hbp : pathG p.l = true
   case neg =>
    have HBP := Lib.hid hbp
    clear hbp
    by_cases hbq : pathG q.l = true
    case neg =>
     have HBQ := Lib.hid hbq
     clear hbq
     have kA0 := cell_of_row _ _ 0 _ _ _ HA.out
     have kA1 := cell_of_row _ _ 1 _ _ _ HA.out
     have kA2 := cell_of_row _ _ 2 _ _ _ HA.out
     go_wp2_with fail
     refine (key_JoinF p.l p.a p.n p.c _ (HP.out.at_.below (HC.out.to w5 (by simp)) rfl) HP.out.len HP.out.sz (G.out.below (HC.out.to w5 (by simp))) HBP.out).mono ?_
     rintro e w6 ⟨rfl, hb⟩
     clear kA0 kA1 kA2
     replace HC := Lib.hid (HC.out.push hb)
     clear hb
     have kB0 := cell_of_row _ _ 0 _ _ _ (boxStays HB.out (HC.out.to w5 (by simp)))
     have kB1 := cell_of_row _ _ 1 _ _ _ (boxStays HB.out (HC.out.to w5 (by simp)))
     have kB2 := cell_of_row _ _ 2 _ _ _ (boxStays HB.out (HC.out.to w5 (by simp)))
     go_wp2_with fail
     refine (key_JoinF q.l q.a q.n q.c _ (HQ.out.at_.below (HC.out.to w5 (by simp)) rfl) HQ.out.len HQ.out.sz (G.out.below (HC.out.to w5 (by simp))) HBQ.out).mono ?_
     rintro e w7 ⟨rfl, hb⟩
     clear kB0 kB1 kB2
     replace HC := Lib.hid (HC.out.push hb)
     clear hb
     go_wp2_with fail
     refine (num_05b 2 _).mono ?_
     rintro e w8 ⟨rfl, hb⟩
     replace HC := Lib.hid (HC.out.push hb)
     clear hb
     go_wp2_with fail
     refine (num_05b 2 _).mono ?_
     rintro e w9 ⟨rfl, hb⟩
     replace HC := Lib.hid (HC.out.push hb)
     clear hb
     go_wp2_with fail
     go_ret
     exact ⟨rfl, BW.out.trans ((HC.out.to w5 (by simp)).mono BW.out.size)⟩
    have HBQ := Lib.hid hbq
    clear hbq
    have kA0 := cell_of_row _ _ 0 _ _ _ HA.out
    have kA1 := cell_of_row _ _ 1 _ _ _ HA.out
    have kA2 := cell_of_row _ _ 2 _ _ _ HA.out
    go_wp2_with fail
    refine (key_JoinF p.l p.a p.n p.c _ (HP.out.at_.below (HC.out.to w5 (by simp)) rfl) HP.out.len HP.out.sz (G.out.below (HC.out.to w5 (by simp))) HBP.out).mono ?_
    rintro e w6 ⟨rfl, hb⟩
    clear kA0 kA1 kA2
    replace HC := Lib.hid (HC.out.push hb)
    clear hb
    have kB0 := cell_of_row _ _ 0 _ _ _ (boxStays HB.out (HC.out.to w5 (by simp)))
    have kB1 := cell_of_row _ _ 1 _ _ _ (boxStays HB.out (HC.out.to w5 (by simp)))
    have kB2 := cell_of_row _ _ 2 _ _ _ (boxStays HB.out (HC.out.to w5 (by simp)))
    go_wp2_with fail
    refine (key_JoinT q.l q.a q.n q.c _ (HQ.out.at_.below (HC.out.to w5 (by simp)) rfl) HQ.out.len HQ.out.sz (G.out.below (HC.out.to w5 (by simp))) HBQ.out).mono ?_
    rintro e w7 ⟨rfl, hb⟩
    clear kB0 kB1 kB2
    replace HC := Lib.hid (HC.out.push hb)
    clear hb
    go_wp2_with fail
    refine (num_05b 2 _).mono ?_
    rintro e w8 ⟨rfl, hb⟩
    replace HC := Lib.hid (HC.out.push hb)
    clear hb
    go_wp2_with fail
    refine (num_05b 0 _).mono ?_
    rintro e w9 ⟨rfl, hb⟩
    replace HC := Lib.hid (HC.out.push hb)
    clear hb
    go_wp2_with fail
    go_ret
    exact ⟨rfl, BW.out.trans ((HC.out.to w5 (by simp)).mono BW.out.size)⟩
   have HBP := Lib.hid hbp
   clear hbp
   by_cases hbq : pathG q.l = true
   case neg =>
    have HBQ := Lib.hid hbq
    clear hbq
    have kA0 := cell_of_row _ _ 0 _ _ _ HA.out
    have kA1 := cell_of_row _ _ 1 _ _ _ HA.out
    have kA2 := cell_of_row _ _ 2 _ _ _ HA.out
    go_wp2_with fail
    refine (key_JoinT p.l p.a p.n p.c _ (HP.out.at_.below (HC.out.to w5 (by simp)) rfl) HP.out.len HP.out.sz (G.out.below (HC.out.to w5 (by simp))) HBP.out).mono ?_
    rintro e w6 ⟨rfl, hb⟩
    clear kA0 kA1 kA2
    replace HC := Lib.hid (HC.out.push hb)
    clear hb
    have kB0 := cell_of_row _ _ 0 _ _ _ (boxStays HB.out (HC.out.to w5 (by simp)))
    have kB1 := cell_of_row _ _ 1 _ _ _ (boxStays HB.out (HC.out.to w5 (by simp)))
    have kB2 := cell_of_row _ _ 2 _ _ _ (boxStays HB.out (HC.out.to w5 (by simp)))
    go_wp2_with fail
    refine (key_JoinF q.l q.a q.n q.c _ (HQ.out.at_.below (HC.out.to w5 (by simp)) rfl) HQ.out.len HQ.out.sz (G.out.below (HC.out.to w5 (by simp))) HBQ.out).mono ?_
    rintro e w7 ⟨rfl, hb⟩
    clear kB0 kB1 kB2
    replace HC := Lib.hid (HC.out.push hb)
    clear hb
    go_wp2_with fail
    refine (num_05b 0 _).mono ?_
    rintro e w8 ⟨rfl, hb⟩
    replace HC := Lib.hid (HC.out.push hb)
    clear hb
    go_wp2_with fail
    refine (num_05b 2 _).mono ?_
    rintro e w9 ⟨rfl, hb⟩
    replace HC := Lib.hid (HC.out.push hb)
    clear hb
    go_wp2_with fail
    go_ret
    exact ⟨rfl, BW.out.trans ((HC.out.to w5 (by simp)).mono BW.out.size)⟩
   have HBQ := Lib.hid hbq
   clear hbq
   have kA0 := cell_of_row _ _ 0 _ _ _ HA.out
   have kA1 := cell_of_row _ _ 1 _ _ _ HA.out
   have kA2 := cell_of_row _ _ 2 _ _ _ HA.out
   go_wp2_with fail
   refine (key_JoinT p.l p.a p.n p.c _ (HP.out.at_.below (HC.out.to w5 (by simp)) rfl) HP.out.len HP.out.sz (G.out.below (HC.out.to w5 (by simp))) HBP.out).mono ?_
   rintro e w6 ⟨rfl, hb⟩
   clear kA0 kA1 kA2
   replace HC := Lib.hid (HC.out.push hb)
   clear hb
   have kB0 := cell_of_row _ _ 0 _ _ _ (boxStays HB.out (HC.out.to w5 (by simp)))
   have kB1 := cell_of_row _ _ 1 _ _ _ (boxStays HB.out (HC.out.to w5 (by simp)))
   have kB2 := cell_of_row _ _ 2 _ _ _ (boxStays HB.out (HC.out.to w5 (by simp)))
   go_wp2_with fail
   refine (key_JoinT q.l q.a q.n q.c _ (HQ.out.at_.below (HC.out.to w5 (by simp)) rfl) HQ.out.len HQ.out.sz (G.out.below (HC.out.to w5 (by simp))) HBQ.out).mono ?_
   rintro e w7 ⟨rfl, hb⟩
   clear kB0 kB1 kB2
   replace HC := Lib.hid (HC.out.push hb)
   clear hb
   go_wp2_with fail
   refine (num_05b 0 _).mono ?_
   rintro e w8 ⟨rfl, hb⟩
   replace HC := Lib.hid (HC.out.push hb)
   clear hb
   go_wp2_with fail
   refine (num_05b 0 _).mono ?_
   rintro e w9 ⟨rfl, hb⟩
   replace HC := Lib.hid (HC.out.push hb)
   clear hb
   go_wp2_with fail
   refine (key_Split (joinB p.l) _ (Nat.le_trans (join_size HBP.out) (by decide)) (G.out.below (HC.out.to w5 (by simp)))).mono ?_
   rintro e wA ⟨v, er, rfl, ho, hb⟩
   replace HC := Lib.hid (HC.out.push hb)
   clear hb
   unfold SplOut at ho
   rw [split_join HBP.out] at ho
   obtain ⟨rfl, a5, c5, rfl, hc⟩ := ho
   have HS : Hid (CellsAt wA a5 (txV p.l)) := Lib.hid hc
   clear hc
   have HPL : Hid (p.l.length ≤ 9223372036854775807) := Lib.hid (HP.out.len ▸ HP.out.le)
   obtain ⟨np, hnp⟩ : ∃ n, p.l.length = n := ⟨_, rfl⟩
   rw [hnp]
   have HNP := Lib.hid hnp.symm
   rw [hnp] at HPL
   clear hnp
   go_wp2_with fail
   refine (num_05b 0 _).mono ?_
   rintro e wB1 ⟨rfl, hb⟩
   replace HC := Lib.hid (HC.out.push hb)
   clear hb
   have kA0 := cell_of_row _ _ 0 _ _ _ (boxStays HA.out (HC.out.to w5 (by simp)))
   have kA1 := cell_of_row _ _ 1 _ _ _ (boxStays HA.out (HC.out.to w5 (by simp)))
   have kA2 := cell_of_row _ _ 2 _ _ _ (boxStays HA.out (HC.out.to w5 (by simp)))
   have kB0 := cell_of_row _ _ 0 _ _ _ (boxStays HB.out (HC.out.to w5 (by simp)))
   have kB1 := cell_of_row _ _ 1 _ _ _ (boxStays HB.out (HC.out.to w5 (by simp)))
   have kB2 := cell_of_row _ _ 2 _ _ _ (boxStays HB.out (HC.out.to w5 (by simp)))
   go_wp2_with fail
   refine (key_CmpPath p.l p.l a5 p.a np p.n c5 p.c _ (HS.out.below (HC.out.to wA (by simp)) rfl) (HP.out.at_.below (HC.out.to w5 (by simp)) rfl) HNP.out HP.out.len HPL.out HP.out.sz HP.out.sz).mono ?_
   rintro e wC ⟨rfl, hb⟩
   clear kA0 kA1 kA2 kB0 kB1 kB2
   replace HC := Lib.hid (HC.out.push hb)
   clear hb
   rw [pathO.self p.l]
   have kA0 := cell_of_row _ _ 0 _ _ _ (boxStays HA.out (HC.out.to w5 (by simp)))
   have kA1 := cell_of_row _ _ 1 _ _ _ (boxStays HA.out (HC.out.to w5 (by simp)))
   have kA2 := cell_of_row _ _ 2 _ _ _ (boxStays HA.out (HC.out.to w5 (by simp)))
   have kB0 := cell_of_row _ _ 0 _ _ _ (boxStays HB.out (HC.out.to w5 (by simp)))
   have kB1 := cell_of_row _ _ 1 _ _ _ (boxStays HB.out (HC.out.to w5 (by simp)))
   have kB2 := cell_of_row _ _ 2 _ _ _ (boxStays HB.out (HC.out.to w5 (by simp)))
   go_wp2_with fail
   refine (key_CmpPath p.l q.l p.a q.a p.n q.n p.c q.c _ (HP.out.at_.below (HC.out.to w5 (by simp)) rfl) (HQ.out.at_.below (HC.out.to w5 (by simp)) rfl) HP.out.len HQ.out.len HP.out.le HP.out.sz HQ.out.sz).mono ?_
   rintro e wD ⟨rfl, hb⟩
   clear kA0 kA1 kA2 kB0 kB1 kB2
   replace HC := Lib.hid (HC.out.push hb)
   clear hb
   obtain ⟨d, hd1, hd3, hd4⟩ : ∃ d : Bool, ((joinB p.l).toList == (joinB q.l).toList) = d ∧ (pathC p.l q.l == 0) = d ∧ decide (pathC p.l q.l = 0) = d := by
    by_cases h : p.l = q.l
    · refine ⟨true, ?_, ?_, ?_⟩
      · rw [h]; exact beq_self_eq_true _
      · rw [h, pathO.self]; rfl
      · rw [h, pathO.self]; rfl
    · have h1 : ¬ joinB p.l = joinB q.l := fun e => h (join_inj HBP.out HBQ.out e)
      have h2 : ¬ pathC p.l q.l = 0 := fun e => h (path_zero e)
      exact ⟨false, by rw [Pm.eq_iff]; simpa using h1, beq_eq_false_iff_ne.2 h2, decide_eq_false h2⟩
   obtain ⟨s1, hs1⟩ : ∃ s, joinB p.l = s := ⟨_, rfl⟩
   obtain ⟨s2, hs2⟩ : ∃ s, joinB q.l = s := ⟨_, rfl⟩
   obtain ⟨z1, hz1⟩ : ∃ s, pathC p.l q.l = s := ⟨_, rfl⟩
   rw [hs1, hs2] at hd1
   rw [hz1] at hd3 hd4
   rw [hs1, hs2, hz1]
   clear hs1 hs2 hz1
   have EA := Lib.hid (boxStays HA.out (HC.out.to w5 (by simp)))
   have EB := Lib.hid (boxStays HB.out (HC.out.to w5 (by simp)))
   have CPe := Lib.hid (HP.out.at_.below (HC.out.to w5 (by simp)) rfl)
   have BWD := Lib.hid (BW.out.trans ((HC.out.to w5 (by simp)).mono BW.out.size))
   have HPD := Lib.hid (HP.out.below (HC.out.to w5 (by simp)))
   go_upto_region 13 with (fail)
   clear hd1 hd3 hd4
   have ET := Lib.hid sxT
   have HLT1 : Hid ((txV p.l).length = p.n * 1) := Lib.hid (by rw [txV_len, HP.out.len, Nat.mul_one])
   have hn1 : p.n ≤ 6 := by rw [HP.out.len]; exact (pathG_sz HBP.out).1
   clear HC
   go_cut [12] (fun u12 wx => ∃ (g12 : Nat) (a12 : Option Addr) (c12 : Nat), u12 = .pointer (some ⟨g12, 0, none⟩) ∧ Hid (wx.heap[g12]? = some (.cells #[.slice a12 (p.n + 1) c12, .int .i64 q.k, .string q.x] 38 (0, 0))) ∧ Hid (CellsAt wx a12 (txV (p.l ++ [q.x]))) ∧ Hid (Below wD.heap.size wD wx))
   case first =>
    refine wp_region_noPanic ?_
    refine wp_region_held_drew (S := fun w' => Below wD.heap.size wD w') (by kernel_rfl) (Below.refl _ _).drew (fun hS => ?_)
    refine wpAnyH_take (i := 0) (oi := ⟨some 126, _, _, _, _, _⟩) (v := ?_) rfl (by kernel_rfl) (by kernel_rfl) (by kernel_rfl) (fun _ _ _ h => h) (Or.inl ⟨by rfl, ?_⟩) hS ?_
    rotate_left 1
    · intro w' hB; have ya := boxStays EA.out hB; have yb := boxStays EB.out hB; have ca0 := cell_of_row _ g3 0 _ _ _ ya; have cb1 := cell_of_row _ g4 1 _ _ _ yb; have cb2 := cell_of_row _ g4 2 _ _ _ yb; clear ya yb; (go_simp <;> with_reducible rfl)
    try simp only [Act.put, List.setIfInBounds_toArray, List.set_cons_zero, List.set_cons_succ]
    refine wpAnyH_take (i := 1) (oi := ⟨some 127, _, _, _, _, _⟩) (v := ?_) rfl (by kernel_rfl) (by kernel_rfl) (by kernel_rfl) (fun _ _ _ h => h) (Or.inl ⟨by rfl, ?_⟩) hS ?_
    rotate_left 1
    · intro w' hB; have ya := boxStays EA.out hB; have yb := boxStays EB.out hB; have ca0 := cell_of_row _ g3 0 _ _ _ ya; have cb1 := cell_of_row _ g4 1 _ _ _ yb; have cb2 := cell_of_row _ g4 2 _ _ _ yb; clear ya yb; (go_simp <;> with_reducible rfl)
    try simp only [Act.put, List.setIfInBounds_toArray, List.set_cons_zero, List.set_cons_succ]
    refine wpAnyH_take (i := 3) (oi := ⟨some 129, _, _, _, _, _⟩) (v := ?_) rfl (by kernel_rfl) (by kernel_rfl) (by kernel_rfl) (fun _ _ _ h => h) (Or.inl ⟨by rfl, ?_⟩) hS ?_
    rotate_left 1
    · intro w' hB; have ya := boxStays EA.out hB; have yb := boxStays EB.out hB; have ca0 := cell_of_row _ g3 0 _ _ _ ya; have cb1 := cell_of_row _ g4 1 _ _ _ yb; have cb2 := cell_of_row _ g4 2 _ _ _ yb; clear ya yb; (go_simp <;> with_reducible rfl)
    try simp only [Act.put, List.setIfInBounds_toArray, List.set_cons_zero, List.set_cons_succ]
    refine wpAnyH_take (i := 4) (oi := ⟨some 130, _, _, _, _, _⟩) (v := ?_) rfl (by kernel_rfl) (by kernel_rfl) (by kernel_rfl) (fun _ _ _ h => h) (Or.inl ⟨by rfl, ?_⟩) hS ?_
    rotate_left 1
    · intro w' hB; have ya := boxStays EA.out hB; have yb := boxStays EB.out hB; have ca0 := cell_of_row _ g3 0 _ _ _ ya; have cb1 := cell_of_row _ g4 1 _ _ _ yb; have cb2 := cell_of_row _ g4 2 _ _ _ yb; clear ya yb; (go_simp <;> with_reducible rfl)
    try simp only [Act.put, List.setIfInBounds_toArray, List.set_cons_zero, List.set_cons_succ]
    refine wpAnyH_take (i := 7) (oi := ⟨some 133, _, _, _, _, _⟩) (v := ?_) rfl (by kernel_rfl) (by kernel_rfl) (by kernel_rfl) (fun _ _ _ h => h) (Or.inl ⟨by rfl, ?_⟩) hS ?_
    rotate_left 1
    · intro w' hB; have ya := boxStays EA.out hB; have yb := boxStays EB.out hB; have ca0 := cell_of_row _ g3 0 _ _ _ ya; have cb1 := cell_of_row _ g4 1 _ _ _ yb; have cb2 := cell_of_row _ g4 2 _ _ _ yb; clear ya yb; (go_simp <;> with_reducible rfl)
    try simp only [Act.put, List.setIfInBounds_toArray, List.set_cons_zero, List.set_cons_succ]
    refine wpAnyH_take (i := 8) (oi := ⟨some 134, _, _, _, _, _⟩) (v := ?_) rfl (by kernel_rfl) (by kernel_rfl) (by kernel_rfl) (fun _ _ _ h => h) (Or.inl ⟨by rfl, ?_⟩) hS ?_
    rotate_left 1
    · intro w' hB; have ya := boxStays EA.out hB; have yb := boxStays EB.out hB; have ca0 := cell_of_row _ g3 0 _ _ _ ya; have cb1 := cell_of_row _ g4 1 _ _ _ yb; have cb2 := cell_of_row _ g4 2 _ _ _ yb; clear ya yb; (go_simp <;> with_reducible rfl)
    try simp only [Act.put, List.setIfInBounds_toArray, List.set_cons_zero, List.set_cons_succ]
    refine wpAnyH_take (i := 9) (oi := ⟨some 135, _, _, _, _, _⟩) (v := ?_) rfl (by kernel_rfl) (by kernel_rfl) (by kernel_rfl) (fun _ _ _ h => h) (Or.inl ⟨by rfl, ?_⟩) hS ?_
    rotate_left 1
    · intro w' hB; have ya := boxStays EA.out hB; have yb := boxStays EB.out hB; have ca0 := cell_of_row _ g3 0 _ _ _ ya; have cb1 := cell_of_row _ g4 1 _ _ _ yb; have cb2 := cell_of_row _ g4 2 _ _ _ yb; clear ya yb; (go_simp <;> with_reducible rfl)
    try simp only [Act.put, List.setIfInBounds_toArray, List.set_cons_zero, List.set_cons_succ]
    refine wpAnyH_take (i := 10) (oi := ⟨some 136, _, _, _, _, _⟩) (v := ?_) rfl (by kernel_rfl) (by kernel_rfl) (by kernel_rfl) (fun _ _ _ h => h) (Or.inl ⟨by rfl, ?_⟩) hS ?_
    rotate_left 1
    · intro w' hB; have ya := boxStays EA.out hB; have yb := boxStays EB.out hB; have ca0 := cell_of_row _ g3 0 _ _ _ ya; have cb1 := cell_of_row _ g4 1 _ _ _ yb; have cb2 := cell_of_row _ g4 2 _ _ _ yb; clear ya yb; (go_simp <;> with_reducible rfl)
    try simp only [Act.put, List.setIfInBounds_toArray, List.set_cons_zero, List.set_cons_succ]
    refine wpAnyH_ready (rs := [2, 5, 12]) (by kernel_rfl) (by simp) (AllReadyH.cons (o := ⟨some 128, _, _, _, _, _⟩) rfl (fun K hK => ?way153) (AllReadyH.cons (o := ⟨some 131, _, _, _, _, _⟩) rfl (fun K hK => ?way152) (AllReadyH.cons (o := ⟨some 12, _, _, _, _, _⟩) rfl (fun K hK => ?way151) AllReadyH.nil)))
    case' way153 =>
     refine step_app rfl _ _ _ _ rfl wD.heap.size 9 _ 1 16 ET.out (.slice none 0 0) 0 [] rfl ⟨rfl, Or.inl ⟨rfl, rfl⟩⟩ _ p.n (txV p.l) rfl ((CPe.out.below hS rfl).srcN HLT1.out (txV_one _) Tryd.underlying22 p.c (by decide)) (by unfold maxLen; omega) (by omega) hS.size ?_
     intro u3 r3 hown hgr hb hor
     refine hK.out _ _ (hS.trans hb) (fun _ => ?_)
     clear hK K
     replace hS := hS.trans hb
     have H3 : Hid (World.ownsRow _ wD.heap.size 9 1 u3 p.n (txV p.l)) := Lib.hid (by simpa using hown)
     (try (replace H8 := Lib.hid (H8.out.below (grown_none hgr) rfl)))
     (try (have D12 := Lib.hid (ownNe_or hor (by simp [Value.ownBlock]) Y12.out)))
     (try (replace Y12 := Lib.hid (boxStays Y12.out (grown_none hgr))))
     clear hb hgr hor
     try simp only [Act.put, List.setIfInBounds_toArray, List.set_cons_zero, List.set_cons_succ]
     refine wpAnyH_ready (rs := [5, 12]) (by kernel_rfl) (by simp) (AllReadyH.cons (o := ⟨some 131, _, _, _, _, _⟩) rfl (fun K hK => ?way155) (AllReadyH.cons (o := ⟨some 12, _, _, _, _, _⟩) rfl (fun K hK => ?way154) AllReadyH.nil))
     case' way155 =>
      go_simp
      refine hK.out _ _ (hS.alloc hS.size _) (fun _ => ?_)
      clear hK K
      refine wpAnyH_madeK hS hS.size ?_
      have hS0 := hS
      clear hS
      rintro r8 hw hS
      (try (replace H3 := Lib.hid (show World.ownsRow r8 wD.heap.size 9 1 u3 p.n (txV p.l) from by rw [hw]; exact H3.out.alloc _)))
      have H8 := Lib.hid (cellsAt_made (vs := [.string q.x]) hw)
      (try (replace Y12 := Lib.hid (boxStays (w' := r8) Y12.out (by rw [hw]; exact below_new _ _))))
      clear hw hS0
      try simp only [Act.put, List.setIfInBounds_toArray, List.set_cons_zero, List.set_cons_succ]
      refine wpAnyH_ready (rs := [6, 12]) (by kernel_rfl) (by simp) (AllReadyH.cons (o := ⟨some 132, _, _, _, _, _⟩) rfl (fun K hK => ?way157) (AllReadyH.cons (o := ⟨some 12, _, _, _, _, _⟩) rfl (fun K hK => ?way156) AllReadyH.nil))
      case' way157 =>
       refine step_app rfl _ _ _ _ rfl wD.heap.size 9 _ 1 16 ET.out u3 p.n (txV p.l) rfl H3.out _ 1 [.string q.x] rfl (H8.out.srcN rfl (txV_one [q.x]) Tryd.underlying22 1 (by decide)) (by unfold maxLen; omega) (by omega) hS.size ?_
       intro u9 r9 hown hgr hb hor
       refine hK.out _ _ (hS.trans hb) (fun _ => ?_)
       clear hK K
       replace hS := hS.trans hb
       have H9 := hown
       rw [← txV_snoc] at H9
       (try (have E9 := Lib.hid (ownNe_or hor D12.out Y12.out)))
       obtain ⟨g9, k9, rfl, hg9, hl9, _, _⟩ := own_form H9 (by omega)
       have C9 : Hid (CellsAt r9 (some ⟨g9, 0, none⟩) (txV (p.l ++ [q.x]))) := Lib.hid (CellsAt.ownN H9)
       have L9 := Lib.hid hl9
       (try (have N9 := Lib.hid (ne_of_own E9.out)))
       clear H9 hg9 hl9 H3 H8
       (try (replace Y12 := Lib.hid (grow_keep hgr Y12.out D12.out)))
       clear hb hgr hor
       try simp only [Act.put, List.setIfInBounds_toArray, List.set_cons_zero, List.set_cons_succ]
       refine wpAnyH_take (i := 11) (oi := ⟨some 137, _, _, _, _, _⟩) (v := ?_) rfl (by kernel_rfl) (by kernel_rfl) (by kernel_rfl) (fun _ _ _ h => h) (Or.inl ⟨by rfl, ?_⟩) hS ?_
       rotate_left 1
       · intro w' hB; have ya := boxStays EA.out hB; have yb := boxStays EB.out hB; have ca0 := cell_of_row _ g3 0 _ _ _ ya; have cb1 := cell_of_row _ g4 1 _ _ _ yb; have cb2 := cell_of_row _ g4 2 _ _ _ yb; clear ya yb; (go_simp <;> with_reducible rfl)
       try simp only [Act.put, List.setIfInBounds_toArray, List.set_cons_zero, List.set_cons_succ]
       refine wpAnyH_ready (rs := [12]) (by kernel_rfl) (by simp) (AllReadyH.cons (o := ⟨some 12, _, _, _, _, _⟩) rfl (fun K hK => ?_) AllReadyH.nil)
       go_simp
       refine hK.out _ _ (hS.alloc hS.size _) (fun _ => ?_)
       clear hK K
       refine wpAnyH_madeK hS hS.size ?_
       have hS0 := hS
       clear hS
       rintro r12 hw hS
       have Y12 := Lib.hid (made_at hw)
       have G12 := Lib.hid hS0.size
       (try (have D12 := Lib.hid (ownNe_size H3.out)))
       (try (have N9 := Lib.hid (Nat.ne_of_lt L9.out)))
       (try (replace H3 := Lib.hid (show World.ownsRow r12 wD.heap.size 9 1 u3 p.n (txV p.l) from by rw [hw]; exact H3.out.alloc _)))
       (try (replace H8 := Lib.hid (H8.out.below (show Below _ _ r12 from by rw [hw]; exact below_new _ _) rfl)))
       (try (replace C9 := Lib.hid (C9.out.below (show Below _ _ r12 from by rw [hw]; exact below_new _ _) rfl)))
       clear hw hS0
       try simp only [Act.put, List.setIfInBounds_toArray, List.set_cons_zero, List.set_cons_succ]
       refine wpAnyH_ready (rs := [13]) (by kernel_rfl) (by simp) (AllReadyH.cons (o := ⟨none, _, _, _, _, _⟩) rfl (fun K hK => ?_) AllReadyH.nil)
       refine step_store_row rfl 38 (.tmp 12) (.tmp 137) rfl _ #[.slice (some ⟨g9, 0, none⟩) (p.n + 1) k9, .int .i64 q.k, .string q.x] rfl rfl 38 _ Y12.out (by kernel_rfl) rfl (by simp [Value.oneCell']) ?_
       replace hS := below_setRow hS G12.out #[.slice (some ⟨g9, 0, none⟩) (p.n + 1) k9, .int .i64 q.k, .string q.x]
       have Z12 := Lib.hid (setRow_heap _ _ _ #[.slice (some ⟨g9, 0, none⟩) (p.n + 1) k9, .int .i64 q.k, .string q.x] _ _ Y12.out)
       replace C9 := Lib.hid (cellsAt_setRow (cs := #[.slice (some ⟨g9, 0, none⟩) (p.n + 1) k9, .int .i64 q.k, .string q.x]) C9.out N9.out)
       refine hK.out _ _ hS (fun _ => ?_)
       clear hK K
       try simp only [Act.put, List.setIfInBounds_toArray, List.set_cons_zero, List.set_cons_succ]
       refine wpAnyH_done (by kernel_rfl) (NoPanic.normal ?_) _
      case' way156 =>
       go_simp
       refine hK.out _ _ (hS.alloc hS.size _) (fun _ => ?_)
       clear hK K
       refine wpAnyH_madeK hS hS.size ?_
       have hS0 := hS
       clear hS
       rintro r12 hw hS
       have Y12 := Lib.hid (made_at hw)
       have G12 := Lib.hid hS0.size
       (try (have D12 := Lib.hid (ownNe_size H3.out)))
       (try (have N9 := Lib.hid (Nat.ne_of_lt L9.out)))
       (try (replace H3 := Lib.hid (show World.ownsRow r12 wD.heap.size 9 1 u3 p.n (txV p.l) from by rw [hw]; exact H3.out.alloc _)))
       (try (replace H8 := Lib.hid (H8.out.below (show Below _ _ r12 from by rw [hw]; exact below_new _ _) rfl)))
       (try (replace C9 := Lib.hid (C9.out.below (show Below _ _ r12 from by rw [hw]; exact below_new _ _) rfl)))
       clear hw hS0
       try simp only [Act.put, List.setIfInBounds_toArray, List.set_cons_zero, List.set_cons_succ]
       refine wpAnyH_ready (rs := [6]) (by kernel_rfl) (by simp) (AllReadyH.cons (o := ⟨some 132, _, _, _, _, _⟩) rfl (fun K hK => ?_) AllReadyH.nil)
       refine step_app rfl _ _ _ _ rfl wD.heap.size 9 _ 1 16 ET.out u3 p.n (txV p.l) rfl H3.out _ 1 [.string q.x] rfl (H8.out.srcN rfl (txV_one [q.x]) Tryd.underlying22 1 (by decide)) (by unfold maxLen; omega) (by omega) hS.size ?_
       intro u9 r9 hown hgr hb hor
       refine hK.out _ _ (hS.trans hb) (fun _ => ?_)
       clear hK K
       replace hS := hS.trans hb
       have H9 := hown
       rw [← txV_snoc] at H9
       (try (have E9 := Lib.hid (ownNe_or hor D12.out Y12.out)))
       obtain ⟨g9, k9, rfl, hg9, hl9, _, _⟩ := own_form H9 (by omega)
       have C9 : Hid (CellsAt r9 (some ⟨g9, 0, none⟩) (txV (p.l ++ [q.x]))) := Lib.hid (CellsAt.ownN H9)
       have L9 := Lib.hid hl9
       (try (have N9 := Lib.hid (ne_of_own E9.out)))
       clear H9 hg9 hl9 H3 H8
       (try (replace Y12 := Lib.hid (grow_keep hgr Y12.out D12.out)))
       clear hb hgr hor
       try simp only [Act.put, List.setIfInBounds_toArray, List.set_cons_zero, List.set_cons_succ]
       refine wpAnyH_take (i := 11) (oi := ⟨some 137, _, _, _, _, _⟩) (v := ?_) rfl (by kernel_rfl) (by kernel_rfl) (by kernel_rfl) (fun _ _ _ h => h) (Or.inl ⟨by rfl, ?_⟩) hS ?_
       rotate_left 1
       · intro w' hB; have ya := boxStays EA.out hB; have yb := boxStays EB.out hB; have ca0 := cell_of_row _ g3 0 _ _ _ ya; have cb1 := cell_of_row _ g4 1 _ _ _ yb; have cb2 := cell_of_row _ g4 2 _ _ _ yb; clear ya yb; (go_simp <;> with_reducible rfl)
       try simp only [Act.put, List.setIfInBounds_toArray, List.set_cons_zero, List.set_cons_succ]
       refine wpAnyH_ready (rs := [13]) (by kernel_rfl) (by simp) (AllReadyH.cons (o := ⟨none, _, _, _, _, _⟩) rfl (fun K hK => ?_) AllReadyH.nil)
       refine step_store_row rfl 38 (.tmp 12) (.tmp 137) rfl _ #[.slice (some ⟨g9, 0, none⟩) (p.n + 1) k9, .int .i64 q.k, .string q.x] rfl rfl 38 _ Y12.out (by kernel_rfl) rfl (by simp [Value.oneCell']) ?_
       replace hS := below_setRow hS G12.out #[.slice (some ⟨g9, 0, none⟩) (p.n + 1) k9, .int .i64 q.k, .string q.x]
       have Z12 := Lib.hid (setRow_heap _ _ _ #[.slice (some ⟨g9, 0, none⟩) (p.n + 1) k9, .int .i64 q.k, .string q.x] _ _ Y12.out)
       replace C9 := Lib.hid (cellsAt_setRow (cs := #[.slice (some ⟨g9, 0, none⟩) (p.n + 1) k9, .int .i64 q.k, .string q.x]) C9.out N9.out)
       refine hK.out _ _ hS (fun _ => ?_)
       clear hK K
       try simp only [Act.put, List.setIfInBounds_toArray, List.set_cons_zero, List.set_cons_succ]
       refine wpAnyH_done (by kernel_rfl) (NoPanic.normal ?_) _
     case' way154 =>
      go_simp
      refine hK.out _ _ (hS.alloc hS.size _) (fun _ => ?_)
      clear hK K
      refine wpAnyH_madeK hS hS.size ?_
      have hS0 := hS
      clear hS
      rintro r12 hw hS
      have Y12 := Lib.hid (made_at hw)
      have G12 := Lib.hid hS0.size
      (try (have D12 := Lib.hid (ownNe_size H3.out)))
      (try (have N9 := Lib.hid (Nat.ne_of_lt L9.out)))
      (try (replace H3 := Lib.hid (show World.ownsRow r12 wD.heap.size 9 1 u3 p.n (txV p.l) from by rw [hw]; exact H3.out.alloc _)))
      (try (replace H8 := Lib.hid (H8.out.below (show Below _ _ r12 from by rw [hw]; exact below_new _ _) rfl)))
      (try (replace C9 := Lib.hid (C9.out.below (show Below _ _ r12 from by rw [hw]; exact below_new _ _) rfl)))
      clear hw hS0
      try simp only [Act.put, List.setIfInBounds_toArray, List.set_cons_zero, List.set_cons_succ]
      refine wpAnyH_ready (rs := [5]) (by kernel_rfl) (by simp) (AllReadyH.cons (o := ⟨some 131, _, _, _, _, _⟩) rfl (fun K hK => ?_) AllReadyH.nil)
      go_simp
      refine hK.out _ _ (hS.alloc hS.size _) (fun _ => ?_)
      clear hK K
      refine wpAnyH_madeK hS hS.size ?_
      have hS0 := hS
      clear hS
      rintro r8 hw hS
      (try (replace H3 := Lib.hid (show World.ownsRow r8 wD.heap.size 9 1 u3 p.n (txV p.l) from by rw [hw]; exact H3.out.alloc _)))
      have H8 := Lib.hid (cellsAt_made (vs := [.string q.x]) hw)
      (try (replace Y12 := Lib.hid (boxStays (w' := r8) Y12.out (by rw [hw]; exact below_new _ _))))
      clear hw hS0
      try simp only [Act.put, List.setIfInBounds_toArray, List.set_cons_zero, List.set_cons_succ]
      refine wpAnyH_ready (rs := [6]) (by kernel_rfl) (by simp) (AllReadyH.cons (o := ⟨some 132, _, _, _, _, _⟩) rfl (fun K hK => ?_) AllReadyH.nil)
      refine step_app rfl _ _ _ _ rfl wD.heap.size 9 _ 1 16 ET.out u3 p.n (txV p.l) rfl H3.out _ 1 [.string q.x] rfl (H8.out.srcN rfl (txV_one [q.x]) Tryd.underlying22 1 (by decide)) (by unfold maxLen; omega) (by omega) hS.size ?_
      intro u9 r9 hown hgr hb hor
      refine hK.out _ _ (hS.trans hb) (fun _ => ?_)
      clear hK K
      replace hS := hS.trans hb
      have H9 := hown
      rw [← txV_snoc] at H9
      (try (have E9 := Lib.hid (ownNe_or hor D12.out Y12.out)))
      obtain ⟨g9, k9, rfl, hg9, hl9, _, _⟩ := own_form H9 (by omega)
      have C9 : Hid (CellsAt r9 (some ⟨g9, 0, none⟩) (txV (p.l ++ [q.x]))) := Lib.hid (CellsAt.ownN H9)
      have L9 := Lib.hid hl9
      (try (have N9 := Lib.hid (ne_of_own E9.out)))
      clear H9 hg9 hl9 H3 H8
      (try (replace Y12 := Lib.hid (grow_keep hgr Y12.out D12.out)))
      clear hb hgr hor
      try simp only [Act.put, List.setIfInBounds_toArray, List.set_cons_zero, List.set_cons_succ]
      refine wpAnyH_take (i := 11) (oi := ⟨some 137, _, _, _, _, _⟩) (v := ?_) rfl (by kernel_rfl) (by kernel_rfl) (by kernel_rfl) (fun _ _ _ h => h) (Or.inl ⟨by rfl, ?_⟩) hS ?_
      rotate_left 1
      · intro w' hB; have ya := boxStays EA.out hB; have yb := boxStays EB.out hB; have ca0 := cell_of_row _ g3 0 _ _ _ ya; have cb1 := cell_of_row _ g4 1 _ _ _ yb; have cb2 := cell_of_row _ g4 2 _ _ _ yb; clear ya yb; (go_simp <;> with_reducible rfl)
      try simp only [Act.put, List.setIfInBounds_toArray, List.set_cons_zero, List.set_cons_succ]
      refine wpAnyH_ready (rs := [13]) (by kernel_rfl) (by simp) (AllReadyH.cons (o := ⟨none, _, _, _, _, _⟩) rfl (fun K hK => ?_) AllReadyH.nil)
      refine step_store_row rfl 38 (.tmp 12) (.tmp 137) rfl _ #[.slice (some ⟨g9, 0, none⟩) (p.n + 1) k9, .int .i64 q.k, .string q.x] rfl rfl 38 _ Y12.out (by kernel_rfl) rfl (by simp [Value.oneCell']) ?_
      replace hS := below_setRow hS G12.out #[.slice (some ⟨g9, 0, none⟩) (p.n + 1) k9, .int .i64 q.k, .string q.x]
      have Z12 := Lib.hid (setRow_heap _ _ _ #[.slice (some ⟨g9, 0, none⟩) (p.n + 1) k9, .int .i64 q.k, .string q.x] _ _ Y12.out)
      replace C9 := Lib.hid (cellsAt_setRow (cs := #[.slice (some ⟨g9, 0, none⟩) (p.n + 1) k9, .int .i64 q.k, .string q.x]) C9.out N9.out)
      refine hK.out _ _ hS (fun _ => ?_)
      clear hK K
      try simp only [Act.put, List.setIfInBounds_toArray, List.set_cons_zero, List.set_cons_succ]
      refine wpAnyH_done (by kernel_rfl) (NoPanic.normal ?_) _
    case' way152 =>
     go_simp
     refine hK.out _ _ (hS.alloc hS.size _) (fun _ => ?_)
     clear hK K
     refine wpAnyH_madeK hS hS.size ?_
     have hS0 := hS
     clear hS
     rintro r8 hw hS
     (try (replace H3 := Lib.hid (show World.ownsRow r8 wD.heap.size 9 1 u3 p.n (txV p.l) from by rw [hw]; exact H3.out.alloc _)))
     have H8 := Lib.hid (cellsAt_made (vs := [.string q.x]) hw)
     (try (replace Y12 := Lib.hid (boxStays (w' := r8) Y12.out (by rw [hw]; exact below_new _ _))))
     clear hw hS0
     try simp only [Act.put, List.setIfInBounds_toArray, List.set_cons_zero, List.set_cons_succ]
     refine wpAnyH_ready (rs := [2, 12]) (by kernel_rfl) (by simp) (AllReadyH.cons (o := ⟨some 128, _, _, _, _, _⟩) rfl (fun K hK => ?way159) (AllReadyH.cons (o := ⟨some 12, _, _, _, _, _⟩) rfl (fun K hK => ?way158) AllReadyH.nil))
     case' way159 =>
      refine step_app rfl _ _ _ _ rfl wD.heap.size 9 _ 1 16 ET.out (.slice none 0 0) 0 [] rfl ⟨rfl, Or.inl ⟨rfl, rfl⟩⟩ _ p.n (txV p.l) rfl ((CPe.out.below hS rfl).srcN HLT1.out (txV_one _) Tryd.underlying22 p.c (by decide)) (by unfold maxLen; omega) (by omega) hS.size ?_
      intro u3 r3 hown hgr hb hor
      refine hK.out _ _ (hS.trans hb) (fun _ => ?_)
      clear hK K
      replace hS := hS.trans hb
      have H3 : Hid (World.ownsRow _ wD.heap.size 9 1 u3 p.n (txV p.l)) := Lib.hid (by simpa using hown)
      (try (replace H8 := Lib.hid (H8.out.below (grown_none hgr) rfl)))
      (try (have D12 := Lib.hid (ownNe_or hor (by simp [Value.ownBlock]) Y12.out)))
      (try (replace Y12 := Lib.hid (boxStays Y12.out (grown_none hgr))))
      clear hb hgr hor
      try simp only [Act.put, List.setIfInBounds_toArray, List.set_cons_zero, List.set_cons_succ]
      refine wpAnyH_ready (rs := [6, 12]) (by kernel_rfl) (by simp) (AllReadyH.cons (o := ⟨some 132, _, _, _, _, _⟩) rfl (fun K hK => ?way161) (AllReadyH.cons (o := ⟨some 12, _, _, _, _, _⟩) rfl (fun K hK => ?way160) AllReadyH.nil))
      case' way161 =>
       refine step_app rfl _ _ _ _ rfl wD.heap.size 9 _ 1 16 ET.out u3 p.n (txV p.l) rfl H3.out _ 1 [.string q.x] rfl (H8.out.srcN rfl (txV_one [q.x]) Tryd.underlying22 1 (by decide)) (by unfold maxLen; omega) (by omega) hS.size ?_
       intro u9 r9 hown hgr hb hor
       refine hK.out _ _ (hS.trans hb) (fun _ => ?_)
       clear hK K
       replace hS := hS.trans hb
       have H9 := hown
       rw [← txV_snoc] at H9
       (try (have E9 := Lib.hid (ownNe_or hor D12.out Y12.out)))
       obtain ⟨g9, k9, rfl, hg9, hl9, _, _⟩ := own_form H9 (by omega)
       have C9 : Hid (CellsAt r9 (some ⟨g9, 0, none⟩) (txV (p.l ++ [q.x]))) := Lib.hid (CellsAt.ownN H9)
       have L9 := Lib.hid hl9
       (try (have N9 := Lib.hid (ne_of_own E9.out)))
       clear H9 hg9 hl9 H3 H8
       (try (replace Y12 := Lib.hid (grow_keep hgr Y12.out D12.out)))
       clear hb hgr hor
       try simp only [Act.put, List.setIfInBounds_toArray, List.set_cons_zero, List.set_cons_succ]
       refine wpAnyH_take (i := 11) (oi := ⟨some 137, _, _, _, _, _⟩) (v := ?_) rfl (by kernel_rfl) (by kernel_rfl) (by kernel_rfl) (fun _ _ _ h => h) (Or.inl ⟨by rfl, ?_⟩) hS ?_
       rotate_left 1
       · intro w' hB; have ya := boxStays EA.out hB; have yb := boxStays EB.out hB; have ca0 := cell_of_row _ g3 0 _ _ _ ya; have cb1 := cell_of_row _ g4 1 _ _ _ yb; have cb2 := cell_of_row _ g4 2 _ _ _ yb; clear ya yb; (go_simp <;> with_reducible rfl)
       try simp only [Act.put, List.setIfInBounds_toArray, List.set_cons_zero, List.set_cons_succ]
       refine wpAnyH_ready (rs := [12]) (by kernel_rfl) (by simp) (AllReadyH.cons (o := ⟨some 12, _, _, _, _, _⟩) rfl (fun K hK => ?_) AllReadyH.nil)
       go_simp
       refine hK.out _ _ (hS.alloc hS.size _) (fun _ => ?_)
       clear hK K
       refine wpAnyH_madeK hS hS.size ?_
       have hS0 := hS
       clear hS
       rintro r12 hw hS
       have Y12 := Lib.hid (made_at hw)
       have G12 := Lib.hid hS0.size
       (try (have D12 := Lib.hid (ownNe_size H3.out)))
       (try (have N9 := Lib.hid (Nat.ne_of_lt L9.out)))
       (try (replace H3 := Lib.hid (show World.ownsRow r12 wD.heap.size 9 1 u3 p.n (txV p.l) from by rw [hw]; exact H3.out.alloc _)))
       (try (replace H8 := Lib.hid (H8.out.below (show Below _ _ r12 from by rw [hw]; exact below_new _ _) rfl)))
       (try (replace C9 := Lib.hid (C9.out.below (show Below _ _ r12 from by rw [hw]; exact below_new _ _) rfl)))
       clear hw hS0
       try simp only [Act.put, List.setIfInBounds_toArray, List.set_cons_zero, List.set_cons_succ]
       refine wpAnyH_ready (rs := [13]) (by kernel_rfl) (by simp) (AllReadyH.cons (o := ⟨none, _, _, _, _, _⟩) rfl (fun K hK => ?_) AllReadyH.nil)
       refine step_store_row rfl 38 (.tmp 12) (.tmp 137) rfl _ #[.slice (some ⟨g9, 0, none⟩) (p.n + 1) k9, .int .i64 q.k, .string q.x] rfl rfl 38 _ Y12.out (by kernel_rfl) rfl (by simp [Value.oneCell']) ?_
       replace hS := below_setRow hS G12.out #[.slice (some ⟨g9, 0, none⟩) (p.n + 1) k9, .int .i64 q.k, .string q.x]
       have Z12 := Lib.hid (setRow_heap _ _ _ #[.slice (some ⟨g9, 0, none⟩) (p.n + 1) k9, .int .i64 q.k, .string q.x] _ _ Y12.out)
       replace C9 := Lib.hid (cellsAt_setRow (cs := #[.slice (some ⟨g9, 0, none⟩) (p.n + 1) k9, .int .i64 q.k, .string q.x]) C9.out N9.out)
       refine hK.out _ _ hS (fun _ => ?_)
       clear hK K
       try simp only [Act.put, List.setIfInBounds_toArray, List.set_cons_zero, List.set_cons_succ]
       refine wpAnyH_done (by kernel_rfl) (NoPanic.normal ?_) _
      case' way160 =>
       go_simp
       refine hK.out _ _ (hS.alloc hS.size _) (fun _ => ?_)
       clear hK K
       refine wpAnyH_madeK hS hS.size ?_
       have hS0 := hS
       clear hS
       rintro r12 hw hS
       have Y12 := Lib.hid (made_at hw)
       have G12 := Lib.hid hS0.size
       (try (have D12 := Lib.hid (ownNe_size H3.out)))
       (try (have N9 := Lib.hid (Nat.ne_of_lt L9.out)))
       (try (replace H3 := Lib.hid (show World.ownsRow r12 wD.heap.size 9 1 u3 p.n (txV p.l) from by rw [hw]; exact H3.out.alloc _)))
       (try (replace H8 := Lib.hid (H8.out.below (show Below _ _ r12 from by rw [hw]; exact below_new _ _) rfl)))
       (try (replace C9 := Lib.hid (C9.out.below (show Below _ _ r12 from by rw [hw]; exact below_new _ _) rfl)))
       clear hw hS0
       try simp only [Act.put, List.setIfInBounds_toArray, List.set_cons_zero, List.set_cons_succ]
       refine wpAnyH_ready (rs := [6]) (by kernel_rfl) (by simp) (AllReadyH.cons (o := ⟨some 132, _, _, _, _, _⟩) rfl (fun K hK => ?_) AllReadyH.nil)
       refine step_app rfl _ _ _ _ rfl wD.heap.size 9 _ 1 16 ET.out u3 p.n (txV p.l) rfl H3.out _ 1 [.string q.x] rfl (H8.out.srcN rfl (txV_one [q.x]) Tryd.underlying22 1 (by decide)) (by unfold maxLen; omega) (by omega) hS.size ?_
       intro u9 r9 hown hgr hb hor
       refine hK.out _ _ (hS.trans hb) (fun _ => ?_)
       clear hK K
       replace hS := hS.trans hb
       have H9 := hown
       rw [← txV_snoc] at H9
       (try (have E9 := Lib.hid (ownNe_or hor D12.out Y12.out)))
       obtain ⟨g9, k9, rfl, hg9, hl9, _, _⟩ := own_form H9 (by omega)
       have C9 : Hid (CellsAt r9 (some ⟨g9, 0, none⟩) (txV (p.l ++ [q.x]))) := Lib.hid (CellsAt.ownN H9)
       have L9 := Lib.hid hl9
       (try (have N9 := Lib.hid (ne_of_own E9.out)))
       clear H9 hg9 hl9 H3 H8
       (try (replace Y12 := Lib.hid (grow_keep hgr Y12.out D12.out)))
       clear hb hgr hor
       try simp only [Act.put, List.setIfInBounds_toArray, List.set_cons_zero, List.set_cons_succ]
       refine wpAnyH_take (i := 11) (oi := ⟨some 137, _, _, _, _, _⟩) (v := ?_) rfl (by kernel_rfl) (by kernel_rfl) (by kernel_rfl) (fun _ _ _ h => h) (Or.inl ⟨by rfl, ?_⟩) hS ?_
       rotate_left 1
       · intro w' hB; have ya := boxStays EA.out hB; have yb := boxStays EB.out hB; have ca0 := cell_of_row _ g3 0 _ _ _ ya; have cb1 := cell_of_row _ g4 1 _ _ _ yb; have cb2 := cell_of_row _ g4 2 _ _ _ yb; clear ya yb; (go_simp <;> with_reducible rfl)
       try simp only [Act.put, List.setIfInBounds_toArray, List.set_cons_zero, List.set_cons_succ]
       refine wpAnyH_ready (rs := [13]) (by kernel_rfl) (by simp) (AllReadyH.cons (o := ⟨none, _, _, _, _, _⟩) rfl (fun K hK => ?_) AllReadyH.nil)
       refine step_store_row rfl 38 (.tmp 12) (.tmp 137) rfl _ #[.slice (some ⟨g9, 0, none⟩) (p.n + 1) k9, .int .i64 q.k, .string q.x] rfl rfl 38 _ Y12.out (by kernel_rfl) rfl (by simp [Value.oneCell']) ?_
       replace hS := below_setRow hS G12.out #[.slice (some ⟨g9, 0, none⟩) (p.n + 1) k9, .int .i64 q.k, .string q.x]
       have Z12 := Lib.hid (setRow_heap _ _ _ #[.slice (some ⟨g9, 0, none⟩) (p.n + 1) k9, .int .i64 q.k, .string q.x] _ _ Y12.out)
       replace C9 := Lib.hid (cellsAt_setRow (cs := #[.slice (some ⟨g9, 0, none⟩) (p.n + 1) k9, .int .i64 q.k, .string q.x]) C9.out N9.out)
       refine hK.out _ _ hS (fun _ => ?_)
       clear hK K
       try simp only [Act.put, List.setIfInBounds_toArray, List.set_cons_zero, List.set_cons_succ]
       refine wpAnyH_done (by kernel_rfl) (NoPanic.normal ?_) _
     case' way158 =>
      go_simp
      refine hK.out _ _ (hS.alloc hS.size _) (fun _ => ?_)
      clear hK K
      refine wpAnyH_madeK hS hS.size ?_
      have hS0 := hS
      clear hS
      rintro r12 hw hS
      have Y12 := Lib.hid (made_at hw)
      have G12 := Lib.hid hS0.size
      (try (have D12 := Lib.hid (ownNe_size H3.out)))
      (try (have N9 := Lib.hid (Nat.ne_of_lt L9.out)))
      (try (replace H3 := Lib.hid (show World.ownsRow r12 wD.heap.size 9 1 u3 p.n (txV p.l) from by rw [hw]; exact H3.out.alloc _)))
      (try (replace H8 := Lib.hid (H8.out.below (show Below _ _ r12 from by rw [hw]; exact below_new _ _) rfl)))
      (try (replace C9 := Lib.hid (C9.out.below (show Below _ _ r12 from by rw [hw]; exact below_new _ _) rfl)))
      clear hw hS0
      try simp only [Act.put, List.setIfInBounds_toArray, List.set_cons_zero, List.set_cons_succ]
      refine wpAnyH_ready (rs := [2]) (by kernel_rfl) (by simp) (AllReadyH.cons (o := ⟨some 128, _, _, _, _, _⟩) rfl (fun K hK => ?_) AllReadyH.nil)
      refine step_app rfl _ _ _ _ rfl wD.heap.size 9 _ 1 16 ET.out (.slice none 0 0) 0 [] rfl ⟨rfl, Or.inl ⟨rfl, rfl⟩⟩ _ p.n (txV p.l) rfl ((CPe.out.below hS rfl).srcN HLT1.out (txV_one _) Tryd.underlying22 p.c (by decide)) (by unfold maxLen; omega) (by omega) hS.size ?_
      intro u3 r3 hown hgr hb hor
      refine hK.out _ _ (hS.trans hb) (fun _ => ?_)
      clear hK K
      replace hS := hS.trans hb
      have H3 : Hid (World.ownsRow _ wD.heap.size 9 1 u3 p.n (txV p.l)) := Lib.hid (by simpa using hown)
      (try (replace H8 := Lib.hid (H8.out.below (grown_none hgr) rfl)))
      (try (have D12 := Lib.hid (ownNe_or hor (by simp [Value.ownBlock]) Y12.out)))
      (try (replace Y12 := Lib.hid (boxStays Y12.out (grown_none hgr))))
      clear hb hgr hor
      try simp only [Act.put, List.setIfInBounds_toArray, List.set_cons_zero, List.set_cons_succ]
      refine wpAnyH_ready (rs := [6]) (by kernel_rfl) (by simp) (AllReadyH.cons (o := ⟨some 132, _, _, _, _, _⟩) rfl (fun K hK => ?_) AllReadyH.nil)
      refine step_app rfl _ _ _ _ rfl wD.heap.size 9 _ 1 16 ET.out u3 p.n (txV p.l) rfl H3.out _ 1 [.string q.x] rfl (H8.out.srcN rfl (txV_one [q.x]) Tryd.underlying22 1 (by decide)) (by unfold maxLen; omega) (by omega) hS.size ?_
      intro u9 r9 hown hgr hb hor
      refine hK.out _ _ (hS.trans hb) (fun _ => ?_)
      clear hK K
      replace hS := hS.trans hb
      have H9 := hown
      rw [← txV_snoc] at H9
      (try (have E9 := Lib.hid (ownNe_or hor D12.out Y12.out)))
      obtain ⟨g9, k9, rfl, hg9, hl9, _, _⟩ := own_form H9 (by omega)
      have C9 : Hid (CellsAt r9 (some ⟨g9, 0, none⟩) (txV (p.l ++ [q.x]))) := Lib.hid (CellsAt.ownN H9)
      have L9 := Lib.hid hl9
      (try (have N9 := Lib.hid (ne_of_own E9.out)))
      clear H9 hg9 hl9 H3 H8
      (try (replace Y12 := Lib.hid (grow_keep hgr Y12.out D12.out)))
      clear hb hgr hor
      try simp only [Act.put, List.setIfInBounds_toArray, List.set_cons_zero, List.set_cons_succ]
      refine wpAnyH_take (i := 11) (oi := ⟨some 137, _, _, _, _, _⟩) (v := ?_) rfl (by kernel_rfl) (by kernel_rfl) (by kernel_rfl) (fun _ _ _ h => h) (Or.inl ⟨by rfl, ?_⟩) hS ?_
      rotate_left 1
      · intro w' hB; have ya := boxStays EA.out hB; have yb := boxStays EB.out hB; have ca0 := cell_of_row _ g3 0 _ _ _ ya; have cb1 := cell_of_row _ g4 1 _ _ _ yb; have cb2 := cell_of_row _ g4 2 _ _ _ yb; clear ya yb; (go_simp <;> with_reducible rfl)
      try simp only [Act.put, List.setIfInBounds_toArray, List.set_cons_zero, List.set_cons_succ]
      refine wpAnyH_ready (rs := [13]) (by kernel_rfl) (by simp) (AllReadyH.cons (o := ⟨none, _, _, _, _, _⟩) rfl (fun K hK => ?_) AllReadyH.nil)
      refine step_store_row rfl 38 (.tmp 12) (.tmp 137) rfl _ #[.slice (some ⟨g9, 0, none⟩) (p.n + 1) k9, .int .i64 q.k, .string q.x] rfl rfl 38 _ Y12.out (by kernel_rfl) rfl (by simp [Value.oneCell']) ?_
      replace hS := below_setRow hS G12.out #[.slice (some ⟨g9, 0, none⟩) (p.n + 1) k9, .int .i64 q.k, .string q.x]
      have Z12 := Lib.hid (setRow_heap _ _ _ #[.slice (some ⟨g9, 0, none⟩) (p.n + 1) k9, .int .i64 q.k, .string q.x] _ _ Y12.out)
      replace C9 := Lib.hid (cellsAt_setRow (cs := #[.slice (some ⟨g9, 0, none⟩) (p.n + 1) k9, .int .i64 q.k, .string q.x]) C9.out N9.out)
      refine hK.out _ _ hS (fun _ => ?_)
      clear hK K
      try simp only [Act.put, List.setIfInBounds_toArray, List.set_cons_zero, List.set_cons_succ]
      refine wpAnyH_done (by kernel_rfl) (NoPanic.normal ?_) _
    case' way151 =>
     go_simp
     refine hK.out _ _ (hS.alloc hS.size _) (fun _ => ?_)
     clear hK K
     refine wpAnyH_madeK hS hS.size ?_
     have hS0 := hS
     clear hS
     rintro r12 hw hS
     have Y12 := Lib.hid (made_at hw)
     have G12 := Lib.hid hS0.size
     (try (have D12 := Lib.hid (ownNe_size H3.out)))
     (try (have N9 := Lib.hid (Nat.ne_of_lt L9.out)))
     (try (replace H3 := Lib.hid (show World.ownsRow r12 wD.heap.size 9 1 u3 p.n (txV p.l) from by rw [hw]; exact H3.out.alloc _)))
     (try (replace H8 := Lib.hid (H8.out.below (show Below _ _ r12 from by rw [hw]; exact below_new _ _) rfl)))
     (try (replace C9 := Lib.hid (C9.out.below (show Below _ _ r12 from by rw [hw]; exact below_new _ _) rfl)))
     clear hw hS0
     try simp only [Act.put, List.setIfInBounds_toArray, List.set_cons_zero, List.set_cons_succ]
     refine wpAnyH_ready (rs := [2, 5]) (by kernel_rfl) (by simp) (AllReadyH.cons (o := ⟨some 128, _, _, _, _, _⟩) rfl (fun K hK => ?way163) (AllReadyH.cons (o := ⟨some 131, _, _, _, _, _⟩) rfl (fun K hK => ?way162) AllReadyH.nil))
     case' way163 =>
      refine step_app rfl _ _ _ _ rfl wD.heap.size 9 _ 1 16 ET.out (.slice none 0 0) 0 [] rfl ⟨rfl, Or.inl ⟨rfl, rfl⟩⟩ _ p.n (txV p.l) rfl ((CPe.out.below hS rfl).srcN HLT1.out (txV_one _) Tryd.underlying22 p.c (by decide)) (by unfold maxLen; omega) (by omega) hS.size ?_
      intro u3 r3 hown hgr hb hor
      refine hK.out _ _ (hS.trans hb) (fun _ => ?_)
      clear hK K
      replace hS := hS.trans hb
      have H3 : Hid (World.ownsRow _ wD.heap.size 9 1 u3 p.n (txV p.l)) := Lib.hid (by simpa using hown)
      (try (replace H8 := Lib.hid (H8.out.below (grown_none hgr) rfl)))
      (try (have D12 := Lib.hid (ownNe_or hor (by simp [Value.ownBlock]) Y12.out)))
      (try (replace Y12 := Lib.hid (boxStays Y12.out (grown_none hgr))))
      clear hb hgr hor
      try simp only [Act.put, List.setIfInBounds_toArray, List.set_cons_zero, List.set_cons_succ]
      refine wpAnyH_ready (rs := [5]) (by kernel_rfl) (by simp) (AllReadyH.cons (o := ⟨some 131, _, _, _, _, _⟩) rfl (fun K hK => ?_) AllReadyH.nil)
      go_simp
      refine hK.out _ _ (hS.alloc hS.size _) (fun _ => ?_)
      clear hK K
      refine wpAnyH_madeK hS hS.size ?_
      have hS0 := hS
      clear hS
      rintro r8 hw hS
      (try (replace H3 := Lib.hid (show World.ownsRow r8 wD.heap.size 9 1 u3 p.n (txV p.l) from by rw [hw]; exact H3.out.alloc _)))
      have H8 := Lib.hid (cellsAt_made (vs := [.string q.x]) hw)
      (try (replace Y12 := Lib.hid (boxStays (w' := r8) Y12.out (by rw [hw]; exact below_new _ _))))
      clear hw hS0
      try simp only [Act.put, List.setIfInBounds_toArray, List.set_cons_zero, List.set_cons_succ]
      refine wpAnyH_ready (rs := [6]) (by kernel_rfl) (by simp) (AllReadyH.cons (o := ⟨some 132, _, _, _, _, _⟩) rfl (fun K hK => ?_) AllReadyH.nil)
      refine step_app rfl _ _ _ _ rfl wD.heap.size 9 _ 1 16 ET.out u3 p.n (txV p.l) rfl H3.out _ 1 [.string q.x] rfl (H8.out.srcN rfl (txV_one [q.x]) Tryd.underlying22 1 (by decide)) (by unfold maxLen; omega) (by omega) hS.size ?_
      intro u9 r9 hown hgr hb hor
      refine hK.out _ _ (hS.trans hb) (fun _ => ?_)
      clear hK K
      replace hS := hS.trans hb
      have H9 := hown
      rw [← txV_snoc] at H9
      (try (have E9 := Lib.hid (ownNe_or hor D12.out Y12.out)))
      obtain ⟨g9, k9, rfl, hg9, hl9, _, _⟩ := own_form H9 (by omega)
      have C9 : Hid (CellsAt r9 (some ⟨g9, 0, none⟩) (txV (p.l ++ [q.x]))) := Lib.hid (CellsAt.ownN H9)
      have L9 := Lib.hid hl9
      (try (have N9 := Lib.hid (ne_of_own E9.out)))
      clear H9 hg9 hl9 H3 H8
      (try (replace Y12 := Lib.hid (grow_keep hgr Y12.out D12.out)))
      clear hb hgr hor
      try simp only [Act.put, List.setIfInBounds_toArray, List.set_cons_zero, List.set_cons_succ]
      refine wpAnyH_take (i := 11) (oi := ⟨some 137, _, _, _, _, _⟩) (v := ?_) rfl (by kernel_rfl) (by kernel_rfl) (by kernel_rfl) (fun _ _ _ h => h) (Or.inl ⟨by rfl, ?_⟩) hS ?_
      rotate_left 1
      · intro w' hB; have ya := boxStays EA.out hB; have yb := boxStays EB.out hB; have ca0 := cell_of_row _ g3 0 _ _ _ ya; have cb1 := cell_of_row _ g4 1 _ _ _ yb; have cb2 := cell_of_row _ g4 2 _ _ _ yb; clear ya yb; (go_simp <;> with_reducible rfl)
      try simp only [Act.put, List.setIfInBounds_toArray, List.set_cons_zero, List.set_cons_succ]
      refine wpAnyH_ready (rs := [13]) (by kernel_rfl) (by simp) (AllReadyH.cons (o := ⟨none, _, _, _, _, _⟩) rfl (fun K hK => ?_) AllReadyH.nil)
      refine step_store_row rfl 38 (.tmp 12) (.tmp 137) rfl _ #[.slice (some ⟨g9, 0, none⟩) (p.n + 1) k9, .int .i64 q.k, .string q.x] rfl rfl 38 _ Y12.out (by kernel_rfl) rfl (by simp [Value.oneCell']) ?_
      replace hS := below_setRow hS G12.out #[.slice (some ⟨g9, 0, none⟩) (p.n + 1) k9, .int .i64 q.k, .string q.x]
      have Z12 := Lib.hid (setRow_heap _ _ _ #[.slice (some ⟨g9, 0, none⟩) (p.n + 1) k9, .int .i64 q.k, .string q.x] _ _ Y12.out)
      replace C9 := Lib.hid (cellsAt_setRow (cs := #[.slice (some ⟨g9, 0, none⟩) (p.n + 1) k9, .int .i64 q.k, .string q.x]) C9.out N9.out)
      refine hK.out _ _ hS (fun _ => ?_)
      clear hK K
      try simp only [Act.put, List.setIfInBounds_toArray, List.set_cons_zero, List.set_cons_succ]
      refine wpAnyH_done (by kernel_rfl) (NoPanic.normal ?_) _
     case' way162 =>
      go_simp
      refine hK.out _ _ (hS.alloc hS.size _) (fun _ => ?_)
      clear hK K
      refine wpAnyH_madeK hS hS.size ?_
      have hS0 := hS
      clear hS
      rintro r8 hw hS
      (try (replace H3 := Lib.hid (show World.ownsRow r8 wD.heap.size 9 1 u3 p.n (txV p.l) from by rw [hw]; exact H3.out.alloc _)))
      have H8 := Lib.hid (cellsAt_made (vs := [.string q.x]) hw)
      (try (replace Y12 := Lib.hid (boxStays (w' := r8) Y12.out (by rw [hw]; exact below_new _ _))))
      clear hw hS0
      try simp only [Act.put, List.setIfInBounds_toArray, List.set_cons_zero, List.set_cons_succ]
      refine wpAnyH_ready (rs := [2]) (by kernel_rfl) (by simp) (AllReadyH.cons (o := ⟨some 128, _, _, _, _, _⟩) rfl (fun K hK => ?_) AllReadyH.nil)
      refine step_app rfl _ _ _ _ rfl wD.heap.size 9 _ 1 16 ET.out (.slice none 0 0) 0 [] rfl ⟨rfl, Or.inl ⟨rfl, rfl⟩⟩ _ p.n (txV p.l) rfl ((CPe.out.below hS rfl).srcN HLT1.out (txV_one _) Tryd.underlying22 p.c (by decide)) (by unfold maxLen; omega) (by omega) hS.size ?_
      intro u3 r3 hown hgr hb hor
      refine hK.out _ _ (hS.trans hb) (fun _ => ?_)
      clear hK K
      replace hS := hS.trans hb
      have H3 : Hid (World.ownsRow _ wD.heap.size 9 1 u3 p.n (txV p.l)) := Lib.hid (by simpa using hown)
      (try (replace H8 := Lib.hid (H8.out.below (grown_none hgr) rfl)))
      (try (have D12 := Lib.hid (ownNe_or hor (by simp [Value.ownBlock]) Y12.out)))
      (try (replace Y12 := Lib.hid (boxStays Y12.out (grown_none hgr))))
      clear hb hgr hor
      try simp only [Act.put, List.setIfInBounds_toArray, List.set_cons_zero, List.set_cons_succ]
      refine wpAnyH_ready (rs := [6]) (by kernel_rfl) (by simp) (AllReadyH.cons (o := ⟨some 132, _, _, _, _, _⟩) rfl (fun K hK => ?_) AllReadyH.nil)
      refine step_app rfl _ _ _ _ rfl wD.heap.size 9 _ 1 16 ET.out u3 p.n (txV p.l) rfl H3.out _ 1 [.string q.x] rfl (H8.out.srcN rfl (txV_one [q.x]) Tryd.underlying22 1 (by decide)) (by unfold maxLen; omega) (by omega) hS.size ?_
      intro u9 r9 hown hgr hb hor
      refine hK.out _ _ (hS.trans hb) (fun _ => ?_)
      clear hK K
      replace hS := hS.trans hb
      have H9 := hown
      rw [← txV_snoc] at H9
      (try (have E9 := Lib.hid (ownNe_or hor D12.out Y12.out)))
      obtain ⟨g9, k9, rfl, hg9, hl9, _, _⟩ := own_form H9 (by omega)
      have C9 : Hid (CellsAt r9 (some ⟨g9, 0, none⟩) (txV (p.l ++ [q.x]))) := Lib.hid (CellsAt.ownN H9)
      have L9 := Lib.hid hl9
      (try (have N9 := Lib.hid (ne_of_own E9.out)))
      clear H9 hg9 hl9 H3 H8
      (try (replace Y12 := Lib.hid (grow_keep hgr Y12.out D12.out)))
      clear hb hgr hor
      try simp only [Act.put, List.setIfInBounds_toArray, List.set_cons_zero, List.set_cons_succ]
      refine wpAnyH_take (i := 11) (oi := ⟨some 137, _, _, _, _, _⟩) (v := ?_) rfl (by kernel_rfl) (by kernel_rfl) (by kernel_rfl) (fun _ _ _ h => h) (Or.inl ⟨by rfl, ?_⟩) hS ?_
      rotate_left 1
      · intro w' hB; have ya := boxStays EA.out hB; have yb := boxStays EB.out hB; have ca0 := cell_of_row _ g3 0 _ _ _ ya; have cb1 := cell_of_row _ g4 1 _ _ _ yb; have cb2 := cell_of_row _ g4 2 _ _ _ yb; clear ya yb; (go_simp <;> with_reducible rfl)
      try simp only [Act.put, List.setIfInBounds_toArray, List.set_cons_zero, List.set_cons_succ]
      refine wpAnyH_ready (rs := [13]) (by kernel_rfl) (by simp) (AllReadyH.cons (o := ⟨none, _, _, _, _, _⟩) rfl (fun K hK => ?_) AllReadyH.nil)
      refine step_store_row rfl 38 (.tmp 12) (.tmp 137) rfl _ #[.slice (some ⟨g9, 0, none⟩) (p.n + 1) k9, .int .i64 q.k, .string q.x] rfl rfl 38 _ Y12.out (by kernel_rfl) rfl (by simp [Value.oneCell']) ?_
      replace hS := below_setRow hS G12.out #[.slice (some ⟨g9, 0, none⟩) (p.n + 1) k9, .int .i64 q.k, .string q.x]
      have Z12 := Lib.hid (setRow_heap _ _ _ #[.slice (some ⟨g9, 0, none⟩) (p.n + 1) k9, .int .i64 q.k, .string q.x] _ _ Y12.out)
      replace C9 := Lib.hid (cellsAt_setRow (cs := #[.slice (some ⟨g9, 0, none⟩) (p.n + 1) k9, .int .i64 q.k, .string q.x]) C9.out N9.out)
      refine hK.out _ _ hS (fun _ => ?_)
      clear hK K
      try simp only [Act.put, List.setIfInBounds_toArray, List.set_cons_zero, List.set_cons_succ]
      refine wpAnyH_done (by kernel_rfl) (NoPanic.normal ?_) _
    all_goals
     go_wp2_with fail
     go_meet
     exact ⟨_, _, _, rfl, Z12, C9, Lib.hid hS⟩
   case rest =>
    obtain ⟨g12, a12, c12, rfl, Y12, C12, HB12⟩ := hcut
    have HPE : Hid (PlcAt wc p) := Lib.hid (HPD.out.below HB12.out)
    have HI : Hid (PlcAt wc ⟨p.l ++ [q.x], q.k, q.x, a12, p.n + 1, c12⟩) := Lib.hid ⟨C12.out, by rw [List.length_append, ← HP.out.len]; rfl, by show p.n + 1 ≤ _; omega, fun x hx => by
     rcases List.mem_append.1 hx with h | h
     · exact HP.out.sz x h
     · rw [List.mem_singleton.1 h]; exact HQ.out.sx, HQ.out.sx⟩
    have ya := boxStays EA.out HB12.out
    have ca0 := cell_of_row _ g3 0 _ _ _ ya
    have ca1 := cell_of_row _ g3 1 _ _ _ ya
    have ca2 := cell_of_row _ g3 2 _ _ _ ya
    have cc0 := cell_of_row _ g12 0 _ _ _ Y12.out
    have cc1 := cell_of_row _ g12 1 _ _ _ Y12.out
    have cc2 := cell_of_row _ g12 2 _ _ _ Y12.out
    have BE := Lib.hid (BWD.out.trans (HB12.out.mono BWD.out.size))
    clear ya HB12 hn1
    go_wp2_with fail
    refine (key_CmpPlace p ⟨p.l ++ [q.x], q.k, q.x, a12, p.n + 1, c12⟩ _ HPE.out HI.out).mono ?_
    rintro e wE ⟨rfl, hb⟩
    rw [pl_more (p := p) (q := ⟨p.l ++ [q.x], q.k, q.x, a12, p.n + 1, c12⟩) (k := q.x) rfl]
    replace BE := Lib.hid (BE.out.trans (hb.mono BE.out.size))
    clear hb ca0 ca1 ca2 cc0 cc1 cc2
    go_wp2_with fail
    go_ret
    exact ⟨rfl, BE.out⟩
end Go.Proofs.YtkjchoamdibolaaDoor
