
/- Walks of law 08: maps. -/
import Derived.Test.YtdodkhhlbjamhaaWlC
namespace Go.Proofs.Ytdodkhhlbjamhaa
open Go.RowKit Pm
/-- What holds in a call of maps. -/
structure MpF (x : Thr) (w : World) (z : Nat) (s a b : Tr Int) (W : World) : Prop where
  r0 : W.heap[z]? = some (.cells x.vs 25 (0, 0))
  r1 : W.heap[z + 1]? = some (.cells #[.pointer none] 29 (0, 0))
  r2 : W.heap[z + 1 + 1]? = some (.cells #[.pointer none] 29 (0, 0))
  r3 : W.heap[z + 1 + 1 + 1]? = some (.cells #[.pointer none] 29 (0, 0))
  r4 : W.heap[z + 1 + 1 + 1 + 1]? = some (.cells #[.pointer (pa s)] 29 (0, 0))
  r5 : W.heap[z + 1 + 1 + 1 + 1 + 1]? = some (.cells #[.pointer (pa a)] 29 (0, 0))
  r6 : W.heap[z + 1 + 1 + 1 + 1 + 1 + 1]? = some (.cells #[.pointer (pa b)] 29 (0, 0))
  ts : AtI W s
  ta : AtI W a
  tb : AtI W b
  gs : Gd s
  ga : Gd a
  gb : Gd b
  xs : x.At W
  bl : Below z w W
theorem CellsAt.setNew {w W : World} {a : Option Addr} {vs : List Value} {X i : Nat} {v : Value} (h : CellsAt w a vs) (hb : Below w.heap.size w W) (hX : w.heap.size ≤ X) : CellsAt (W.setCell ⟨X, i, none⟩ v) a vs :=
  h.below ((hb.setCell (p := ⟨X, i, none⟩) (by simpa using hX) v)) rfl
theorem MpF.below {x : Thr} {w : World} {z : Nat} {s a b : Tr Int} {W W' : World} (h : MpF x w z s a b W) (hb : Below W.heap.size W W') : MpF x w z s a b W' :=
  have hz : z ≤ W.heap.size := Nat.le_of_lt (Array.getElem?_eq_some_iff.1 h.r0).1
  ⟨boxStays h.r0 hb, boxStays h.r1 hb, boxStays h.r2 hb, boxStays h.r3 hb, boxStays h.r4 hb, boxStays h.r5 hb, boxStays h.r6 hb, h.ts.below hb rfl, h.ta.below hb rfl, h.tb.below hb rfl, h.gs, h.ga, h.gb, h.xs.below hb, h.bl.trans (hb.mono hz)⟩
theorem Thr.At.set {x : Thr} {w W : World} {X : Nat} {v : Value} (hx : x.At w) (hb : Below w.heap.size w W) (hX : w.heap.size ≤ X) : x.At (W.setCell ⟨X, 0, none⟩ v) :=
  hx.below (hb.setCell (p := ⟨X, 0, none⟩) (by simpa using hX) v)
section
variable {x : Thr} {w : World} {z : Nat} {s a b t : Tr Int} {W : World}
theorem MpF.set4 (h : MpF x w z s a b W) (hz : w.heap.size = z) (hx : x.At w) (ht : AtI W t) (hg : Gd t) : MpF x w z t a b (W.setCell ⟨z + 1 + 1 + 1 + 1, 0, none⟩ (.pointer (pa t))) :=
  ⟨(Below.heap_setCell _ _ _ _ (by dsimp only; omega)).trans h.r0, (Below.heap_setCell _ _ _ _ (by dsimp only; omega)).trans h.r1, (Below.heap_setCell _ _ _ _ (by dsimp only; omega)).trans h.r2, (Below.heap_setCell _ _ _ _ (by dsimp only; omega)).trans h.r3,
    by have := heap_setCell_same W (z + 1 + 1 + 1 + 1) 0 _ _ (.pointer (pa t)) h.r4; simpa using this, (Below.heap_setCell _ _ _ _ (by dsimp only; omega)).trans h.r5, (Below.heap_setCell _ _ _ _ (by dsimp only; omega)).trans h.r6,
    ht.setBox h.r4 (by decide) 0 _, h.ta.setBox h.r4 (by decide) 0 _, h.tb.setBox h.r4 (by decide) 0 _, hg, h.ga, h.gb, hx.set (by rw [hz]; exact h.bl) (by omega), h.bl.setCell (p := ⟨z + 1 + 1 + 1 + 1, 0, none⟩) (by simp; omega) _⟩
theorem MpF.set5 (h : MpF x w z s a b W) (hz : w.heap.size = z) (hx : x.At w) (ht : AtI W t) (hg : Gd t) : MpF x w z s t b (W.setCell ⟨z + 1 + 1 + 1 + 1 + 1, 0, none⟩ (.pointer (pa t))) :=
  ⟨(Below.heap_setCell _ _ _ _ (by dsimp only; omega)).trans h.r0, (Below.heap_setCell _ _ _ _ (by dsimp only; omega)).trans h.r1, (Below.heap_setCell _ _ _ _ (by dsimp only; omega)).trans h.r2, (Below.heap_setCell _ _ _ _ (by dsimp only; omega)).trans h.r3,
    (Below.heap_setCell _ _ _ _ (by dsimp only; omega)).trans h.r4, by have := heap_setCell_same W (z + 1 + 1 + 1 + 1 + 1) 0 _ _ (.pointer (pa t)) h.r5; simpa using this, (Below.heap_setCell _ _ _ _ (by dsimp only; omega)).trans h.r6,
    h.ts.setBox h.r5 (by decide) 0 _, ht.setBox h.r5 (by decide) 0 _, h.tb.setBox h.r5 (by decide) 0 _, h.gs, hg, h.gb, hx.set (by rw [hz]; exact h.bl) (by omega), h.bl.setCell (p := ⟨z + 1 + 1 + 1 + 1 + 1, 0, none⟩) (by simp; omega) _⟩
theorem MpF.set6 (h : MpF x w z s a b W) (hz : w.heap.size = z) (hx : x.At w) (ht : AtI W t) (hg : Gd t) : MpF x w z s a t (W.setCell ⟨z + 1 + 1 + 1 + 1 + 1 + 1, 0, none⟩ (.pointer (pa t))) :=
  ⟨(Below.heap_setCell _ _ _ _ (by dsimp only; omega)).trans h.r0, (Below.heap_setCell _ _ _ _ (by dsimp only; omega)).trans h.r1, (Below.heap_setCell _ _ _ _ (by dsimp only; omega)).trans h.r2, (Below.heap_setCell _ _ _ _ (by dsimp only; omega)).trans h.r3,
    (Below.heap_setCell _ _ _ _ (by dsimp only; omega)).trans h.r4, (Below.heap_setCell _ _ _ _ (by dsimp only; omega)).trans h.r5, by have := heap_setCell_same W (z + 1 + 1 + 1 + 1 + 1 + 1) 0 _ _ (.pointer (pa t)) h.r6; simpa using this,
    h.ts.setBox h.r6 (by decide) 0 _, h.ta.setBox h.r6 (by decide) 0 _, ht.setBox h.r6 (by decide) 0 _, h.gs, h.ga, hg, hx.set (by rw [hz]; exact h.bl) (by omega), h.bl.setCell (p := ⟨z + 1 + 1 + 1 + 1 + 1 + 1, 0, none⟩) (by simp; omega) _⟩
end
/-- What is written at the end. -/
def threeX (z : Nat) (k : Nat) (t : TypeId) : Prop := (k = z + 1 ∨ k = z + 1 + 1 ∨ k = z + 1 + 1 + 1) ∧ t = 29
/-- What is written at a double assignment. -/
def twoX (z : Nat) (k : Nat) (_ : TypeId) : Prop := k = z + 1 + 1 + 1 + 1 + 1 ∨ k = z + 1 + 1 + 1 + 1 + 1 + 1
set_option maxRecDepth 100000 in
set_option maxHeartbeats 4000000 in
theorem wl_maps (x : Thr) (w : World) (hx : x.At w) (hf : x.few = true) : Calls Try.prog 9 #[.agg x.vs] w fun e w' =>
    ∃ s a b : Tr Int, e = .returned (.tuple #[.agg #[.pointer (pa s)], .agg #[.pointer (pa a)], .agg #[.pointer (pa b)]]) ∧ Gd s ∧ Gd a ∧ Gd b ∧ sz s ≤ 80 ∧ sz a ≤ 80 ∧ sz b ≤ 80 ∧ AtI w' s ∧ AtI w' a ∧ AtI w' b ∧ Below w.heap.size w w' := by
  obtain ⟨z, hz0⟩ : ∃ z, w.heap.size = z := ⟨_, rfl⟩
  obtain ⟨w1, hw1⟩ : ∃ w1, allocs w [.cells x.vs 25, .cells #[.pointer none] 29, .cells #[.pointer none] 29, .cells #[.pointer none] 29, .cells #[.pointer none] 29, .cells #[.pointer none] 29, .cells #[.pointer none] 29] = w1 := ⟨_, rfl⟩
  have hb : Below w.heap.size w w1 := by rw [← hw1]; exact allocs_below _ _
  have hx1 : ∀ i ob, [Obj.cells x.vs 25, .cells #[.pointer none] 29, .cells #[.pointer none] 29, .cells #[.pointer none] 29, .cells #[.pointer none] 29, .cells #[.pointer none] 29, .cells #[.pointer none] 29][i]? = some ob → w1.heap[z + i]? = some ob :=
    fun i ob h => by have := allocs_get _ w i ob h; rw [hw1, hz0] at this; exact this
  have F1 : Hid (MpF x w z .nil .nil .nil w1) := Lib.hid ⟨hx1 0 _ rfl, hx1 1 _ rfl, hx1 2 _ rfl, hx1 3 _ rfl, hx1 4 _ rfl, hx1 5 _ rfl, hx1 6 _ rfl, trivial, trivial, trivial, gd_nil, gd_nil, gd_nil, hx.below hb, by rw [← hz0]; exact hb⟩
  have HX := Lib.hid hx
  have HW := Lib.hid hw1
  have hfew : x.base.length ≤ 40 ∧ x.pA.length ≤ 40 ∧ x.pB.length ≤ 40 ∧ x.tA.length ≤ 40 ∧ x.tB.length ≤ 40 := by
    unfold Thr.few at hf
    simp only [Bool.and_eq_true, decide_eq_true_eq] at hf
    omega
  obtain ⟨n1, hn1⟩ : ∃ n, x.base.length = n := ⟨_, rfl⟩
  rw [hn1] at hfew
  have N1 := Lib.hid hn1
  have HZ0 := Lib.hid hz0
  clear hx hw1 hx1 hf hb hn1
  go_enter Try.func9, Try.ntmps9
  go_upto_region 2 with (fail)
  rw [show (((((((w.alloc (.cells x.vs 25)).alloc (.cells #[.pointer none] 29)).alloc (.cells #[.pointer none] 29)).alloc (.cells #[.pointer none] 29)).alloc (.cells #[.pointer none] 29)).alloc (.cells #[.pointer none] 29)).alloc (.cells #[.pointer none] 29)) = w1 from HW.out]
  clear HW
  go_wp2_with fail
  go_loopw [8] (fun u wr => ∃ (i : Nat) (s : Tr Int), u = .int .i64 (i : Int) ∧ i ≤ n1 ∧ Hid (sz s ≤ i) ∧ Hid (MpF x w z s .nil .nil wr)) (fun u _ => n1 - (intOf u).toNat)
  case atStart => exact ⟨0, .nil, rfl, Nat.zero_le _, Lib.hid (Nat.le_refl _), F1⟩
  case round =>
    clear F1
    obtain ⟨i, s, rfl, hi, HZ, HF⟩ := hrel
    have k0 := (row8 HF.out.r0).1
    rw [N1.out] at k0
    by_cases hlt : i < n1
    · have hli : (i : Int) < (n1 : Int) := by omega
      have hil : i < x.base.length := by rw [N1.out]; exact hlt
      obtain ⟨q, hq⟩ : ∃ q, x.base[i]'hil = q := ⟨_, rfl⟩
      have hqs : x.base[i]? = some q := by rw [List.getElem?_eq_getElem hil, hq]
      obtain ⟨bk, ok, hak, hck⟩ := HF.out.xs.h1.get i (.string q) (by simp [strV, hqs])
      have HCK := Lib.hid hck
      have HAK := Lib.hid hak
      rw [hak] at k0
      clear hqs hq hck hak
      have HC : Hid (Chain [wr] wr) := Lib.hid (Chain.one wr)
      have hzs := HZ.out
      have hbw : z ≤ wr.heap.size := Nat.le_of_lt (Array.getElem?_eq_some_iff.1 HF.out.r0).1
      go_wp2_with fail
      clear k0
      refine wp_region_noPanic ?_
      refine region_tail (S := fun w' => Below wr.heap.size wr w') [13] (by kernel_rfl) (Below.refl _ _).drew (fun hS => ?_)
      refine anyT_take (i := 0) (oi := ⟨some 17, _, _, _, _, _⟩) (v := ?_) rfl (by kernel_rfl) (by kernel_rfl) (by rfl) (fun _ _ _ h => h) (by kernel_rfl) (by kernel_rfl) (Or.inl ⟨by rfl, ?_⟩) hS ?_
      rotate_left 1
      · intro w' hB; have hd := (HC.out.to wr (by simp)).trans (hB.mono (HC.out.to wr (by simp)).size); have k0 := (row8 (boxStays HF.out.r0 hd)).1; rw [N1.out, HAK.out] at k0; have k1 := cell_of_one (boxStays HF.out.r4 hd); have c3 := (hd.cell (p := ⟨bk, ok + i, none⟩) (block_lt_of_cell HCK.out)).trans HCK.out; clear hd; (go_simp <;> with_reducible rfl)
      try simp only [Act.put, List.setIfInBounds_toArray, List.set_cons_zero, List.set_cons_succ]
      refine anyT_take (i := 1) (oi := ⟨some 18, _, _, _, _, _⟩) (v := ?_) rfl (by kernel_rfl) (by kernel_rfl) (by rfl) (fun _ _ _ h => h) (by kernel_rfl) (by kernel_rfl) (Or.inl ⟨by rfl, ?_⟩) hS ?_
      rotate_left 1
      · intro w' hB; have hd := (HC.out.to wr (by simp)).trans (hB.mono (HC.out.to wr (by simp)).size); have k0 := (row8 (boxStays HF.out.r0 hd)).1; rw [N1.out, HAK.out] at k0; have k1 := cell_of_one (boxStays HF.out.r4 hd); have c3 := (hd.cell (p := ⟨bk, ok + i, none⟩) (block_lt_of_cell HCK.out)).trans HCK.out; clear hd; (go_simp <;> with_reducible rfl)
      try simp only [Act.put, List.setIfInBounds_toArray, List.set_cons_zero, List.set_cons_succ]
      refine anyT_take (i := 2) (oi := ⟨some 19, _, _, _, _, _⟩) (v := ?_) rfl (by kernel_rfl) (by kernel_rfl) (by rfl) (fun _ _ _ h => h) (by kernel_rfl) (by kernel_rfl) (Or.inl ⟨by rfl, ?_⟩) hS ?_
      rotate_left 1
      · intro w' hB; have hd := (HC.out.to wr (by simp)).trans (hB.mono (HC.out.to wr (by simp)).size); have k0 := (row8 (boxStays HF.out.r0 hd)).1; rw [N1.out, HAK.out] at k0; have k1 := cell_of_one (boxStays HF.out.r4 hd); have c3 := (hd.cell (p := ⟨bk, ok + i, none⟩) (block_lt_of_cell HCK.out)).trans HCK.out; clear hd; (go_simp <;> with_reducible rfl)
      try simp only [Act.put, List.setIfInBounds_toArray, List.set_cons_zero, List.set_cons_succ]
      refine anyT_take (i := 3) (oi := ⟨some 20, _, _, _, _, _⟩) (v := ?_) rfl (by kernel_rfl) (by kernel_rfl) (by rfl) (fun _ _ _ h => h) (by kernel_rfl) (by kernel_rfl) (Or.inl ⟨by rfl, ?_⟩) hS ?_
      rotate_left 1
      · intro w' hB; have hd := (HC.out.to wr (by simp)).trans (hB.mono (HC.out.to wr (by simp)).size); have k0 := (row8 (boxStays HF.out.r0 hd)).1; rw [N1.out, HAK.out] at k0; have k1 := cell_of_one (boxStays HF.out.r4 hd); have c3 := (hd.cell (p := ⟨bk, ok + i, none⟩) (block_lt_of_cell HCK.out)).trans HCK.out; clear hd; (go_simp <;> with_reducible rfl)
      try simp only [Act.put, List.setIfInBounds_toArray, List.set_cons_zero, List.set_cons_succ]
      refine anyT_take (i := 4) (oi := ⟨some 21, _, _, _, _, _⟩) (v := ?_) rfl (by kernel_rfl) (by kernel_rfl) (by rfl) (fun _ _ _ h => h) (by kernel_rfl) (by kernel_rfl) (Or.inl ⟨by rfl, ?_⟩) hS ?_
      rotate_left 1
      · intro w' hB; have hd := (HC.out.to wr (by simp)).trans (hB.mono (HC.out.to wr (by simp)).size); have k0 := (row8 (boxStays HF.out.r0 hd)).1; rw [N1.out, HAK.out] at k0; have k1 := cell_of_one (boxStays HF.out.r4 hd); have c3 := (hd.cell (p := ⟨bk, ok + i, none⟩) (block_lt_of_cell HCK.out)).trans HCK.out; clear hd; (go_simp <;> with_reducible rfl)
      try simp only [Act.put, List.setIfInBounds_toArray, List.set_cons_zero, List.set_cons_succ]
      refine anyT_take (i := 5) (oi := ⟨some 22, _, _, _, _, _⟩) (v := ?_) rfl (by kernel_rfl) (by kernel_rfl) (by rfl) (fun _ _ _ h => h) (by kernel_rfl) (by kernel_rfl) (Or.inl ⟨by rfl, ?_⟩) hS ?_
      rotate_left 1
      · intro w' hB; have hd := (HC.out.to wr (by simp)).trans (hB.mono (HC.out.to wr (by simp)).size); have k0 := (row8 (boxStays HF.out.r0 hd)).1; rw [N1.out, HAK.out] at k0; have k1 := cell_of_one (boxStays HF.out.r4 hd); have c3 := (hd.cell (p := ⟨bk, ok + i, none⟩) (block_lt_of_cell HCK.out)).trans HCK.out; clear hd; (go_simp <;> with_reducible rfl)
      try simp only [Act.put, List.setIfInBounds_toArray, List.set_cons_zero, List.set_cons_succ]
      refine anyT_take (i := 6) (oi := ⟨some 23, _, _, _, _, _⟩) (v := ?_) rfl (by kernel_rfl) (by kernel_rfl) (by rfl) (fun _ _ _ h => h) (by kernel_rfl) (by kernel_rfl) (Or.inl ⟨by rfl, ?_⟩) hS ?_
      rotate_left 1
      · intro w' hB; have hd := (HC.out.to wr (by simp)).trans (hB.mono (HC.out.to wr (by simp)).size); have k0 := (row8 (boxStays HF.out.r0 hd)).1; rw [N1.out, HAK.out] at k0; have k1 := cell_of_one (boxStays HF.out.r4 hd); have c3 := (hd.cell (p := ⟨bk, ok + i, none⟩) (block_lt_of_cell HCK.out)).trans HCK.out; clear hd; (go_simp <;> with_reducible rfl)
      try simp only [Act.put, List.setIfInBounds_toArray, List.set_cons_zero, List.set_cons_succ]
      refine anyT_take (i := 7) (oi := ⟨some 24, _, _, _, _, _⟩) (v := ?_) rfl (by kernel_rfl) (by kernel_rfl) (by rfl) (fun _ _ _ h => h) (by kernel_rfl) (by kernel_rfl) (Or.inl ⟨by rfl, ?_⟩) hS ?_
      rotate_left 1
      · intro w' hB; have hd := (HC.out.to wr (by simp)).trans (hB.mono (HC.out.to wr (by simp)).size); have k0 := (row8 (boxStays HF.out.r0 hd)).1; rw [N1.out, HAK.out] at k0; have k1 := cell_of_one (boxStays HF.out.r4 hd); have c3 := (hd.cell (p := ⟨bk, ok + i, none⟩) (block_lt_of_cell HCK.out)).trans HCK.out; clear hd; (go_simp <;> with_reducible rfl)
      try simp only [Act.put, List.setIfInBounds_toArray, List.set_cons_zero, List.set_cons_succ]
      refine anyT_take (i := 8) (oi := ⟨some 25, _, _, _, _, _⟩) (v := ?_) rfl (by kernel_rfl) (by kernel_rfl) (by rfl) (fun _ _ _ h => h) (by kernel_rfl) (by kernel_rfl) (Or.inl ⟨by rfl, ?_⟩) hS ?_
      rotate_left 1
      · intro w' hB; have hd := (HC.out.to wr (by simp)).trans (hB.mono (HC.out.to wr (by simp)).size); have k0 := (row8 (boxStays HF.out.r0 hd)).1; rw [N1.out, HAK.out] at k0; have k1 := cell_of_one (boxStays HF.out.r4 hd); have c3 := (hd.cell (p := ⟨bk, ok + i, none⟩) (block_lt_of_cell HCK.out)).trans HCK.out; clear hd; (go_simp <;> with_reducible rfl)
      try simp only [Act.put, List.setIfInBounds_toArray, List.set_cons_zero, List.set_cons_succ]
      refine anyT_take (i := 9) (oi := ⟨some 26, _, _, _, _, _⟩) (v := ?_) rfl (by kernel_rfl) (by kernel_rfl) (by rfl) (fun _ _ _ h => h) (by kernel_rfl) (by kernel_rfl) (Or.inl ⟨by rfl, ?_⟩) hS ?_
      rotate_left 1
      · intro w' hB; have hd := (HC.out.to wr (by simp)).trans (hB.mono (HC.out.to wr (by simp)).size); have k0 := (row8 (boxStays HF.out.r0 hd)).1; rw [N1.out, HAK.out] at k0; have k1 := cell_of_one (boxStays HF.out.r4 hd); have c3 := (hd.cell (p := ⟨bk, ok + i, none⟩) (block_lt_of_cell HCK.out)).trans HCK.out; clear hd; (go_simp <;> with_reducible rfl)
      try simp only [Act.put, List.setIfInBounds_toArray, List.set_cons_zero, List.set_cons_succ]
      refine anyT_take (i := 10) (oi := ⟨some 27, _, _, _, _, _⟩) (v := ?_) rfl (by kernel_rfl) (by kernel_rfl) (by rfl) (fun _ _ _ h => h) (by kernel_rfl) (by kernel_rfl) (Or.inl ⟨by rfl, ?_⟩) hS ?_
      rotate_left 1
      · intro w' hB; have hd := (HC.out.to wr (by simp)).trans (hB.mono (HC.out.to wr (by simp)).size); have k0 := (row8 (boxStays HF.out.r0 hd)).1; rw [N1.out, HAK.out] at k0; have k1 := cell_of_one (boxStays HF.out.r4 hd); have c3 := (hd.cell (p := ⟨bk, ok + i, none⟩) (block_lt_of_cell HCK.out)).trans HCK.out; clear hd; (go_simp <;> with_reducible rfl)
      try simp only [Act.put, List.setIfInBounds_toArray, List.set_cons_zero, List.set_cons_succ]
      refine anyT_take (i := 11) (oi := ⟨some 28, _, _, _, _, _⟩) (v := ?_) rfl (by kernel_rfl) (by kernel_rfl) (by rfl) (fun _ _ _ h => h) (by kernel_rfl) (by kernel_rfl) (Or.inl ⟨by rfl, ?_⟩) hS ?_
      rotate_left 1
      · intro w' hB; have hd := (HC.out.to wr (by simp)).trans (hB.mono (HC.out.to wr (by simp)).size); have k0 := (row8 (boxStays HF.out.r0 hd)).1; rw [N1.out, HAK.out] at k0; have k1 := cell_of_one (boxStays HF.out.r4 hd); have c3 := (hd.cell (p := ⟨bk, ok + i, none⟩) (block_lt_of_cell HCK.out)).trans HCK.out; clear hd; (go_simp <;> with_reducible rfl)
      try simp only [Act.put, List.setIfInBounds_toArray, List.set_cons_zero, List.set_cons_succ]
      refine anyT_ready (rs := [12]) (by kernel_rfl) (by kernel_rfl) (by simp) (AllReadyT.cons (o := ⟨some 29, _, _, _, _, _⟩) rfl (by rfl) (fun K hK => ?_) AllReadyT.nil)
      go_simp
      refine (pm_MPutI s q (q.size : Int) z _ (by have := hS.size; omega) (HF.out.ts.below (hS.mono (Nat.le_refl _)) rfl) (by omega)).mono ?_
      rintro e w3 ⟨t', hP, rfl, hA, hb⟩
      refine hK.out _ _ (hS.trans (hb.mono hS.size)) (fun _ => ?_)
      clear hK K
      have hB := hS.trans (hb.mono hS.size)
      refine anyT_now hB ?_
      clear hS
      have hS := Below.refl w3.heap.size w3
      replace HC := Lib.hid (HC.out.push hB)
      have P1 := Lib.hid hP
      have A1 := Lib.hid hA
      clear hP hA
      clear hB hb
      try simp only [Act.put, List.setIfInBounds_toArray, List.set_cons_zero, List.set_cons_succ]
      refine anyT_tail (by kernel_rfl) ?_
      (try clear hS)
      refine any_one (i := 13) (o := ⟨none, _, _, _, _, _⟩) (by kernel_rfl) rfl (by rfl) (fun K hK => ?_)
      have F3 := Lib.hid (HF.out.below (HC.out.to wr (by simp)))
      have k1 := cell_of_one F3.out.r4
      have f1 := frozen_of_row _ (z + 1 + 1 + 1 + 1) 0 _ _ F3.out.r4
      go_simp
      refine hK.out _ _ ?_
      clear hK K
      try simp only [Act.put, List.setIfInBounds_toArray, List.set_cons_zero, List.set_cons_succ]
      refine wpAny_done (by kernel_rfl) (NoPanic.normal ?_) _
      clear k1 f1
      have hgt := gd_put P1.out HF.out.gs
      have F4 := Lib.hid (F3.out.set4 HZ0.out HX.out A1.out hgt.1)
      have HSZ := Lib.hid hgt.2
      clear hgt
      go_wp2_with fail
      refine ⟨⟨i + 1, t', by simp, by omega, Lib.hid (by have := HSZ.out; omega), F4⟩, ?_⟩
      have q1 : (intOf (Value.int .i64 ((i : Int) + 1))).toNat = i + 1 := by simp [intOf]
      have q2 : (intOf (Value.int .i64 (i : Int))).toNat = i := by simp [intOf]
      rw [q1, q2]; omega
    · have hli : ¬ (i : Int) < (n1 : Int) := by omega
      go_wp2_with fail
      go_cut [] (fun wx => Hid (MpF x w z s s s wx))
      case first =>
        have F1 := Lib.hid (HF.out.set5 HZ0.out HX.out HF.out.ts HF.out.gs)
        have F2 := Lib.hid (F1.out.set6 HZ0.out HX.out F1.out.ts F1.out.gs)
        refine wp_region_noPanic ?_
        refine wp_region_held_drew (S := fun w' => KeepX (twoX z) wr w') (by kernel_rfl) (KeepX.refl _).drew (fun hS => ?_)
        refine wpAnyH_take (i := 0) (oi := ⟨some 30, _, _, _, _, _⟩) (v := ?_) rfl (by kernel_rfl) (by kernel_rfl) (by kernel_rfl) (fun _ _ _ h => h) (Or.inl ⟨by rfl, ?_⟩) hS ?_
        rotate_left 1
        · intro w' hB; have k1 := cell_of_one (hB.row HF.out.r4 (fun h => by rcases h with h | h <;> omega)); (go_simp <;> with_reducible rfl)
        try simp only [Act.put, List.setIfInBounds_toArray, List.set_cons_zero, List.set_cons_succ]
        refine wpAnyH_take (i := 1) (oi := ⟨some 31, _, _, _, _, _⟩) (v := ?_) rfl (by kernel_rfl) (by kernel_rfl) (by kernel_rfl) (fun _ _ _ h => h) (Or.inl ⟨by rfl, ?_⟩) hS ?_
        rotate_left 1
        · intro w' hB; have k1 := cell_of_one (hB.row HF.out.r4 (fun h => by rcases h with h | h <;> omega)); (go_simp <;> with_reducible rfl)
        try simp only [Act.put, List.setIfInBounds_toArray, List.set_cons_zero, List.set_cons_succ]
        refine wpAnyH_ready (rs := [2]) (by kernel_rfl) (by simp) (AllReadyH.cons (o := ⟨none, _, _, _, _, _⟩) rfl (fun K hK => ?_) AllReadyH.nil)
        have k4 := cell_of_one HF.out.r5
        have f4 := frozen_of_row _ (z + 1 + 1 + 1 + 1 + 1) 0 _ _ HF.out.r5
        replace hS := hS.setRow HF.out.r5 (Or.inl rfl) 0 (.pointer (pa s))
        go_simp
        refine hK.out _ _ hS (fun _ => ?_)
        clear hK K k4 f4
        try simp only [Act.put, List.setIfInBounds_toArray, List.set_cons_zero, List.set_cons_succ]
        refine wpAnyH_ready (rs := [3]) (by kernel_rfl) (by simp) (AllReadyH.cons (o := ⟨none, _, _, _, _, _⟩) rfl (fun K hK => ?_) AllReadyH.nil)
        have k4 := cell_of_one F1.out.r6
        have f4 := frozen_of_row _ (z + 1 + 1 + 1 + 1 + 1 + 1) 0 _ _ F1.out.r6
        replace hS := hS.setRow F1.out.r6 (Or.inr rfl) 0 (.pointer (pa s))
        go_simp
        refine hK.out _ _ hS (fun _ => ?_)
        clear hK K k4 f4
        try simp only [Act.put, List.setIfInBounds_toArray, List.set_cons_zero, List.set_cons_succ]
        refine wpAnyH_done (by kernel_rfl) (NoPanic.normal ?_) _
        all_goals
          go_wp2_with fail
          go_meet
          exact Lib.hid (F2.out.below (Below.refl _ _).drew)
      case rest =>
        clear HF
        have HF := hcut
        clear hcut
        have hzn : sz s ≤ 40 := by have := HZ.out; omega
        have k5 := (row8 HF.out.r0).2.2.2.2.2.1
        go_upto_if 33 with (fail)
        clear k5
        go_cut [] (fun wx => ∃ b : Tr Int, sz b ≤ 40 ∧ Hid (MpF x w z s s b wx))
        case first =>
          cases hoth : x.oth with
          | false =>
            go_wp2_with fail
            go_meet
            exact ⟨s, hzn, HF⟩
          | true =>
            have k6 := cell_of_one HF.out.r6
            have f6 := frozen_of_row _ (z + 1 + 1 + 1 + 1 + 1 + 1) 0 _ _ HF.out.r6
            have G := Lib.hid (HF.out.set6 (t := .nil) HZ0.out HX.out trivial gd_nil)
            obtain ⟨w4, hw4⟩ : ∃ W, wc.setCell ⟨z + 1 + 1 + 1 + 1 + 1 + 1, 0, none⟩ (.pointer none) = W := ⟨_, rfl⟩
            have G4 : Hid (MpF x w z s s .nil w4) := Lib.hid (by rw [← hw4]; exact G.out)
            have HW4 := Lib.hid hw4
            clear hw4 G
            go_upto_region 9 with (fail)
            rw [HW4.out]
            clear k6 f6 HW4
            have k0 := (row8 G4.out.r0).1
            rw [N1.out] at k0
            go_wp2_with fail
            go_loopw [9] (fun u wr => ∃ (j : Int) (b : Tr Int), u = .int .i64 j ∧ -1 ≤ j ∧ j < (n1 : Int) ∧ Hid ((sz b : Int) ≤ (n1 : Int) - 1 - j) ∧ Hid (MpF x w z s s b wr)) (fun u _ => (intOf u + 1).toNat)
            case atStart => exact ⟨(n1 : Int) - 1, .nil, rfl, by omega, by omega, Lib.hid (by simp [sz]), G4⟩
            case round =>
              clear G4
              obtain ⟨j, b, rfl, hj1, hj2, HZB, HG⟩ := hrel
              have k0 := (row8 HG.out.r0).1
              rw [N1.out] at k0
              by_cases hj0 : 0 ≤ j
              · obtain ⟨jn, rfl⟩ : ∃ jn : Nat, j = (jn : Int) := ⟨j.toNat, by omega⟩
                have hil : jn < x.base.length := by rw [N1.out]; omega
                have hjn : jn < n1 := by omega
                obtain ⟨q, hq⟩ : ∃ q, x.base[jn]'hil = q := ⟨_, rfl⟩
                have hqs : x.base[jn]? = some q := by rw [List.getElem?_eq_getElem hil, hq]
                obtain ⟨bk, ok, hak, hck⟩ := HG.out.xs.h1.get jn (.string q) (by simp [strV, hqs])
                have HCK := Lib.hid hck
                have HAK := Lib.hid hak
                rw [hak] at k0
                clear hqs hq hck hak
                have HC : Hid (Chain [wr] wr) := Lib.hid (Chain.one wr)
                have hzs := HZB.out
                have hbw : z ≤ wr.heap.size := Nat.le_of_lt (Array.getElem?_eq_some_iff.1 HG.out.r0).1
                go_wp2_with fail
                clear k0
                refine wp_region_noPanic ?_
                refine region_tail (S := fun w' => Below wr.heap.size wr w') [13] (by kernel_rfl) (Below.refl _ _).drew (fun hS => ?_)
                refine anyT_take (i := 0) (oi := ⟨some 43, _, _, _, _, _⟩) (v := ?_) rfl (by kernel_rfl) (by kernel_rfl) (by rfl) (fun _ _ _ h => h) (by kernel_rfl) (by kernel_rfl) (Or.inl ⟨by rfl, ?_⟩) hS ?_
                rotate_left 1
                · intro w' hB; have hd := (HC.out.to wr (by simp)).trans (hB.mono (HC.out.to wr (by simp)).size); have k0 := (row8 (boxStays HG.out.r0 hd)).1; rw [N1.out, HAK.out] at k0; have k1 := cell_of_one (boxStays HG.out.r6 hd); have c3 := (hd.cell (p := ⟨bk, ok + jn, none⟩) (block_lt_of_cell HCK.out)).trans HCK.out; clear hd; (go_simp <;> with_reducible rfl)
                try simp only [Act.put, List.setIfInBounds_toArray, List.set_cons_zero, List.set_cons_succ]
                refine anyT_take (i := 1) (oi := ⟨some 44, _, _, _, _, _⟩) (v := ?_) rfl (by kernel_rfl) (by kernel_rfl) (by rfl) (fun _ _ _ h => h) (by kernel_rfl) (by kernel_rfl) (Or.inl ⟨by rfl, ?_⟩) hS ?_
                rotate_left 1
                · intro w' hB; have hd := (HC.out.to wr (by simp)).trans (hB.mono (HC.out.to wr (by simp)).size); have k0 := (row8 (boxStays HG.out.r0 hd)).1; rw [N1.out, HAK.out] at k0; have k1 := cell_of_one (boxStays HG.out.r6 hd); have c3 := (hd.cell (p := ⟨bk, ok + jn, none⟩) (block_lt_of_cell HCK.out)).trans HCK.out; clear hd; (go_simp <;> with_reducible rfl)
                try simp only [Act.put, List.setIfInBounds_toArray, List.set_cons_zero, List.set_cons_succ]
                refine anyT_take (i := 2) (oi := ⟨some 45, _, _, _, _, _⟩) (v := ?_) rfl (by kernel_rfl) (by kernel_rfl) (by rfl) (fun _ _ _ h => h) (by kernel_rfl) (by kernel_rfl) (Or.inl ⟨by rfl, ?_⟩) hS ?_
                rotate_left 1
                · intro w' hB; have hd := (HC.out.to wr (by simp)).trans (hB.mono (HC.out.to wr (by simp)).size); have k0 := (row8 (boxStays HG.out.r0 hd)).1; rw [N1.out, HAK.out] at k0; have k1 := cell_of_one (boxStays HG.out.r6 hd); have c3 := (hd.cell (p := ⟨bk, ok + jn, none⟩) (block_lt_of_cell HCK.out)).trans HCK.out; clear hd; (go_simp <;> with_reducible rfl)
                try simp only [Act.put, List.setIfInBounds_toArray, List.set_cons_zero, List.set_cons_succ]
                refine anyT_take (i := 3) (oi := ⟨some 46, _, _, _, _, _⟩) (v := ?_) rfl (by kernel_rfl) (by kernel_rfl) (by rfl) (fun _ _ _ h => h) (by kernel_rfl) (by kernel_rfl) (Or.inl ⟨by rfl, ?_⟩) hS ?_
                rotate_left 1
                · intro w' hB; have hd := (HC.out.to wr (by simp)).trans (hB.mono (HC.out.to wr (by simp)).size); have k0 := (row8 (boxStays HG.out.r0 hd)).1; rw [N1.out, HAK.out] at k0; have k1 := cell_of_one (boxStays HG.out.r6 hd); have c3 := (hd.cell (p := ⟨bk, ok + jn, none⟩) (block_lt_of_cell HCK.out)).trans HCK.out; clear hd; (go_simp <;> with_reducible rfl)
                try simp only [Act.put, List.setIfInBounds_toArray, List.set_cons_zero, List.set_cons_succ]
                refine anyT_take (i := 4) (oi := ⟨some 47, _, _, _, _, _⟩) (v := ?_) rfl (by kernel_rfl) (by kernel_rfl) (by rfl) (fun _ _ _ h => h) (by kernel_rfl) (by kernel_rfl) (Or.inl ⟨by rfl, ?_⟩) hS ?_
                rotate_left 1
                · intro w' hB; have hd := (HC.out.to wr (by simp)).trans (hB.mono (HC.out.to wr (by simp)).size); have k0 := (row8 (boxStays HG.out.r0 hd)).1; rw [N1.out, HAK.out] at k0; have k1 := cell_of_one (boxStays HG.out.r6 hd); have c3 := (hd.cell (p := ⟨bk, ok + jn, none⟩) (block_lt_of_cell HCK.out)).trans HCK.out; clear hd; (go_simp <;> with_reducible rfl)
                try simp only [Act.put, List.setIfInBounds_toArray, List.set_cons_zero, List.set_cons_succ]
                refine anyT_take (i := 5) (oi := ⟨some 48, _, _, _, _, _⟩) (v := ?_) rfl (by kernel_rfl) (by kernel_rfl) (by rfl) (fun _ _ _ h => h) (by kernel_rfl) (by kernel_rfl) (Or.inl ⟨by rfl, ?_⟩) hS ?_
                rotate_left 1
                · intro w' hB; have hd := (HC.out.to wr (by simp)).trans (hB.mono (HC.out.to wr (by simp)).size); have k0 := (row8 (boxStays HG.out.r0 hd)).1; rw [N1.out, HAK.out] at k0; have k1 := cell_of_one (boxStays HG.out.r6 hd); have c3 := (hd.cell (p := ⟨bk, ok + jn, none⟩) (block_lt_of_cell HCK.out)).trans HCK.out; clear hd; (go_simp <;> with_reducible rfl)
                try simp only [Act.put, List.setIfInBounds_toArray, List.set_cons_zero, List.set_cons_succ]
                refine anyT_take (i := 6) (oi := ⟨some 49, _, _, _, _, _⟩) (v := ?_) rfl (by kernel_rfl) (by kernel_rfl) (by rfl) (fun _ _ _ h => h) (by kernel_rfl) (by kernel_rfl) (Or.inl ⟨by rfl, ?_⟩) hS ?_
                rotate_left 1
                · intro w' hB; have hd := (HC.out.to wr (by simp)).trans (hB.mono (HC.out.to wr (by simp)).size); have k0 := (row8 (boxStays HG.out.r0 hd)).1; rw [N1.out, HAK.out] at k0; have k1 := cell_of_one (boxStays HG.out.r6 hd); have c3 := (hd.cell (p := ⟨bk, ok + jn, none⟩) (block_lt_of_cell HCK.out)).trans HCK.out; clear hd; (go_simp <;> with_reducible rfl)
                try simp only [Act.put, List.setIfInBounds_toArray, List.set_cons_zero, List.set_cons_succ]
                refine anyT_take (i := 7) (oi := ⟨some 50, _, _, _, _, _⟩) (v := ?_) rfl (by kernel_rfl) (by kernel_rfl) (by rfl) (fun _ _ _ h => h) (by kernel_rfl) (by kernel_rfl) (Or.inl ⟨by rfl, ?_⟩) hS ?_
                rotate_left 1
                · intro w' hB; have hd := (HC.out.to wr (by simp)).trans (hB.mono (HC.out.to wr (by simp)).size); have k0 := (row8 (boxStays HG.out.r0 hd)).1; rw [N1.out, HAK.out] at k0; have k1 := cell_of_one (boxStays HG.out.r6 hd); have c3 := (hd.cell (p := ⟨bk, ok + jn, none⟩) (block_lt_of_cell HCK.out)).trans HCK.out; clear hd; (go_simp <;> with_reducible rfl)
                try simp only [Act.put, List.setIfInBounds_toArray, List.set_cons_zero, List.set_cons_succ]
                refine anyT_take (i := 8) (oi := ⟨some 51, _, _, _, _, _⟩) (v := ?_) rfl (by kernel_rfl) (by kernel_rfl) (by rfl) (fun _ _ _ h => h) (by kernel_rfl) (by kernel_rfl) (Or.inl ⟨by rfl, ?_⟩) hS ?_
                rotate_left 1
                · intro w' hB; have hd := (HC.out.to wr (by simp)).trans (hB.mono (HC.out.to wr (by simp)).size); have k0 := (row8 (boxStays HG.out.r0 hd)).1; rw [N1.out, HAK.out] at k0; have k1 := cell_of_one (boxStays HG.out.r6 hd); have c3 := (hd.cell (p := ⟨bk, ok + jn, none⟩) (block_lt_of_cell HCK.out)).trans HCK.out; clear hd; (go_simp <;> with_reducible rfl)
                try simp only [Act.put, List.setIfInBounds_toArray, List.set_cons_zero, List.set_cons_succ]
                refine anyT_take (i := 9) (oi := ⟨some 52, _, _, _, _, _⟩) (v := ?_) rfl (by kernel_rfl) (by kernel_rfl) (by rfl) (fun _ _ _ h => h) (by kernel_rfl) (by kernel_rfl) (Or.inl ⟨by rfl, ?_⟩) hS ?_
                rotate_left 1
                · intro w' hB; have hd := (HC.out.to wr (by simp)).trans (hB.mono (HC.out.to wr (by simp)).size); have k0 := (row8 (boxStays HG.out.r0 hd)).1; rw [N1.out, HAK.out] at k0; have k1 := cell_of_one (boxStays HG.out.r6 hd); have c3 := (hd.cell (p := ⟨bk, ok + jn, none⟩) (block_lt_of_cell HCK.out)).trans HCK.out; clear hd; (go_simp <;> with_reducible rfl)
                try simp only [Act.put, List.setIfInBounds_toArray, List.set_cons_zero, List.set_cons_succ]
                refine anyT_take (i := 10) (oi := ⟨some 53, _, _, _, _, _⟩) (v := ?_) rfl (by kernel_rfl) (by kernel_rfl) (by rfl) (fun _ _ _ h => h) (by kernel_rfl) (by kernel_rfl) (Or.inl ⟨by rfl, ?_⟩) hS ?_
                rotate_left 1
                · intro w' hB; have hd := (HC.out.to wr (by simp)).trans (hB.mono (HC.out.to wr (by simp)).size); have k0 := (row8 (boxStays HG.out.r0 hd)).1; rw [N1.out, HAK.out] at k0; have k1 := cell_of_one (boxStays HG.out.r6 hd); have c3 := (hd.cell (p := ⟨bk, ok + jn, none⟩) (block_lt_of_cell HCK.out)).trans HCK.out; clear hd; (go_simp <;> with_reducible rfl)
                try simp only [Act.put, List.setIfInBounds_toArray, List.set_cons_zero, List.set_cons_succ]
                refine anyT_take (i := 11) (oi := ⟨some 54, _, _, _, _, _⟩) (v := ?_) rfl (by kernel_rfl) (by kernel_rfl) (by rfl) (fun _ _ _ h => h) (by kernel_rfl) (by kernel_rfl) (Or.inl ⟨by rfl, ?_⟩) hS ?_
                rotate_left 1
                · intro w' hB; have hd := (HC.out.to wr (by simp)).trans (hB.mono (HC.out.to wr (by simp)).size); have k0 := (row8 (boxStays HG.out.r0 hd)).1; rw [N1.out, HAK.out] at k0; have k1 := cell_of_one (boxStays HG.out.r6 hd); have c3 := (hd.cell (p := ⟨bk, ok + jn, none⟩) (block_lt_of_cell HCK.out)).trans HCK.out; clear hd; (go_simp <;> with_reducible rfl)
                try simp only [Act.put, List.setIfInBounds_toArray, List.set_cons_zero, List.set_cons_succ]
                refine anyT_ready (rs := [12]) (by kernel_rfl) (by kernel_rfl) (by simp) (AllReadyT.cons (o := ⟨some 55, _, _, _, _, _⟩) rfl (by rfl) (fun K hK => ?_) AllReadyT.nil)
                go_simp
                refine (pm_MPutI b q (q.size : Int) z _ (by have := hS.size; omega) (HG.out.tb.below (hS.mono (Nat.le_refl _)) rfl) (by omega)).mono ?_
                rintro e w3 ⟨t', hP, rfl, hA, hb⟩
                refine hK.out _ _ (hS.trans (hb.mono hS.size)) (fun _ => ?_)
                clear hK K
                have hB := hS.trans (hb.mono hS.size)
                refine anyT_now hB ?_
                clear hS
                have hS := Below.refl w3.heap.size w3
                replace HC := Lib.hid (HC.out.push hB)
                have P1 := Lib.hid hP
                have A1 := Lib.hid hA
                clear hP hA
                clear hB hb
                try simp only [Act.put, List.setIfInBounds_toArray, List.set_cons_zero, List.set_cons_succ]
                refine anyT_tail (by kernel_rfl) ?_
                (try clear hS)
                refine any_one (i := 13) (o := ⟨none, _, _, _, _, _⟩) (by kernel_rfl) rfl (by rfl) (fun K hK => ?_)
                have F3 := Lib.hid (HG.out.below (HC.out.to wr (by simp)))
                have k1 := cell_of_one F3.out.r6
                have f1 := frozen_of_row _ (z + 1 + 1 + 1 + 1 + 1 + 1) 0 _ _ F3.out.r6
                go_simp
                refine hK.out _ _ ?_
                clear hK K
                try simp only [Act.put, List.setIfInBounds_toArray, List.set_cons_zero, List.set_cons_succ]
                refine wpAny_done (by kernel_rfl) (NoPanic.normal ?_) _
                clear k1 f1
                have hgt := gd_put P1.out HG.out.gb
                have F4 := Lib.hid (F3.out.set6 HZ0.out HX.out A1.out hgt.1)
                have HSZ := Lib.hid hgt.2
                clear hgt
                go_wp2_with fail
                refine ⟨⟨(jn : Int) - 1, t', rfl, by omega, by omega, Lib.hid (by have := HSZ.out; omega), F4⟩, ?_⟩
                have q1 : intOf (Value.int .i64 ((jn : Int) - 1)) = (jn : Int) - 1 := by simp [intOf]
                have q2 : intOf (Value.int .i64 (jn : Int)) = (jn : Int) := by simp [intOf]
                rw [q1, q2]; omega
              · go_wp2_with fail
                go_meet
                exact ⟨b, by have := HZB.out; omega, HG⟩
        case rest =>
          clear HF
          obtain ⟨b, hbz, HF⟩ := hcut
          have k6 := (row8 HF.out.r0).2.2.2.2.2.2.1
          go_upto_if 58 with (fail)
          clear k6
          go_cut [] (fun wx => ∃ a : Tr Int, sz a ≤ 80 ∧ Hid (MpF x w z s a b wx))
          case first =>
            cases hsame : x.same with
            | true =>
              go_wp2_with fail
              go_meet
              exact ⟨s, by omega, HF⟩
            | false =>
              obtain ⟨k0, k1, k2, k3, _⟩ := row8 HF.out.r0
              have k5 := cell_of_one HF.out.r5
              go_wp2_with fail
              refine (wl_change s x.pA x.base x.tA x.o2 x.o4 x.o1 x.c2 x.c4 x.c1 wc HF.out.ta HF.out.gs HF.out.xs.h2 HF.out.xs.h4 HF.out.xs.h1 (by omega) (by omega) (by rw [N1.out]; omega) (by omega)).mono ?_
              rintro e w5 ⟨a', rfl, hg, hz, hA, hb⟩
              clear k0 k1 k2 k3 k5
              have G5 := Lib.hid (HF.out.below hb)
              have k5 := cell_of_one G5.out.r5
              have f5 := frozen_of_row _ (z + 1 + 1 + 1 + 1 + 1) 0 _ _ G5.out.r5
              have G6 := Lib.hid (G5.out.set5 HZ0.out HX.out hA hg)
              clear hb hA hg
              go_wp2_with fail
              go_meet
              exact ⟨a', by omega, G6⟩
          case rest =>
            clear HF
            obtain ⟨a, haz, HF⟩ := hcut
            obtain ⟨k0, k1, k2, k3, k4, _⟩ := row8 HF.out.r0
            have k6 := cell_of_one HF.out.r6
            go_wp2_with fail
            refine (wl_change b x.pB x.base x.tB x.o3 x.o5 x.o1 x.c3 x.c5 x.c1 wc HF.out.tb HF.out.gb HF.out.xs.h3 HF.out.xs.h5 HF.out.xs.h1 (by omega) (by omega) (by rw [N1.out]; omega) (by omega)).mono ?_
            rintro e w5 ⟨b', rfl, hg, hz, hA, hb⟩
            clear k0 k1 k2 k3 k4 k6
            have G5 := Lib.hid (HF.out.below hb)
            have k6 := cell_of_one G5.out.r6
            have f6 := frozen_of_row _ (z + 1 + 1 + 1 + 1 + 1 + 1) 0 _ _ G5.out.r6
            have G6 := Lib.hid (G5.out.set6 HZ0.out HX.out hA hg)
            clear hb hA hg HF
            go_upto_region 16 with (fail)
            obtain ⟨w6, hw6⟩ : ∃ W, w5.setCell ⟨z + 1 + 1 + 1 + 1 + 1 + 1, 0, none⟩ (.pointer (pa b')) = W := ⟨_, rfl⟩
            rw [hw6]
            rw [hw6] at G6
            clear hw6 k6 f6 G5
            have k7 := (row8 G6.out.r0).2.2.2.2.2.2.2
            go_upto_if 76 with (fail)
            clear k7
            go_cut [] (fun wx => ∃ s' : Tr Int, sz s' ≤ 80 ∧ Hid (MpF x w z s' a b' wx))
            case first =>
              cases hnon : x.non with
              | false =>
                go_wp2_with fail
                go_meet
                exact ⟨s, by omega, G6⟩
              | true =>
                have k4 := cell_of_one G6.out.r4
                have f4 := frozen_of_row _ (z + 1 + 1 + 1 + 1) 0 _ _ G6.out.r4
                have G7 := Lib.hid (G6.out.set4 (t := .nil) HZ0.out HX.out trivial gd_nil)
                go_wp2_with fail
                go_meet
                exact ⟨.nil, by simp [sz], G7⟩
            case rest =>
              clear G6
              obtain ⟨s', hsz, F⟩ := hcut
              go_upto_region 18 with (fail)
              refine wp_region_noPanic ?_
              refine wp_region_held_drew (S := fun w' => KeepX (threeX z) wc w') (by kernel_rfl) (KeepX.refl _).drew (fun hS => ?_)
              refine wpAnyH_take (i := 0) (oi := ⟨some 78, _, _, _, _, _⟩) (v := ?_) rfl (by kernel_rfl) (by kernel_rfl) (by kernel_rfl) (fun _ _ _ h => h) (Or.inl ⟨by rfl, ?_⟩) hS ?_
              rotate_left 1
              · intro w' hB; have k4 := cell_of_one (hB.row F.out.r4 (fun h => by rcases h.1 with h | h | h <;> omega)); have k5 := cell_of_one (hB.row F.out.r5 (fun h => by rcases h.1 with h | h | h <;> omega)); have k6 := cell_of_one (hB.row F.out.r6 (fun h => by rcases h.1 with h | h | h <;> omega)); (go_simp <;> with_reducible rfl)
              try simp only [Act.put, List.setIfInBounds_toArray, List.set_cons_zero, List.set_cons_succ]
              refine wpAnyH_take (i := 1) (oi := ⟨some 79, _, _, _, _, _⟩) (v := ?_) rfl (by kernel_rfl) (by kernel_rfl) (by kernel_rfl) (fun _ _ _ h => h) (Or.inl ⟨by rfl, ?_⟩) hS ?_
              rotate_left 1
              · intro w' hB; have k4 := cell_of_one (hB.row F.out.r4 (fun h => by rcases h.1 with h | h | h <;> omega)); have k5 := cell_of_one (hB.row F.out.r5 (fun h => by rcases h.1 with h | h | h <;> omega)); have k6 := cell_of_one (hB.row F.out.r6 (fun h => by rcases h.1 with h | h | h <;> omega)); (go_simp <;> with_reducible rfl)
              try simp only [Act.put, List.setIfInBounds_toArray, List.set_cons_zero, List.set_cons_succ]
              refine wpAnyH_take (i := 2) (oi := ⟨some 80, _, _, _, _, _⟩) (v := ?_) rfl (by kernel_rfl) (by kernel_rfl) (by kernel_rfl) (fun _ _ _ h => h) (Or.inl ⟨by rfl, ?_⟩) hS ?_
              rotate_left 1
              · intro w' hB; have k4 := cell_of_one (hB.row F.out.r4 (fun h => by rcases h.1 with h | h | h <;> omega)); have k5 := cell_of_one (hB.row F.out.r5 (fun h => by rcases h.1 with h | h | h <;> omega)); have k6 := cell_of_one (hB.row F.out.r6 (fun h => by rcases h.1 with h | h | h <;> omega)); (go_simp <;> with_reducible rfl)
              try simp only [Act.put, List.setIfInBounds_toArray, List.set_cons_zero, List.set_cons_succ]
              refine wpAnyH_ready (rs := [3]) (by kernel_rfl) (by simp) (AllReadyH.cons (o := ⟨none, _, _, _, _, _⟩) rfl (fun K hK => ?_) AllReadyH.nil)
              have k4 := cell_of_one F.out.r1
              have f4 := frozen_of_row _ (z + 1) 0 _ _ F.out.r1
              replace hS := hS.setRow F.out.r1 ⟨.inl rfl, rfl⟩ 0 (.pointer (pa s'))
              have y1 := heap_setCell_same _ (z + 1) 0 _ _ (.pointer (pa s')) F.out.r1
              have y2 := (Below.heap_setCell wc ⟨z + 1, 0, none⟩ (.pointer (pa s')) (z + 1 + 1) (by dsimp only; omega)).trans F.out.r2
              have y3 := (Below.heap_setCell wc ⟨z + 1, 0, none⟩ (.pointer (pa s')) (z + 1 + 1 + 1) (by dsimp only; omega)).trans F.out.r3
              have Y1 := Lib.hid y1
              have Y2 := Lib.hid y2
              have Y3 := Lib.hid y3
              clear y1 y2 y3
              go_simp
              refine hK.out _ _ hS (fun _ => ?_)
              clear hK K k4 f4
              try simp only [Act.put, List.setIfInBounds_toArray, List.set_cons_zero, List.set_cons_succ]
              refine wpAnyH_ready (rs := [4]) (by kernel_rfl) (by simp) (AllReadyH.cons (o := ⟨none, _, _, _, _, _⟩) rfl (fun K hK => ?_) AllReadyH.nil)
              have k4 := cell_of_one Y2.out
              have f4 := frozen_of_row _ (z + 1 + 1) 0 _ _ Y2.out
              replace hS := hS.setRow Y2.out ⟨.inr (.inl rfl), rfl⟩ 0 (.pointer (pa a))
              have y1 := (Below.heap_setCell _ ⟨z + 1 + 1, 0, none⟩ (.pointer (pa a)) (z + 1) (by dsimp only; omega)).trans Y1.out
              have y3 := (Below.heap_setCell _ ⟨z + 1 + 1, 0, none⟩ (.pointer (pa a)) (z + 1 + 1 + 1) (by dsimp only; omega)).trans Y3.out
              have y2 := heap_setCell_same _ (z + 1 + 1) 0 _ _ (.pointer (pa a)) Y2.out
              replace Y1 := Lib.hid y1
              replace Y2 := Lib.hid y2
              replace Y3 := Lib.hid y3
              clear y1 y2 y3
              go_simp
              refine hK.out _ _ hS (fun _ => ?_)
              clear hK K k4 f4
              try simp only [Act.put, List.setIfInBounds_toArray, List.set_cons_zero, List.set_cons_succ]
              refine wpAnyH_ready (rs := [5]) (by kernel_rfl) (by simp) (AllReadyH.cons (o := ⟨none, _, _, _, _, _⟩) rfl (fun K hK => ?_) AllReadyH.nil)
              have k4 := cell_of_one Y3.out
              have f4 := frozen_of_row _ (z + 1 + 1 + 1) 0 _ _ Y3.out
              replace hS := hS.setRow Y3.out ⟨.inr (.inr rfl), rfl⟩ 0 (.pointer (pa b'))
              have y1 := (Below.heap_setCell _ ⟨z + 1 + 1 + 1, 0, none⟩ (.pointer (pa b')) (z + 1) (by dsimp only; omega)).trans Y1.out
              have y2 := (Below.heap_setCell _ ⟨z + 1 + 1 + 1, 0, none⟩ (.pointer (pa b')) (z + 1 + 1) (by dsimp only; omega)).trans Y2.out
              have y3 := heap_setCell_same _ (z + 1 + 1 + 1) 0 _ _ (.pointer (pa b')) Y3.out
              replace Y1 := Lib.hid y1
              replace Y2 := Lib.hid y2
              replace Y3 := Lib.hid y3
              clear y1 y2 y3
              go_simp
              refine hK.out _ _ hS (fun _ => ?_)
              clear hK K k4 f4
              try simp only [Act.put, List.setIfInBounds_toArray, List.set_cons_zero, List.set_cons_succ]
              refine wpAnyH_done (by kernel_rfl) (NoPanic.normal ?_) _
              have HSE := Lib.hid hS
              clear hS
              go_wp2_with fail
              have y1 := Y1.out
              have y2 := Y2.out
              have y3 := Y3.out
              simp only [List.setIfInBounds_toArray, List.set_cons_zero] at y1 y2 y3
              have c1 := cell_of_one y1
              have c2 := cell_of_one y2
              have c3 := cell_of_one y3
              have nn : ∀ k, ¬ threeX z k 77 := fun k h => absurd h.2 (by decide)
              refine bodyPost_ret (v := .tuple #[.agg #[.pointer (pa s')], .agg #[.pointer (pa a)], .agg #[.pointer (pa b')]]) (by simp [results, Try.results9, go_sem, c1, c2, c3]) rfl ?_
              refine ⟨s', a, b', rfl, F.out.gs, F.out.ga, F.out.gb, hsz, haz, by omega, F.out.ts.keepX HSE.out nn, F.out.ta.keepX HSE.out nn, F.out.tb.keepX HSE.out nn, ?_⟩
              have h := ((KeepX.ofBelow (Ex := threeX z) (F.out.bl.mono (Nat.le_of_eq hz0))).trans HSE.out).toBelow (fun k t hk h => by rw [hz0] at hk; rcases h.1 with h | h | h <;> omega)
              exact h
end Go.Proofs.Ytdodkhhlbjamhaa

