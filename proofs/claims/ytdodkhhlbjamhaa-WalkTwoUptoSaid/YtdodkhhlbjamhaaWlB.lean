
/- Walks of law 08: change. -/
import Derived.Test.YtdodkhhlbjamhaaWlA
import Derived.Test.YtdodkhhlbjamhaaWkEI
namespace Go.Proofs.Ytdodkhhlbjamhaa
open Go.RowKit Pm
/-- A map as the law makes it: each key's value is its length. -/
def Gd (t : Tr Int) : Prop := Bal t ∧ Srt (items t) ∧ ∀ x ∈ items t, x.2 = (x.1.size : Int)
theorem gd_nil : Gd .nil := ⟨trivial, List.Pairwise.nil, fun x hx => by cases hx⟩
theorem gd_put {N : Nat} {k : ByteArray} {t t' : Tr Int} (h : PutR N k (k.size : Int) t t') (hg : Gd t) : Gd t' ∧ sz t' ≤ sz t + 1 := by
  obtain ⟨h1, h2, h3⟩ := hg
  have hi := h.items h2
  refine ⟨⟨(h.bal h1).1, by rw [hi]; exact ins_srt h2, fun x hx => ?_⟩, ?_⟩
  · rw [hi] at hx
    rcases ins_mem hx with rfl | hx
    · rfl
    · exact h3 x hx
  · rw [← sz_items, ← sz_items t, hi]; exact ins_length _
theorem gd_take {N : Nat} {k : ByteArray} {t t' : Tr Int} (h : (seek k t = .nil ∧ t' = t) ∨ (seek k t ≠ .nil ∧ TakeR N k t t')) (hg : Gd t) : Gd t' ∧ sz t' ≤ sz t := by
  rcases h with ⟨_, rfl⟩ | ⟨_, h⟩
  · exact ⟨hg, Nat.le_refl _⟩
  · obtain ⟨h1, h2, h3⟩ := hg
    have hi := h.items h2
    refine ⟨⟨(h.bal h1).1, by rw [hi]; exact del_srt h2, fun x hx => ?_⟩, ?_⟩
    · rw [hi] at hx; exact h3 x (List.mem_filter.1 hx).1
    · rw [← sz_items, ← sz_items t, hi]; exact List.length_filter_le _ _
def strV (l : List ByteArray) : List Value := l.map .string
def intV (l : List Int) : List Value := l.map (.int .i64)
set_option maxRecDepth 100000 in
set_option maxHeartbeats 4000000 in
theorem wl_change (m : Tr Int) (put keys : List ByteArray) (take : List Int) (ap at' ak : Option Addr) (cp ct ck : Nat) (w : World) (hm : AtI w m) (hg : Gd m) (hp : CellsAt w ap (strV put)) (ht : CellsAt w at' (intV take)) (hk : CellsAt w ak (strV keys))
    (hpn : put.length ≤ 1073741824) (htn : take.length ≤ 1073741824) (hkn : keys.length ≤ 1073741824) (hmz : sz m ≤ 1073741824) :
    Calls Try.prog 26 #[.agg #[.pointer (pa m)], .slice ap put.length cp, .slice at' take.length ct, .slice ak keys.length ck] w fun e w' => ∃ t : Tr Int, e = .returned (.agg #[.pointer (pa t)]) ∧ Gd t ∧ sz t ≤ sz m + put.length ∧ AtI w' t ∧ Below w.heap.size w w' := by
  obtain ⟨z, hz0⟩ : ∃ z, w.heap.size = z := ⟨_, rfl⟩
  obtain ⟨w1, hw1⟩ : ∃ w1, allocs w [.cells #[.pointer (pa m)] 29, .cells #[.pointer none] 29] = w1 := ⟨_, rfl⟩
  have hb : Below w.heap.size w w1 := by rw [← hw1]; exact allocs_below _ _
  have hx : ∀ i ob, [Obj.cells #[.pointer (pa m)] 29, .cells #[.pointer none] 29][i]? = some ob → w1.heap[z + i]? = some ob := fun i ob h => by have := allocs_get _ w i ob h; rw [hw1, hz0] at this; exact this
  have x0 : w1.heap[z]? = some (.cells #[.pointer (pa m)] 29 (0, 0)) := hx 0 _ rfl
  have x1 : w1.heap[z + 1]? = some (.cells #[.pointer none] 29 (0, 0)) := hx 1 _ rfl
  have hW : (w.alloc (.cells #[.pointer (pa m)] 29)).alloc (.cells #[.pointer none] 29) = w1 := hw1
  have X0 := Lib.hid x0
  have X1 := Lib.hid x1
  have M1 := Lib.hid (hm.below hb rfl)
  have HP := Lib.hid hp
  have HT := Lib.hid ht
  have HK := Lib.hid hk
  have HG := Lib.hid hg
  have B1 := Lib.hid hb
  have HW := Lib.hid hW
  clear hm hg hp ht hk hb hx x0 x1 hw1 hW
  obtain ⟨n1, hn1⟩ : ∃ n, put.length = n := ⟨_, rfl⟩
  obtain ⟨n2, hn2⟩ : ∃ n, take.length = n := ⟨_, rfl⟩
  obtain ⟨n3, hn3⟩ : ∃ n, keys.length = n := ⟨_, rfl⟩
  have N1 := Lib.hid hn1
  have N2 := Lib.hid hn2
  have N3 := Lib.hid hn3
  rw [hn1] at hpn ⊢
  rw [hn2] at htn ⊢
  rw [hn3] at hkn ⊢
  clear hn1 hn2 hn3
  go_enter Try.func26, Try.ntmps26
  go_wp2_with fail
  try rw [HW.out]
  go_loopw [9] (fun u wr => ∃ (i : Nat) (s : Tr Int), u = .int .i64 (i : Int) ∧ i ≤ n2 ∧ Hid (sz s ≤ sz m) ∧ Hid (AtI wr s) ∧ Hid (Gd s) ∧ Hid (wr.heap[z]? = some (.cells #[.pointer (pa s)] 29 (0, 0))) ∧ Hid (wr.heap[z + 1]? = some (.cells #[.pointer none] 29 (0, 0))) ∧ Hid (Below w.heap.size w wr)) (fun u _ => n2 - (intOf u).toNat)
  case atStart => exact ⟨0, m, rfl, Nat.zero_le _, Lib.hid (Nat.le_refl _), M1, HG, X0, X1, B1⟩
  case round =>
    clear X0 X1 B1 M1
    obtain ⟨i, s, rfl, hi, HZ, HA, HS, X0, X1, HB⟩ := hrel
    have k0 := cell_of_one X0.out
    by_cases hlt : i < n2
    · have hli : (i : Int) < (n2 : Int) := by omega
      have hil : i < take.length := by rw [N2.out]; exact hlt
      obtain ⟨j, hj⟩ : ∃ j, take[i]'hil = j := ⟨_, rfl⟩
      have hjs : take[i]? = some j := by rw [List.getElem?_eq_getElem hil, hj]
      obtain ⟨bt, ot, hat, hct⟩ := (HT.out.below HB.out rfl).get i (.int .i64 j) (by simp [intV, hjs])
      subst hat
      have HCT := Lib.hid hct
      clear hjs hj
      by_cases hj0 : 0 ≤ j ∧ j < (n3 : Int)
      · obtain ⟨jn, rfl⟩ : ∃ jn : Nat, j = (jn : Int) := ⟨j.toNat, by omega⟩
        have hjn : jn < keys.length := by rw [N3.out]; omega
        have hj1 : (jn : Int) < (n3 : Int) := hj0.2
        have hj2 : 0 ≤ (jn : Int) := hj0.1
        have hj3 : jn < n3 := by omega
        obtain ⟨q, hq⟩ : ∃ q, keys[jn]'hjn = q := ⟨_, rfl⟩
        have hqs : keys[jn]? = some q := by rw [List.getElem?_eq_getElem hjn, hq]
        obtain ⟨bk, ok, hak, hck⟩ := (HK.out.below HB.out rfl).get jn (.string q) (by simp [strV, hqs])
        subst hak
        have HCK := Lib.hid hck
        clear hqs hq hck hj0
        have ct := HCT.out
        have HC : Hid (Chain [wr] wr) := Lib.hid (Chain.one wr)
        have hzs := HZ.out
        have hbw := HB.out.size
        go_wp2_with fail
        clear k0 ct
        refine wp_region_noPanic ?_
        refine region_tail (S := fun w' => Below wr.heap.size wr w') [9] (by kernel_rfl) (Below.refl _ _).drew (fun hS => ?_)
        refine anyT_take (i := 0) (oi := ⟨some 31, _, _, _, _, _⟩) (v := ?_) rfl (by kernel_rfl) (by kernel_rfl) (by rfl) (fun _ _ _ h => h) (by kernel_rfl) (by kernel_rfl) (Or.inl ⟨by rfl, ?_⟩) hS ?_
        rotate_left 1
        · intro w' hB; have hd := (HC.out.to wr (by simp)).trans (hB.mono (HC.out.to wr (by simp)).size); have k1 := cell_of_one (boxStays X0.out hd); have c2 := (hd.cell (p := ⟨bt, ot + i, none⟩) (block_lt_of_cell HCT.out)).trans HCT.out; have c3 := (hd.cell (p := ⟨bk, ok + jn, none⟩) (block_lt_of_cell HCK.out)).trans HCK.out; clear hd; (go_simp <;> with_reducible rfl)
        try simp only [Act.put, List.setIfInBounds_toArray, List.set_cons_zero, List.set_cons_succ]
        refine anyT_take (i := 1) (oi := ⟨some 32, _, _, _, _, _⟩) (v := ?_) rfl (by kernel_rfl) (by kernel_rfl) (by rfl) (fun _ _ _ h => h) (by kernel_rfl) (by kernel_rfl) (Or.inl ⟨by rfl, ?_⟩) hS ?_
        rotate_left 1
        · intro w' hB; have hd := (HC.out.to wr (by simp)).trans (hB.mono (HC.out.to wr (by simp)).size); have k1 := cell_of_one (boxStays X0.out hd); have c2 := (hd.cell (p := ⟨bt, ot + i, none⟩) (block_lt_of_cell HCT.out)).trans HCT.out; have c3 := (hd.cell (p := ⟨bk, ok + jn, none⟩) (block_lt_of_cell HCK.out)).trans HCK.out; clear hd; (go_simp <;> with_reducible rfl)
        try simp only [Act.put, List.setIfInBounds_toArray, List.set_cons_zero, List.set_cons_succ]
        refine anyT_take (i := 2) (oi := ⟨some 33, _, _, _, _, _⟩) (v := ?_) rfl (by kernel_rfl) (by kernel_rfl) (by rfl) (fun _ _ _ h => h) (by kernel_rfl) (by kernel_rfl) (Or.inl ⟨by rfl, ?_⟩) hS ?_
        rotate_left 1
        · intro w' hB; have hd := (HC.out.to wr (by simp)).trans (hB.mono (HC.out.to wr (by simp)).size); have k1 := cell_of_one (boxStays X0.out hd); have c2 := (hd.cell (p := ⟨bt, ot + i, none⟩) (block_lt_of_cell HCT.out)).trans HCT.out; have c3 := (hd.cell (p := ⟨bk, ok + jn, none⟩) (block_lt_of_cell HCK.out)).trans HCK.out; clear hd; (go_simp <;> with_reducible rfl)
        try simp only [Act.put, List.setIfInBounds_toArray, List.set_cons_zero, List.set_cons_succ]
        refine anyT_take (i := 3) (oi := ⟨some 34, _, _, _, _, _⟩) (v := ?_) rfl (by kernel_rfl) (by kernel_rfl) (by rfl) (fun _ _ _ h => h) (by kernel_rfl) (by kernel_rfl) (Or.inl ⟨by rfl, ?_⟩) hS ?_
        rotate_left 1
        · intro w' hB; have hd := (HC.out.to wr (by simp)).trans (hB.mono (HC.out.to wr (by simp)).size); have k1 := cell_of_one (boxStays X0.out hd); have c2 := (hd.cell (p := ⟨bt, ot + i, none⟩) (block_lt_of_cell HCT.out)).trans HCT.out; have c3 := (hd.cell (p := ⟨bk, ok + jn, none⟩) (block_lt_of_cell HCK.out)).trans HCK.out; clear hd; (go_simp <;> with_reducible rfl)
        try simp only [Act.put, List.setIfInBounds_toArray, List.set_cons_zero, List.set_cons_succ]
        refine anyT_take (i := 4) (oi := ⟨some 35, _, _, _, _, _⟩) (v := ?_) rfl (by kernel_rfl) (by kernel_rfl) (by rfl) (fun _ _ _ h => h) (by kernel_rfl) (by kernel_rfl) (Or.inl ⟨by rfl, ?_⟩) hS ?_
        rotate_left 1
        · intro w' hB; have hd := (HC.out.to wr (by simp)).trans (hB.mono (HC.out.to wr (by simp)).size); have k1 := cell_of_one (boxStays X0.out hd); have c2 := (hd.cell (p := ⟨bt, ot + i, none⟩) (block_lt_of_cell HCT.out)).trans HCT.out; have c3 := (hd.cell (p := ⟨bk, ok + jn, none⟩) (block_lt_of_cell HCK.out)).trans HCK.out; clear hd; (go_simp <;> with_reducible rfl)
        try simp only [Act.put, List.setIfInBounds_toArray, List.set_cons_zero, List.set_cons_succ]
        refine anyT_take (i := 5) (oi := ⟨some 36, _, _, _, _, _⟩) (v := ?_) rfl (by kernel_rfl) (by kernel_rfl) (by rfl) (fun _ _ _ h => h) (by kernel_rfl) (by kernel_rfl) (Or.inl ⟨by rfl, ?_⟩) hS ?_
        rotate_left 1
        · intro w' hB; have hd := (HC.out.to wr (by simp)).trans (hB.mono (HC.out.to wr (by simp)).size); have k1 := cell_of_one (boxStays X0.out hd); have c2 := (hd.cell (p := ⟨bt, ot + i, none⟩) (block_lt_of_cell HCT.out)).trans HCT.out; have c3 := (hd.cell (p := ⟨bk, ok + jn, none⟩) (block_lt_of_cell HCK.out)).trans HCK.out; clear hd; (go_simp <;> with_reducible rfl)
        try simp only [Act.put, List.setIfInBounds_toArray, List.set_cons_zero, List.set_cons_succ]
        refine anyT_take (i := 6) (oi := ⟨some 37, _, _, _, _, _⟩) (v := ?_) rfl (by kernel_rfl) (by kernel_rfl) (by rfl) (fun _ _ _ h => h) (by kernel_rfl) (by kernel_rfl) (Or.inl ⟨by rfl, ?_⟩) hS ?_
        rotate_left 1
        · intro w' hB; have hd := (HC.out.to wr (by simp)).trans (hB.mono (HC.out.to wr (by simp)).size); have k1 := cell_of_one (boxStays X0.out hd); have c2 := (hd.cell (p := ⟨bt, ot + i, none⟩) (block_lt_of_cell HCT.out)).trans HCT.out; have c3 := (hd.cell (p := ⟨bk, ok + jn, none⟩) (block_lt_of_cell HCK.out)).trans HCK.out; clear hd; (go_simp <;> with_reducible rfl)
        try simp only [Act.put, List.setIfInBounds_toArray, List.set_cons_zero, List.set_cons_succ]
        refine anyT_take (i := 7) (oi := ⟨some 38, _, _, _, _, _⟩) (v := ?_) rfl (by kernel_rfl) (by kernel_rfl) (by rfl) (fun _ _ _ h => h) (by kernel_rfl) (by kernel_rfl) (Or.inl ⟨by rfl, ?_⟩) hS ?_
        rotate_left 1
        · intro w' hB; have hd := (HC.out.to wr (by simp)).trans (hB.mono (HC.out.to wr (by simp)).size); have k1 := cell_of_one (boxStays X0.out hd); have c2 := (hd.cell (p := ⟨bt, ot + i, none⟩) (block_lt_of_cell HCT.out)).trans HCT.out; have c3 := (hd.cell (p := ⟨bk, ok + jn, none⟩) (block_lt_of_cell HCK.out)).trans HCK.out; clear hd; (go_simp <;> with_reducible rfl)
        try simp only [Act.put, List.setIfInBounds_toArray, List.set_cons_zero, List.set_cons_succ]
        refine anyT_ready (rs := [8]) (by kernel_rfl) (by kernel_rfl) (by simp) (AllReadyT.cons (o := ⟨some 39, _, _, _, _, _⟩) rfl (by rfl) (fun K hK => ?_) AllReadyT.nil)
        go_simp
        refine (pm_MTakeI s q (w.heap.size) _ (by have := hS.size; omega) (HA.out.below (hS.mono (Nat.le_refl _)) rfl) (by omega)).mono ?_
        rintro e w3 ⟨t', hP, rfl, hA, hb⟩
        refine hK.out _ _ (hS.trans (hb.mono hS.size)) (fun _ => ?_)
        clear hK K
        have hB := hS.trans (hb.mono hS.size)
        refine anyT_now hB ?_
        clear hS
        have hS := Below.refl w3.heap.size w3
        replace HC := Lib.hid (HC.out.push hB)
        have P1 := Lib.hid hP
        have A1 := Lib.hid hA
        clear hP hA
        clear hB hb
        try simp only [Act.put, List.setIfInBounds_toArray, List.set_cons_zero, List.set_cons_succ]
        refine anyT_tail (by kernel_rfl) ?_
        (try clear hS)
        refine any_one (i := 9) (o := ⟨none, _, _, _, _, _⟩) (by kernel_rfl) rfl (by rfl) (fun K hK => ?_)
        have Y3 := Lib.hid (boxStays X0.out (HC.out.to wr (by simp)))
        have k1 := cell_of_one Y3.out
        have f1 := frozen_of_row _ z 0 _ _ Y3.out
        go_simp
        refine hK.out _ _ ?_
        clear hK K
        try simp only [Act.put, List.setIfInBounds_toArray, List.set_cons_zero, List.set_cons_succ]
        refine wpAny_done (by kernel_rfl) (NoPanic.normal ?_) _
        clear k1 f1
        have B3 : Hid (Below w.heap.size w w3) := Lib.hid (HB.out.trans ((HC.out.to wr (by simp)).mono HB.out.size))
        have Y4 := Lib.hid (boxStays X1.out (HC.out.to wr (by simp)))
        have z1 := heap_setCell_same w3 z 0 _ _ (.pointer (pa t')) Y3.out
        have Z1 : Hid ((w3.setCell ⟨z, 0, none⟩ (.pointer (pa t'))).heap[z]? = some (.cells #[.pointer (pa t')] 29 (0, 0))) := Lib.hid (by simpa using z1)
        clear z1
        go_wp2_with fail
        have hgt := gd_take P1.out HS.out
        refine ⟨⟨i + 1, t', by simp, by omega, Lib.hid (by have := hgt.2; omega), Lib.hid (A1.out.setBox Y3.out (by decide) 0 _), Lib.hid hgt.1, Z1, Lib.hid ((Below.heap_setCell _ _ _ _ (by simp)).trans Y4.out), Lib.hid (B3.out.setCell (p := ⟨z, 0, none⟩) (by simp; omega) _)⟩, ?_⟩
        · have q1 : (intOf (Value.int .i64 ((i : Int) + 1))).toNat = i + 1 := by simp [intOf]
          have q2 : (intOf (Value.int .i64 (i : Int))).toNat = i := by simp [intOf]
          rw [q1, q2]; omega
      · have ct := HCT.out
        by_cases hjn : 0 ≤ j
        · have hj1 : ¬ j < (n3 : Int) := fun h => hj0 ⟨hjn, h⟩
          go_wp2_with fail
          refine ⟨⟨i + 1, s, by simp, by omega, HZ, HA, HS, X0, X1, HB⟩, ?_⟩
          · have q1 : (intOf (Value.int .i64 ((i : Int) + 1))).toNat = i + 1 := by simp [intOf]
            have q2 : (intOf (Value.int .i64 (i : Int))).toNat = i := by simp [intOf]
            rw [q1, q2]; omega
        · go_wp2_with fail
          refine ⟨⟨i + 1, s, by simp, by omega, HZ, HA, HS, X0, X1, HB⟩, ?_⟩
          · have q1 : (intOf (Value.int .i64 ((i : Int) + 1))).toNat = i + 1 := by simp [intOf]
            have q2 : (intOf (Value.int .i64 (i : Int))).toNat = i := by simp [intOf]
            rw [q1, q2]; omega
    · have hli : ¬ (i : Int) < (n2 : Int) := by omega
      clear k0
      go_wp2_with fail
      go_loopw [10] (fun u wr => ∃ (i : Nat) (s : Tr Int), u = .int .i64 (i : Int) ∧ i ≤ n1 ∧ Hid (sz s ≤ sz m + i) ∧ Hid (AtI wr s) ∧ Hid (Gd s) ∧ Hid (wr.heap[z]? = some (.cells #[.pointer (pa s)] 29 (0, 0))) ∧ Hid (wr.heap[z + 1]? = some (.cells #[.pointer none] 29 (0, 0))) ∧ Hid (Below w.heap.size w wr)) (fun u _ => n1 - (intOf u).toNat)
      case atStart => exact ⟨0, s, rfl, Nat.zero_le _, Lib.hid HZ.out, HA, HS, X0, X1, HB⟩
      case round =>
        clear X0 X1 HB HA HS HZ
        obtain ⟨i, s, rfl, hi, HZ, HA, HS, X0, X1, HB⟩ := hrel
        have k0 := cell_of_one X0.out
        by_cases hlt : i < n1
        · have hli : (i : Int) < (n1 : Int) := by omega
          have hil : i < put.length := by rw [N1.out]; exact hlt
          obtain ⟨q, hq⟩ : ∃ q, put[i]'hil = q := ⟨_, rfl⟩
          have hqs : put[i]? = some q := by rw [List.getElem?_eq_getElem hil, hq]
          obtain ⟨bk, ok, hak, hck⟩ := (HP.out.below HB.out rfl).get i (.string q) (by simp [strV, hqs])
          subst hak
          have HCK := Lib.hid hck
          clear hqs hq hck
          have HC : Hid (Chain [wr] wr) := Lib.hid (Chain.one wr)
          have hzs := HZ.out
          have hbw := HB.out.size
          go_wp2_with fail
          clear k0
          refine wp_region_noPanic ?_
          refine region_tail (S := fun w' => Below wr.heap.size wr w') [11] (by kernel_rfl) (Below.refl _ _).drew (fun hS => ?_)
          refine anyT_take (i := 0) (oi := ⟨some 46, _, _, _, _, _⟩) (v := ?_) rfl (by kernel_rfl) (by kernel_rfl) (by rfl) (fun _ _ _ h => h) (by kernel_rfl) (by kernel_rfl) (Or.inl ⟨by rfl, ?_⟩) hS ?_
          rotate_left 1
          · intro w' hB; have hd := (HC.out.to wr (by simp)).trans (hB.mono (HC.out.to wr (by simp)).size); have k1 := cell_of_one (boxStays X0.out hd); have c3 := (hd.cell (p := ⟨bk, ok + i, none⟩) (block_lt_of_cell HCK.out)).trans HCK.out; clear hd; (go_simp <;> with_reducible rfl)
          try simp only [Act.put, List.setIfInBounds_toArray, List.set_cons_zero, List.set_cons_succ]
          refine anyT_take (i := 1) (oi := ⟨some 47, _, _, _, _, _⟩) (v := ?_) rfl (by kernel_rfl) (by kernel_rfl) (by rfl) (fun _ _ _ h => h) (by kernel_rfl) (by kernel_rfl) (Or.inl ⟨by rfl, ?_⟩) hS ?_
          rotate_left 1
          · intro w' hB; have hd := (HC.out.to wr (by simp)).trans (hB.mono (HC.out.to wr (by simp)).size); have k1 := cell_of_one (boxStays X0.out hd); have c3 := (hd.cell (p := ⟨bk, ok + i, none⟩) (block_lt_of_cell HCK.out)).trans HCK.out; clear hd; (go_simp <;> with_reducible rfl)
          try simp only [Act.put, List.setIfInBounds_toArray, List.set_cons_zero, List.set_cons_succ]
          refine anyT_take (i := 2) (oi := ⟨some 48, _, _, _, _, _⟩) (v := ?_) rfl (by kernel_rfl) (by kernel_rfl) (by rfl) (fun _ _ _ h => h) (by kernel_rfl) (by kernel_rfl) (Or.inl ⟨by rfl, ?_⟩) hS ?_
          rotate_left 1
          · intro w' hB; have hd := (HC.out.to wr (by simp)).trans (hB.mono (HC.out.to wr (by simp)).size); have k1 := cell_of_one (boxStays X0.out hd); have c3 := (hd.cell (p := ⟨bk, ok + i, none⟩) (block_lt_of_cell HCK.out)).trans HCK.out; clear hd; (go_simp <;> with_reducible rfl)
          try simp only [Act.put, List.setIfInBounds_toArray, List.set_cons_zero, List.set_cons_succ]
          refine anyT_take (i := 3) (oi := ⟨some 49, _, _, _, _, _⟩) (v := ?_) rfl (by kernel_rfl) (by kernel_rfl) (by rfl) (fun _ _ _ h => h) (by kernel_rfl) (by kernel_rfl) (Or.inl ⟨by rfl, ?_⟩) hS ?_
          rotate_left 1
          · intro w' hB; have hd := (HC.out.to wr (by simp)).trans (hB.mono (HC.out.to wr (by simp)).size); have k1 := cell_of_one (boxStays X0.out hd); have c3 := (hd.cell (p := ⟨bk, ok + i, none⟩) (block_lt_of_cell HCK.out)).trans HCK.out; clear hd; (go_simp <;> with_reducible rfl)
          try simp only [Act.put, List.setIfInBounds_toArray, List.set_cons_zero, List.set_cons_succ]
          refine anyT_take (i := 4) (oi := ⟨some 50, _, _, _, _, _⟩) (v := ?_) rfl (by kernel_rfl) (by kernel_rfl) (by rfl) (fun _ _ _ h => h) (by kernel_rfl) (by kernel_rfl) (Or.inl ⟨by rfl, ?_⟩) hS ?_
          rotate_left 1
          · intro w' hB; have hd := (HC.out.to wr (by simp)).trans (hB.mono (HC.out.to wr (by simp)).size); have k1 := cell_of_one (boxStays X0.out hd); have c3 := (hd.cell (p := ⟨bk, ok + i, none⟩) (block_lt_of_cell HCK.out)).trans HCK.out; clear hd; (go_simp <;> with_reducible rfl)
          try simp only [Act.put, List.setIfInBounds_toArray, List.set_cons_zero, List.set_cons_succ]
          refine anyT_take (i := 5) (oi := ⟨some 51, _, _, _, _, _⟩) (v := ?_) rfl (by kernel_rfl) (by kernel_rfl) (by rfl) (fun _ _ _ h => h) (by kernel_rfl) (by kernel_rfl) (Or.inl ⟨by rfl, ?_⟩) hS ?_
          rotate_left 1
          · intro w' hB; have hd := (HC.out.to wr (by simp)).trans (hB.mono (HC.out.to wr (by simp)).size); have k1 := cell_of_one (boxStays X0.out hd); have c3 := (hd.cell (p := ⟨bk, ok + i, none⟩) (block_lt_of_cell HCK.out)).trans HCK.out; clear hd; (go_simp <;> with_reducible rfl)
          try simp only [Act.put, List.setIfInBounds_toArray, List.set_cons_zero, List.set_cons_succ]
          refine anyT_take (i := 6) (oi := ⟨some 52, _, _, _, _, _⟩) (v := ?_) rfl (by kernel_rfl) (by kernel_rfl) (by rfl) (fun _ _ _ h => h) (by kernel_rfl) (by kernel_rfl) (Or.inl ⟨by rfl, ?_⟩) hS ?_
          rotate_left 1
          · intro w' hB; have hd := (HC.out.to wr (by simp)).trans (hB.mono (HC.out.to wr (by simp)).size); have k1 := cell_of_one (boxStays X0.out hd); have c3 := (hd.cell (p := ⟨bk, ok + i, none⟩) (block_lt_of_cell HCK.out)).trans HCK.out; clear hd; (go_simp <;> with_reducible rfl)
          try simp only [Act.put, List.setIfInBounds_toArray, List.set_cons_zero, List.set_cons_succ]
          refine anyT_take (i := 7) (oi := ⟨some 53, _, _, _, _, _⟩) (v := ?_) rfl (by kernel_rfl) (by kernel_rfl) (by rfl) (fun _ _ _ h => h) (by kernel_rfl) (by kernel_rfl) (Or.inl ⟨by rfl, ?_⟩) hS ?_
          rotate_left 1
          · intro w' hB; have hd := (HC.out.to wr (by simp)).trans (hB.mono (HC.out.to wr (by simp)).size); have k1 := cell_of_one (boxStays X0.out hd); have c3 := (hd.cell (p := ⟨bk, ok + i, none⟩) (block_lt_of_cell HCK.out)).trans HCK.out; clear hd; (go_simp <;> with_reducible rfl)
          try simp only [Act.put, List.setIfInBounds_toArray, List.set_cons_zero, List.set_cons_succ]
          refine anyT_take (i := 8) (oi := ⟨some 54, _, _, _, _, _⟩) (v := ?_) rfl (by kernel_rfl) (by kernel_rfl) (by rfl) (fun _ _ _ h => h) (by kernel_rfl) (by kernel_rfl) (Or.inl ⟨by rfl, ?_⟩) hS ?_
          rotate_left 1
          · intro w' hB; have hd := (HC.out.to wr (by simp)).trans (hB.mono (HC.out.to wr (by simp)).size); have k1 := cell_of_one (boxStays X0.out hd); have c3 := (hd.cell (p := ⟨bk, ok + i, none⟩) (block_lt_of_cell HCK.out)).trans HCK.out; clear hd; (go_simp <;> with_reducible rfl)
          try simp only [Act.put, List.setIfInBounds_toArray, List.set_cons_zero, List.set_cons_succ]
          refine anyT_take (i := 9) (oi := ⟨some 55, _, _, _, _, _⟩) (v := ?_) rfl (by kernel_rfl) (by kernel_rfl) (by rfl) (fun _ _ _ h => h) (by kernel_rfl) (by kernel_rfl) (Or.inl ⟨by rfl, ?_⟩) hS ?_
          rotate_left 1
          · intro w' hB; have hd := (HC.out.to wr (by simp)).trans (hB.mono (HC.out.to wr (by simp)).size); have k1 := cell_of_one (boxStays X0.out hd); have c3 := (hd.cell (p := ⟨bk, ok + i, none⟩) (block_lt_of_cell HCK.out)).trans HCK.out; clear hd; (go_simp <;> with_reducible rfl)
          try simp only [Act.put, List.setIfInBounds_toArray, List.set_cons_zero, List.set_cons_succ]
          refine anyT_ready (rs := [10]) (by kernel_rfl) (by kernel_rfl) (by simp) (AllReadyT.cons (o := ⟨some 56, _, _, _, _, _⟩) rfl (by rfl) (fun K hK => ?_) AllReadyT.nil)
          go_simp
          refine (pm_MPutI s q (q.size : Int) (w.heap.size) _ (by have := hS.size; omega) (HA.out.below (hS.mono (Nat.le_refl _)) rfl) (by omega)).mono ?_
          rintro e w3 ⟨t', hP, rfl, hA, hb⟩
          refine hK.out _ _ (hS.trans (hb.mono hS.size)) (fun _ => ?_)
          clear hK K
          have hB := hS.trans (hb.mono hS.size)
          refine anyT_now hB ?_
          clear hS
          have hS := Below.refl w3.heap.size w3
          replace HC := Lib.hid (HC.out.push hB)
          have P1 := Lib.hid hP
          have A1 := Lib.hid hA
          clear hP hA
          clear hB hb
          try simp only [Act.put, List.setIfInBounds_toArray, List.set_cons_zero, List.set_cons_succ]
          refine anyT_tail (by kernel_rfl) ?_
          (try clear hS)
          refine any_one (i := 11) (o := ⟨none, _, _, _, _, _⟩) (by kernel_rfl) rfl (by rfl) (fun K hK => ?_)
          have Y3 := Lib.hid (boxStays X0.out (HC.out.to wr (by simp)))
          have k1 := cell_of_one Y3.out
          have f1 := frozen_of_row _ z 0 _ _ Y3.out
          go_simp
          refine hK.out _ _ ?_
          clear hK K
          try simp only [Act.put, List.setIfInBounds_toArray, List.set_cons_zero, List.set_cons_succ]
          refine wpAny_done (by kernel_rfl) (NoPanic.normal ?_) _
          clear k1 f1
          have B3 : Hid (Below w.heap.size w w3) := Lib.hid (HB.out.trans ((HC.out.to wr (by simp)).mono HB.out.size))
          have Y4 := Lib.hid (boxStays X1.out (HC.out.to wr (by simp)))
          have z1 := heap_setCell_same w3 z 0 _ _ (.pointer (pa t')) Y3.out
          have Z1 : Hid ((w3.setCell ⟨z, 0, none⟩ (.pointer (pa t'))).heap[z]? = some (.cells #[.pointer (pa t')] 29 (0, 0))) := Lib.hid (by simpa using z1)
          clear z1
          go_wp2_with fail
          have hgt := gd_put P1.out HS.out
          refine ⟨⟨i + 1, t', by simp, by omega, Lib.hid (by have := hgt.2; omega), Lib.hid (A1.out.setBox Y3.out (by decide) 0 _), Lib.hid hgt.1, Z1, Lib.hid ((Below.heap_setCell _ _ _ _ (by simp)).trans Y4.out), Lib.hid (B3.out.setCell (p := ⟨z, 0, none⟩) (by simp; omega) _)⟩, ?_⟩
          · have q1 : (intOf (Value.int .i64 ((i : Int) + 1))).toNat = i + 1 := by simp [intOf]
            have q2 : (intOf (Value.int .i64 (i : Int))).toNat = i := by simp [intOf]
            rw [q1, q2]; omega
        · have hli : ¬ (i : Int) < (n1 : Int) := by omega
          have f1 := frozen_of_row _ (z + 1) 0 _ _ X1.out
          have k1 := cell_of_one X1.out
          go_wp2_with fail
          have k3 := cell_of_one (heap_setCell_same wr (z + 1) 0 _ _ (.pointer (pa s)) X1.out)
          refine bodyPost_ret (v := .agg #[.pointer (pa s)]) (by simp [results, Try.results26, go_sem, k3]) rfl ?_
          exact ⟨s, rfl, HS.out, by have := HZ.out; omega, HA.out.setBox X1.out (by decide) 0 _, (HB.out.setCell (p := ⟨z + 1, 0, none⟩) (by simp; omega) _).mono (Nat.le_of_eq hz0.symm)⟩
end Go.Proofs.Ytdodkhhlbjamhaa

