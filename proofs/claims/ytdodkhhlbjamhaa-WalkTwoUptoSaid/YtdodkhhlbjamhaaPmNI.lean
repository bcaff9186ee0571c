
/- Walks: Of. -/
import Derived.Test.YtdodkhhlbjamhaaPmMI
import Derived.Test.YtdodkhhlbjamhaaCells
import Derived.Test.YtdodkhhlbjamhaaTail
namespace Go.Proofs.Ytdodkhhlbjamhaa
open Go.RowKit Pm
def kvalsI (kv : List (ByteArray × Int)) : List Value := kv.map fun x => .int .i64 x.2
def kkeysI (kv : List (ByteArray × Int)) : List Value := kv.map fun x => .string x.1
/-- What Of answers. -/
def OfOutI (kv : List (ByteArray × Int)) (w : World) (e : Ending) (w' : World) : Prop :=
  ∃ (t' : Tr Int) (n : Nat), ((ofL [] kv = some (items t') ∧ Bal t' ∧ Srt (items t') ∧ n = 0) ∨ (ofL [] kv = none ∧ t' = .nil ∧ n = 2)) ∧ e = .returned (.tuple #[.agg #[.pointer (pa t')], .int .i64 (n : Int)]) ∧ AtI w' t' ∧ Below w.heap.size w w'
theorem ofL_takeI (kv : List (ByteArray × Int)) : ∀ (acc : List (ByteArray × Int)) (i : Nat) (m : List (ByteArray × Int)), ofL acc (kv.take i) = some m → ofL acc kv = ofL m (kv.drop i) := by
  induction kv with
  | nil => intro acc i m h; simp [ofL] at h; simp [ofL, h]
  | cons x kv ih =>
    intro acc i m h
    cases i with
    | zero => simp [ofL] at h; simp [h]
    | succ i =>
      simp only [List.take_succ_cons, ofL] at h ⊢
      split at h
      · cases h
      · rename_i hx
        rw [if_neg hx]
        exact ih _ i m h
theorem ofL_snocI (xs : List (ByteArray × Int)) (x : ByteArray × Int) : ∀ (acc m : List (ByteArray × Int)), ofL acc xs = some m → (¬ ∃ y ∈ m, y.1 = x.1) → ofL acc (xs ++ [x]) = some (ins x.1 x.2 m) := by
  induction xs with
  | nil => intro acc m h hx; simp [ofL] at h; subst h; simp only [List.nil_append, ofL]; rw [if_neg hx]
  | cons y xs ih =>
    intro acc m h hx
    simp only [List.cons_append, ofL] at h ⊢
    split at h
    · cases h
    · rename_i hy
      rw [if_neg hy]
      exact ih _ m h hx
set_option maxRecDepth 100000 in
set_option maxHeartbeats 4000000 in
theorem pm_OfI (kv : List (ByteArray × Int)) (ak av : Option Addr) (ck cv : Nat) (w : World) (hk : CellsAt w ak (kkeysI kv)) (hv : CellsAt w av (kvalsI kv)) (hn : kv.length ≤ 1073741824) :
    Calls Try.prog 23 #[.slice ak kv.length ck, .slice av kv.length cv] w (OfOutI kv w) := by
  obtain ⟨w1, hw1⟩ : ∃ w1, (w.alloc (.cells #[.pointer none] 29)).alloc (.cells #[.pointer none] 29) = w1 := ⟨_, rfl⟩
  have hb : Below w.heap.size w w1 := by rw [← hw1]; exact ((Below.refl _ w).alloc (Nat.le_refl _) _).alloc (by simp) _
  have x0 : w1.heap[w.heap.size]? = some (.cells #[.pointer none] 29 (0, 0)) := by rw [← hw1]; exact boxStays (heap_alloc_new w _) (below_new _ _)
  have x1 : w1.heap[w.heap.size + 1]? = some (.cells #[.pointer none] 29 (0, 0)) := by rw [← hw1]; have := heap_alloc_new (w.alloc (.cells #[.pointer none] 29)) (.cells #[.pointer none] 29); simpa using this
  have X0 := Lib.hid x0
  have X1 := Lib.hid x1
  have HK0 := Lib.hid hk
  have HV0 := Lib.hid hv
  have HB := Lib.hid hb
  have HW := Lib.hid hw1
  have HW2 := Lib.hid (below_new w (.cells #[.pointer none] 29))
  clear hk hv hb hw1 x0 x1
  obtain ⟨n, hnn⟩ : ∃ n, kv.length = n := ⟨_, rfl⟩
  have HN := Lib.hid hnn
  rw [hnn] at hn ⊢
  clear hnn
  go_enter Try.func23, Try.ntmps23
  go_wp2_with fail
  rw [HW.out]
  go_loopw [19] (fun u wr => ∃ (i : Nat) (s : Tr Int), u = .int .i64 (i : Int) ∧ i ≤ n ∧ Hid (sz s ≤ i) ∧ Hid (AtI wr s) ∧ Hid (Bal s ∧ Srt (items s)) ∧ Hid (ofL [] (kv.take i) = some (items s)) ∧ Hid (wr.heap[w.heap.size]? = some (.cells #[.pointer none] 29 (0, 0))) ∧ Hid (wr.heap[w.heap.size + 1]? = some (.cells #[.pointer (pa s)] 29 (0, 0))) ∧ Hid (Below w.heap.size w wr)) (fun u _ => n - (intOf u).toNat)
  case atStart => exact ⟨0, .nil, rfl, Nat.zero_le _, Lib.hid (Nat.le_refl _), Lib.hid trivial, Lib.hid ⟨trivial, List.Pairwise.nil⟩, Lib.hid (by simp [ofL, items]), X0, X1, HB⟩
  case round =>
    clear X0 X1 HB
    obtain ⟨i, s, rfl, hi, HZ, HA, HS, HO, X0, X1, HB⟩ := hrel
    have HK := Lib.hid (HK0.out.below HB.out rfl)
    have HV := Lib.hid (HV0.out.below HB.out rfl)
    have f0 := frozen_of_row _ w.heap.size 0 _ _ X0.out
    have k0 := cell_of_one X0.out
    have f1 := frozen_of_row _ (w.heap.size + 1) 0 _ _ X1.out
    have k1 := cell_of_one X1.out
    by_cases hlt : i < n
    · have hli : (i : Int) < (n : Int) := by omega
      have hil : i < kv.length := by rw [HN.out]; exact hlt
      obtain ⟨⟨k, v⟩, hx⟩ : ∃ x, kv[i]'hil = x := ⟨_, rfl⟩
      have hxs : kv[i]? = some (k, v) := by rw [List.getElem?_eq_getElem hil, hx]
      obtain ⟨bk, ok, hak, hck⟩ := HK.out.get i (.string k) (by simp [kkeysI, hxs])
      obtain ⟨bv, ov, hav, hcv⟩ := HV.out.get i (.int .i64 v) (by simp [kvalsI, hxs])
      subst hak
      subst hav
      have HX := Lib.hid hxs
      have HCV := Lib.hid hcv
      clear hxs hx hcv
      go_wp2_with fail
      refine (pm_MGetI s k wr HA.out).mono ?_
      rintro e w2 ⟨rfl, hb⟩
      have B2 : Hid (Below w.heap.size w w2) := Lib.hid (HB.out.trans (hb.mono HB.out.size))
      have A2 := Lib.hid (HA.out.below hb rfl)
      have Y0 := Lib.hid (boxStays X0.out hb)
      have Y1 := Lib.hid (boxStays X1.out hb)
      have C2 : Hid (w2.cell? ⟨bv, ov + i, none⟩ = some (.int .i64 v)) := Lib.hid ((hb.cell (p := ⟨bv, ov + i, none⟩) (block_lt_of_cell HCV.out)).trans HCV.out)
      clear hb HA X0 X1 HK HV HCV f0 k0 f1 k1 hck HB
      have f0 := frozen_of_row _ w.heap.size 0 _ _ Y0.out
      have k0 := cell_of_one Y0.out
      have f1 := frozen_of_row _ (w.heap.size + 1) 0 _ _ Y1.out
      have k1 := cell_of_one Y1.out
      have hdrop : kv.drop i = (k, v) :: kv.drop (i + 1) := by rw [List.drop_eq_getElem_cons hil]; congr 1; have := HX.out; rw [List.getElem?_eq_getElem hil] at this; exact Option.some.inj this
      have HD := Lib.hid hdrop
      clear hdrop
      have hiff := seek_nil_iff (k := k) HS.out.2
      have HI := Lib.hid hiff
      clear hiff
      cases hsk : seek k s with
      | node b' l' k' v' r' =>
        have hi' : isNI (.node b' l' k' v' r' : Tr Int) = true := rfl
        have HSK : Hid (∃ y ∈ items s, y.1 = k) := Lib.hid (by
          by_cases h : ∃ y ∈ items s, y.1 = k
          · exact h
          · have := HI.out.2 h; rw [this] at hsk; cases hsk)
        clear hsk
        go_wp2_with fail
        have k3 := cell_of_one (heap_setCell_same w2 w.heap.size 0 _ _ (.pointer none) Y0.out)
        refine bodyPost_ret (v := .tuple #[.agg #[.pointer none], .int .i64 2]) (by simp [results, Try.results23, go_sem, k3]) rfl ?_
        refine ⟨.nil, 2, .inr ⟨?_, rfl, rfl⟩, rfl, trivial, B2.out.setCell (p := ⟨w.heap.size, 0, none⟩) (by simp) _⟩
        rw [ofL_takeI kv [] i _ HO.out, HD.out, ofL, if_pos HSK.out]
      | nil =>
        have hi' : isNI (.nil : Tr Int) = false := rfl
        have HSK : Hid (¬ ∃ y ∈ items s, y.1 = k) := Lib.hid (HI.out.1 hsk)
        clear hsk
        have HC : Hid (Chain [w2] w2) := Lib.hid (Chain.one w2)
        have hz := HZ.out
        go_wp2_with fail
        clear f0 k0 f1 k1
        refine wp_region_noPanic ?_
        refine region_tail (S := fun w' => Below w2.heap.size w2 w') [7] (by kernel_rfl) (Below.refl _ _).drew (fun hS => ?_)
        refine anyT_take (i := 0) (oi := ⟨some 32, _, _, _, _, _⟩) (v := ?_) rfl (by kernel_rfl) (by kernel_rfl) (by rfl) (fun _ _ _ h => h) (by kernel_rfl) (by kernel_rfl) (Or.inl ⟨by rfl, ?_⟩) hS ?_
        rotate_left 1
        · intro w' hB; have hd := (HC.out.to w2 (by simp)).trans (hB.mono (HC.out.to w2 (by simp)).size); have k1 := cell_of_one (boxStays Y1.out hd); have c2 := (hd.cell (p := ⟨bv, ov + i, none⟩) (block_lt_of_cell C2.out)).trans C2.out; clear hd; (go_simp <;> with_reducible rfl)
        try simp only [Act.put, List.setIfInBounds_toArray, List.set_cons_zero, List.set_cons_succ]
        refine anyT_take (i := 1) (oi := ⟨some 33, _, _, _, _, _⟩) (v := ?_) rfl (by kernel_rfl) (by kernel_rfl) (by rfl) (fun _ _ _ h => h) (by kernel_rfl) (by kernel_rfl) (Or.inl ⟨by rfl, ?_⟩) hS ?_
        rotate_left 1
        · intro w' hB; have hd := (HC.out.to w2 (by simp)).trans (hB.mono (HC.out.to w2 (by simp)).size); have k1 := cell_of_one (boxStays Y1.out hd); have c2 := (hd.cell (p := ⟨bv, ov + i, none⟩) (block_lt_of_cell C2.out)).trans C2.out; clear hd; (go_simp <;> with_reducible rfl)
        try simp only [Act.put, List.setIfInBounds_toArray, List.set_cons_zero, List.set_cons_succ]
        refine anyT_take (i := 2) (oi := ⟨some 34, _, _, _, _, _⟩) (v := ?_) rfl (by kernel_rfl) (by kernel_rfl) (by rfl) (fun _ _ _ h => h) (by kernel_rfl) (by kernel_rfl) (Or.inl ⟨by rfl, ?_⟩) hS ?_
        rotate_left 1
        · intro w' hB; have hd := (HC.out.to w2 (by simp)).trans (hB.mono (HC.out.to w2 (by simp)).size); have k1 := cell_of_one (boxStays Y1.out hd); have c2 := (hd.cell (p := ⟨bv, ov + i, none⟩) (block_lt_of_cell C2.out)).trans C2.out; clear hd; (go_simp <;> with_reducible rfl)
        try simp only [Act.put, List.setIfInBounds_toArray, List.set_cons_zero, List.set_cons_succ]
        refine anyT_take (i := 3) (oi := ⟨some 35, _, _, _, _, _⟩) (v := ?_) rfl (by kernel_rfl) (by kernel_rfl) (by rfl) (fun _ _ _ h => h) (by kernel_rfl) (by kernel_rfl) (Or.inl ⟨by rfl, ?_⟩) hS ?_
        rotate_left 1
        · intro w' hB; have hd := (HC.out.to w2 (by simp)).trans (hB.mono (HC.out.to w2 (by simp)).size); have k1 := cell_of_one (boxStays Y1.out hd); have c2 := (hd.cell (p := ⟨bv, ov + i, none⟩) (block_lt_of_cell C2.out)).trans C2.out; clear hd; (go_simp <;> with_reducible rfl)
        try simp only [Act.put, List.setIfInBounds_toArray, List.set_cons_zero, List.set_cons_succ]
        refine anyT_take (i := 4) (oi := ⟨some 36, _, _, _, _, _⟩) (v := ?_) rfl (by kernel_rfl) (by kernel_rfl) (by rfl) (fun _ _ _ h => h) (by kernel_rfl) (by kernel_rfl) (Or.inl ⟨by rfl, ?_⟩) hS ?_
        rotate_left 1
        · intro w' hB; have hd := (HC.out.to w2 (by simp)).trans (hB.mono (HC.out.to w2 (by simp)).size); have k1 := cell_of_one (boxStays Y1.out hd); have c2 := (hd.cell (p := ⟨bv, ov + i, none⟩) (block_lt_of_cell C2.out)).trans C2.out; clear hd; (go_simp <;> with_reducible rfl)
        try simp only [Act.put, List.setIfInBounds_toArray, List.set_cons_zero, List.set_cons_succ]
        refine anyT_take (i := 5) (oi := ⟨some 37, _, _, _, _, _⟩) (v := ?_) rfl (by kernel_rfl) (by kernel_rfl) (by rfl) (fun _ _ _ h => h) (by kernel_rfl) (by kernel_rfl) (Or.inl ⟨by rfl, ?_⟩) hS ?_
        rotate_left 1
        · intro w' hB; have hd := (HC.out.to w2 (by simp)).trans (hB.mono (HC.out.to w2 (by simp)).size); have k1 := cell_of_one (boxStays Y1.out hd); have c2 := (hd.cell (p := ⟨bv, ov + i, none⟩) (block_lt_of_cell C2.out)).trans C2.out; clear hd; (go_simp <;> with_reducible rfl)
        try simp only [Act.put, List.setIfInBounds_toArray, List.set_cons_zero, List.set_cons_succ]
        refine anyT_ready (rs := [6]) (by kernel_rfl) (by kernel_rfl) (by simp) (AllReadyT.cons (o := ⟨some 38, _, _, _, _, _⟩) rfl (by rfl) (fun K hK => ?_) AllReadyT.nil)
        go_simp
        refine (pm_MPutI s k v (w.heap.size) _ (by have := hS.size; have := B2.out.size; omega) (A2.out.chain HC.out hS (by simp)) (by omega)).mono ?_
        rintro e w3 ⟨t', hP, rfl, hA, hb⟩
        refine hK.out _ _ (hS.trans (hb.mono hS.size)) (fun _ => ?_)
        clear hK K
        have hB := hS.trans (hb.mono hS.size)
        refine anyT_now hB ?_
        clear hS
        have hS := Below.refl w3.heap.size w3
        replace HC := Lib.hid (HC.out.push hB)
        have P1 := Lib.hid hP
        have A1 := Lib.hid hA
        clear hP hA
        clear hB hb
        try simp only [Act.put, List.setIfInBounds_toArray, List.set_cons_zero, List.set_cons_succ]
        refine anyT_tail (by kernel_rfl) ?_
        (try clear hS)
        refine any_one (i := 7) (o := ⟨none, _, _, _, _, _⟩) (by kernel_rfl) rfl (by rfl) (fun K hK => ?_)
        have Y3 := Lib.hid (boxStays Y1.out (HC.out.to w2 (by simp)))
        have k1 := cell_of_one Y3.out
        have f1 := frozen_of_row _ (w.heap.size + 1) 0 _ _ Y3.out
        go_simp
        refine hK.out _ _ ?_
        clear hK K
        try simp only [Act.put, List.setIfInBounds_toArray, List.set_cons_zero, List.set_cons_succ]
        refine wpAny_done (by kernel_rfl) (NoPanic.normal ?_) _
        clear k1 f1
        have B3 : Hid (Below w.heap.size w w3) := Lib.hid (B2.out.trans ((HC.out.to w2 (by simp)).mono B2.out.size))
        have Y4 := Lib.hid (boxStays Y0.out (HC.out.to w2 (by simp)))
        have z1 := heap_setCell_same w3 (w.heap.size + 1) 0 _ _ (.pointer (pa t')) Y3.out
        have Z1 := Lib.hid z1
        clear z1
        go_wp2_with fail
        have hz3 := P1.out.sz_leI
        have hb3 := P1.out.bal HS.out.1
        have hi3 := P1.out.items HS.out.2
        refine ⟨⟨i + 1, t', by simp, by omega, Lib.hid (by omega), Lib.hid (A1.out.setBox Y3.out (by decide) 0 _), Lib.hid ⟨hb3.1, by rw [hi3]; exact ins_srt HS.out.2⟩, Lib.hid ?_, Lib.hid ((Below.heap_setCell _ _ _ _ (by simp)).trans Y4.out), Z1, Lib.hid (B3.out.setCell (p := ⟨w.heap.size + 1, 0, none⟩) (by simp) _)⟩, ?_⟩
        · rw [List.take_succ_eq_append_getElem hil, hi3]
          have hx : kv[i]'hil = (k, v) := by have := HX.out; rw [List.getElem?_eq_getElem hil] at this; exact Option.some.inj this
          rw [hx]
          exact ofL_snocI _ (k, v) _ _ HO.out HSK.out
        · have q1 : (intOf (Value.int .i64 ((i : Int) + 1))).toNat = i + 1 := by simp [intOf]
          have q2 : (intOf (Value.int .i64 (i : Int))).toNat = i := by simp [intOf]
          rw [q1, q2]; omega
    · have hli : ¬ (i : Int) < (n : Int) := by omega
      have hin : i = n := by omega
      have HIN := Lib.hid hin
      clear hin
      go_wp2_with fail
      have k3 := cell_of_one (heap_setCell_same wr w.heap.size 0 _ _ (.pointer (pa s)) X0.out)
      refine bodyPost_ret (v := .tuple #[.agg #[.pointer (pa s)], .int .i64 0]) (by simp [results, Try.results23, go_sem, k3]) rfl ?_
      refine ⟨s, 0, .inl ⟨?_, HS.out.1, HS.out.2, rfl⟩, rfl, HA.out.setBox X0.out (by decide) 0 _, HB.out.setCell (p := ⟨w.heap.size, 0, none⟩) (by simp) _⟩
      have := HO.out
      rw [HIN.out, ← HN.out, List.take_length] at this
      exact this
end Go.Proofs.Ytdodkhhlbjamhaa

