
/- Walks: the law's tells. -/
import Derived.Test.YtikdlhbamdefaaaLwF
import Derived.Test.YtikdlhbamdefaaaLwB
import Derived.Deep.Cut
namespace Go.Proofs.Ytikdlhbamdefaaa
open Go.RowKit Pm
set_option maxRecDepth 100000 in
set_option maxHeartbeats 8000000 in
theorem lw_tells (t : Tr Int) (a : Option Addr) (cap : Nat) (leave : Int) (key : ByteArray) (w : World) (ha : AtI w t) (hb : Bal t) (hs : Srt (items t)) (hc : CellsAt w a (entV (items t))) (hz : sz t ≤ 5000) (hcap : sz t ≤ cap) :
    Calls Try.prog 13 #[.agg #[.pointer (pa t)], .slice a (sz t) cap, .int .i64 leave, .string key] w fun e w' => e = .returned (.bool true) ∧ Below w.heap.size w w' := by
  have HA := Lib.hid ha
  have HB := Lib.hid hb
  have HS := Lib.hid hs
  have HC0 := Lib.hid hc
  have HH := ht_small hb hz
  obtain ⟨n, hn⟩ : ∃ n, sz t = n := ⟨_, rfl⟩
  obtain ⟨h, hh⟩ : ∃ h, ht t = h := ⟨_, rfl⟩
  have hzz : (sz t : Int) = (n : Int) := by rw [hn]
  have HN := Lib.hid hn
  have HHT := Lib.hid hh
  have DN := Lib.hid (below_new w (.cells #[.pointer (pa t)] 26))
  have x0 : (w.alloc (.cells #[.pointer (pa t)] 26)).heap[w.heap.size]? = some (.cells #[.pointer (pa t)] 26 (0, 0)) := heap_alloc_new w _
  have X0 := Lib.hid x0
  rw [hn] at hz hcap ⊢
  rw [hh] at HH
  clear ha hb hs hc hn hh hzz x0
  go_enter Try.func13, Try.ntmps13
  go_wp2_with fail
  refine (pm_MRootI t _).mono ?_
  rintro e w1 ⟨rfl, hb⟩
  have D1 : Hid (Below w.heap.size w w1) := Lib.hid (DN.out.trans (hb.mono (by simp)))
  have X1 := Lib.hid (boxStays X0.out hb)
  clear hb DN X0
  go_wp2_with fail
  have hw := lw_whole t 0 w1 (HA.out.below D1.out rfl) HB.out HS.out (by rw [HN.out]; omega) (by omega) (by rw [HHT.out]; omega)
  rw [HN.out, HHT.out] at hw
  refine hw.mono ?_
  clear hw
  rintro e w' ⟨rfl, rfl⟩
  go_wp2_with fail
  have HC : Hid (Chain [w1] w1) := Lib.hid (Chain.one w1)
  have S1 : Hid (w.heap.size ≤ w1.heap.size) := Lib.hid D1.out.size
  refine wp_region_noPanic ?_
  refine wp_region_held_drew (S := fun w' => Below w1.heap.size w1 w') (by kernel_rfl) (Below.refl _ _).drew (fun hS => ?_)
  refine wpAnyH_take (i := 0) (oi := ⟨some 37, _, _, _, _, _⟩) (v := ?_) rfl (by kernel_rfl) (by kernel_rfl) (by kernel_rfl) (fun _ _ _ h => h) (Or.inl ⟨by rfl, ?_⟩) hS ?_
  rotate_left 1
  · intro w' hB; have hd := (HC.out.to w1 (by simp)).trans (hB.mono (HC.out.to w1 (by simp)).size); have k4 := cell_of_one (boxStays X1.out hd); clear hd; (go_simp <;> with_reducible rfl)
  try simp only [Act.put, List.setIfInBounds_toArray, List.set_cons_zero, List.set_cons_succ]
  refine wpAnyH_take (i := 1) (oi := ⟨some 38, _, _, _, _, _⟩) (v := ?_) rfl (by kernel_rfl) (by kernel_rfl) (by kernel_rfl) (fun _ _ _ h => h) (Or.inl ⟨by rfl, ?_⟩) hS ?_
  rotate_left 1
  · intro w' hB; have hd := (HC.out.to w1 (by simp)).trans (hB.mono (HC.out.to w1 (by simp)).size); have k4 := cell_of_one (boxStays X1.out hd); clear hd; (go_simp <;> with_reducible rfl)
  try simp only [Act.put, List.setIfInBounds_toArray, List.set_cons_zero, List.set_cons_succ]
  refine wpAnyH_ready (rs := [2]) (by kernel_rfl) (by simp) (AllReadyH.cons (o := ⟨some 39, _, _, _, _, _⟩) rfl (fun K hK => ?_) AllReadyH.nil)
  go_simp
  refine (pm_MHeightI t _ ((HA.out.below D1.out rfl).chain HC.out hS (by simp))).mono ?_
  rintro e w2 ⟨rfl, hb⟩
  refine hK.out _ _ (hS.trans (hb.mono hS.size)) (fun _ => ?_)
  clear hK K
  have hB := hS.trans (hb.mono hS.size)
  refine wpAnyH_now hB ?_
  clear hS
  have hS := Below.refl w2.heap.size w2
  replace HC := Lib.hid (HC.out.push hB)
  rw [HHT.out]
  clear hB hb
  try simp only [Act.put, List.setIfInBounds_toArray, List.set_cons_zero, List.set_cons_succ]
  refine wpAnyH_take (i := 3) (oi := ⟨some 40, _, _, _, _, _⟩) (v := ?_) rfl (by kernel_rfl) (by kernel_rfl) (by kernel_rfl) (fun _ _ _ h => h) (Or.inl ⟨by rfl, ?_⟩) hS ?_
  rotate_left 1
  · intro w' hB; have hd := (HC.out.to w1 (by simp)).trans (hB.mono (HC.out.to w1 (by simp)).size); have k4 := cell_of_one (boxStays X1.out hd); clear hd; (go_simp <;> with_reducible rfl)
  try simp only [Act.put, List.setIfInBounds_toArray, List.set_cons_zero, List.set_cons_succ]
  refine wpAnyH_take (i := 4) (oi := ⟨some 41, _, _, _, _, _⟩) (v := ?_) rfl (by kernel_rfl) (by kernel_rfl) (by kernel_rfl) (fun _ _ _ h => h) (Or.inl ⟨by rfl, ?_⟩) hS ?_
  rotate_left 1
  · intro w' hB; have hd := (HC.out.to w1 (by simp)).trans (hB.mono (HC.out.to w1 (by simp)).size); have k4 := cell_of_one (boxStays X1.out hd); clear hd; (go_simp <;> with_reducible rfl)
  try simp only [Act.put, List.setIfInBounds_toArray, List.set_cons_zero, List.set_cons_succ]
  refine wpAnyH_take (i := 5) (oi := ⟨some 42, _, _, _, _, _⟩) (v := ?_) rfl (by kernel_rfl) (by kernel_rfl) (by kernel_rfl) (fun _ _ _ h => h) (Or.inl ⟨by rfl, ?_⟩) hS ?_
  rotate_left 1
  · intro w' hB; have hd := (HC.out.to w1 (by simp)).trans (hB.mono (HC.out.to w1 (by simp)).size); have k4 := cell_of_one (boxStays X1.out hd); clear hd; (go_simp <;> with_reducible rfl)
  try simp only [Act.put, List.setIfInBounds_toArray, List.set_cons_zero, List.set_cons_succ]
  refine wpAnyH_take (i := 6) (oi := ⟨some 43, _, _, _, _, _⟩) (v := ?_) rfl (by kernel_rfl) (by kernel_rfl) (by kernel_rfl) (fun _ _ _ h => h) (Or.inl ⟨by rfl, ?_⟩) hS ?_
  rotate_left 1
  · intro w' hB; have hd := (HC.out.to w1 (by simp)).trans (hB.mono (HC.out.to w1 (by simp)).size); have k4 := cell_of_one (boxStays X1.out hd); clear hd; (go_simp <;> with_reducible rfl)
  try simp only [Act.put, List.setIfInBounds_toArray, List.set_cons_zero, List.set_cons_succ]
  refine wpAnyH_take (i := 7) (oi := ⟨some 44, _, _, _, _, _⟩) (v := ?_) rfl (by kernel_rfl) (by kernel_rfl) (by kernel_rfl) (fun _ _ _ h => h) (Or.inl ⟨by rfl, ?_⟩) hS ?_
  rotate_left 1
  · intro w' hB; have hd := (HC.out.to w1 (by simp)).trans (hB.mono (HC.out.to w1 (by simp)).size); have k4 := cell_of_one (boxStays X1.out hd); clear hd; (go_simp <;> with_reducible rfl)
  try simp only [Act.put, List.setIfInBounds_toArray, List.set_cons_zero, List.set_cons_succ]
  refine wpAnyH_take (i := 8) (oi := ⟨some 45, _, _, _, _, _⟩) (v := ?_) rfl (by kernel_rfl) (by kernel_rfl) (by kernel_rfl) (fun _ _ _ h => h) (Or.inl ⟨by rfl, ?_⟩) hS ?_
  rotate_left 1
  · intro w' hB; have hd := (HC.out.to w1 (by simp)).trans (hB.mono (HC.out.to w1 (by simp)).size); have k4 := cell_of_one (boxStays X1.out hd); clear hd; (go_simp <;> with_reducible rfl)
  try simp only [Act.put, List.setIfInBounds_toArray, List.set_cons_zero, List.set_cons_succ]
  refine wpAnyH_take (i := 9) (oi := ⟨some 46, _, _, _, _, _⟩) (v := ?_) rfl (by kernel_rfl) (by kernel_rfl) (by kernel_rfl) (fun _ _ _ h => h) (Or.inl ⟨by rfl, ?_⟩) hS ?_
  rotate_left 1
  · intro w' hB; have hd := (HC.out.to w1 (by simp)).trans (hB.mono (HC.out.to w1 (by simp)).size); have k4 := cell_of_one (boxStays X1.out hd); clear hd; (go_simp <;> with_reducible rfl)
  try simp only [Act.put, List.setIfInBounds_toArray, List.set_cons_zero, List.set_cons_succ]
  refine wpAnyH_take (i := 10) (oi := ⟨some 47, _, _, _, _, _⟩) (v := ?_) rfl (by kernel_rfl) (by kernel_rfl) (by kernel_rfl) (fun _ _ _ h => h) (Or.inl ⟨by rfl, ?_⟩) hS ?_
  rotate_left 1
  · intro w' hB; have hd := (HC.out.to w1 (by simp)).trans (hB.mono (HC.out.to w1 (by simp)).size); have k4 := cell_of_one (boxStays X1.out hd); clear hd; (go_simp <;> with_reducible rfl)
  try simp only [Act.put, List.setIfInBounds_toArray, List.set_cons_zero, List.set_cons_succ]
  refine wpAnyH_take (i := 11) (oi := ⟨some 48, _, _, _, _, _⟩) (v := ?_) rfl (by kernel_rfl) (by kernel_rfl) (by kernel_rfl) (fun _ _ _ h => h) (Or.inl ⟨by rfl, ?_⟩) hS ?_
  rotate_left 1
  · intro w' hB; have hd := (HC.out.to w1 (by simp)).trans (hB.mono (HC.out.to w1 (by simp)).size); have k4 := cell_of_one (boxStays X1.out hd); clear hd; (go_simp <;> with_reducible rfl)
  try simp only [Act.put, List.setIfInBounds_toArray, List.set_cons_zero, List.set_cons_succ]
  refine wpAnyH_take (i := 13) (oi := ⟨some 50, _, _, _, _, _⟩) (v := ?_) rfl (by kernel_rfl) (by kernel_rfl) (by kernel_rfl) (fun _ _ _ h => h) (Or.inl ⟨by rfl, ?_⟩) hS ?_
  rotate_left 1
  · intro w' hB; have hd := (HC.out.to w1 (by simp)).trans (hB.mono (HC.out.to w1 (by simp)).size); have k4 := cell_of_one (boxStays X1.out hd); clear hd; (go_simp <;> with_reducible rfl)
  try simp only [Act.put, List.setIfInBounds_toArray, List.set_cons_zero, List.set_cons_succ]
  refine wpAnyH_take (i := 14) (oi := ⟨some 51, _, _, _, _, _⟩) (v := ?_) rfl (by kernel_rfl) (by kernel_rfl) (by kernel_rfl) (fun _ _ _ h => h) (Or.inl ⟨by rfl, ?_⟩) hS ?_
  rotate_left 1
  · intro w' hB; have hd := (HC.out.to w1 (by simp)).trans (hB.mono (HC.out.to w1 (by simp)).size); have k4 := cell_of_one (boxStays X1.out hd); clear hd; (go_simp <;> with_reducible rfl)
  try simp only [Act.put, List.setIfInBounds_toArray, List.set_cons_zero, List.set_cons_succ]
  refine wpAnyH_ready (rs := [12]) (by kernel_rfl) (by simp) (AllReadyH.cons (o := ⟨some 49, _, _, _, _, _⟩) rfl (fun K hK => ?_) AllReadyH.nil)
  go_simp
  refine (pm_MLenI t _ ((HA.out.below D1.out rfl).chain HC.out hS (by simp))).mono ?_
  rintro e w3 ⟨rfl, hb⟩
  refine hK.out _ _ (hS.trans (hb.mono hS.size)) (fun _ => ?_)
  clear hK K
  have hB := hS.trans (hb.mono hS.size)
  refine wpAnyH_now hB ?_
  clear hS
  have hS := Below.refl w3.heap.size w3
  replace HC := Lib.hid (HC.out.push hB)
  rw [HN.out]
  clear hB hb
  try simp only [Act.put, List.setIfInBounds_toArray, List.set_cons_zero, List.set_cons_succ]
  refine wpAnyH_take (i := 15) (oi := ⟨some 52, _, _, _, _, _⟩) (v := ?_) rfl (by kernel_rfl) (by kernel_rfl) (by kernel_rfl) (fun _ _ _ h => h) (Or.inl ⟨by rfl, ?_⟩) hS ?_
  rotate_left 1
  · intro w' hB; have hd := (HC.out.to w1 (by simp)).trans (hB.mono (HC.out.to w1 (by simp)).size); have k4 := cell_of_one (boxStays X1.out hd); clear hd; (go_simp <;> with_reducible rfl)
  try simp only [Act.put, List.setIfInBounds_toArray, List.set_cons_zero, List.set_cons_succ]
  refine wpAnyH_take (i := 16) (oi := ⟨some 53, _, _, _, _, _⟩) (v := ?_) rfl (by kernel_rfl) (by kernel_rfl) (by kernel_rfl) (fun _ _ _ h => h) (Or.inl ⟨by rfl, ?_⟩) hS ?_
  rotate_left 1
  · intro w' hB; have hd := (HC.out.to w1 (by simp)).trans (hB.mono (HC.out.to w1 (by simp)).size); have k4 := cell_of_one (boxStays X1.out hd); clear hd; (go_simp <;> with_reducible rfl)
  try simp only [Act.put, List.setIfInBounds_toArray, List.set_cons_zero, List.set_cons_succ]
  refine wpAnyH_take (i := 17) (oi := ⟨some 54, _, _, _, _, _⟩) (v := ?_) rfl (by kernel_rfl) (by kernel_rfl) (by kernel_rfl) (fun _ _ _ h => h) (Or.inl ⟨by rfl, ?_⟩) hS ?_
  rotate_left 1
  · intro w' hB; have hd := (HC.out.to w1 (by simp)).trans (hB.mono (HC.out.to w1 (by simp)).size); have k4 := cell_of_one (boxStays X1.out hd); clear hd; (go_simp <;> with_reducible rfl)
  try simp only [Act.put, List.setIfInBounds_toArray, List.set_cons_zero, List.set_cons_succ]
  refine wpAnyH_take (i := 18) (oi := ⟨some 55, _, _, _, _, _⟩) (v := ?_) rfl (by kernel_rfl) (by kernel_rfl) (by kernel_rfl) (fun _ _ _ h => h) (Or.inl ⟨by rfl, ?_⟩) hS ?_
  rotate_left 1
  · intro w' hB; have hd := (HC.out.to w1 (by simp)).trans (hB.mono (HC.out.to w1 (by simp)).size); have k4 := cell_of_one (boxStays X1.out hd); clear hd; (go_simp <;> with_reducible rfl)
  try simp only [Act.put, List.setIfInBounds_toArray, List.set_cons_zero, List.set_cons_succ]
  refine wpAnyH_take (i := 21) (oi := ⟨some 58, _, _, _, _, _⟩) (v := ?_) rfl (by kernel_rfl) (by kernel_rfl) (by kernel_rfl) (fun _ _ _ h => h) (Or.inl ⟨by rfl, ?_⟩) hS ?_
  rotate_left 1
  · intro w' hB; have hd := (HC.out.to w1 (by simp)).trans (hB.mono (HC.out.to w1 (by simp)).size); have k4 := cell_of_one (boxStays X1.out hd); clear hd; (go_simp <;> with_reducible rfl)
  try simp only [Act.put, List.setIfInBounds_toArray, List.set_cons_zero, List.set_cons_succ]
  refine wpAnyH_ready (rs := [19]) (by kernel_rfl) (by simp) (AllReadyH.cons (o := ⟨some 56, _, _, _, _, _⟩) rfl (fun K hK => ?_) AllReadyH.nil)
  go_simp
  refine (pm_MRootI t _).mono ?_
  rintro e w4 ⟨rfl, hb⟩
  refine hK.out _ _ (hS.trans (hb.mono hS.size)) (fun _ => ?_)
  clear hK K
  have hB := hS.trans (hb.mono hS.size)
  refine wpAnyH_now hB ?_
  clear hS
  have hS := Below.refl w4.heap.size w4
  replace HC := Lib.hid (HC.out.push hB)
  clear hB hb
  try simp only [Act.put, List.setIfInBounds_toArray, List.set_cons_zero, List.set_cons_succ]
  refine wpAnyH_ready (rs := [20]) (by kernel_rfl) (by simp) (AllReadyH.cons (o := ⟨some 57, _, _, _, _, _⟩) rfl (fun K hK => ?_) AllReadyH.nil)
  go_simp
  refine (pm_NMapI t _).mono ?_
  rintro e w5 ⟨rfl, hb⟩
  refine hK.out _ _ (hS.trans (hb.mono hS.size)) (fun _ => ?_)
  clear hK K
  have hB := hS.trans (hb.mono hS.size)
  refine wpAnyH_now hB ?_
  clear hS
  have hS := Below.refl w5.heap.size w5
  replace HC := Lib.hid (HC.out.push hB)
  clear hB hb
  try simp only [Act.put, List.setIfInBounds_toArray, List.set_cons_zero, List.set_cons_succ]
  refine wpAnyH_ready (rs := [22]) (by kernel_rfl) (by simp) (AllReadyH.cons (o := ⟨some 59, _, _, _, _, _⟩) rfl (fun K hK => ?_) AllReadyH.nil)
  go_simp
  refine (pm_MSameI t t _ ((HA.out.below D1.out rfl).chain HC.out hS (by simp)) ((HA.out.below D1.out rfl).chain HC.out hS (by simp))).mono ?_
  rintro e w6 ⟨rfl, hb⟩
  refine hK.out _ _ (hS.trans (hb.mono hS.size)) (fun _ => ?_)
  clear hK K
  have hB := hS.trans (hb.mono hS.size)
  refine wpAnyH_now hB ?_
  clear hS
  have hS := Below.refl w6.heap.size w6
  replace HC := Lib.hid (HC.out.push hB)
  rw [show decide (pa t = pa t) = true from decide_eq_true rfl]
  clear hB hb
  try simp only [Act.put, List.setIfInBounds_toArray, List.set_cons_zero, List.set_cons_succ]
  refine wpAnyH_take (i := 23) (oi := ⟨some 60, _, _, _, _, _⟩) (v := ?_) rfl (by kernel_rfl) (by kernel_rfl) (by kernel_rfl) (fun _ _ _ h => h) (Or.inl ⟨by rfl, ?_⟩) hS ?_
  rotate_left 1
  · intro w' hB; have hd := (HC.out.to w1 (by simp)).trans (hB.mono (HC.out.to w1 (by simp)).size); have k4 := cell_of_one (boxStays X1.out hd); clear hd; (go_simp <;> with_reducible rfl)
  try simp only [Act.put, List.setIfInBounds_toArray, List.set_cons_zero, List.set_cons_succ]
  refine wpAnyH_take (i := 24) (oi := ⟨some 61, _, _, _, _, _⟩) (v := ?_) rfl (by kernel_rfl) (by kernel_rfl) (by kernel_rfl) (fun _ _ _ h => h) (Or.inl ⟨by rfl, ?_⟩) hS ?_
  rotate_left 1
  · intro w' hB; have hd := (HC.out.to w1 (by simp)).trans (hB.mono (HC.out.to w1 (by simp)).size); have k4 := cell_of_one (boxStays X1.out hd); clear hd; (go_simp <;> with_reducible rfl)
  try simp only [Act.put, List.setIfInBounds_toArray, List.set_cons_zero, List.set_cons_succ]
  refine wpAnyH_done (by kernel_rfl) (NoPanic.normal ?_) _
  have D6 := Lib.hid (D1.out.trans ((HC.out.to w1 (by simp)).mono S1.out))
  have X6 := Lib.hid (boxStays X1.out (HC.out.to w1 (by simp)))
  clear hS HC D1 X1 S1
  go_wp2_with fail
  go_loopw [11] (fun u wr => ∃ i : Nat, u = .int .i64 (i : Int) ∧ i ≤ n ∧ Hid (Below w.heap.size w wr) ∧ Hid (wr.heap[w.heap.size]? = some (.cells #[.pointer (pa t)] 26 (0, 0)))) (fun u _ => n - (intOf u).toNat)
  case atStart => exact ⟨0, rfl, Nat.zero_le _, D6, X6⟩
  case round =>
    clear D6 X6
    obtain ⟨i, rfl, hi, D6, X6⟩ := hrel
    by_cases hlt : i < n
    · have hli : (i : Int) < (n : Int) := by omega
      have hil : i < (items t).length := by rw [sz_items, HN.out]; exact hlt
      obtain ⟨⟨k, v⟩, hx⟩ : ∃ x, (items t)[i]'hil = x := ⟨_, rfl⟩
      have hget : (items t)[i]? = some (k, v) := by rw [List.getElem?_eq_getElem hil, hx]
      obtain ⟨e0, e1⟩ := entV_get (items t) i hil
      rw [hx] at e0 e1
      obtain ⟨b, off, ha, hc0⟩ := HC0.out.get _ _ e0
      obtain ⟨b', off', ha', hc1⟩ := HC0.out.get _ _ e1
      rw [ha] at ha'
      cases ha'
      subst ha
      have Q0 : Hid (wr.cell? ⟨b, off + i * 2, none⟩ = some (.string k)) := Lib.hid ((D6.out.cell (p := ⟨b, off + i * 2, none⟩) (block_lt_of_cell hc0)).trans hc0)
      have Q1 : Hid (wr.cell? ⟨b, off + i * 2 + 1, none⟩ = some (.int .i64 v)) := Lib.hid ((D6.out.cell (p := ⟨b, off + (i * 2 + 1), none⟩) (block_lt_of_cell hc1)).trans hc1)
      have SK := Lib.hid (seek_at HS.out hget)
      have AO := Lib.hid (atO_at hget)
      have hnle : ¬ n ≤ i := by omega
      have hdle : decide (n ≤ i) = false := by simp; omega
      have SW : Hid (w.heap.size ≤ wr.heap.size) := Lib.hid D6.out.size
      have HC : Hid (Chain [wr] wr) := Lib.hid (Chain.one wr)
      have k4 := cell_of_one X6.out
      clear hc0 hc1 e0 e1 hx hget hil
      go_wp2_with fail
      clear k4
      refine wp_region_noPanic ?_
      refine wp_region_held_drew (S := fun w' => Below wr.heap.size wr w') (by kernel_rfl) (Below.refl _ _).drew (fun hS => ?_)
      refine wpAnyH_take (i := 0) (oi := ⟨some 69, _, _, _, _, _⟩) (v := ?_) rfl (by kernel_rfl) (by kernel_rfl) (by kernel_rfl) (fun _ _ _ h => h) (Or.inl ⟨by rfl, ?_⟩) hS ?_
      rotate_left 1
      · intro w' hB; have hd := (HC.out.to wr (by simp)).trans (hB.mono (HC.out.to wr (by simp)).size); have k4 := cell_of_one (boxStays X6.out hd); have q0 := (hd.cell (p := ⟨b, off + i * 2, none⟩) (block_lt_of_cell Q0.out)).trans Q0.out; clear hd; have hnle := hnle; have hdle := hdle; have hli := hli; (go_simp <;> with_reducible rfl)
      try simp only [Act.put, List.setIfInBounds_toArray, List.set_cons_zero, List.set_cons_succ]
      refine wpAnyH_take (i := 1) (oi := ⟨some 70, _, _, _, _, _⟩) (v := ?_) rfl (by kernel_rfl) (by kernel_rfl) (by kernel_rfl) (fun _ _ _ h => h) (Or.inl ⟨by rfl, ?_⟩) hS ?_
      rotate_left 1
      · intro w' hB; have hd := (HC.out.to wr (by simp)).trans (hB.mono (HC.out.to wr (by simp)).size); have k4 := cell_of_one (boxStays X6.out hd); have q0 := (hd.cell (p := ⟨b, off + i * 2, none⟩) (block_lt_of_cell Q0.out)).trans Q0.out; clear hd; have hnle := hnle; have hdle := hdle; have hli := hli; (go_simp <;> with_reducible rfl)
      try simp only [Act.put, List.setIfInBounds_toArray, List.set_cons_zero, List.set_cons_succ]
      refine wpAnyH_take (i := 2) (oi := ⟨some 71, _, _, _, _, _⟩) (v := ?_) rfl (by kernel_rfl) (by kernel_rfl) (by kernel_rfl) (fun _ _ _ h => h) (Or.inl ⟨by rfl, ?_⟩) hS ?_
      rotate_left 1
      · intro w' hB; have hd := (HC.out.to wr (by simp)).trans (hB.mono (HC.out.to wr (by simp)).size); have k4 := cell_of_one (boxStays X6.out hd); have q0 := (hd.cell (p := ⟨b, off + i * 2, none⟩) (block_lt_of_cell Q0.out)).trans Q0.out; clear hd; have hnle := hnle; have hdle := hdle; have hli := hli; (go_simp <;> with_reducible rfl)
      try simp only [Act.put, List.setIfInBounds_toArray, List.set_cons_zero, List.set_cons_succ]
      refine wpAnyH_take (i := 3) (oi := ⟨some 72, _, _, _, _, _⟩) (v := ?_) rfl (by kernel_rfl) (by kernel_rfl) (by kernel_rfl) (fun _ _ _ h => h) (Or.inl ⟨by rfl, ?_⟩) hS ?_
      rotate_left 1
      · intro w' hB; have hd := (HC.out.to wr (by simp)).trans (hB.mono (HC.out.to wr (by simp)).size); have k4 := cell_of_one (boxStays X6.out hd); have q0 := (hd.cell (p := ⟨b, off + i * 2, none⟩) (block_lt_of_cell Q0.out)).trans Q0.out; clear hd; have hnle := hnle; have hdle := hdle; have hli := hli; (go_simp <;> with_reducible rfl)
      try simp only [Act.put, List.setIfInBounds_toArray, List.set_cons_zero, List.set_cons_succ]
      refine wpAnyH_take (i := 4) (oi := ⟨some 73, _, _, _, _, _⟩) (v := ?_) rfl (by kernel_rfl) (by kernel_rfl) (by kernel_rfl) (fun _ _ _ h => h) (Or.inl ⟨by rfl, ?_⟩) hS ?_
      rotate_left 1
      · intro w' hB; have hd := (HC.out.to wr (by simp)).trans (hB.mono (HC.out.to wr (by simp)).size); have k4 := cell_of_one (boxStays X6.out hd); have q0 := (hd.cell (p := ⟨b, off + i * 2, none⟩) (block_lt_of_cell Q0.out)).trans Q0.out; clear hd; have hnle := hnle; have hdle := hdle; have hli := hli; (go_simp <;> with_reducible rfl)
      try simp only [Act.put, List.setIfInBounds_toArray, List.set_cons_zero, List.set_cons_succ]
      refine wpAnyH_take (i := 5) (oi := ⟨some 74, _, _, _, _, _⟩) (v := ?_) rfl (by kernel_rfl) (by kernel_rfl) (by kernel_rfl) (fun _ _ _ h => h) (Or.inl ⟨by rfl, ?_⟩) hS ?_
      rotate_left 1
      · intro w' hB; have hd := (HC.out.to wr (by simp)).trans (hB.mono (HC.out.to wr (by simp)).size); have k4 := cell_of_one (boxStays X6.out hd); have q0 := (hd.cell (p := ⟨b, off + i * 2, none⟩) (block_lt_of_cell Q0.out)).trans Q0.out; clear hd; have hnle := hnle; have hdle := hdle; have hli := hli; (go_simp <;> with_reducible rfl)
      try simp only [Act.put, List.setIfInBounds_toArray, List.set_cons_zero, List.set_cons_succ]
      refine wpAnyH_ready (rs := [6]) (by kernel_rfl) (by simp) (AllReadyH.cons (o := ⟨some 75, _, _, _, _, _⟩) rfl (fun K hK => ?_) AllReadyH.nil)
      go_simp
      refine (pm_MGetI t k _ ((HA.out.below D6.out rfl).chain HC.out hS (by simp))).mono ?_
      rintro e w2 ⟨rfl, hb⟩
      refine hK.out _ _ (hS.trans (hb.mono hS.size)) (fun _ => ?_)
      clear hK K
      have hB := hS.trans (hb.mono hS.size)
      refine wpAnyH_now hB ?_
      clear hS
      have hS := Below.refl w2.heap.size w2
      replace HC := Lib.hid (HC.out.push hB)
      rw [SK.out.1, SK.out.2]
      clear hB hb
      try simp only [Act.put, List.setIfInBounds_toArray, List.set_cons_zero, List.set_cons_succ]
      refine wpAnyH_take (i := 7) (oi := ⟨some 68, _, _, _, _, _⟩) (v := ?_) rfl (by kernel_rfl) (by kernel_rfl) (by kernel_rfl) (fun _ _ _ h => h) (Or.inl ⟨by rfl, ?_⟩) hS ?_
      rotate_left 1
      · intro w' hB; have hd := (HC.out.to wr (by simp)).trans (hB.mono (HC.out.to wr (by simp)).size); have k4 := cell_of_one (boxStays X6.out hd); have q0 := (hd.cell (p := ⟨b, off + i * 2, none⟩) (block_lt_of_cell Q0.out)).trans Q0.out; clear hd; have hnle := hnle; have hdle := hdle; have hli := hli; (go_simp <;> with_reducible rfl)
      try simp only [Act.put, List.setIfInBounds_toArray, List.set_cons_zero, List.set_cons_succ]
      refine wpAnyH_take (i := 8) (oi := ⟨some 76, _, _, _, _, _⟩) (v := ?_) rfl (by kernel_rfl) (by kernel_rfl) (by kernel_rfl) (fun _ _ _ h => h) (Or.inl ⟨by rfl, ?_⟩) hS ?_
      rotate_left 1
      · intro w' hB; have hd := (HC.out.to wr (by simp)).trans (hB.mono (HC.out.to wr (by simp)).size); have k4 := cell_of_one (boxStays X6.out hd); have q0 := (hd.cell (p := ⟨b, off + i * 2, none⟩) (block_lt_of_cell Q0.out)).trans Q0.out; clear hd; have hnle := hnle; have hdle := hdle; have hli := hli; (go_simp <;> with_reducible rfl)
      try simp only [Act.put, List.setIfInBounds_toArray, List.set_cons_zero, List.set_cons_succ]
      refine wpAnyH_take (i := 9) (oi := ⟨some 77, _, _, _, _, _⟩) (v := ?_) rfl (by kernel_rfl) (by kernel_rfl) (by kernel_rfl) (fun _ _ _ h => h) (Or.inl ⟨by rfl, ?_⟩) hS ?_
      rotate_left 1
      · intro w' hB; have hd := (HC.out.to wr (by simp)).trans (hB.mono (HC.out.to wr (by simp)).size); have k4 := cell_of_one (boxStays X6.out hd); have q0 := (hd.cell (p := ⟨b, off + i * 2, none⟩) (block_lt_of_cell Q0.out)).trans Q0.out; clear hd; have hnle := hnle; have hdle := hdle; have hli := hli; (go_simp <;> with_reducible rfl)
      try simp only [Act.put, List.setIfInBounds_toArray, List.set_cons_zero, List.set_cons_succ]
      refine wpAnyH_take (i := 10) (oi := ⟨some 12, _, _, _, _, _⟩) (v := ?_) rfl (by kernel_rfl) (by kernel_rfl) (by kernel_rfl) (fun _ _ _ h => h) (Or.inl ⟨by rfl, ?_⟩) hS ?_
      rotate_left 1
      · intro w' hB; have hd := (HC.out.to wr (by simp)).trans (hB.mono (HC.out.to wr (by simp)).size); have k4 := cell_of_one (boxStays X6.out hd); have q0 := (hd.cell (p := ⟨b, off + i * 2, none⟩) (block_lt_of_cell Q0.out)).trans Q0.out; clear hd; have hnle := hnle; have hdle := hdle; have hli := hli; (go_simp <;> with_reducible rfl)
      try simp only [Act.put, List.setIfInBounds_toArray, List.set_cons_zero, List.set_cons_succ]
      refine wpAnyH_take (i := 11) (oi := ⟨some 13, _, _, _, _, _⟩) (v := ?_) rfl (by kernel_rfl) (by kernel_rfl) (by kernel_rfl) (fun _ _ _ h => h) (Or.inl ⟨by rfl, ?_⟩) hS ?_
      rotate_left 1
      · intro w' hB; have hd := (HC.out.to wr (by simp)).trans (hB.mono (HC.out.to wr (by simp)).size); have k4 := cell_of_one (boxStays X6.out hd); have q0 := (hd.cell (p := ⟨b, off + i * 2, none⟩) (block_lt_of_cell Q0.out)).trans Q0.out; clear hd; have hnle := hnle; have hdle := hdle; have hli := hli; (go_simp <;> with_reducible rfl)
      try simp only [Act.put, List.setIfInBounds_toArray, List.set_cons_zero, List.set_cons_succ]
      refine wpAnyH_done (by kernel_rfl) (NoPanic.normal ?_) _
      have h2 := HC.out.to wr (by simp)
      have D7 := Lib.hid (D6.out.trans (h2.mono SW.out))
      have X7 := Lib.hid (boxStays X6.out h2)
      have R0 := Lib.hid ((h2.cell (p := ⟨b, off + i * 2, none⟩) (block_lt_of_cell Q0.out)).trans Q0.out)
      have R1 := Lib.hid ((h2.cell (p := ⟨b, off + i * 2 + 1, none⟩) (block_lt_of_cell Q1.out)).trans Q1.out)
      clear h2 hS HC D6 X6 Q0 Q1 SK SW
      have k4 := cell_of_one X7.out
      go_wp2_with fail
      refine (pm_MAtI t (i : Int) _ (HA.out.below D7.out rfl) (by omega) (by omega) (by rw [HN.out]; omega)).mono ?_
      rintro e w3 ⟨rfl, hb⟩
      rw [AO.out.1, AO.out.2.1, AO.out.2.2]
      have D8 : Hid (Below w.heap.size w w3) := Lib.hid (D7.out.trans (hb.mono D7.out.size))
      have X8 := Lib.hid (boxStays X7.out hb)
      have q0 := (hb.cell (p := ⟨b, off + i * 2, none⟩) (block_lt_of_cell R0.out)).trans R0.out
      have q1 := (hb.cell (p := ⟨b, off + i * 2 + 1, none⟩) (block_lt_of_cell R1.out)).trans R1.out
      clear hb D7 X7 R0 R1 k4 AO
      go_wp2_with fail
      go_roundw
      case rel => exact ⟨i + 1, by simp, by omega, D8, X8⟩
      case measure =>
        have p1 : (intOf (Value.int .i64 ((i : Int) + 1))).toNat = i + 1 := by simp [intOf]
        have p2 : (intOf (Value.int .i64 (i : Int))).toNat = i := by simp [intOf]
        first | (rw [p1, p2]; omega) | (simp [intOf]; omega)
    · have hli : ¬ (i : Int) < (n : Int) := by omega
      have hin : n = i := by omega
      subst hin
      clear hi hlt hli
      obtain ⟨fk, hfk⟩ : ∃ x, keyOr (endL t) = x := ⟨_, rfl⟩
      obtain ⟨fv, hfv⟩ : ∃ x, valOr (endL t) = x := ⟨_, rfl⟩
      obtain ⟨fb, hfb⟩ : ∃ x, isNI (endL t) = x := ⟨_, rfl⟩
      obtain ⟨lk, hlk⟩ : ∃ x, keyOr (endR t) = x := ⟨_, rfl⟩
      obtain ⟨lv, hlv⟩ : ∃ x, valOr (endR t) = x := ⟨_, rfl⟩
      obtain ⟨lb, hlb⟩ : ∃ x, isNI (endR t) = x := ⟨_, rfl⟩
      have CF := fun (W : World) (hb : Below w.heap.size w W) => pm_MFirstI t W (HA.out.below hb rfl)
      have CG := fun (W : World) (hb : Below w.heap.size w W) => pm_MLastI t W (HA.out.below hb rfl)
      rw [hfk, hfv, hfb] at CF
      rw [hlk, hlv, hlb] at CG
      have FL : Hid ((n = 0 ∧ fk = ⟨#[]⟩ ∧ fv = 0 ∧ fb = false ∧ lk = ⟨#[]⟩ ∧ lv = 0 ∧ lb = false) ∨ (0 < n ∧ fb = true ∧ lb = true ∧ (items t)[0]? = some (fk, fv) ∧ (items t)[n - 1]? = some (lk, lv))) := Lib.hid (by
        by_cases ht0 : t = .nil
        · subst ht0
          refine .inl ⟨HN.out.symm, hfk.symm, hfv.symm, hfb.symm, hlk.symm, hlv.symm, hlb.symm⟩
        · obtain ⟨b1, l1, k1, v1, r1, e1, g1⟩ := endL_items t ht0
          obtain ⟨b2, l2, k2, v2, r2, e2, g2⟩ := endR_items t ht0
          rw [e1] at hfk hfv hfb
          rw [e2] at hlk hlv hlb
          cases hfk; cases hfv; cases hfb; cases hlk; cases hlv; cases hlb
          rw [HN.out] at g2
          refine .inr ⟨?_, rfl, rfl, g1, g2⟩
          have := (List.getElem?_eq_some_iff.1 g1).1
          rw [sz_items, HN.out] at this
          exact this)
      have HCF := Lib.hid CF
      have HCG := Lib.hid CG
      have AL : Hid (∀ W : World, Below w.heap.size w W → Calls Try.prog 35 #[.agg #[.pointer (pa t)], .int .i64 (-1)] W fun e w' => e = .returned (.tuple #[.string ⟨#[]⟩, .int .i64 0, .bool false]) ∧ Below W.heap.size W w') := Lib.hid (fun W hb => by
        have := pm_MAtI t (-1) W (HA.out.below hb rfl) (by omega) (by omega) (by rw [HN.out]; omega)
        rw [atO_low] at this
        exact this)
      have HPL := posL_le (items t) key
      rw [sz_items, HN.out] at HPL
      obtain ⟨p, hp⟩ : ∃ p, posL (items t) key = p := ⟨_, rfl⟩
      obtain ⟨pis, hpis⟩ : ∃ p, isL (items t) key = p := ⟨_, rfl⟩
      rw [hp] at HPL
      have HAT : Hid (∀ W : World, Below w.heap.size w W → Calls Try.prog 16 #[.slice a n cap, .string key] W fun e w' => e = .returned (.tuple #[.int .i64 (p : Int), .bool pis]) ∧ Below W.heap.size W w') := Lib.hid (fun W hb => by
        have := lw_at (items t) key a cap W (HC0.out.below hb rfl) (by rw [sz_items, HN.out]; omega)
        rw [sz_items, HN.out, hp, hpis] at this
        exact this)
      have HPD : Hid (fromL key t = (items t).drop p) := Lib.hid (by rw [fromL_drop HS.out, hp])
      clear hp hpis
      have HG1 : Hid (∀ W : World, Below w.heap.size w W → Calls Try.prog 38 #[.agg #[.pointer (pa t)], .slice a n cap, .int .i64 leave, .bool true, .string ⟨#[]⟩] W fun e w' => e = .returned (.bool true) ∧ Below W.heap.size W w') := Lib.hid (fun W hb => by
        have := lw_goes t (items t) a cap leave true ⟨#[]⟩ W (HA.out.below hb rfl) (HC0.out.below hb rfl) (by simp [fromL_all]) (by rw [sz_items, HN.out]; omega)
        rw [sz_items, HN.out] at this
        exact this)
      obtain ⟨ar, har⟩ : ∃ ar, subN a cap p 2 = ar := ⟨_, rfl⟩
      obtain ⟨d, hd⟩ : ∃ d, n - p = d := ⟨_, rfl⟩
      obtain ⟨cd, hcd⟩ : ∃ d, cap - p = d := ⟨_, rfl⟩
      have HSL : Hid (∀ (W : World), (Instr.slice 27 (.slice a n cap) (some (.int .i64 (p : Int))) none none).run Try.prog W = .ok (.slice ar d cd) W) := Lib.hid (fun W => by
        have := run_from (P := Try.prog) W 27 47 Try.underlying27 2 (fun w => by kernel_rfl) a n cap p (p : Int) rfl HPL
        rw [har, hd, hcd] at this
        exact this)
      have HG2 : Hid (∀ W : World, Below w.heap.size w W → Calls Try.prog 38 #[.agg #[.pointer (pa t)], .slice ar d cd, .int .i64 leave, .bool false, .string key] W fun e w' => e = .returned (.bool true) ∧ Below W.heap.size W w') := Lib.hid (fun W hb => by
        have hc1 := (HC0.out.below hb rfl).from (size := 2) (len := n) (by rw [entV_length, sz_items, HN.out]) cap p HPL hcap
        rw [har, ← entV_drop] at hc1
        have hl : ((items t).drop p).length = d := by rw [List.length_drop, sz_items, HN.out, hd]
        have := lw_goes t ((items t).drop p) ar cd leave false key W (HA.out.below hb rfl) hc1 (by simpa using HPD.out) (by rw [hl]; omega)
        rw [hl] at this
        exact this)
      have HNO : Hid (∀ W : World, Below w.heap.size w W → Calls Try.prog 39 #[.agg #[.pointer (pa t)]] W fun e w' => e = .returned (.int .i64 (n : Int)) ∧ Below W.heap.size W w') := Lib.hid (fun W hb => by
        have := lw_nodes t W (HA.out.below hb rfl) (nodup_blocksI t HA.out HS.out) (by rw [HN.out]; omega)
        rw [HN.out] at this
        exact this)
      clear har hd hcd
      have AH : Hid (∀ W : World, Below w.heap.size w W → Calls Try.prog 35 #[.agg #[.pointer (pa t)], .int .i64 (n : Int)] W fun e w' => e = .returned (.tuple #[.string ⟨#[]⟩, .int .i64 0, .bool false]) ∧ Below W.heap.size W w') := Lib.hid (fun W hb => by
        have := pm_MAtI t (n : Int) W (HA.out.below hb rfl) (by omega) (by omega) (by rw [HN.out]; omega)
        have e := atO_high t
        rw [HN.out] at e
        rw [e] at this
        exact this)
      clear hfk hfv hfb hlk hlv hlb CF CG
      have k4 := cell_of_one X6.out
      go_wp2_with fail
      refine (HCF.out _ D6.out).mono ?_
      rintro e w2 ⟨rfl, hb⟩
      have D7 := Lib.hid (D6.out.trans (hb.mono D6.out.size))
      have X7 := Lib.hid (boxStays X6.out hb)
      clear hb D6 X6 k4
      have k4 := cell_of_one X7.out
      go_wp2_with fail
      refine (HCG.out _ D7.out).mono ?_
      rintro e w3 ⟨rfl, hb⟩
      have D8 := Lib.hid (D7.out.trans (hb.mono D7.out.size))
      have X8 := Lib.hid (boxStays X7.out hb)
      clear hb D7 X7 k4 HCF HCG
      have k4 := cell_of_one X8.out
      refine FL.out.elim (fun hq => ?no) (fun hq => ?yes) <;> clear FL
      case' no =>
        obtain ⟨hn0, rfl, rfl, rfl, rfl, rfl, rfl⟩ := hq
        subst hn0
        go_upto_region 13 with (fail)
        simp only [List.append]
        go_wp2_with fail
      case' yes =>
        obtain ⟨hn0, rfl, rfl, g0, g1⟩ := hq
        obtain ⟨m, hm⟩ : ∃ m, n - 1 = m := ⟨_, rfl⟩
        rw [hm] at g1
        have hmi : (n : Int) - 1 = (m : Int) := by omega
        have hmn : m < n := by omega
        have hmli : (m : Int) < (n : Int) := by omega
        have hnle : ¬ n ≤ m := by omega
        have hdle : decide (n ≤ m) = false := by simp; omega
        have hnz : ¬ n = 0 := by omega
        have hnz2 : ¬ n ≤ 0 := by omega
        obtain ⟨l0, g0'⟩ := List.getElem?_eq_some_iff.1 g0
        obtain ⟨l1, g1'⟩ := List.getElem?_eq_some_iff.1 g1
        obtain ⟨e0, e1⟩ := entV_get (items t) 0 l0
        obtain ⟨e2, e3⟩ := entV_get (items t) m l1
        rw [g0'] at e0 e1
        rw [g1'] at e2 e3
        obtain ⟨b, off, ha, c0⟩ := HC0.out.get _ _ e0
        obtain ⟨b', off', ha', c1⟩ := HC0.out.get _ _ e1
        rw [ha] at ha'
        cases ha'
        obtain ⟨b', off', ha', c2⟩ := HC0.out.get _ _ e2
        rw [ha] at ha'
        cases ha'
        obtain ⟨b', off', ha', c3⟩ := HC0.out.get _ _ e3
        rw [ha] at ha'
        cases ha'
        subst ha
        have q0 : w3.cell? ⟨b, off, none⟩ = some (.string fk) := (D8.out.cell (p := ⟨b, off, none⟩) (by have := block_lt_of_cell c0; exact this)).trans (by simpa using c0)
        have q1 : w3.cell? ⟨b, off + 1, none⟩ = some (.int .i64 fv) := (D8.out.cell (p := ⟨b, off + 1, none⟩) (by have := block_lt_of_cell c1; exact this)).trans (by simpa using c1)
        have q2 : w3.cell? ⟨b, off + m * 2, none⟩ = some (.string lk) := (D8.out.cell (p := ⟨b, off + m * 2, none⟩) (block_lt_of_cell c2)).trans c2
        have q3 : w3.cell? ⟨b, off + m * 2 + 1, none⟩ = some (.int .i64 lv) := (D8.out.cell (p := ⟨b, off + (m * 2 + 1), none⟩) (block_lt_of_cell c3)).trans c3
        clear c0 c1 c2 c3 e0 e1 e2 e3 g0 g1 g0' g1' l0 l1
        have hni : (0 : Int) < (n : Int) := by omega
        go_upto_region 13 with (fail)
        simp only [List.append]
        go_wp2_with fail
        clear hmi hmli hnle hdle hnz hnz2 q0 q1 q2 q3 hni
      all_goals
        refine (AL.out _ D8.out).mono ?_
        rintro e w4 ⟨rfl, hb⟩
        have D9 := Lib.hid (D8.out.trans (hb.mono D8.out.size))
        have X9 := Lib.hid (boxStays X8.out hb)
        clear hb D8 X8 k4
        have k4 := cell_of_one X9.out
        go_wp2_with fail
        refine (AH.out _ D9.out).mono ?_
        rintro e w5 ⟨rfl, hb⟩
        have D10 := Lib.hid (D9.out.trans (hb.mono D9.out.size))
        have X10 := Lib.hid (boxStays X9.out hb)
        clear hb D9 X9 k4 AL AH
        go_wp2_with fail
        refine (HAT.out _ D10.out).mono ?_
        rintro e w6 ⟨rfl, hb⟩
        have D11 := Lib.hid (D10.out.trans (hb.mono D10.out.size))
        have X11 := Lib.hid (boxStays X10.out hb)
        clear hb D10 X10 HAT
        go_wp2_with fail
        have HC : Hid (Chain [w6] w6) := Lib.hid (Chain.one w6)
        refine wp_region_noPanic ?_
        refine wp_region_held_drew (S := fun w' => Below w6.heap.size w6 w') (by kernel_rfl) (Below.refl _ _).drew (fun hS => ?_)
        refine wpAnyH_take (i := 0) (oi := ⟨some 237, _, _, _, _, _⟩) (v := ?_) rfl (by kernel_rfl) (by kernel_rfl) (by kernel_rfl) (fun _ _ _ h => h) (Or.inl ⟨by rfl, ?_⟩) hS ?_
        rotate_left 1
        · intro w' hB; have hd := (HC.out.to w6 (by simp)).trans (hB.mono (HC.out.to w6 (by simp)).size); have k4 := cell_of_one (boxStays X11.out hd); clear hd; have hsr := HSL.out; (go_simp <;> with_reducible rfl)
        try simp only [Act.put, List.setIfInBounds_toArray, List.set_cons_zero, List.set_cons_succ]
        refine wpAnyH_take (i := 1) (oi := ⟨some 238, _, _, _, _, _⟩) (v := ?_) rfl (by kernel_rfl) (by kernel_rfl) (by kernel_rfl) (fun _ _ _ h => h) (Or.inl ⟨by rfl, ?_⟩) hS ?_
        rotate_left 1
        · intro w' hB; have hd := (HC.out.to w6 (by simp)).trans (hB.mono (HC.out.to w6 (by simp)).size); have k4 := cell_of_one (boxStays X11.out hd); clear hd; have hsr := HSL.out; (go_simp <;> with_reducible rfl)
        try simp only [Act.put, List.setIfInBounds_toArray, List.set_cons_zero, List.set_cons_succ]
        refine wpAnyH_take (i := 2) (oi := ⟨some 239, _, _, _, _, _⟩) (v := ?_) rfl (by kernel_rfl) (by kernel_rfl) (by kernel_rfl) (fun _ _ _ h => h) (Or.inl ⟨by rfl, ?_⟩) hS ?_
        rotate_left 1
        · intro w' hB; have hd := (HC.out.to w6 (by simp)).trans (hB.mono (HC.out.to w6 (by simp)).size); have k4 := cell_of_one (boxStays X11.out hd); clear hd; have hsr := HSL.out; (go_simp <;> with_reducible rfl)
        try simp only [Act.put, List.setIfInBounds_toArray, List.set_cons_zero, List.set_cons_succ]
        refine wpAnyH_ready (rs := [3]) (by kernel_rfl) (by simp) (AllReadyH.cons (o := ⟨some 240, _, _, _, _, _⟩) rfl (fun K hK => ?_) AllReadyH.nil)
        go_simp
        refine (HG1.out _ (D11.out.trans (((HC.out.to w6 (by simp)).trans (hS.mono (HC.out.to w6 (by simp)).size)).mono D11.out.size))).mono ?_
        rintro e w7 ⟨rfl, hb⟩
        refine hK.out _ _ (hS.trans (hb.mono hS.size)) (fun _ => ?_)
        clear hK K
        have hB := hS.trans (hb.mono hS.size)
        refine wpAnyH_now hB ?_
        clear hS
        have hS := Below.refl w7.heap.size w7
        replace HC := Lib.hid (HC.out.push hB)
        clear hB hb
        try simp only [Act.put, List.setIfInBounds_toArray, List.set_cons_zero, List.set_cons_succ]
        refine wpAnyH_take (i := 4) (oi := ⟨some 241, _, _, _, _, _⟩) (v := ?_) rfl (by kernel_rfl) (by kernel_rfl) (by kernel_rfl) (fun _ _ _ h => h) (Or.inl ⟨by rfl, ?_⟩) hS ?_
        rotate_left 1
        · intro w' hB; have hd := (HC.out.to w6 (by simp)).trans (hB.mono (HC.out.to w6 (by simp)).size); have k4 := cell_of_one (boxStays X11.out hd); clear hd; have hsr := HSL.out; (go_simp <;> with_reducible rfl)
        try simp only [Act.put, List.setIfInBounds_toArray, List.set_cons_zero, List.set_cons_succ]
        refine wpAnyH_take (i := 5) (oi := ⟨some 242, _, _, _, _, _⟩) (v := ?_) rfl (by kernel_rfl) (by kernel_rfl) (by kernel_rfl) (fun _ _ _ h => h) (Or.inl ⟨by rfl, ?_⟩) hS ?_
        rotate_left 1
        · intro w' hB; have hd := (HC.out.to w6 (by simp)).trans (hB.mono (HC.out.to w6 (by simp)).size); have k4 := cell_of_one (boxStays X11.out hd); clear hd; have hsr := HSL.out; (go_simp <;> with_reducible rfl)
        try simp only [Act.put, List.setIfInBounds_toArray, List.set_cons_zero, List.set_cons_succ]
        refine wpAnyH_take (i := 6) (oi := ⟨some 243, _, _, _, _, _⟩) (v := ?_) rfl (by kernel_rfl) (by kernel_rfl) (by kernel_rfl) (fun _ _ _ h => h) (Or.inl ⟨by rfl, ?_⟩) hS ?_
        rotate_left 1
        · intro w' hB; have hd := (HC.out.to w6 (by simp)).trans (hB.mono (HC.out.to w6 (by simp)).size); have k4 := cell_of_one (boxStays X11.out hd); clear hd; have hsr := HSL.out; (go_simp <;> with_reducible rfl)
        try simp only [Act.put, List.setIfInBounds_toArray, List.set_cons_zero, List.set_cons_succ]
        refine wpAnyH_take (i := 7) (oi := ⟨some 244, _, _, _, _, _⟩) (v := ?_) rfl (by kernel_rfl) (by kernel_rfl) (by kernel_rfl) (fun _ _ _ h => h) (Or.inl ⟨by rfl, ?_⟩) hS ?_
        rotate_left 1
        · intro w' hB; have hd := (HC.out.to w6 (by simp)).trans (hB.mono (HC.out.to w6 (by simp)).size); have k4 := cell_of_one (boxStays X11.out hd); clear hd; have hsr := HSL.out; (go_simp <;> with_reducible rfl)
        try simp only [Act.put, List.setIfInBounds_toArray, List.set_cons_zero, List.set_cons_succ]
        refine wpAnyH_take (i := 8) (oi := ⟨some 245, _, _, _, _, _⟩) (v := ?_) rfl (by kernel_rfl) (by kernel_rfl) (by kernel_rfl) (fun _ _ _ h => h) (Or.inl ⟨by rfl, ?_⟩) hS ?_
        rotate_left 1
        · intro w' hB; have hd := (HC.out.to w6 (by simp)).trans (hB.mono (HC.out.to w6 (by simp)).size); have k4 := cell_of_one (boxStays X11.out hd); clear hd; have hsr := HSL.out; (go_simp <;> with_reducible rfl)
        try simp only [Act.put, List.setIfInBounds_toArray, List.set_cons_zero, List.set_cons_succ]
        refine wpAnyH_take (i := 9) (oi := ⟨some 246, _, _, _, _, _⟩) (v := ?_) rfl (by kernel_rfl) (by kernel_rfl) (by kernel_rfl) (fun _ _ _ h => h) (Or.inl ⟨by rfl, ?_⟩) hS ?_
        rotate_left 1
        · intro w' hB; have hd := (HC.out.to w6 (by simp)).trans (hB.mono (HC.out.to w6 (by simp)).size); have k4 := cell_of_one (boxStays X11.out hd); clear hd; have hsr := HSL.out; (go_simp <;> with_reducible rfl)
        try simp only [Act.put, List.setIfInBounds_toArray, List.set_cons_zero, List.set_cons_succ]
        refine wpAnyH_take (i := 10) (oi := ⟨some 247, _, _, _, _, _⟩) (v := ?_) rfl (by kernel_rfl) (by kernel_rfl) (by kernel_rfl) (fun _ _ _ h => h) (Or.inl ⟨by rfl, ?_⟩) hS ?_
        rotate_left 1
        · intro w' hB; have hd := (HC.out.to w6 (by simp)).trans (hB.mono (HC.out.to w6 (by simp)).size); have k4 := cell_of_one (boxStays X11.out hd); clear hd; have hsr := HSL.out; (go_simp <;> with_reducible rfl)
        try simp only [Act.put, List.setIfInBounds_toArray, List.set_cons_zero, List.set_cons_succ]
        refine wpAnyH_ready (rs := [11]) (by kernel_rfl) (by simp) (AllReadyH.cons (o := ⟨some 248, _, _, _, _, _⟩) rfl (fun K hK => ?_) AllReadyH.nil)
        go_simp
        refine (HG2.out _ (D11.out.trans (((HC.out.to w6 (by simp)).trans (hS.mono (HC.out.to w6 (by simp)).size)).mono D11.out.size))).mono ?_
        rintro e w8 ⟨rfl, hb⟩
        refine hK.out _ _ (hS.trans (hb.mono hS.size)) (fun _ => ?_)
        clear hK K
        have hB := hS.trans (hb.mono hS.size)
        refine wpAnyH_now hB ?_
        clear hS
        have hS := Below.refl w8.heap.size w8
        replace HC := Lib.hid (HC.out.push hB)
        clear hB hb
        try simp only [Act.put, List.setIfInBounds_toArray, List.set_cons_zero, List.set_cons_succ]
        refine wpAnyH_take (i := 12) (oi := ⟨some 249, _, _, _, _, _⟩) (v := ?_) rfl (by kernel_rfl) (by kernel_rfl) (by kernel_rfl) (fun _ _ _ h => h) (Or.inl ⟨by rfl, ?_⟩) hS ?_
        rotate_left 1
        · intro w' hB; have hd := (HC.out.to w6 (by simp)).trans (hB.mono (HC.out.to w6 (by simp)).size); have k4 := cell_of_one (boxStays X11.out hd); clear hd; have hsr := HSL.out; (go_simp <;> with_reducible rfl)
        try simp only [Act.put, List.setIfInBounds_toArray, List.set_cons_zero, List.set_cons_succ]
        refine wpAnyH_take (i := 13) (oi := ⟨some 250, _, _, _, _, _⟩) (v := ?_) rfl (by kernel_rfl) (by kernel_rfl) (by kernel_rfl) (fun _ _ _ h => h) (Or.inl ⟨by rfl, ?_⟩) hS ?_
        rotate_left 1
        · intro w' hB; have hd := (HC.out.to w6 (by simp)).trans (hB.mono (HC.out.to w6 (by simp)).size); have k4 := cell_of_one (boxStays X11.out hd); clear hd; have hsr := HSL.out; (go_simp <;> with_reducible rfl)
        try simp only [Act.put, List.setIfInBounds_toArray, List.set_cons_zero, List.set_cons_succ]
        refine wpAnyH_take (i := 14) (oi := ⟨some 251, _, _, _, _, _⟩) (v := ?_) rfl (by kernel_rfl) (by kernel_rfl) (by kernel_rfl) (fun _ _ _ h => h) (Or.inl ⟨by rfl, ?_⟩) hS ?_
        rotate_left 1
        · intro w' hB; have hd := (HC.out.to w6 (by simp)).trans (hB.mono (HC.out.to w6 (by simp)).size); have k4 := cell_of_one (boxStays X11.out hd); clear hd; have hsr := HSL.out; (go_simp <;> with_reducible rfl)
        try simp only [Act.put, List.setIfInBounds_toArray, List.set_cons_zero, List.set_cons_succ]
        refine wpAnyH_take (i := 16) (oi := ⟨some 253, _, _, _, _, _⟩) (v := ?_) rfl (by kernel_rfl) (by kernel_rfl) (by kernel_rfl) (fun _ _ _ h => h) (Or.inl ⟨by rfl, ?_⟩) hS ?_
        rotate_left 1
        · intro w' hB; have hd := (HC.out.to w6 (by simp)).trans (hB.mono (HC.out.to w6 (by simp)).size); have k4 := cell_of_one (boxStays X11.out hd); clear hd; have hsr := HSL.out; (go_simp <;> with_reducible rfl)
        try simp only [Act.put, List.setIfInBounds_toArray, List.set_cons_zero, List.set_cons_succ]
        refine wpAnyH_take (i := 17) (oi := ⟨some 254, _, _, _, _, _⟩) (v := ?_) rfl (by kernel_rfl) (by kernel_rfl) (by kernel_rfl) (fun _ _ _ h => h) (Or.inl ⟨by rfl, ?_⟩) hS ?_
        rotate_left 1
        · intro w' hB; have hd := (HC.out.to w6 (by simp)).trans (hB.mono (HC.out.to w6 (by simp)).size); have k4 := cell_of_one (boxStays X11.out hd); clear hd; have hsr := HSL.out; (go_simp <;> with_reducible rfl)
        try simp only [Act.put, List.setIfInBounds_toArray, List.set_cons_zero, List.set_cons_succ]
        refine wpAnyH_ready (rs := [15]) (by kernel_rfl) (by simp) (AllReadyH.cons (o := ⟨some 252, _, _, _, _, _⟩) rfl (fun K hK => ?_) AllReadyH.nil)
        go_simp
        refine (HNO.out _ (D11.out.trans (((HC.out.to w6 (by simp)).trans (hS.mono (HC.out.to w6 (by simp)).size)).mono D11.out.size))).mono ?_
        rintro e w9 ⟨rfl, hb⟩
        refine hK.out _ _ (hS.trans (hb.mono hS.size)) (fun _ => ?_)
        clear hK K
        have hB := hS.trans (hb.mono hS.size)
        refine wpAnyH_now hB ?_
        clear hS
        have hS := Below.refl w9.heap.size w9
        replace HC := Lib.hid (HC.out.push hB)
        clear hB hb
        try simp only [Act.put, List.setIfInBounds_toArray, List.set_cons_zero, List.set_cons_succ]
        refine wpAnyH_take (i := 18) (oi := ⟨some 255, _, _, _, _, _⟩) (v := ?_) rfl (by kernel_rfl) (by kernel_rfl) (by kernel_rfl) (fun _ _ _ h => h) (Or.inl ⟨by rfl, ?_⟩) hS ?_
        rotate_left 1
        · intro w' hB; have hd := (HC.out.to w6 (by simp)).trans (hB.mono (HC.out.to w6 (by simp)).size); have k4 := cell_of_one (boxStays X11.out hd); clear hd; have hsr := HSL.out; (go_simp <;> with_reducible rfl)
        try simp only [Act.put, List.setIfInBounds_toArray, List.set_cons_zero, List.set_cons_succ]
        refine wpAnyH_take (i := 19) (oi := ⟨some 256, _, _, _, _, _⟩) (v := ?_) rfl (by kernel_rfl) (by kernel_rfl) (by kernel_rfl) (fun _ _ _ h => h) (Or.inl ⟨by rfl, ?_⟩) hS ?_
        rotate_left 1
        · intro w' hB; have hd := (HC.out.to w6 (by simp)).trans (hB.mono (HC.out.to w6 (by simp)).size); have k4 := cell_of_one (boxStays X11.out hd); clear hd; have hsr := HSL.out; (go_simp <;> with_reducible rfl)
        try simp only [Act.put, List.setIfInBounds_toArray, List.set_cons_zero, List.set_cons_succ]
        refine wpAnyH_take (i := 20) (oi := ⟨some 8, _, _, _, _, _⟩) (v := ?_) rfl (by kernel_rfl) (by kernel_rfl) (by kernel_rfl) (fun _ _ _ h => h) (Or.inl ⟨by rfl, ?_⟩) hS ?_
        rotate_left 1
        · intro w' hB; have hd := (HC.out.to w6 (by simp)).trans (hB.mono (HC.out.to w6 (by simp)).size); have k4 := cell_of_one (boxStays X11.out hd); clear hd; have hsr := HSL.out; (go_simp <;> with_reducible rfl)
        try simp only [Act.put, List.setIfInBounds_toArray, List.set_cons_zero, List.set_cons_succ]
        refine wpAnyH_done (by kernel_rfl) (NoPanic.normal ?_) _
        have DD : Hid (Below w.heap.size w w9) := Lib.hid (D11.out.trans ((HC.out.to w6 (by simp)).mono D11.out.size))
        clear hS HC HG1 HG2 HSL HNO
        go_wp2_with fail
        go_ret
        exact ⟨rfl, DD.out⟩
end Go.Proofs.Ytikdlhbamdefaaa

