
/- Walks: the known rows of the frames. -/
import Derived.Test.YtpbjhfajekfjeaaFrameR1
import Derived.Test.YtpbjhfajekfjeaaPairs2
namespace Go.Proofs.Ytpbjhfajekfjeaa
open Go.RowKit Frm
theorem Frm.kn1 : (frameF 1 [97]).length = 10 := by decide +kernel
theorem Frm.kn2 : scanF (12 + 1) (frameF 1 [97] ++ [0, 0]) 0 = ([(0, 1, [97])], 10, 140) := by decide +kernel
theorem Frm.kn3 : scanF (9 + 1) (List.replicate 9 0) 0 = ([], 0, 141) := by decide +kernel
theorem Frm.kn4 : chk 256 0 = 2 := by decide +kernel
theorem fnumB (n : Int) (w : World) : Calls Try.prog 8 #[.int .i64 n] w fun e w' => e = .returned (.int .i64 n) ∧ Below w.heap.size w w' := (fnum n w).mono fun e w' h => ⟨h.1, by rw [← h.2]; exact Below.refl _ _⟩
theorem frame_SizeB (a : Option Addr) (n c : Nat) (w : World) (hn : n ≤ 1099511627776) : Calls Try.prog 16 #[.slice a n c] w fun e w' => e = .returned (.int .i64 ((9 + n : Nat) : Int)) ∧ Below w.heap.size w w' := (frame_Size a n c w hn).mono fun e w' h => ⟨h.1, by rw [← h.2]; exact Below.refl _ _⟩
set_option maxRecDepth 100000 in
set_option maxHeartbeats 1000000 in
theorem frame_known (w : World) : Calls Try.prog 5 #[] w fun e w' => e = .returned (.bool true) ∧ Below w.heap.size w w' := by
  have BT := Lib.hid byteT
  have kc := fun (w : World) (C : Array Value) (n c : Nat) => Lib.run_convert_bytes_const (P := Try.prog) w 22 5 C n c Try.underlying22 Try.underlying5
  go_enter Try.func5, Try.ntmps5
  go_wp2_with fail
  refine (frame_Put 1 [97] _ _ _ (by omega) (BytesAt.fresh w 5 (1, 2) [97] _ rfl) (by simp)).mono ?_
  rintro e w1 ⟨v1, rfl, ho, hb⟩
  have O1 := Lib.hid (own_mono ho (show w.heap.size ≤ (w.alloc (.cells (bvs [97]).toArray 5 (1, 2))).heap.size by simp))
  have D1 : Hid (Below w.heap.size w w1) := Lib.hid ((below_new _ _).trans (hb.mono (by simp)))
  clear ho hb
  obtain ⟨a1, c1, rfl⟩ := own_shape O1.out
  have S1 : Hid (w.heap.size ≤ w1.heap.size) := Lib.hid D1.out.size
  go_wp2_with (first
    | (at_builtin; refine wpList_appb rfl _ _ 22 22 rfl w1.heap.size 5 BT.out (.slice none 0 0) [] rfl (World.ownsRow_nil _ _ _ _) _ (frameF 1 [97]) rfl (own_src O1.out Try.underlying22) (by rw [kn1]; simp) (Nat.le_refl _) ?_; intro v2 w2 hown _ hb _; have O2 := Lib.hid hown; have E2 := Lib.hid hb; clear hown hb)
    | (at_builtin; refine wpList_appb rfl _ _ 22 22 rfl w1.heap.size 5 BT.out v2 ([] ++ frameF 1 [97]) rfl (O2.out.alloc _) _ [0, 0] rfl ((BytesAt.fresh w2 5 (0, 0) [0, 0] _ rfl).src Try.underlying22 2) (by rw [List.nil_append, kn1]; simp) (by have := E2.out.size; simp; omega) ?_; intro v3 w3 hown _ hb _; have O3 := Lib.hid hown; have E3 := Lib.hid ((E2.out.alloc E2.out.size _).trans hb); clear hown hb))
  rw [List.nil_append] at O3
  obtain ⟨a3, c3, rfl⟩ := own_shape O3.out
  have L12 : (frameF 1 [97] ++ [0, 0]).length = 12 := by rw [List.length_append, kn1]; rfl
  have D3 : Hid (Below w.heap.size w w3) := Lib.hid (D1.out.trans (E3.out.mono S1.out))
  refine (frame_Scan (frameF 1 [97] ++ [0, 0]) a3 c3 w3 (own_bytes O3.out) (own_len O3.out) (by rw [L12]; omega)).mono ?_
  rintro e w4 ⟨v4, xs, rfl, hmap, hF, hb⟩
  rw [L12, kn2] at hmap ⊢
  obtain ⟨⟨p0, k0, vb, bb⟩, rfl⟩ : ∃ x, xs = [x] := by
    cases xs with
    | nil => simp at hmap
    | cons x r =>
      cases r with
      | nil => exact ⟨x, rfl⟩
      | cons y r => simp at hmap
  simp only [List.map_cons, List.map_nil, plainFR, List.cons.injEq, Prod.mk.injEq, and_true] at hmap
  obtain ⟨rfl, rfl, rfl⟩ := hmap
  have D4 : Hid (Below w.heap.size w w4) := Lib.hid (D3.out.trans (hb.mono D3.out.size))
  have E4 : Hid (Below w1.heap.size w1 w4) := Lib.hid (E3.out.trans (hb.mono E3.out.size))
  have OB := Lib.hid (hF.body _ (List.mem_singleton.2 rfl))
  have OR := Lib.hid hF.row
  clear hF hb
  obtain ⟨ab, cb, hvb⟩ := own_shape OB.out
  dsimp only at hvb
  subst hvb
  obtain ⟨a4, c4, rfl⟩ := own_shape OR.out
  dsimp only
  obtain ⟨g4, hg4, _, q0⟩ := own_cellN OR.out 0 (.int .i64 1) rfl
  obtain ⟨g4', hg4', _, q1⟩ := own_cellN OR.out 1 (.slice ab 1 cb) rfl
  rw [hg4] at hg4'; cases hg4'
  subst hg4
  have Q0 := Lib.hid q0; have Q1 := Lib.hid q1; clear q0 q1 OR
  have hmade : (madeCells (Value.int .u8 0).cells (9 * 1)).toList = bvs (List.replicate 9 0) := by kernel_rfl
  have HM := Lib.hid hmade; clear hmade
  go_wp2_with (refine wpList_mkn rfl _ _ 22 rfl 5 (.int .u8 0) 1 1 BT.out .i64 .i64 9 9 9 rfl rfl rfl rfl (by omega) (by omega) ?_; intro w5 ho hb; rw [HM.out] at ho; have O5 := Lib.hid ho; have D5 := Lib.hid hb; clear ho hb)
  refine (frame_Scan (List.replicate 9 0) _ 9 w5 (own_bytes O5.out) (by simp) (by simp)).mono ?_
  rintro e w6 ⟨v6, xs, rfl, hmap, hF, hb⟩
  rw [show (List.replicate 9 (0 : UInt8)).length = 9 from rfl, kn3]
  have D6 : Hid (Below w4.heap.size w4 w6) := Lib.hid (D5.out.trans (hb.mono D5.out.size))
  clear hb hF hmap
  dsimp only
  go_wp2_with fail
  refine (frame_Put_no 256 none 0 0 w6 (by omega) (by rw [kn4]; omega)).mono ?_
  rintro e w7 ⟨rfl, rfl⟩
  rw [kn4]
  go_wp2_with fail
  have HC : Hid (Chain [w6, w4, w1, w] w6) := Lib.hid (by
    intro W hW
    simp only [List.mem_cons, List.not_mem_nil, or_false] at hW
    rcases hW with rfl | rfl | rfl | rfl
    · exact Below.refl _ _
    · exact D6.out
    · exact E4.out.trans (D6.out.mono E4.out.size)
    · exact D4.out.trans (D6.out.mono D4.out.size))
  clear D1 D3 D4 E4 D5 D6 E2 E3
  refine wp_region_noPanic ?_
  refine wp_region_held_drew (S := fun w' => Below w6.heap.size w6 w') (by kernel_rfl) (Below.refl _ _).drew (fun hS => ?_)
  refine wpAnyH_take (i := 0) (oi := ⟨some 36, _, _, _, _, _⟩) (v := ?_) rfl (by kernel_rfl) (by kernel_rfl) (by kernel_rfl) (fun _ _ _ h => h) (Or.inl ⟨by rfl, ?_⟩) hS ?_
  rotate_left 1
  · intro w' hB; have t1 := (HC.out.to w1 (by simp)).trans (hB.mono (HC.out.to w1 (by simp)).size); have t4 := (HC.out.to w4 (by simp)).trans (hB.mono (HC.out.to w4 (by simp)).size); have s1 := ((own_bytes O1.out).below t1 rfl).str (frameF 1 [97]).length c1 rfl; have s3 := ((own_bytes OB.out).below t4 rfl).str 1 cb rfl; have q0 := (t4.cell (p := ⟨g4, 0, none⟩) (block_lt_of_cell Q0.out)).trans Q0.out; have q1 := (t4.cell (p := ⟨g4, 1, none⟩) (block_lt_of_cell Q1.out)).trans Q1.out; clear t1 t4; (try (have s2 := ((own_bytes O9.out).below ((HC.out.to w9 (by simp)).trans (hB.mono (HC.out.to w9 (by simp)).size)) rfl).str (frameF 1 [97]).length c9 rfl)); (go_simp <;> with_reducible rfl)
  try simp only [Act.put, List.setIfInBounds_toArray, List.set_cons_zero, List.set_cons_succ]
  refine wpAnyH_take (i := 1) (oi := ⟨some 37, _, _, _, _, _⟩) (v := ?_) rfl (by kernel_rfl) (by kernel_rfl) (by kernel_rfl) (fun _ _ _ h => h) (Or.inl ⟨by rfl, ?_⟩) hS ?_
  rotate_left 1
  · intro w' hB; have t1 := (HC.out.to w1 (by simp)).trans (hB.mono (HC.out.to w1 (by simp)).size); have t4 := (HC.out.to w4 (by simp)).trans (hB.mono (HC.out.to w4 (by simp)).size); have s1 := ((own_bytes O1.out).below t1 rfl).str (frameF 1 [97]).length c1 rfl; have s3 := ((own_bytes OB.out).below t4 rfl).str 1 cb rfl; have q0 := (t4.cell (p := ⟨g4, 0, none⟩) (block_lt_of_cell Q0.out)).trans Q0.out; have q1 := (t4.cell (p := ⟨g4, 1, none⟩) (block_lt_of_cell Q1.out)).trans Q1.out; clear t1 t4; (try (have s2 := ((own_bytes O9.out).below ((HC.out.to w9 (by simp)).trans (hB.mono (HC.out.to w9 (by simp)).size)) rfl).str (frameF 1 [97]).length c9 rfl)); (go_simp <;> with_reducible rfl)
  try simp only [Act.put, List.setIfInBounds_toArray, List.set_cons_zero, List.set_cons_succ]
  refine wpAnyH_ready (rs := [2]) (by kernel_rfl) (by simp) (AllReadyH.cons (o := ⟨some 38, _, _, _, _, _⟩) rfl (fun K hK => ?_) AllReadyH.nil)
  go_simp
  refine hK.out _ _ (hS.alloc hS.size _) (fun _ => ?_)
  clear hK K
  replace hS := hS.alloc hS.size (.cells #[.int .u8 97] 5)
  try simp only [Act.put, List.setIfInBounds_toArray, List.set_cons_zero, List.set_cons_succ]
  refine wpAnyH_ready (rs := [3]) (by kernel_rfl) (by simp) (AllReadyH.cons (o := ⟨some 39, _, _, _, _, _⟩) rfl (fun K hK => ?_) AllReadyH.nil)
  go_simp
  rw [show (convert 22 22 (.slice (some ⟨w6.heap.size, 0, none⟩) 1 1)).run Try.prog (w6.alloc (.cells #[.int .u8 97] 5)).drew = _ from kc w6.drew #[.int .u8 97] 1 1]
  go_simp
  refine hK.out _ _ ((Below.refl w6.heap.size w6).drew.alloc (Nat.le_refl _) _) (fun _ => ?_)
  clear hK K
  refine wpAnyH_made (Below.refl w6.heap.size w6).drew ?_
  rintro w8 hw hB
  clear hS
  have hS := Below.refl w8.heap.size w8
  replace HC := Lib.hid (HC.out.push hB)
  have H8 : Hid (BytesAt w8 (some ⟨w6.heap.size, 0, none⟩) [97]) := Lib.hid (by rw [hw]; exact BytesAt.fresh w6.drew 5 (1, 2) [97] _ rfl)
  clear hw hB
  try simp only [Act.put, List.setIfInBounds_toArray, List.set_cons_zero, List.set_cons_succ]
  refine wpAnyH_ready (rs := [4]) (by kernel_rfl) (by simp) (AllReadyH.cons (o := ⟨some 40, _, _, _, _, _⟩) rfl (fun K hK => ?_) AllReadyH.nil)
  go_simp
  refine (ref4_Put 1 [97] _ _ _ (by omega) (H8.out.below (HC.out.to w8 (by simp)) rfl) (by simp)).mono ?_
  rintro e w9 ⟨v9, rfl, ho, hb⟩
  refine hK.out _ _ (hS.trans (hb.mono hS.size)) (fun _ => ?_)
  clear hK K
  have hB := hS.trans (hb.mono hS.size)
  refine wpAnyH_now hB ?_
  clear hS
  have hS := Below.refl w9.heap.size w9
  replace HC := Lib.hid (HC.out.push hB)
  obtain ⟨a9, c9, rfl⟩ := own_shape ho
  have O9 := Lib.hid ho
  clear ho
  clear hB hb
  try simp only [Act.put, List.setIfInBounds_toArray, List.set_cons_zero, List.set_cons_succ]
  refine wpAnyH_take (i := 5) (oi := ⟨some 41, _, _, _, _, _⟩) (v := ?_) rfl (by kernel_rfl) (by kernel_rfl) (by kernel_rfl) (fun _ _ _ h => h) (Or.inl ⟨by rfl, ?_⟩) hS ?_
  rotate_left 1
  · intro w' hB; have t1 := (HC.out.to w1 (by simp)).trans (hB.mono (HC.out.to w1 (by simp)).size); have t4 := (HC.out.to w4 (by simp)).trans (hB.mono (HC.out.to w4 (by simp)).size); have s1 := ((own_bytes O1.out).below t1 rfl).str (frameF 1 [97]).length c1 rfl; have s3 := ((own_bytes OB.out).below t4 rfl).str 1 cb rfl; have q0 := (t4.cell (p := ⟨g4, 0, none⟩) (block_lt_of_cell Q0.out)).trans Q0.out; have q1 := (t4.cell (p := ⟨g4, 1, none⟩) (block_lt_of_cell Q1.out)).trans Q1.out; clear t1 t4; (try (have s2 := ((own_bytes O9.out).below ((HC.out.to w9 (by simp)).trans (hB.mono (HC.out.to w9 (by simp)).size)) rfl).str (frameF 1 [97]).length c9 rfl)); (go_simp <;> with_reducible rfl)
  try simp only [Act.put, List.setIfInBounds_toArray, List.set_cons_zero, List.set_cons_succ]
  refine wpAnyH_take (i := 6) (oi := ⟨some 42, _, _, _, _, _⟩) (v := ?_) rfl (by kernel_rfl) (by kernel_rfl) (by kernel_rfl) (fun _ _ _ h => h) (Or.inl ⟨by rfl, ?_⟩) hS ?_
  rotate_left 1
  · intro w' hB; have t1 := (HC.out.to w1 (by simp)).trans (hB.mono (HC.out.to w1 (by simp)).size); have t4 := (HC.out.to w4 (by simp)).trans (hB.mono (HC.out.to w4 (by simp)).size); have s1 := ((own_bytes O1.out).below t1 rfl).str (frameF 1 [97]).length c1 rfl; have s3 := ((own_bytes OB.out).below t4 rfl).str 1 cb rfl; have q0 := (t4.cell (p := ⟨g4, 0, none⟩) (block_lt_of_cell Q0.out)).trans Q0.out; have q1 := (t4.cell (p := ⟨g4, 1, none⟩) (block_lt_of_cell Q1.out)).trans Q1.out; clear t1 t4; (try (have s2 := ((own_bytes O9.out).below ((HC.out.to w9 (by simp)).trans (hB.mono (HC.out.to w9 (by simp)).size)) rfl).str (frameF 1 [97]).length c9 rfl)); (go_simp <;> with_reducible rfl)
  try simp only [Act.put, List.setIfInBounds_toArray, List.set_cons_zero, List.set_cons_succ]
  refine wpAnyH_take (i := 7) (oi := ⟨some 43, _, _, _, _, _⟩) (v := ?_) rfl (by kernel_rfl) (by kernel_rfl) (by kernel_rfl) (fun _ _ _ h => h) (Or.inl ⟨by rfl, ?_⟩) hS ?_
  rotate_left 1
  · intro w' hB; have t1 := (HC.out.to w1 (by simp)).trans (hB.mono (HC.out.to w1 (by simp)).size); have t4 := (HC.out.to w4 (by simp)).trans (hB.mono (HC.out.to w4 (by simp)).size); have s1 := ((own_bytes O1.out).below t1 rfl).str (frameF 1 [97]).length c1 rfl; have s3 := ((own_bytes OB.out).below t4 rfl).str 1 cb rfl; have q0 := (t4.cell (p := ⟨g4, 0, none⟩) (block_lt_of_cell Q0.out)).trans Q0.out; have q1 := (t4.cell (p := ⟨g4, 1, none⟩) (block_lt_of_cell Q1.out)).trans Q1.out; clear t1 t4; (try (have s2 := ((own_bytes O9.out).below ((HC.out.to w9 (by simp)).trans (hB.mono (HC.out.to w9 (by simp)).size)) rfl).str (frameF 1 [97]).length c9 rfl)); (go_simp <;> with_reducible rfl)
  try simp only [Act.put, List.setIfInBounds_toArray, List.set_cons_zero, List.set_cons_succ]
  refine wpAnyH_take (i := 8) (oi := ⟨some 44, _, _, _, _, _⟩) (v := ?_) rfl (by kernel_rfl) (by kernel_rfl) (by kernel_rfl) (fun _ _ _ h => h) (Or.inl ⟨by rfl, ?_⟩) hS ?_
  rotate_left 1
  · intro w' hB; have t1 := (HC.out.to w1 (by simp)).trans (hB.mono (HC.out.to w1 (by simp)).size); have t4 := (HC.out.to w4 (by simp)).trans (hB.mono (HC.out.to w4 (by simp)).size); have s1 := ((own_bytes O1.out).below t1 rfl).str (frameF 1 [97]).length c1 rfl; have s3 := ((own_bytes OB.out).below t4 rfl).str 1 cb rfl; have q0 := (t4.cell (p := ⟨g4, 0, none⟩) (block_lt_of_cell Q0.out)).trans Q0.out; have q1 := (t4.cell (p := ⟨g4, 1, none⟩) (block_lt_of_cell Q1.out)).trans Q1.out; clear t1 t4; (try (have s2 := ((own_bytes O9.out).below ((HC.out.to w9 (by simp)).trans (hB.mono (HC.out.to w9 (by simp)).size)) rfl).str (frameF 1 [97]).length c9 rfl)); (go_simp <;> with_reducible rfl)
  try simp only [Act.put, List.setIfInBounds_toArray, List.set_cons_zero, List.set_cons_succ]
  refine wpAnyH_ready (rs := [9]) (by kernel_rfl) (by simp) (AllReadyH.cons (o := ⟨some 45, _, _, _, _, _⟩) rfl (fun K hK => ?_) AllReadyH.nil)
  go_simp
  refine (fnumB _ _).mono ?_
  rintro e w10 ⟨rfl, hb⟩
  refine hK.out _ _ (hS.trans (hb.mono hS.size)) (fun _ => ?_)
  clear hK K
  have hB := hS.trans (hb.mono hS.size)
  refine wpAnyH_now hB ?_
  clear hS
  have hS := Below.refl w10.heap.size w10
  replace HC := Lib.hid (HC.out.push hB)
  skip
  clear hB hb
  try simp only [Act.put, List.setIfInBounds_toArray, List.set_cons_zero, List.set_cons_succ]
  refine wpAnyH_take (i := 10) (oi := ⟨some 46, _, _, _, _, _⟩) (v := ?_) rfl (by kernel_rfl) (by kernel_rfl) (by kernel_rfl) (fun _ _ _ h => h) (Or.inl ⟨by rfl, ?_⟩) hS ?_
  rotate_left 1
  · intro w' hB; have t1 := (HC.out.to w1 (by simp)).trans (hB.mono (HC.out.to w1 (by simp)).size); have t4 := (HC.out.to w4 (by simp)).trans (hB.mono (HC.out.to w4 (by simp)).size); have s1 := ((own_bytes O1.out).below t1 rfl).str (frameF 1 [97]).length c1 rfl; have s3 := ((own_bytes OB.out).below t4 rfl).str 1 cb rfl; have q0 := (t4.cell (p := ⟨g4, 0, none⟩) (block_lt_of_cell Q0.out)).trans Q0.out; have q1 := (t4.cell (p := ⟨g4, 1, none⟩) (block_lt_of_cell Q1.out)).trans Q1.out; clear t1 t4; (try (have s2 := ((own_bytes O9.out).below ((HC.out.to w9 (by simp)).trans (hB.mono (HC.out.to w9 (by simp)).size)) rfl).str (frameF 1 [97]).length c9 rfl)); (go_simp <;> with_reducible rfl)
  try simp only [Act.put, List.setIfInBounds_toArray, List.set_cons_zero, List.set_cons_succ]
  refine wpAnyH_take (i := 11) (oi := ⟨some 47, _, _, _, _, _⟩) (v := ?_) rfl (by kernel_rfl) (by kernel_rfl) (by kernel_rfl) (fun _ _ _ h => h) (Or.inl ⟨by rfl, ?_⟩) hS ?_
  rotate_left 1
  · intro w' hB; have t1 := (HC.out.to w1 (by simp)).trans (hB.mono (HC.out.to w1 (by simp)).size); have t4 := (HC.out.to w4 (by simp)).trans (hB.mono (HC.out.to w4 (by simp)).size); have s1 := ((own_bytes O1.out).below t1 rfl).str (frameF 1 [97]).length c1 rfl; have s3 := ((own_bytes OB.out).below t4 rfl).str 1 cb rfl; have q0 := (t4.cell (p := ⟨g4, 0, none⟩) (block_lt_of_cell Q0.out)).trans Q0.out; have q1 := (t4.cell (p := ⟨g4, 1, none⟩) (block_lt_of_cell Q1.out)).trans Q1.out; clear t1 t4; (try (have s2 := ((own_bytes O9.out).below ((HC.out.to w9 (by simp)).trans (hB.mono (HC.out.to w9 (by simp)).size)) rfl).str (frameF 1 [97]).length c9 rfl)); (go_simp <;> with_reducible rfl)
  try simp only [Act.put, List.setIfInBounds_toArray, List.set_cons_zero, List.set_cons_succ]
  refine wpAnyH_take (i := 12) (oi := ⟨some 48, _, _, _, _, _⟩) (v := ?_) rfl (by kernel_rfl) (by kernel_rfl) (by kernel_rfl) (fun _ _ _ h => h) (Or.inl ⟨by rfl, ?_⟩) hS ?_
  rotate_left 1
  · intro w' hB; have t1 := (HC.out.to w1 (by simp)).trans (hB.mono (HC.out.to w1 (by simp)).size); have t4 := (HC.out.to w4 (by simp)).trans (hB.mono (HC.out.to w4 (by simp)).size); have s1 := ((own_bytes O1.out).below t1 rfl).str (frameF 1 [97]).length c1 rfl; have s3 := ((own_bytes OB.out).below t4 rfl).str 1 cb rfl; have q0 := (t4.cell (p := ⟨g4, 0, none⟩) (block_lt_of_cell Q0.out)).trans Q0.out; have q1 := (t4.cell (p := ⟨g4, 1, none⟩) (block_lt_of_cell Q1.out)).trans Q1.out; clear t1 t4; (try (have s2 := ((own_bytes O9.out).below ((HC.out.to w9 (by simp)).trans (hB.mono (HC.out.to w9 (by simp)).size)) rfl).str (frameF 1 [97]).length c9 rfl)); (go_simp <;> with_reducible rfl)
  try simp only [Act.put, List.setIfInBounds_toArray, List.set_cons_zero, List.set_cons_succ]
  refine wpAnyH_take (i := 13) (oi := ⟨some 49, _, _, _, _, _⟩) (v := ?_) rfl (by kernel_rfl) (by kernel_rfl) (by kernel_rfl) (fun _ _ _ h => h) (Or.inl ⟨by rfl, ?_⟩) hS ?_
  rotate_left 1
  · intro w' hB; have t1 := (HC.out.to w1 (by simp)).trans (hB.mono (HC.out.to w1 (by simp)).size); have t4 := (HC.out.to w4 (by simp)).trans (hB.mono (HC.out.to w4 (by simp)).size); have s1 := ((own_bytes O1.out).below t1 rfl).str (frameF 1 [97]).length c1 rfl; have s3 := ((own_bytes OB.out).below t4 rfl).str 1 cb rfl; have q0 := (t4.cell (p := ⟨g4, 0, none⟩) (block_lt_of_cell Q0.out)).trans Q0.out; have q1 := (t4.cell (p := ⟨g4, 1, none⟩) (block_lt_of_cell Q1.out)).trans Q1.out; clear t1 t4; (try (have s2 := ((own_bytes O9.out).below ((HC.out.to w9 (by simp)).trans (hB.mono (HC.out.to w9 (by simp)).size)) rfl).str (frameF 1 [97]).length c9 rfl)); (go_simp <;> with_reducible rfl)
  try simp only [Act.put, List.setIfInBounds_toArray, List.set_cons_zero, List.set_cons_succ]
  refine wpAnyH_take (i := 14) (oi := ⟨some 50, _, _, _, _, _⟩) (v := ?_) rfl (by kernel_rfl) (by kernel_rfl) (by kernel_rfl) (fun _ _ _ h => h) (Or.inl ⟨by rfl, ?_⟩) hS ?_
  rotate_left 1
  · intro w' hB; have t1 := (HC.out.to w1 (by simp)).trans (hB.mono (HC.out.to w1 (by simp)).size); have t4 := (HC.out.to w4 (by simp)).trans (hB.mono (HC.out.to w4 (by simp)).size); have s1 := ((own_bytes O1.out).below t1 rfl).str (frameF 1 [97]).length c1 rfl; have s3 := ((own_bytes OB.out).below t4 rfl).str 1 cb rfl; have q0 := (t4.cell (p := ⟨g4, 0, none⟩) (block_lt_of_cell Q0.out)).trans Q0.out; have q1 := (t4.cell (p := ⟨g4, 1, none⟩) (block_lt_of_cell Q1.out)).trans Q1.out; clear t1 t4; (try (have s2 := ((own_bytes O9.out).below ((HC.out.to w9 (by simp)).trans (hB.mono (HC.out.to w9 (by simp)).size)) rfl).str (frameF 1 [97]).length c9 rfl)); (go_simp <;> with_reducible rfl)
  try simp only [Act.put, List.setIfInBounds_toArray, List.set_cons_zero, List.set_cons_succ]
  refine wpAnyH_take (i := 15) (oi := ⟨some 51, _, _, _, _, _⟩) (v := ?_) rfl (by kernel_rfl) (by kernel_rfl) (by kernel_rfl) (fun _ _ _ h => h) (Or.inl ⟨by rfl, ?_⟩) hS ?_
  rotate_left 1
  · intro w' hB; have t1 := (HC.out.to w1 (by simp)).trans (hB.mono (HC.out.to w1 (by simp)).size); have t4 := (HC.out.to w4 (by simp)).trans (hB.mono (HC.out.to w4 (by simp)).size); have s1 := ((own_bytes O1.out).below t1 rfl).str (frameF 1 [97]).length c1 rfl; have s3 := ((own_bytes OB.out).below t4 rfl).str 1 cb rfl; have q0 := (t4.cell (p := ⟨g4, 0, none⟩) (block_lt_of_cell Q0.out)).trans Q0.out; have q1 := (t4.cell (p := ⟨g4, 1, none⟩) (block_lt_of_cell Q1.out)).trans Q1.out; clear t1 t4; (try (have s2 := ((own_bytes O9.out).below ((HC.out.to w9 (by simp)).trans (hB.mono (HC.out.to w9 (by simp)).size)) rfl).str (frameF 1 [97]).length c9 rfl)); (go_simp <;> with_reducible rfl)
  try simp only [Act.put, List.setIfInBounds_toArray, List.set_cons_zero, List.set_cons_succ]
  refine wpAnyH_take (i := 16) (oi := ⟨some 52, _, _, _, _, _⟩) (v := ?_) rfl (by kernel_rfl) (by kernel_rfl) (by kernel_rfl) (fun _ _ _ h => h) (Or.inl ⟨by rfl, ?_⟩) hS ?_
  rotate_left 1
  · intro w' hB; have t1 := (HC.out.to w1 (by simp)).trans (hB.mono (HC.out.to w1 (by simp)).size); have t4 := (HC.out.to w4 (by simp)).trans (hB.mono (HC.out.to w4 (by simp)).size); have s1 := ((own_bytes O1.out).below t1 rfl).str (frameF 1 [97]).length c1 rfl; have s3 := ((own_bytes OB.out).below t4 rfl).str 1 cb rfl; have q0 := (t4.cell (p := ⟨g4, 0, none⟩) (block_lt_of_cell Q0.out)).trans Q0.out; have q1 := (t4.cell (p := ⟨g4, 1, none⟩) (block_lt_of_cell Q1.out)).trans Q1.out; clear t1 t4; (try (have s2 := ((own_bytes O9.out).below ((HC.out.to w9 (by simp)).trans (hB.mono (HC.out.to w9 (by simp)).size)) rfl).str (frameF 1 [97]).length c9 rfl)); (go_simp <;> with_reducible rfl)
  try simp only [Act.put, List.setIfInBounds_toArray, List.set_cons_zero, List.set_cons_succ]
  refine wpAnyH_take (i := 17) (oi := ⟨some 53, _, _, _, _, _⟩) (v := ?_) rfl (by kernel_rfl) (by kernel_rfl) (by kernel_rfl) (fun _ _ _ h => h) (Or.inl ⟨by rfl, ?_⟩) hS ?_
  rotate_left 1
  · intro w' hB; have t1 := (HC.out.to w1 (by simp)).trans (hB.mono (HC.out.to w1 (by simp)).size); have t4 := (HC.out.to w4 (by simp)).trans (hB.mono (HC.out.to w4 (by simp)).size); have s1 := ((own_bytes O1.out).below t1 rfl).str (frameF 1 [97]).length c1 rfl; have s3 := ((own_bytes OB.out).below t4 rfl).str 1 cb rfl; have q0 := (t4.cell (p := ⟨g4, 0, none⟩) (block_lt_of_cell Q0.out)).trans Q0.out; have q1 := (t4.cell (p := ⟨g4, 1, none⟩) (block_lt_of_cell Q1.out)).trans Q1.out; clear t1 t4; (try (have s2 := ((own_bytes O9.out).below ((HC.out.to w9 (by simp)).trans (hB.mono (HC.out.to w9 (by simp)).size)) rfl).str (frameF 1 [97]).length c9 rfl)); (go_simp <;> with_reducible rfl)
  try simp only [Act.put, List.setIfInBounds_toArray, List.set_cons_zero, List.set_cons_succ]
  refine wpAnyH_take (i := 18) (oi := ⟨some 54, _, _, _, _, _⟩) (v := ?_) rfl (by kernel_rfl) (by kernel_rfl) (by kernel_rfl) (fun _ _ _ h => h) (Or.inl ⟨by rfl, ?_⟩) hS ?_
  rotate_left 1
  · intro w' hB; have t1 := (HC.out.to w1 (by simp)).trans (hB.mono (HC.out.to w1 (by simp)).size); have t4 := (HC.out.to w4 (by simp)).trans (hB.mono (HC.out.to w4 (by simp)).size); have s1 := ((own_bytes O1.out).below t1 rfl).str (frameF 1 [97]).length c1 rfl; have s3 := ((own_bytes OB.out).below t4 rfl).str 1 cb rfl; have q0 := (t4.cell (p := ⟨g4, 0, none⟩) (block_lt_of_cell Q0.out)).trans Q0.out; have q1 := (t4.cell (p := ⟨g4, 1, none⟩) (block_lt_of_cell Q1.out)).trans Q1.out; clear t1 t4; (try (have s2 := ((own_bytes O9.out).below ((HC.out.to w9 (by simp)).trans (hB.mono (HC.out.to w9 (by simp)).size)) rfl).str (frameF 1 [97]).length c9 rfl)); (go_simp <;> with_reducible rfl)
  try simp only [Act.put, List.setIfInBounds_toArray, List.set_cons_zero, List.set_cons_succ]
  refine wpAnyH_take (i := 19) (oi := ⟨some 55, _, _, _, _, _⟩) (v := ?_) rfl (by kernel_rfl) (by kernel_rfl) (by kernel_rfl) (fun _ _ _ h => h) (Or.inl ⟨by rfl, ?_⟩) hS ?_
  rotate_left 1
  · intro w' hB; have t1 := (HC.out.to w1 (by simp)).trans (hB.mono (HC.out.to w1 (by simp)).size); have t4 := (HC.out.to w4 (by simp)).trans (hB.mono (HC.out.to w4 (by simp)).size); have s1 := ((own_bytes O1.out).below t1 rfl).str (frameF 1 [97]).length c1 rfl; have s3 := ((own_bytes OB.out).below t4 rfl).str 1 cb rfl; have q0 := (t4.cell (p := ⟨g4, 0, none⟩) (block_lt_of_cell Q0.out)).trans Q0.out; have q1 := (t4.cell (p := ⟨g4, 1, none⟩) (block_lt_of_cell Q1.out)).trans Q1.out; clear t1 t4; (try (have s2 := ((own_bytes O9.out).below ((HC.out.to w9 (by simp)).trans (hB.mono (HC.out.to w9 (by simp)).size)) rfl).str (frameF 1 [97]).length c9 rfl)); (go_simp <;> with_reducible rfl)
  try simp only [Act.put, List.setIfInBounds_toArray, List.set_cons_zero, List.set_cons_succ]
  refine wpAnyH_take (i := 20) (oi := ⟨some 56, _, _, _, _, _⟩) (v := ?_) rfl (by kernel_rfl) (by kernel_rfl) (by kernel_rfl) (fun _ _ _ h => h) (Or.inl ⟨by rfl, ?_⟩) hS ?_
  rotate_left 1
  · intro w' hB; have t1 := (HC.out.to w1 (by simp)).trans (hB.mono (HC.out.to w1 (by simp)).size); have t4 := (HC.out.to w4 (by simp)).trans (hB.mono (HC.out.to w4 (by simp)).size); have s1 := ((own_bytes O1.out).below t1 rfl).str (frameF 1 [97]).length c1 rfl; have s3 := ((own_bytes OB.out).below t4 rfl).str 1 cb rfl; have q0 := (t4.cell (p := ⟨g4, 0, none⟩) (block_lt_of_cell Q0.out)).trans Q0.out; have q1 := (t4.cell (p := ⟨g4, 1, none⟩) (block_lt_of_cell Q1.out)).trans Q1.out; clear t1 t4; (try (have s2 := ((own_bytes O9.out).below ((HC.out.to w9 (by simp)).trans (hB.mono (HC.out.to w9 (by simp)).size)) rfl).str (frameF 1 [97]).length c9 rfl)); (go_simp <;> with_reducible rfl)
  try simp only [Act.put, List.setIfInBounds_toArray, List.set_cons_zero, List.set_cons_succ]
  refine wpAnyH_take (i := 21) (oi := ⟨some 57, _, _, _, _, _⟩) (v := ?_) rfl (by kernel_rfl) (by kernel_rfl) (by kernel_rfl) (fun _ _ _ h => h) (Or.inl ⟨by rfl, ?_⟩) hS ?_
  rotate_left 1
  · intro w' hB; have t1 := (HC.out.to w1 (by simp)).trans (hB.mono (HC.out.to w1 (by simp)).size); have t4 := (HC.out.to w4 (by simp)).trans (hB.mono (HC.out.to w4 (by simp)).size); have s1 := ((own_bytes O1.out).below t1 rfl).str (frameF 1 [97]).length c1 rfl; have s3 := ((own_bytes OB.out).below t4 rfl).str 1 cb rfl; have q0 := (t4.cell (p := ⟨g4, 0, none⟩) (block_lt_of_cell Q0.out)).trans Q0.out; have q1 := (t4.cell (p := ⟨g4, 1, none⟩) (block_lt_of_cell Q1.out)).trans Q1.out; clear t1 t4; (try (have s2 := ((own_bytes O9.out).below ((HC.out.to w9 (by simp)).trans (hB.mono (HC.out.to w9 (by simp)).size)) rfl).str (frameF 1 [97]).length c9 rfl)); (go_simp <;> with_reducible rfl)
  try simp only [Act.put, List.setIfInBounds_toArray, List.set_cons_zero, List.set_cons_succ]
  refine wpAnyH_take (i := 22) (oi := ⟨some 58, _, _, _, _, _⟩) (v := ?_) rfl (by kernel_rfl) (by kernel_rfl) (by kernel_rfl) (fun _ _ _ h => h) (Or.inl ⟨by rfl, ?_⟩) hS ?_
  rotate_left 1
  · intro w' hB; have t1 := (HC.out.to w1 (by simp)).trans (hB.mono (HC.out.to w1 (by simp)).size); have t4 := (HC.out.to w4 (by simp)).trans (hB.mono (HC.out.to w4 (by simp)).size); have s1 := ((own_bytes O1.out).below t1 rfl).str (frameF 1 [97]).length c1 rfl; have s3 := ((own_bytes OB.out).below t4 rfl).str 1 cb rfl; have q0 := (t4.cell (p := ⟨g4, 0, none⟩) (block_lt_of_cell Q0.out)).trans Q0.out; have q1 := (t4.cell (p := ⟨g4, 1, none⟩) (block_lt_of_cell Q1.out)).trans Q1.out; clear t1 t4; (try (have s2 := ((own_bytes O9.out).below ((HC.out.to w9 (by simp)).trans (hB.mono (HC.out.to w9 (by simp)).size)) rfl).str (frameF 1 [97]).length c9 rfl)); (go_simp <;> with_reducible rfl)
  try simp only [Act.put, List.setIfInBounds_toArray, List.set_cons_zero, List.set_cons_succ]
  refine wpAnyH_take (i := 23) (oi := ⟨some 59, _, _, _, _, _⟩) (v := ?_) rfl (by kernel_rfl) (by kernel_rfl) (by kernel_rfl) (fun _ _ _ h => h) (Or.inl ⟨by rfl, ?_⟩) hS ?_
  rotate_left 1
  · intro w' hB; have t1 := (HC.out.to w1 (by simp)).trans (hB.mono (HC.out.to w1 (by simp)).size); have t4 := (HC.out.to w4 (by simp)).trans (hB.mono (HC.out.to w4 (by simp)).size); have s1 := ((own_bytes O1.out).below t1 rfl).str (frameF 1 [97]).length c1 rfl; have s3 := ((own_bytes OB.out).below t4 rfl).str 1 cb rfl; have q0 := (t4.cell (p := ⟨g4, 0, none⟩) (block_lt_of_cell Q0.out)).trans Q0.out; have q1 := (t4.cell (p := ⟨g4, 1, none⟩) (block_lt_of_cell Q1.out)).trans Q1.out; clear t1 t4; (try (have s2 := ((own_bytes O9.out).below ((HC.out.to w9 (by simp)).trans (hB.mono (HC.out.to w9 (by simp)).size)) rfl).str (frameF 1 [97]).length c9 rfl)); (go_simp <;> with_reducible rfl)
  try simp only [Act.put, List.setIfInBounds_toArray, List.set_cons_zero, List.set_cons_succ]
  refine wpAnyH_take (i := 24) (oi := ⟨some 60, _, _, _, _, _⟩) (v := ?_) rfl (by kernel_rfl) (by kernel_rfl) (by kernel_rfl) (fun _ _ _ h => h) (Or.inl ⟨by rfl, ?_⟩) hS ?_
  rotate_left 1
  · intro w' hB; have t1 := (HC.out.to w1 (by simp)).trans (hB.mono (HC.out.to w1 (by simp)).size); have t4 := (HC.out.to w4 (by simp)).trans (hB.mono (HC.out.to w4 (by simp)).size); have s1 := ((own_bytes O1.out).below t1 rfl).str (frameF 1 [97]).length c1 rfl; have s3 := ((own_bytes OB.out).below t4 rfl).str 1 cb rfl; have q0 := (t4.cell (p := ⟨g4, 0, none⟩) (block_lt_of_cell Q0.out)).trans Q0.out; have q1 := (t4.cell (p := ⟨g4, 1, none⟩) (block_lt_of_cell Q1.out)).trans Q1.out; clear t1 t4; (try (have s2 := ((own_bytes O9.out).below ((HC.out.to w9 (by simp)).trans (hB.mono (HC.out.to w9 (by simp)).size)) rfl).str (frameF 1 [97]).length c9 rfl)); (go_simp <;> with_reducible rfl)
  try simp only [Act.put, List.setIfInBounds_toArray, List.set_cons_zero, List.set_cons_succ]
  refine wpAnyH_take (i := 25) (oi := ⟨some 61, _, _, _, _, _⟩) (v := ?_) rfl (by kernel_rfl) (by kernel_rfl) (by kernel_rfl) (fun _ _ _ h => h) (Or.inl ⟨by rfl, ?_⟩) hS ?_
  rotate_left 1
  · intro w' hB; have t1 := (HC.out.to w1 (by simp)).trans (hB.mono (HC.out.to w1 (by simp)).size); have t4 := (HC.out.to w4 (by simp)).trans (hB.mono (HC.out.to w4 (by simp)).size); have s1 := ((own_bytes O1.out).below t1 rfl).str (frameF 1 [97]).length c1 rfl; have s3 := ((own_bytes OB.out).below t4 rfl).str 1 cb rfl; have q0 := (t4.cell (p := ⟨g4, 0, none⟩) (block_lt_of_cell Q0.out)).trans Q0.out; have q1 := (t4.cell (p := ⟨g4, 1, none⟩) (block_lt_of_cell Q1.out)).trans Q1.out; clear t1 t4; (try (have s2 := ((own_bytes O9.out).below ((HC.out.to w9 (by simp)).trans (hB.mono (HC.out.to w9 (by simp)).size)) rfl).str (frameF 1 [97]).length c9 rfl)); (go_simp <;> with_reducible rfl)
  try simp only [Act.put, List.setIfInBounds_toArray, List.set_cons_zero, List.set_cons_succ]
  refine wpAnyH_take (i := 26) (oi := ⟨some 62, _, _, _, _, _⟩) (v := ?_) rfl (by kernel_rfl) (by kernel_rfl) (by kernel_rfl) (fun _ _ _ h => h) (Or.inl ⟨by rfl, ?_⟩) hS ?_
  rotate_left 1
  · intro w' hB; have t1 := (HC.out.to w1 (by simp)).trans (hB.mono (HC.out.to w1 (by simp)).size); have t4 := (HC.out.to w4 (by simp)).trans (hB.mono (HC.out.to w4 (by simp)).size); have s1 := ((own_bytes O1.out).below t1 rfl).str (frameF 1 [97]).length c1 rfl; have s3 := ((own_bytes OB.out).below t4 rfl).str 1 cb rfl; have q0 := (t4.cell (p := ⟨g4, 0, none⟩) (block_lt_of_cell Q0.out)).trans Q0.out; have q1 := (t4.cell (p := ⟨g4, 1, none⟩) (block_lt_of_cell Q1.out)).trans Q1.out; clear t1 t4; (try (have s2 := ((own_bytes O9.out).below ((HC.out.to w9 (by simp)).trans (hB.mono (HC.out.to w9 (by simp)).size)) rfl).str (frameF 1 [97]).length c9 rfl)); (go_simp <;> with_reducible rfl)
  try simp only [Act.put, List.setIfInBounds_toArray, List.set_cons_zero, List.set_cons_succ]
  refine wpAnyH_take (i := 27) (oi := ⟨some 63, _, _, _, _, _⟩) (v := ?_) rfl (by kernel_rfl) (by kernel_rfl) (by kernel_rfl) (fun _ _ _ h => h) (Or.inl ⟨by rfl, ?_⟩) hS ?_
  rotate_left 1
  · intro w' hB; have t1 := (HC.out.to w1 (by simp)).trans (hB.mono (HC.out.to w1 (by simp)).size); have t4 := (HC.out.to w4 (by simp)).trans (hB.mono (HC.out.to w4 (by simp)).size); have s1 := ((own_bytes O1.out).below t1 rfl).str (frameF 1 [97]).length c1 rfl; have s3 := ((own_bytes OB.out).below t4 rfl).str 1 cb rfl; have q0 := (t4.cell (p := ⟨g4, 0, none⟩) (block_lt_of_cell Q0.out)).trans Q0.out; have q1 := (t4.cell (p := ⟨g4, 1, none⟩) (block_lt_of_cell Q1.out)).trans Q1.out; clear t1 t4; (try (have s2 := ((own_bytes O9.out).below ((HC.out.to w9 (by simp)).trans (hB.mono (HC.out.to w9 (by simp)).size)) rfl).str (frameF 1 [97]).length c9 rfl)); (go_simp <;> with_reducible rfl)
  try simp only [Act.put, List.setIfInBounds_toArray, List.set_cons_zero, List.set_cons_succ]
  refine wpAnyH_take (i := 28) (oi := ⟨some 64, _, _, _, _, _⟩) (v := ?_) rfl (by kernel_rfl) (by kernel_rfl) (by kernel_rfl) (fun _ _ _ h => h) (Or.inl ⟨by rfl, ?_⟩) hS ?_
  rotate_left 1
  · intro w' hB; have t1 := (HC.out.to w1 (by simp)).trans (hB.mono (HC.out.to w1 (by simp)).size); have t4 := (HC.out.to w4 (by simp)).trans (hB.mono (HC.out.to w4 (by simp)).size); have s1 := ((own_bytes O1.out).below t1 rfl).str (frameF 1 [97]).length c1 rfl; have s3 := ((own_bytes OB.out).below t4 rfl).str 1 cb rfl; have q0 := (t4.cell (p := ⟨g4, 0, none⟩) (block_lt_of_cell Q0.out)).trans Q0.out; have q1 := (t4.cell (p := ⟨g4, 1, none⟩) (block_lt_of_cell Q1.out)).trans Q1.out; clear t1 t4; (try (have s2 := ((own_bytes O9.out).below ((HC.out.to w9 (by simp)).trans (hB.mono (HC.out.to w9 (by simp)).size)) rfl).str (frameF 1 [97]).length c9 rfl)); (go_simp <;> with_reducible rfl)
  try simp only [Act.put, List.setIfInBounds_toArray, List.set_cons_zero, List.set_cons_succ]
  refine wpAnyH_take (i := 29) (oi := ⟨some 65, _, _, _, _, _⟩) (v := ?_) rfl (by kernel_rfl) (by kernel_rfl) (by kernel_rfl) (fun _ _ _ h => h) (Or.inl ⟨by rfl, ?_⟩) hS ?_
  rotate_left 1
  · intro w' hB; have t1 := (HC.out.to w1 (by simp)).trans (hB.mono (HC.out.to w1 (by simp)).size); have t4 := (HC.out.to w4 (by simp)).trans (hB.mono (HC.out.to w4 (by simp)).size); have s1 := ((own_bytes O1.out).below t1 rfl).str (frameF 1 [97]).length c1 rfl; have s3 := ((own_bytes OB.out).below t4 rfl).str 1 cb rfl; have q0 := (t4.cell (p := ⟨g4, 0, none⟩) (block_lt_of_cell Q0.out)).trans Q0.out; have q1 := (t4.cell (p := ⟨g4, 1, none⟩) (block_lt_of_cell Q1.out)).trans Q1.out; clear t1 t4; (try (have s2 := ((own_bytes O9.out).below ((HC.out.to w9 (by simp)).trans (hB.mono (HC.out.to w9 (by simp)).size)) rfl).str (frameF 1 [97]).length c9 rfl)); (go_simp <;> with_reducible rfl)
  try simp only [Act.put, List.setIfInBounds_toArray, List.set_cons_zero, List.set_cons_succ]
  refine wpAnyH_take (i := 30) (oi := ⟨some 66, _, _, _, _, _⟩) (v := ?_) rfl (by kernel_rfl) (by kernel_rfl) (by kernel_rfl) (fun _ _ _ h => h) (Or.inl ⟨by rfl, ?_⟩) hS ?_
  rotate_left 1
  · intro w' hB; have t1 := (HC.out.to w1 (by simp)).trans (hB.mono (HC.out.to w1 (by simp)).size); have t4 := (HC.out.to w4 (by simp)).trans (hB.mono (HC.out.to w4 (by simp)).size); have s1 := ((own_bytes O1.out).below t1 rfl).str (frameF 1 [97]).length c1 rfl; have s3 := ((own_bytes OB.out).below t4 rfl).str 1 cb rfl; have q0 := (t4.cell (p := ⟨g4, 0, none⟩) (block_lt_of_cell Q0.out)).trans Q0.out; have q1 := (t4.cell (p := ⟨g4, 1, none⟩) (block_lt_of_cell Q1.out)).trans Q1.out; clear t1 t4; (try (have s2 := ((own_bytes O9.out).below ((HC.out.to w9 (by simp)).trans (hB.mono (HC.out.to w9 (by simp)).size)) rfl).str (frameF 1 [97]).length c9 rfl)); (go_simp <;> with_reducible rfl)
  try simp only [Act.put, List.setIfInBounds_toArray, List.set_cons_zero, List.set_cons_succ]
  refine wpAnyH_take (i := 31) (oi := ⟨some 67, _, _, _, _, _⟩) (v := ?_) rfl (by kernel_rfl) (by kernel_rfl) (by kernel_rfl) (fun _ _ _ h => h) (Or.inl ⟨by rfl, ?_⟩) hS ?_
  rotate_left 1
  · intro w' hB; have t1 := (HC.out.to w1 (by simp)).trans (hB.mono (HC.out.to w1 (by simp)).size); have t4 := (HC.out.to w4 (by simp)).trans (hB.mono (HC.out.to w4 (by simp)).size); have s1 := ((own_bytes O1.out).below t1 rfl).str (frameF 1 [97]).length c1 rfl; have s3 := ((own_bytes OB.out).below t4 rfl).str 1 cb rfl; have q0 := (t4.cell (p := ⟨g4, 0, none⟩) (block_lt_of_cell Q0.out)).trans Q0.out; have q1 := (t4.cell (p := ⟨g4, 1, none⟩) (block_lt_of_cell Q1.out)).trans Q1.out; clear t1 t4; (try (have s2 := ((own_bytes O9.out).below ((HC.out.to w9 (by simp)).trans (hB.mono (HC.out.to w9 (by simp)).size)) rfl).str (frameF 1 [97]).length c9 rfl)); (go_simp <;> with_reducible rfl)
  try simp only [Act.put, List.setIfInBounds_toArray, List.set_cons_zero, List.set_cons_succ]
  refine wpAnyH_take (i := 32) (oi := ⟨some 68, _, _, _, _, _⟩) (v := ?_) rfl (by kernel_rfl) (by kernel_rfl) (by kernel_rfl) (fun _ _ _ h => h) (Or.inl ⟨by rfl, ?_⟩) hS ?_
  rotate_left 1
  · intro w' hB; have t1 := (HC.out.to w1 (by simp)).trans (hB.mono (HC.out.to w1 (by simp)).size); have t4 := (HC.out.to w4 (by simp)).trans (hB.mono (HC.out.to w4 (by simp)).size); have s1 := ((own_bytes O1.out).below t1 rfl).str (frameF 1 [97]).length c1 rfl; have s3 := ((own_bytes OB.out).below t4 rfl).str 1 cb rfl; have q0 := (t4.cell (p := ⟨g4, 0, none⟩) (block_lt_of_cell Q0.out)).trans Q0.out; have q1 := (t4.cell (p := ⟨g4, 1, none⟩) (block_lt_of_cell Q1.out)).trans Q1.out; clear t1 t4; (try (have s2 := ((own_bytes O9.out).below ((HC.out.to w9 (by simp)).trans (hB.mono (HC.out.to w9 (by simp)).size)) rfl).str (frameF 1 [97]).length c9 rfl)); (go_simp <;> with_reducible rfl)
  try simp only [Act.put, List.setIfInBounds_toArray, List.set_cons_zero, List.set_cons_succ]
  refine wpAnyH_take (i := 33) (oi := ⟨some 69, _, _, _, _, _⟩) (v := ?_) rfl (by kernel_rfl) (by kernel_rfl) (by kernel_rfl) (fun _ _ _ h => h) (Or.inl ⟨by rfl, ?_⟩) hS ?_
  rotate_left 1
  · intro w' hB; have t1 := (HC.out.to w1 (by simp)).trans (hB.mono (HC.out.to w1 (by simp)).size); have t4 := (HC.out.to w4 (by simp)).trans (hB.mono (HC.out.to w4 (by simp)).size); have s1 := ((own_bytes O1.out).below t1 rfl).str (frameF 1 [97]).length c1 rfl; have s3 := ((own_bytes OB.out).below t4 rfl).str 1 cb rfl; have q0 := (t4.cell (p := ⟨g4, 0, none⟩) (block_lt_of_cell Q0.out)).trans Q0.out; have q1 := (t4.cell (p := ⟨g4, 1, none⟩) (block_lt_of_cell Q1.out)).trans Q1.out; clear t1 t4; (try (have s2 := ((own_bytes O9.out).below ((HC.out.to w9 (by simp)).trans (hB.mono (HC.out.to w9 (by simp)).size)) rfl).str (frameF 1 [97]).length c9 rfl)); (go_simp <;> with_reducible rfl)
  try simp only [Act.put, List.setIfInBounds_toArray, List.set_cons_zero, List.set_cons_succ]
  refine wpAnyH_take (i := 34) (oi := ⟨some 70, _, _, _, _, _⟩) (v := ?_) rfl (by kernel_rfl) (by kernel_rfl) (by kernel_rfl) (fun _ _ _ h => h) (Or.inl ⟨by rfl, ?_⟩) hS ?_
  rotate_left 1
  · intro w' hB; have t1 := (HC.out.to w1 (by simp)).trans (hB.mono (HC.out.to w1 (by simp)).size); have t4 := (HC.out.to w4 (by simp)).trans (hB.mono (HC.out.to w4 (by simp)).size); have s1 := ((own_bytes O1.out).below t1 rfl).str (frameF 1 [97]).length c1 rfl; have s3 := ((own_bytes OB.out).below t4 rfl).str 1 cb rfl; have q0 := (t4.cell (p := ⟨g4, 0, none⟩) (block_lt_of_cell Q0.out)).trans Q0.out; have q1 := (t4.cell (p := ⟨g4, 1, none⟩) (block_lt_of_cell Q1.out)).trans Q1.out; clear t1 t4; (try (have s2 := ((own_bytes O9.out).below ((HC.out.to w9 (by simp)).trans (hB.mono (HC.out.to w9 (by simp)).size)) rfl).str (frameF 1 [97]).length c9 rfl)); (go_simp <;> with_reducible rfl)
  try simp only [Act.put, List.setIfInBounds_toArray, List.set_cons_zero, List.set_cons_succ]
  refine wpAnyH_take (i := 35) (oi := ⟨some 71, _, _, _, _, _⟩) (v := ?_) rfl (by kernel_rfl) (by kernel_rfl) (by kernel_rfl) (fun _ _ _ h => h) (Or.inl ⟨by rfl, ?_⟩) hS ?_
  rotate_left 1
  · intro w' hB; have t1 := (HC.out.to w1 (by simp)).trans (hB.mono (HC.out.to w1 (by simp)).size); have t4 := (HC.out.to w4 (by simp)).trans (hB.mono (HC.out.to w4 (by simp)).size); have s1 := ((own_bytes O1.out).below t1 rfl).str (frameF 1 [97]).length c1 rfl; have s3 := ((own_bytes OB.out).below t4 rfl).str 1 cb rfl; have q0 := (t4.cell (p := ⟨g4, 0, none⟩) (block_lt_of_cell Q0.out)).trans Q0.out; have q1 := (t4.cell (p := ⟨g4, 1, none⟩) (block_lt_of_cell Q1.out)).trans Q1.out; clear t1 t4; (try (have s2 := ((own_bytes O9.out).below ((HC.out.to w9 (by simp)).trans (hB.mono (HC.out.to w9 (by simp)).size)) rfl).str (frameF 1 [97]).length c9 rfl)); (go_simp <;> with_reducible rfl)
  try simp only [Act.put, List.setIfInBounds_toArray, List.set_cons_zero, List.set_cons_succ]
  refine wpAnyH_take (i := 36) (oi := ⟨some 72, _, _, _, _, _⟩) (v := ?_) rfl (by kernel_rfl) (by kernel_rfl) (by kernel_rfl) (fun _ _ _ h => h) (Or.inl ⟨by rfl, ?_⟩) hS ?_
  rotate_left 1
  · intro w' hB; have t1 := (HC.out.to w1 (by simp)).trans (hB.mono (HC.out.to w1 (by simp)).size); have t4 := (HC.out.to w4 (by simp)).trans (hB.mono (HC.out.to w4 (by simp)).size); have s1 := ((own_bytes O1.out).below t1 rfl).str (frameF 1 [97]).length c1 rfl; have s3 := ((own_bytes OB.out).below t4 rfl).str 1 cb rfl; have q0 := (t4.cell (p := ⟨g4, 0, none⟩) (block_lt_of_cell Q0.out)).trans Q0.out; have q1 := (t4.cell (p := ⟨g4, 1, none⟩) (block_lt_of_cell Q1.out)).trans Q1.out; clear t1 t4; (try (have s2 := ((own_bytes O9.out).below ((HC.out.to w9 (by simp)).trans (hB.mono (HC.out.to w9 (by simp)).size)) rfl).str (frameF 1 [97]).length c9 rfl)); (go_simp <;> with_reducible rfl)
  try simp only [Act.put, List.setIfInBounds_toArray, List.set_cons_zero, List.set_cons_succ]
  refine wpAnyH_take (i := 37) (oi := ⟨some 73, _, _, _, _, _⟩) (v := ?_) rfl (by kernel_rfl) (by kernel_rfl) (by kernel_rfl) (fun _ _ _ h => h) (Or.inl ⟨by rfl, ?_⟩) hS ?_
  rotate_left 1
  · intro w' hB; have t1 := (HC.out.to w1 (by simp)).trans (hB.mono (HC.out.to w1 (by simp)).size); have t4 := (HC.out.to w4 (by simp)).trans (hB.mono (HC.out.to w4 (by simp)).size); have s1 := ((own_bytes O1.out).below t1 rfl).str (frameF 1 [97]).length c1 rfl; have s3 := ((own_bytes OB.out).below t4 rfl).str 1 cb rfl; have q0 := (t4.cell (p := ⟨g4, 0, none⟩) (block_lt_of_cell Q0.out)).trans Q0.out; have q1 := (t4.cell (p := ⟨g4, 1, none⟩) (block_lt_of_cell Q1.out)).trans Q1.out; clear t1 t4; (try (have s2 := ((own_bytes O9.out).below ((HC.out.to w9 (by simp)).trans (hB.mono (HC.out.to w9 (by simp)).size)) rfl).str (frameF 1 [97]).length c9 rfl)); (go_simp <;> with_reducible rfl)
  try simp only [Act.put, List.setIfInBounds_toArray, List.set_cons_zero, List.set_cons_succ]
  refine wpAnyH_ready (rs := [38]) (by kernel_rfl) (by simp) (AllReadyH.cons (o := ⟨some 74, _, _, _, _, _⟩) rfl (fun K hK => ?_) AllReadyH.nil)
  go_simp
  refine (fnumB _ _).mono ?_
  rintro e w11 ⟨rfl, hb⟩
  refine hK.out _ _ (hS.trans (hb.mono hS.size)) (fun _ => ?_)
  clear hK K
  have hB := hS.trans (hb.mono hS.size)
  refine wpAnyH_now hB ?_
  clear hS
  have hS := Below.refl w11.heap.size w11
  replace HC := Lib.hid (HC.out.push hB)
  skip
  clear hB hb
  try simp only [Act.put, List.setIfInBounds_toArray, List.set_cons_zero, List.set_cons_succ]
  refine wpAnyH_take (i := 39) (oi := ⟨some 75, _, _, _, _, _⟩) (v := ?_) rfl (by kernel_rfl) (by kernel_rfl) (by kernel_rfl) (fun _ _ _ h => h) (Or.inl ⟨by rfl, ?_⟩) hS ?_
  rotate_left 1
  · intro w' hB; have t1 := (HC.out.to w1 (by simp)).trans (hB.mono (HC.out.to w1 (by simp)).size); have t4 := (HC.out.to w4 (by simp)).trans (hB.mono (HC.out.to w4 (by simp)).size); have s1 := ((own_bytes O1.out).below t1 rfl).str (frameF 1 [97]).length c1 rfl; have s3 := ((own_bytes OB.out).below t4 rfl).str 1 cb rfl; have q0 := (t4.cell (p := ⟨g4, 0, none⟩) (block_lt_of_cell Q0.out)).trans Q0.out; have q1 := (t4.cell (p := ⟨g4, 1, none⟩) (block_lt_of_cell Q1.out)).trans Q1.out; clear t1 t4; (try (have s2 := ((own_bytes O9.out).below ((HC.out.to w9 (by simp)).trans (hB.mono (HC.out.to w9 (by simp)).size)) rfl).str (frameF 1 [97]).length c9 rfl)); (go_simp <;> with_reducible rfl)
  try simp only [Act.put, List.setIfInBounds_toArray, List.set_cons_zero, List.set_cons_succ]
  refine wpAnyH_take (i := 40) (oi := ⟨some 76, _, _, _, _, _⟩) (v := ?_) rfl (by kernel_rfl) (by kernel_rfl) (by kernel_rfl) (fun _ _ _ h => h) (Or.inl ⟨by rfl, ?_⟩) hS ?_
  rotate_left 1
  · intro w' hB; have t1 := (HC.out.to w1 (by simp)).trans (hB.mono (HC.out.to w1 (by simp)).size); have t4 := (HC.out.to w4 (by simp)).trans (hB.mono (HC.out.to w4 (by simp)).size); have s1 := ((own_bytes O1.out).below t1 rfl).str (frameF 1 [97]).length c1 rfl; have s3 := ((own_bytes OB.out).below t4 rfl).str 1 cb rfl; have q0 := (t4.cell (p := ⟨g4, 0, none⟩) (block_lt_of_cell Q0.out)).trans Q0.out; have q1 := (t4.cell (p := ⟨g4, 1, none⟩) (block_lt_of_cell Q1.out)).trans Q1.out; clear t1 t4; (try (have s2 := ((own_bytes O9.out).below ((HC.out.to w9 (by simp)).trans (hB.mono (HC.out.to w9 (by simp)).size)) rfl).str (frameF 1 [97]).length c9 rfl)); (go_simp <;> with_reducible rfl)
  try simp only [Act.put, List.setIfInBounds_toArray, List.set_cons_zero, List.set_cons_succ]
  refine wpAnyH_take (i := 41) (oi := ⟨some 77, _, _, _, _, _⟩) (v := ?_) rfl (by kernel_rfl) (by kernel_rfl) (by kernel_rfl) (fun _ _ _ h => h) (Or.inl ⟨by rfl, ?_⟩) hS ?_
  rotate_left 1
  · intro w' hB; have t1 := (HC.out.to w1 (by simp)).trans (hB.mono (HC.out.to w1 (by simp)).size); have t4 := (HC.out.to w4 (by simp)).trans (hB.mono (HC.out.to w4 (by simp)).size); have s1 := ((own_bytes O1.out).below t1 rfl).str (frameF 1 [97]).length c1 rfl; have s3 := ((own_bytes OB.out).below t4 rfl).str 1 cb rfl; have q0 := (t4.cell (p := ⟨g4, 0, none⟩) (block_lt_of_cell Q0.out)).trans Q0.out; have q1 := (t4.cell (p := ⟨g4, 1, none⟩) (block_lt_of_cell Q1.out)).trans Q1.out; clear t1 t4; (try (have s2 := ((own_bytes O9.out).below ((HC.out.to w9 (by simp)).trans (hB.mono (HC.out.to w9 (by simp)).size)) rfl).str (frameF 1 [97]).length c9 rfl)); (go_simp <;> with_reducible rfl)
  try simp only [Act.put, List.setIfInBounds_toArray, List.set_cons_zero, List.set_cons_succ]
  refine wpAnyH_take (i := 42) (oi := ⟨some 78, _, _, _, _, _⟩) (v := ?_) rfl (by kernel_rfl) (by kernel_rfl) (by kernel_rfl) (fun _ _ _ h => h) (Or.inl ⟨by rfl, ?_⟩) hS ?_
  rotate_left 1
  · intro w' hB; have t1 := (HC.out.to w1 (by simp)).trans (hB.mono (HC.out.to w1 (by simp)).size); have t4 := (HC.out.to w4 (by simp)).trans (hB.mono (HC.out.to w4 (by simp)).size); have s1 := ((own_bytes O1.out).below t1 rfl).str (frameF 1 [97]).length c1 rfl; have s3 := ((own_bytes OB.out).below t4 rfl).str 1 cb rfl; have q0 := (t4.cell (p := ⟨g4, 0, none⟩) (block_lt_of_cell Q0.out)).trans Q0.out; have q1 := (t4.cell (p := ⟨g4, 1, none⟩) (block_lt_of_cell Q1.out)).trans Q1.out; clear t1 t4; (try (have s2 := ((own_bytes O9.out).below ((HC.out.to w9 (by simp)).trans (hB.mono (HC.out.to w9 (by simp)).size)) rfl).str (frameF 1 [97]).length c9 rfl)); (go_simp <;> with_reducible rfl)
  try simp only [Act.put, List.setIfInBounds_toArray, List.set_cons_zero, List.set_cons_succ]
  refine wpAnyH_take (i := 43) (oi := ⟨some 79, _, _, _, _, _⟩) (v := ?_) rfl (by kernel_rfl) (by kernel_rfl) (by kernel_rfl) (fun _ _ _ h => h) (Or.inl ⟨by rfl, ?_⟩) hS ?_
  rotate_left 1
  · intro w' hB; have t1 := (HC.out.to w1 (by simp)).trans (hB.mono (HC.out.to w1 (by simp)).size); have t4 := (HC.out.to w4 (by simp)).trans (hB.mono (HC.out.to w4 (by simp)).size); have s1 := ((own_bytes O1.out).below t1 rfl).str (frameF 1 [97]).length c1 rfl; have s3 := ((own_bytes OB.out).below t4 rfl).str 1 cb rfl; have q0 := (t4.cell (p := ⟨g4, 0, none⟩) (block_lt_of_cell Q0.out)).trans Q0.out; have q1 := (t4.cell (p := ⟨g4, 1, none⟩) (block_lt_of_cell Q1.out)).trans Q1.out; clear t1 t4; (try (have s2 := ((own_bytes O9.out).below ((HC.out.to w9 (by simp)).trans (hB.mono (HC.out.to w9 (by simp)).size)) rfl).str (frameF 1 [97]).length c9 rfl)); (go_simp <;> with_reducible rfl)
  try simp only [Act.put, List.setIfInBounds_toArray, List.set_cons_zero, List.set_cons_succ]
  refine wpAnyH_take (i := 44) (oi := ⟨some 80, _, _, _, _, _⟩) (v := ?_) rfl (by kernel_rfl) (by kernel_rfl) (by kernel_rfl) (fun _ _ _ h => h) (Or.inl ⟨by rfl, ?_⟩) hS ?_
  rotate_left 1
  · intro w' hB; have t1 := (HC.out.to w1 (by simp)).trans (hB.mono (HC.out.to w1 (by simp)).size); have t4 := (HC.out.to w4 (by simp)).trans (hB.mono (HC.out.to w4 (by simp)).size); have s1 := ((own_bytes O1.out).below t1 rfl).str (frameF 1 [97]).length c1 rfl; have s3 := ((own_bytes OB.out).below t4 rfl).str 1 cb rfl; have q0 := (t4.cell (p := ⟨g4, 0, none⟩) (block_lt_of_cell Q0.out)).trans Q0.out; have q1 := (t4.cell (p := ⟨g4, 1, none⟩) (block_lt_of_cell Q1.out)).trans Q1.out; clear t1 t4; (try (have s2 := ((own_bytes O9.out).below ((HC.out.to w9 (by simp)).trans (hB.mono (HC.out.to w9 (by simp)).size)) rfl).str (frameF 1 [97]).length c9 rfl)); (go_simp <;> with_reducible rfl)
  try simp only [Act.put, List.setIfInBounds_toArray, List.set_cons_zero, List.set_cons_succ]
  refine wpAnyH_take (i := 45) (oi := ⟨some 81, _, _, _, _, _⟩) (v := ?_) rfl (by kernel_rfl) (by kernel_rfl) (by kernel_rfl) (fun _ _ _ h => h) (Or.inl ⟨by rfl, ?_⟩) hS ?_
  rotate_left 1
  · intro w' hB; have t1 := (HC.out.to w1 (by simp)).trans (hB.mono (HC.out.to w1 (by simp)).size); have t4 := (HC.out.to w4 (by simp)).trans (hB.mono (HC.out.to w4 (by simp)).size); have s1 := ((own_bytes O1.out).below t1 rfl).str (frameF 1 [97]).length c1 rfl; have s3 := ((own_bytes OB.out).below t4 rfl).str 1 cb rfl; have q0 := (t4.cell (p := ⟨g4, 0, none⟩) (block_lt_of_cell Q0.out)).trans Q0.out; have q1 := (t4.cell (p := ⟨g4, 1, none⟩) (block_lt_of_cell Q1.out)).trans Q1.out; clear t1 t4; (try (have s2 := ((own_bytes O9.out).below ((HC.out.to w9 (by simp)).trans (hB.mono (HC.out.to w9 (by simp)).size)) rfl).str (frameF 1 [97]).length c9 rfl)); (go_simp <;> with_reducible rfl)
  try simp only [Act.put, List.setIfInBounds_toArray, List.set_cons_zero, List.set_cons_succ]
  refine wpAnyH_take (i := 46) (oi := ⟨some 82, _, _, _, _, _⟩) (v := ?_) rfl (by kernel_rfl) (by kernel_rfl) (by kernel_rfl) (fun _ _ _ h => h) (Or.inl ⟨by rfl, ?_⟩) hS ?_
  rotate_left 1
  · intro w' hB; have t1 := (HC.out.to w1 (by simp)).trans (hB.mono (HC.out.to w1 (by simp)).size); have t4 := (HC.out.to w4 (by simp)).trans (hB.mono (HC.out.to w4 (by simp)).size); have s1 := ((own_bytes O1.out).below t1 rfl).str (frameF 1 [97]).length c1 rfl; have s3 := ((own_bytes OB.out).below t4 rfl).str 1 cb rfl; have q0 := (t4.cell (p := ⟨g4, 0, none⟩) (block_lt_of_cell Q0.out)).trans Q0.out; have q1 := (t4.cell (p := ⟨g4, 1, none⟩) (block_lt_of_cell Q1.out)).trans Q1.out; clear t1 t4; (try (have s2 := ((own_bytes O9.out).below ((HC.out.to w9 (by simp)).trans (hB.mono (HC.out.to w9 (by simp)).size)) rfl).str (frameF 1 [97]).length c9 rfl)); (go_simp <;> with_reducible rfl)
  try simp only [Act.put, List.setIfInBounds_toArray, List.set_cons_zero, List.set_cons_succ]
  refine wpAnyH_ready (rs := [47]) (by kernel_rfl) (by simp) (AllReadyH.cons (o := ⟨some 83, _, _, _, _, _⟩) rfl (fun K hK => ?_) AllReadyH.nil)
  go_simp
  refine (fnumB _ _).mono ?_
  rintro e w12 ⟨rfl, hb⟩
  refine hK.out _ _ (hS.trans (hb.mono hS.size)) (fun _ => ?_)
  clear hK K
  have hB := hS.trans (hb.mono hS.size)
  refine wpAnyH_now hB ?_
  clear hS
  have hS := Below.refl w12.heap.size w12
  replace HC := Lib.hid (HC.out.push hB)
  skip
  clear hB hb
  try simp only [Act.put, List.setIfInBounds_toArray, List.set_cons_zero, List.set_cons_succ]
  refine wpAnyH_take (i := 48) (oi := ⟨some 84, _, _, _, _, _⟩) (v := ?_) rfl (by kernel_rfl) (by kernel_rfl) (by kernel_rfl) (fun _ _ _ h => h) (Or.inl ⟨by rfl, ?_⟩) hS ?_
  rotate_left 1
  · intro w' hB; have t1 := (HC.out.to w1 (by simp)).trans (hB.mono (HC.out.to w1 (by simp)).size); have t4 := (HC.out.to w4 (by simp)).trans (hB.mono (HC.out.to w4 (by simp)).size); have s1 := ((own_bytes O1.out).below t1 rfl).str (frameF 1 [97]).length c1 rfl; have s3 := ((own_bytes OB.out).below t4 rfl).str 1 cb rfl; have q0 := (t4.cell (p := ⟨g4, 0, none⟩) (block_lt_of_cell Q0.out)).trans Q0.out; have q1 := (t4.cell (p := ⟨g4, 1, none⟩) (block_lt_of_cell Q1.out)).trans Q1.out; clear t1 t4; (try (have s2 := ((own_bytes O9.out).below ((HC.out.to w9 (by simp)).trans (hB.mono (HC.out.to w9 (by simp)).size)) rfl).str (frameF 1 [97]).length c9 rfl)); (go_simp <;> with_reducible rfl)
  try simp only [Act.put, List.setIfInBounds_toArray, List.set_cons_zero, List.set_cons_succ]
  refine wpAnyH_take (i := 49) (oi := ⟨some 85, _, _, _, _, _⟩) (v := ?_) rfl (by kernel_rfl) (by kernel_rfl) (by kernel_rfl) (fun _ _ _ h => h) (Or.inl ⟨by rfl, ?_⟩) hS ?_
  rotate_left 1
  · intro w' hB; have t1 := (HC.out.to w1 (by simp)).trans (hB.mono (HC.out.to w1 (by simp)).size); have t4 := (HC.out.to w4 (by simp)).trans (hB.mono (HC.out.to w4 (by simp)).size); have s1 := ((own_bytes O1.out).below t1 rfl).str (frameF 1 [97]).length c1 rfl; have s3 := ((own_bytes OB.out).below t4 rfl).str 1 cb rfl; have q0 := (t4.cell (p := ⟨g4, 0, none⟩) (block_lt_of_cell Q0.out)).trans Q0.out; have q1 := (t4.cell (p := ⟨g4, 1, none⟩) (block_lt_of_cell Q1.out)).trans Q1.out; clear t1 t4; (try (have s2 := ((own_bytes O9.out).below ((HC.out.to w9 (by simp)).trans (hB.mono (HC.out.to w9 (by simp)).size)) rfl).str (frameF 1 [97]).length c9 rfl)); (go_simp <;> with_reducible rfl)
  try simp only [Act.put, List.setIfInBounds_toArray, List.set_cons_zero, List.set_cons_succ]
  refine wpAnyH_take (i := 50) (oi := ⟨some 86, _, _, _, _, _⟩) (v := ?_) rfl (by kernel_rfl) (by kernel_rfl) (by kernel_rfl) (fun _ _ _ h => h) (Or.inl ⟨by rfl, ?_⟩) hS ?_
  rotate_left 1
  · intro w' hB; have t1 := (HC.out.to w1 (by simp)).trans (hB.mono (HC.out.to w1 (by simp)).size); have t4 := (HC.out.to w4 (by simp)).trans (hB.mono (HC.out.to w4 (by simp)).size); have s1 := ((own_bytes O1.out).below t1 rfl).str (frameF 1 [97]).length c1 rfl; have s3 := ((own_bytes OB.out).below t4 rfl).str 1 cb rfl; have q0 := (t4.cell (p := ⟨g4, 0, none⟩) (block_lt_of_cell Q0.out)).trans Q0.out; have q1 := (t4.cell (p := ⟨g4, 1, none⟩) (block_lt_of_cell Q1.out)).trans Q1.out; clear t1 t4; (try (have s2 := ((own_bytes O9.out).below ((HC.out.to w9 (by simp)).trans (hB.mono (HC.out.to w9 (by simp)).size)) rfl).str (frameF 1 [97]).length c9 rfl)); (go_simp <;> with_reducible rfl)
  try simp only [Act.put, List.setIfInBounds_toArray, List.set_cons_zero, List.set_cons_succ]
  refine wpAnyH_take (i := 51) (oi := ⟨some 87, _, _, _, _, _⟩) (v := ?_) rfl (by kernel_rfl) (by kernel_rfl) (by kernel_rfl) (fun _ _ _ h => h) (Or.inl ⟨by rfl, ?_⟩) hS ?_
  rotate_left 1
  · intro w' hB; have t1 := (HC.out.to w1 (by simp)).trans (hB.mono (HC.out.to w1 (by simp)).size); have t4 := (HC.out.to w4 (by simp)).trans (hB.mono (HC.out.to w4 (by simp)).size); have s1 := ((own_bytes O1.out).below t1 rfl).str (frameF 1 [97]).length c1 rfl; have s3 := ((own_bytes OB.out).below t4 rfl).str 1 cb rfl; have q0 := (t4.cell (p := ⟨g4, 0, none⟩) (block_lt_of_cell Q0.out)).trans Q0.out; have q1 := (t4.cell (p := ⟨g4, 1, none⟩) (block_lt_of_cell Q1.out)).trans Q1.out; clear t1 t4; (try (have s2 := ((own_bytes O9.out).below ((HC.out.to w9 (by simp)).trans (hB.mono (HC.out.to w9 (by simp)).size)) rfl).str (frameF 1 [97]).length c9 rfl)); (go_simp <;> with_reducible rfl)
  try simp only [Act.put, List.setIfInBounds_toArray, List.set_cons_zero, List.set_cons_succ]
  refine wpAnyH_ready (rs := [52]) (by kernel_rfl) (by simp) (AllReadyH.cons (o := ⟨some 88, _, _, _, _, _⟩) rfl (fun K hK => ?_) AllReadyH.nil)
  go_simp
  refine (fnumB _ _).mono ?_
  rintro e w13 ⟨rfl, hb⟩
  refine hK.out _ _ (hS.trans (hb.mono hS.size)) (fun _ => ?_)
  clear hK K
  have hB := hS.trans (hb.mono hS.size)
  refine wpAnyH_now hB ?_
  clear hS
  have hS := Below.refl w13.heap.size w13
  replace HC := Lib.hid (HC.out.push hB)
  skip
  clear hB hb
  try simp only [Act.put, List.setIfInBounds_toArray, List.set_cons_zero, List.set_cons_succ]
  refine wpAnyH_take (i := 53) (oi := ⟨some 89, _, _, _, _, _⟩) (v := ?_) rfl (by kernel_rfl) (by kernel_rfl) (by kernel_rfl) (fun _ _ _ h => h) (Or.inl ⟨by rfl, ?_⟩) hS ?_
  rotate_left 1
  · intro w' hB; have t1 := (HC.out.to w1 (by simp)).trans (hB.mono (HC.out.to w1 (by simp)).size); have t4 := (HC.out.to w4 (by simp)).trans (hB.mono (HC.out.to w4 (by simp)).size); have s1 := ((own_bytes O1.out).below t1 rfl).str (frameF 1 [97]).length c1 rfl; have s3 := ((own_bytes OB.out).below t4 rfl).str 1 cb rfl; have q0 := (t4.cell (p := ⟨g4, 0, none⟩) (block_lt_of_cell Q0.out)).trans Q0.out; have q1 := (t4.cell (p := ⟨g4, 1, none⟩) (block_lt_of_cell Q1.out)).trans Q1.out; clear t1 t4; (try (have s2 := ((own_bytes O9.out).below ((HC.out.to w9 (by simp)).trans (hB.mono (HC.out.to w9 (by simp)).size)) rfl).str (frameF 1 [97]).length c9 rfl)); (go_simp <;> with_reducible rfl)
  try simp only [Act.put, List.setIfInBounds_toArray, List.set_cons_zero, List.set_cons_succ]
  refine wpAnyH_take (i := 54) (oi := ⟨some 90, _, _, _, _, _⟩) (v := ?_) rfl (by kernel_rfl) (by kernel_rfl) (by kernel_rfl) (fun _ _ _ h => h) (Or.inl ⟨by rfl, ?_⟩) hS ?_
  rotate_left 1
  · intro w' hB; have t1 := (HC.out.to w1 (by simp)).trans (hB.mono (HC.out.to w1 (by simp)).size); have t4 := (HC.out.to w4 (by simp)).trans (hB.mono (HC.out.to w4 (by simp)).size); have s1 := ((own_bytes O1.out).below t1 rfl).str (frameF 1 [97]).length c1 rfl; have s3 := ((own_bytes OB.out).below t4 rfl).str 1 cb rfl; have q0 := (t4.cell (p := ⟨g4, 0, none⟩) (block_lt_of_cell Q0.out)).trans Q0.out; have q1 := (t4.cell (p := ⟨g4, 1, none⟩) (block_lt_of_cell Q1.out)).trans Q1.out; clear t1 t4; (try (have s2 := ((own_bytes O9.out).below ((HC.out.to w9 (by simp)).trans (hB.mono (HC.out.to w9 (by simp)).size)) rfl).str (frameF 1 [97]).length c9 rfl)); (go_simp <;> with_reducible rfl)
  try simp only [Act.put, List.setIfInBounds_toArray, List.set_cons_zero, List.set_cons_succ]
  refine wpAnyH_take (i := 55) (oi := ⟨some 91, _, _, _, _, _⟩) (v := ?_) rfl (by kernel_rfl) (by kernel_rfl) (by kernel_rfl) (fun _ _ _ h => h) (Or.inl ⟨by rfl, ?_⟩) hS ?_
  rotate_left 1
  · intro w' hB; have t1 := (HC.out.to w1 (by simp)).trans (hB.mono (HC.out.to w1 (by simp)).size); have t4 := (HC.out.to w4 (by simp)).trans (hB.mono (HC.out.to w4 (by simp)).size); have s1 := ((own_bytes O1.out).below t1 rfl).str (frameF 1 [97]).length c1 rfl; have s3 := ((own_bytes OB.out).below t4 rfl).str 1 cb rfl; have q0 := (t4.cell (p := ⟨g4, 0, none⟩) (block_lt_of_cell Q0.out)).trans Q0.out; have q1 := (t4.cell (p := ⟨g4, 1, none⟩) (block_lt_of_cell Q1.out)).trans Q1.out; clear t1 t4; (try (have s2 := ((own_bytes O9.out).below ((HC.out.to w9 (by simp)).trans (hB.mono (HC.out.to w9 (by simp)).size)) rfl).str (frameF 1 [97]).length c9 rfl)); (go_simp <;> with_reducible rfl)
  try simp only [Act.put, List.setIfInBounds_toArray, List.set_cons_zero, List.set_cons_succ]
  refine wpAnyH_ready (rs := [56]) (by kernel_rfl) (by simp) (AllReadyH.cons (o := ⟨some 92, _, _, _, _, _⟩) rfl (fun K hK => ?_) AllReadyH.nil)
  go_simp
  refine (frame_SizeB _ _ _ _ (by omega)).mono ?_
  rintro e w14 ⟨rfl, hb⟩
  refine hK.out _ _ (hS.trans (hb.mono hS.size)) (fun _ => ?_)
  clear hK K
  have hB := hS.trans (hb.mono hS.size)
  refine wpAnyH_now hB ?_
  clear hS
  have hS := Below.refl w14.heap.size w14
  replace HC := Lib.hid (HC.out.push hB)
  skip
  clear hB hb
  try simp only [Act.put, List.setIfInBounds_toArray, List.set_cons_zero, List.set_cons_succ]
  refine wpAnyH_take (i := 57) (oi := ⟨some 93, _, _, _, _, _⟩) (v := ?_) rfl (by kernel_rfl) (by kernel_rfl) (by kernel_rfl) (fun _ _ _ h => h) (Or.inl ⟨by rfl, ?_⟩) hS ?_
  rotate_left 1
  · intro w' hB; have t1 := (HC.out.to w1 (by simp)).trans (hB.mono (HC.out.to w1 (by simp)).size); have t4 := (HC.out.to w4 (by simp)).trans (hB.mono (HC.out.to w4 (by simp)).size); have s1 := ((own_bytes O1.out).below t1 rfl).str (frameF 1 [97]).length c1 rfl; have s3 := ((own_bytes OB.out).below t4 rfl).str 1 cb rfl; have q0 := (t4.cell (p := ⟨g4, 0, none⟩) (block_lt_of_cell Q0.out)).trans Q0.out; have q1 := (t4.cell (p := ⟨g4, 1, none⟩) (block_lt_of_cell Q1.out)).trans Q1.out; clear t1 t4; (try (have s2 := ((own_bytes O9.out).below ((HC.out.to w9 (by simp)).trans (hB.mono (HC.out.to w9 (by simp)).size)) rfl).str (frameF 1 [97]).length c9 rfl)); (go_simp <;> with_reducible rfl)
  try simp only [Act.put, List.setIfInBounds_toArray, List.set_cons_zero, List.set_cons_succ]
  refine wpAnyH_take (i := 58) (oi := ⟨some 94, _, _, _, _, _⟩) (v := ?_) rfl (by kernel_rfl) (by kernel_rfl) (by kernel_rfl) (fun _ _ _ h => h) (Or.inl ⟨by rfl, ?_⟩) hS ?_
  rotate_left 1
  · intro w' hB; have t1 := (HC.out.to w1 (by simp)).trans (hB.mono (HC.out.to w1 (by simp)).size); have t4 := (HC.out.to w4 (by simp)).trans (hB.mono (HC.out.to w4 (by simp)).size); have s1 := ((own_bytes O1.out).below t1 rfl).str (frameF 1 [97]).length c1 rfl; have s3 := ((own_bytes OB.out).below t4 rfl).str 1 cb rfl; have q0 := (t4.cell (p := ⟨g4, 0, none⟩) (block_lt_of_cell Q0.out)).trans Q0.out; have q1 := (t4.cell (p := ⟨g4, 1, none⟩) (block_lt_of_cell Q1.out)).trans Q1.out; clear t1 t4; (try (have s2 := ((own_bytes O9.out).below ((HC.out.to w9 (by simp)).trans (hB.mono (HC.out.to w9 (by simp)).size)) rfl).str (frameF 1 [97]).length c9 rfl)); (go_simp <;> with_reducible rfl)
  try simp only [Act.put, List.setIfInBounds_toArray, List.set_cons_zero, List.set_cons_succ]
  refine wpAnyH_take (i := 59) (oi := ⟨some 0, _, _, _, _, _⟩) (v := ?_) rfl (by kernel_rfl) (by kernel_rfl) (by kernel_rfl) (fun _ _ _ h => h) (Or.inl ⟨by rfl, ?_⟩) hS ?_
  rotate_left 1
  · intro w' hB; have t1 := (HC.out.to w1 (by simp)).trans (hB.mono (HC.out.to w1 (by simp)).size); have t4 := (HC.out.to w4 (by simp)).trans (hB.mono (HC.out.to w4 (by simp)).size); have s1 := ((own_bytes O1.out).below t1 rfl).str (frameF 1 [97]).length c1 rfl; have s3 := ((own_bytes OB.out).below t4 rfl).str 1 cb rfl; have q0 := (t4.cell (p := ⟨g4, 0, none⟩) (block_lt_of_cell Q0.out)).trans Q0.out; have q1 := (t4.cell (p := ⟨g4, 1, none⟩) (block_lt_of_cell Q1.out)).trans Q1.out; clear t1 t4; (try (have s2 := ((own_bytes O9.out).below ((HC.out.to w9 (by simp)).trans (hB.mono (HC.out.to w9 (by simp)).size)) rfl).str (frameF 1 [97]).length c9 rfl)); (go_simp <;> with_reducible rfl)
  try simp only [Act.put, List.setIfInBounds_toArray, List.set_cons_zero, List.set_cons_succ]
  refine wpAnyH_done (by kernel_rfl) (NoPanic.normal ?_) _
  go_wp2_with fail
  go_ret
  exact ⟨rfl, HC.out.to w (by simp)⟩
end Go.Proofs.Ytpbjhfajekfjeaa

