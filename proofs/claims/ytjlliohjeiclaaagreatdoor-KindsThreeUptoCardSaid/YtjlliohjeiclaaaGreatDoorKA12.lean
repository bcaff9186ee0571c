/- Words, contracts and walks that the proof stands on (KyU). -/
import Derived.Test.YtjlliohjeiclaaaGreatDoorKA3
import Derived.Test.YtjlliohjeiclaaaGreatDoorKA4
namespace Go.Proofs.YtjlliohjeiclaaaGreatDoor
open Go.RowKit St
theorem find_has {l : List El} {x : El} {a : Option Addr} {n c : Nat} {w : World} (hl : CellsAt w a (elsV (l.map toV))) (hn : n = l.length) (hb : n ≤ 1000000) (ho : ∀ z ∈ l, z.1.ok = true) (hx : x.1.ok = true) (q : Bool) (hq : hasS l x.1 = q) (X : Ev) (hX : X = toV x) :
 Calls Tryz.prog 130 #[.slice a n c, .agg #[.int .i64 X.1.g, .int .i64 X.1.r, .string X.1.l, .int .i64 X.1.n, .int .i64 X.1.i]] w fun e w' => ∃ i : Int, e = .returned (.int .i64 i) ∧ decide (0 ≤ i) = q ∧ decide (i < 0) = !q ∧ Below w.heap.size w w' := by
 subst hX
 refine (ref9_find (l.map toV) (toV x).1 a n c w hl (by simpa using hn) (by omega)).mono ?_
 rintro e w' ⟨i, rfl, hi, hbl⟩
 have h2 : decide (0 ≤ i) = q := by rw [hi, ← hq]; exact hasW_S ho hx
 refine ⟨i, rfl, h2, ?_, hbl⟩
 rw [← h2]
 by_cases h : 0 ≤ i
 · rw [decide_eq_true h, decide_eq_false (by omega)]; rfl
 · rw [decide_eq_false h, decide_eq_true (by omega)]; rfl
theorem els_getE {w : World} {a : Option Addr} {l : List El} (h : CellsAt w a (elsV (l.map toV))) (k : Nat) (hk : k < l.length) : ∃ b off, a = some ⟨b, off, none⟩ ∧ ElCell w b (off + k * 6) (toV l[k]) := by
 obtain ⟨b, off, e, c⟩ := els_get h k (by simpa using hk)
 rw [List.getElem_map] at c
 exact ⟨b, off, e, c⟩
theorem app_one (out : List El) (x : El) : elsV (out.map toV) ++ elV (toV x) = elsV ((out ++ [x]).map toV) := by
 rw [List.map_append, elsV_append]; simp [elsV]
set_option maxRecDepth 100000 in
set_option maxHeartbeats 8000000 in
theorem ref9_Elements (base A B : List El) (a1 a2 a3 : Option Addr) (n1 n2 n3 c1 c2 c3 : Nat) (w : World) (h1 : CellsAt w a1 (elsV (base.map toV))) (h2 : CellsAt w a2 (elsV (A.map toV))) (h3 : CellsAt w a3 (elsV (B.map toV))) (hn1 : n1 = base.length) (hn2 : n2 = A.length) (hn3 : n3 = B.length)
 (b1 : n1 ≤ 100000) (b2 : n2 ≤ 100000) (b3 : n3 ≤ 100000) (o1 : ∀ z ∈ base, z.1.ok = true) (o2 : ∀ z ∈ A, z.1.ok = true) (o3 : ∀ z ∈ B, z.1.ok = true) (sA : SrtE A) (sB : SrtE B) :
 Calls Tryz.prog 93 #[.slice a1 n1 c1, .slice a2 n2 c2, .slice a3 n3 c3] w fun e w' => ∃ v, e = .returned v ∧ w'.ownsRow w.heap.size 53 6 v (elsF base A B A B).length (elsV ((elsF base A B A B).map toV)) ∧ Below w.heap.size w w' := by
 have H1 := Lib.hid h1
 have H2 := Lib.hid h2
 have H3 := Lib.hid h3
 have N1 := Lib.hid hn1
 have N2 := Lib.hid hn2
 have N3 := Lib.hid hn3
 have O1 := Lib.hid o1
 have O2 := Lib.hid o2
 have O3 := Lib.hid o3
 have SA := Lib.hid sA
 have SB := Lib.hid sB
 have OK : Hid (∀ z ∈ A ++ B, z.1.ok = true) := Lib.hid (fun z hz => (List.mem_append.1 hz).elim (o2 z) (o3 z))
 have ET := Lib.hid elT
 have HRL : Hid ((elsF base A B A B).length ≤ 200000) := Lib.hid (by have := elsF_length base A B _ A B (Nat.le_refl _); omega)
 obtain ⟨R, hR⟩ : ∃ R, elsF base A B A B = R := ⟨_, rfl⟩
 have R0 := Lib.hid hR
 rw [hR] at HRL ⊢
 clear h1 h2 h3 hn1 hn2 hn3 o1 o2 o3 sA sB hR
 go_enter Tryz.func93, Tryz.ntmps93
 go_wp2_with fail
 go_loopw [7, 8, 9] (fun v u8 u9 wr => ∃ (i k : Nat) (out : List El), u8 = .int .i64 (i : Int) ∧ u9 = .int .i64 (k : Int) ∧ i ≤ n2 ∧ k ≤ n3 ∧ Hid (St.Left A B (A.drop i) (B.drop k)) ∧ Hid (out ++ elsF base A B (A.drop i) (B.drop k) = R) ∧ Hid (wr.ownsRow w.heap.size 53 6 v out.length (elsV (out.map toV))) ∧ Hid (Below w.heap.size w wr)) (fun _ u8 u9 _ => (n2 - (intOf u8).toNat) + (n3 - (intOf u9).toNat))
 case atStart => exact ⟨0, 0, [], rfl, rfl, Nat.zero_le _, Nat.zero_le _, Lib.hid (left_start A B), Lib.hid (by rw [List.drop_zero, List.drop_zero, R0.out]; rfl), Lib.hid ⟨rfl, Or.inl ⟨rfl, rfl⟩⟩, Lib.hid (Below.refl _ _)⟩
 case round =>
  obtain ⟨i, k, out, rfl, rfl, hi, hk, HL, HE, HO, HB⟩ := hrel
  have hol : out.length ≤ 200000 := by have h := congrArg List.length HE.out; rw [List.length_append] at h; have := HRL.out; omega
  by_cases hia : i < n2
  · have hiA : i < A.length := by have := N2.out; omega
    have HDA := Lib.hid (List.drop_eq_getElem_cons hiA)
    have hox : Hid (A[i].1.ok = true) := Lib.hid (O2.out _ (List.getElem_mem hiA))
    have HGA : Hid (∀ wx, CellsAt wx a2 (elsV (A.map toV)) → ∃ b off, a2 = some ⟨b, off, none⟩ ∧ ElCell wx b (off + i * 6) (toV A[i])) := Lib.hid (fun wx h => els_getE h i hiA)
    generalize A[i] = x at *
    obtain ⟨bx, ox, rfl, cx⟩ := HGA.out _ (H2.out.below HB.out rfl)
    obtain ⟨X, hX⟩ : ∃ X, X = toV x := ⟨_, rfl⟩
    rw [← hX] at cx
    have CX := Lib.hid cx
    have HX := Lib.hid hX
    clear cx hX HGA
    have hii : (i : Int) < (n2 : Int) := by omega
    have hLX : X.1.l.size ≤ 9223372036854775807 := by rw [HX.out]; have := lab_size hox.out; omega
    obtain ⟨qb, hqb⟩ : ∃ q, hasS B x.1 = q := ⟨_, rfl⟩
    obtain ⟨qs, hqs⟩ : ∃ q, hasS base x.1 = q := ⟨_, rfl⟩
    have QB := Lib.hid hqb
    have QS := Lib.hid hqs
    clear hqb hqs
    by_cases hkb : k < n3
    · have hkB : k < B.length := by have := N3.out; omega
      have HDB := Lib.hid (List.drop_eq_getElem_cons hkB)
      have hoy : Hid (B[k].1.ok = true) := Lib.hid (O3.out _ (List.getElem_mem hkB))
      have HGB : Hid (∀ wx, CellsAt wx a3 (elsV (B.map toV)) → ∃ b off, a3 = some ⟨b, off, none⟩ ∧ ElCell wx b (off + k * 6) (toV B[k])) := Lib.hid (fun wx h => els_getE h k hkB)
      generalize B[k] = y at *
      obtain ⟨bY, oy, rfl, cy⟩ := HGB.out _ (H3.out.below HB.out rfl)
      obtain ⟨Y, hY⟩ : ∃ Y, Y = toV y := ⟨_, rfl⟩
      rw [← hY] at cy
      have CY := Lib.hid cy
      have HY := Lib.hid hY
      clear cy hY HGB
      have hkk : (k : Int) < (n3 : Int) := by omega
      have hkne : ((k : Int) == (n3 : Int)) = false := by simp; omega
      have hkne' : ¬ (k : Int) = (n3 : Int) := by omega
      have hLY : Y.1.l.size ≤ 9223372036854775807 := by rw [HY.out]; have := lab_size hoy.out; omega
      obtain ⟨cv, hcv⟩ : ∃ c, svC X.1 Y.1 = c := ⟨_, rfl⟩
      have HCMP : Hid (∀ wx, Calls Tryz.prog 51 #[.agg #[.int .i64 X.1.g, .int .i64 X.1.r, .string X.1.l, .int .i64 X.1.n, .int .i64 X.1.i], .agg #[.int .i64 Y.1.g, .int .i64 Y.1.r, .string Y.1.l, .int .i64 Y.1.n, .int .i64 Y.1.i]] wx fun e w' => e = .returned (.int .i64 cv) ∧ Below wx.heap.size wx w') := Lib.hid (fun wx => by rw [← hcv]; exact ref6_Cmp X.1 Y.1 wx hLX hLY)
      have CV : Hid (decide (cv ≤ 0) = !(y.1.lt x.1)) := Lib.hid (by rw [← hcv, HX.out, HY.out]; exact le_lt hox.out hoy.out)
      clear hcv
      have HC : Hid (Chain [wr] wr) := Lib.hid (Chain.one wr)
      go_wp2_with fail
      cases hlt : y.1.lt x.1 with
      | true =>
       have hd : decide (cv ≤ 0) = false := by rw [CV.out, hlt]; rfl
       have HLT := Lib.hid hlt
       clear hlt
       refine wp_region_noPanic ?_
       refine wp_region_held_drew (S := fun w' => Below wr.heap.size wr w') (by kernel_rfl) (Below.refl _ _).drew (fun hS => ?_)
       refine wpAnyH_take (i := 0) (oi := ⟨some 21, _, _, _, _, _⟩) (v := ?_) rfl (by kernel_rfl) (by kernel_rfl) (by kernel_rfl) (fun _ _ _ h => h) (Or.inl ⟨by rfl, ?_⟩) hS ?_
       rotate_left 1
       · intro w' hB; obtain ⟨p0, p1, p2, p3, p4, p5⟩ := CX.out.below ((HC.out.to wr (by simp)).trans (hB.mono (HC.out.to wr (by simp)).size)); obtain ⟨q0, q1, q2, q3, q4, q5⟩ := CY.out.below ((HC.out.to wr (by simp)).trans (hB.mono (HC.out.to wr (by simp)).size)); (go_simp <;> with_reducible rfl)
       try simp only [Act.put, List.setIfInBounds_toArray, List.set_cons_zero, List.set_cons_succ]
       refine wpAnyH_take (i := 1) (oi := ⟨some 22, _, _, _, _, _⟩) (v := ?_) rfl (by kernel_rfl) (by kernel_rfl) (by kernel_rfl) (fun _ _ _ h => h) (Or.inl ⟨by rfl, ?_⟩) hS ?_
       rotate_left 1
       · intro w' hB; obtain ⟨p0, p1, p2, p3, p4, p5⟩ := CX.out.below ((HC.out.to wr (by simp)).trans (hB.mono (HC.out.to wr (by simp)).size)); obtain ⟨q0, q1, q2, q3, q4, q5⟩ := CY.out.below ((HC.out.to wr (by simp)).trans (hB.mono (HC.out.to wr (by simp)).size)); (go_simp <;> with_reducible rfl)
       try simp only [Act.put, List.setIfInBounds_toArray, List.set_cons_zero, List.set_cons_succ]
       refine wpAnyH_take (i := 2) (oi := ⟨some 23, _, _, _, _, _⟩) (v := ?_) rfl (by kernel_rfl) (by kernel_rfl) (by kernel_rfl) (fun _ _ _ h => h) (Or.inl ⟨by rfl, ?_⟩) hS ?_
       rotate_left 1
       · intro w' hB; obtain ⟨p0, p1, p2, p3, p4, p5⟩ := CX.out.below ((HC.out.to wr (by simp)).trans (hB.mono (HC.out.to wr (by simp)).size)); obtain ⟨q0, q1, q2, q3, q4, q5⟩ := CY.out.below ((HC.out.to wr (by simp)).trans (hB.mono (HC.out.to wr (by simp)).size)); (go_simp <;> with_reducible rfl)
       try simp only [Act.put, List.setIfInBounds_toArray, List.set_cons_zero, List.set_cons_succ]
       refine wpAnyH_take (i := 3) (oi := ⟨some 24, _, _, _, _, _⟩) (v := ?_) rfl (by kernel_rfl) (by kernel_rfl) (by kernel_rfl) (fun _ _ _ h => h) (Or.inl ⟨by rfl, ?_⟩) hS ?_
       rotate_left 1
       · intro w' hB; obtain ⟨p0, p1, p2, p3, p4, p5⟩ := CX.out.below ((HC.out.to wr (by simp)).trans (hB.mono (HC.out.to wr (by simp)).size)); obtain ⟨q0, q1, q2, q3, q4, q5⟩ := CY.out.below ((HC.out.to wr (by simp)).trans (hB.mono (HC.out.to wr (by simp)).size)); (go_simp <;> with_reducible rfl)
       try simp only [Act.put, List.setIfInBounds_toArray, List.set_cons_zero, List.set_cons_succ]
       refine wpAnyH_take (i := 4) (oi := ⟨some 25, _, _, _, _, _⟩) (v := ?_) rfl (by kernel_rfl) (by kernel_rfl) (by kernel_rfl) (fun _ _ _ h => h) (Or.inl ⟨by rfl, ?_⟩) hS ?_
       rotate_left 1
       · intro w' hB; obtain ⟨p0, p1, p2, p3, p4, p5⟩ := CX.out.below ((HC.out.to wr (by simp)).trans (hB.mono (HC.out.to wr (by simp)).size)); obtain ⟨q0, q1, q2, q3, q4, q5⟩ := CY.out.below ((HC.out.to wr (by simp)).trans (hB.mono (HC.out.to wr (by simp)).size)); (go_simp <;> with_reducible rfl)
       try simp only [Act.put, List.setIfInBounds_toArray, List.set_cons_zero, List.set_cons_succ]
       refine wpAnyH_take (i := 5) (oi := ⟨some 26, _, _, _, _, _⟩) (v := ?_) rfl (by kernel_rfl) (by kernel_rfl) (by kernel_rfl) (fun _ _ _ h => h) (Or.inl ⟨by rfl, ?_⟩) hS ?_
       rotate_left 1
       · intro w' hB; obtain ⟨p0, p1, p2, p3, p4, p5⟩ := CX.out.below ((HC.out.to wr (by simp)).trans (hB.mono (HC.out.to wr (by simp)).size)); obtain ⟨q0, q1, q2, q3, q4, q5⟩ := CY.out.below ((HC.out.to wr (by simp)).trans (hB.mono (HC.out.to wr (by simp)).size)); (go_simp <;> with_reducible rfl)
       try simp only [Act.put, List.setIfInBounds_toArray, List.set_cons_zero, List.set_cons_succ]
       refine wpAnyH_take (i := 6) (oi := ⟨some 27, _, _, _, _, _⟩) (v := ?_) rfl (by kernel_rfl) (by kernel_rfl) (by kernel_rfl) (fun _ _ _ h => h) (Or.inl ⟨by rfl, ?_⟩) hS ?_
       rotate_left 1
       · intro w' hB; obtain ⟨p0, p1, p2, p3, p4, p5⟩ := CX.out.below ((HC.out.to wr (by simp)).trans (hB.mono (HC.out.to wr (by simp)).size)); obtain ⟨q0, q1, q2, q3, q4, q5⟩ := CY.out.below ((HC.out.to wr (by simp)).trans (hB.mono (HC.out.to wr (by simp)).size)); (go_simp <;> with_reducible rfl)
       try simp only [Act.put, List.setIfInBounds_toArray, List.set_cons_zero, List.set_cons_succ]
       refine wpAnyH_take (i := 7) (oi := ⟨some 28, _, _, _, _, _⟩) (v := ?_) rfl (by kernel_rfl) (by kernel_rfl) (by kernel_rfl) (fun _ _ _ h => h) (Or.inl ⟨by rfl, ?_⟩) hS ?_
       rotate_left 1
       · intro w' hB; obtain ⟨p0, p1, p2, p3, p4, p5⟩ := CX.out.below ((HC.out.to wr (by simp)).trans (hB.mono (HC.out.to wr (by simp)).size)); obtain ⟨q0, q1, q2, q3, q4, q5⟩ := CY.out.below ((HC.out.to wr (by simp)).trans (hB.mono (HC.out.to wr (by simp)).size)); (go_simp <;> with_reducible rfl)
       try simp only [Act.put, List.setIfInBounds_toArray, List.set_cons_zero, List.set_cons_succ]
       refine wpAnyH_take (i := 8) (oi := ⟨some 29, _, _, _, _, _⟩) (v := ?_) rfl (by kernel_rfl) (by kernel_rfl) (by kernel_rfl) (fun _ _ _ h => h) (Or.inl ⟨by rfl, ?_⟩) hS ?_
       rotate_left 1
       · intro w' hB; obtain ⟨p0, p1, p2, p3, p4, p5⟩ := CX.out.below ((HC.out.to wr (by simp)).trans (hB.mono (HC.out.to wr (by simp)).size)); obtain ⟨q0, q1, q2, q3, q4, q5⟩ := CY.out.below ((HC.out.to wr (by simp)).trans (hB.mono (HC.out.to wr (by simp)).size)); (go_simp <;> with_reducible rfl)
       try simp only [Act.put, List.setIfInBounds_toArray, List.set_cons_zero, List.set_cons_succ]
       refine wpAnyH_take (i := 9) (oi := ⟨some 30, _, _, _, _, _⟩) (v := ?_) rfl (by kernel_rfl) (by kernel_rfl) (by kernel_rfl) (fun _ _ _ h => h) (Or.inl ⟨by rfl, ?_⟩) hS ?_
       rotate_left 1
       · intro w' hB; obtain ⟨p0, p1, p2, p3, p4, p5⟩ := CX.out.below ((HC.out.to wr (by simp)).trans (hB.mono (HC.out.to wr (by simp)).size)); obtain ⟨q0, q1, q2, q3, q4, q5⟩ := CY.out.below ((HC.out.to wr (by simp)).trans (hB.mono (HC.out.to wr (by simp)).size)); (go_simp <;> with_reducible rfl)
       try simp only [Act.put, List.setIfInBounds_toArray, List.set_cons_zero, List.set_cons_succ]
       refine wpAnyH_take (i := 10) (oi := ⟨some 31, _, _, _, _, _⟩) (v := ?_) rfl (by kernel_rfl) (by kernel_rfl) (by kernel_rfl) (fun _ _ _ h => h) (Or.inl ⟨by rfl, ?_⟩) hS ?_
       rotate_left 1
       · intro w' hB; obtain ⟨p0, p1, p2, p3, p4, p5⟩ := CX.out.below ((HC.out.to wr (by simp)).trans (hB.mono (HC.out.to wr (by simp)).size)); obtain ⟨q0, q1, q2, q3, q4, q5⟩ := CY.out.below ((HC.out.to wr (by simp)).trans (hB.mono (HC.out.to wr (by simp)).size)); (go_simp <;> with_reducible rfl)
       try simp only [Act.put, List.setIfInBounds_toArray, List.set_cons_zero, List.set_cons_succ]
       refine wpAnyH_take (i := 11) (oi := ⟨some 32, _, _, _, _, _⟩) (v := ?_) rfl (by kernel_rfl) (by kernel_rfl) (by kernel_rfl) (fun _ _ _ h => h) (Or.inl ⟨by rfl, ?_⟩) hS ?_
       rotate_left 1
       · intro w' hB; obtain ⟨p0, p1, p2, p3, p4, p5⟩ := CX.out.below ((HC.out.to wr (by simp)).trans (hB.mono (HC.out.to wr (by simp)).size)); obtain ⟨q0, q1, q2, q3, q4, q5⟩ := CY.out.below ((HC.out.to wr (by simp)).trans (hB.mono (HC.out.to wr (by simp)).size)); (go_simp <;> with_reducible rfl)
       try simp only [Act.put, List.setIfInBounds_toArray, List.set_cons_zero, List.set_cons_succ]
       refine wpAnyH_take (i := 12) (oi := ⟨some 33, _, _, _, _, _⟩) (v := ?_) rfl (by kernel_rfl) (by kernel_rfl) (by kernel_rfl) (fun _ _ _ h => h) (Or.inl ⟨by rfl, ?_⟩) hS ?_
       rotate_left 1
       · intro w' hB; obtain ⟨p0, p1, p2, p3, p4, p5⟩ := CX.out.below ((HC.out.to wr (by simp)).trans (hB.mono (HC.out.to wr (by simp)).size)); obtain ⟨q0, q1, q2, q3, q4, q5⟩ := CY.out.below ((HC.out.to wr (by simp)).trans (hB.mono (HC.out.to wr (by simp)).size)); (go_simp <;> with_reducible rfl)
       try simp only [Act.put, List.setIfInBounds_toArray, List.set_cons_zero, List.set_cons_succ]
       refine wpAnyH_take (i := 13) (oi := ⟨some 34, _, _, _, _, _⟩) (v := ?_) rfl (by kernel_rfl) (by kernel_rfl) (by kernel_rfl) (fun _ _ _ h => h) (Or.inl ⟨by rfl, ?_⟩) hS ?_
       rotate_left 1
       · intro w' hB; obtain ⟨p0, p1, p2, p3, p4, p5⟩ := CX.out.below ((HC.out.to wr (by simp)).trans (hB.mono (HC.out.to wr (by simp)).size)); obtain ⟨q0, q1, q2, q3, q4, q5⟩ := CY.out.below ((HC.out.to wr (by simp)).trans (hB.mono (HC.out.to wr (by simp)).size)); (go_simp <;> with_reducible rfl)
       try simp only [Act.put, List.setIfInBounds_toArray, List.set_cons_zero, List.set_cons_succ]
       refine wpAnyH_take (i := 14) (oi := ⟨some 35, _, _, _, _, _⟩) (v := ?_) rfl (by kernel_rfl) (by kernel_rfl) (by kernel_rfl) (fun _ _ _ h => h) (Or.inl ⟨by rfl, ?_⟩) hS ?_
       rotate_left 1
       · intro w' hB; obtain ⟨p0, p1, p2, p3, p4, p5⟩ := CX.out.below ((HC.out.to wr (by simp)).trans (hB.mono (HC.out.to wr (by simp)).size)); obtain ⟨q0, q1, q2, q3, q4, q5⟩ := CY.out.below ((HC.out.to wr (by simp)).trans (hB.mono (HC.out.to wr (by simp)).size)); (go_simp <;> with_reducible rfl)
       try simp only [Act.put, List.setIfInBounds_toArray, List.set_cons_zero, List.set_cons_succ]
       refine wpAnyH_take (i := 15) (oi := ⟨some 36, _, _, _, _, _⟩) (v := ?_) rfl (by kernel_rfl) (by kernel_rfl) (by kernel_rfl) (fun _ _ _ h => h) (Or.inl ⟨by rfl, ?_⟩) hS ?_
       rotate_left 1
       · intro w' hB; obtain ⟨p0, p1, p2, p3, p4, p5⟩ := CX.out.below ((HC.out.to wr (by simp)).trans (hB.mono (HC.out.to wr (by simp)).size)); obtain ⟨q0, q1, q2, q3, q4, q5⟩ := CY.out.below ((HC.out.to wr (by simp)).trans (hB.mono (HC.out.to wr (by simp)).size)); (go_simp <;> with_reducible rfl)
       try simp only [Act.put, List.setIfInBounds_toArray, List.set_cons_zero, List.set_cons_succ]
       refine wpAnyH_take (i := 16) (oi := ⟨some 37, _, _, _, _, _⟩) (v := ?_) rfl (by kernel_rfl) (by kernel_rfl) (by kernel_rfl) (fun _ _ _ h => h) (Or.inl ⟨by rfl, ?_⟩) hS ?_
       rotate_left 1
       · intro w' hB; obtain ⟨p0, p1, p2, p3, p4, p5⟩ := CX.out.below ((HC.out.to wr (by simp)).trans (hB.mono (HC.out.to wr (by simp)).size)); obtain ⟨q0, q1, q2, q3, q4, q5⟩ := CY.out.below ((HC.out.to wr (by simp)).trans (hB.mono (HC.out.to wr (by simp)).size)); (go_simp <;> with_reducible rfl)
       try simp only [Act.put, List.setIfInBounds_toArray, List.set_cons_zero, List.set_cons_succ]
       refine wpAnyH_take (i := 17) (oi := ⟨some 38, _, _, _, _, _⟩) (v := ?_) rfl (by kernel_rfl) (by kernel_rfl) (by kernel_rfl) (fun _ _ _ h => h) (Or.inl ⟨by rfl, ?_⟩) hS ?_
       rotate_left 1
       · intro w' hB; obtain ⟨p0, p1, p2, p3, p4, p5⟩ := CX.out.below ((HC.out.to wr (by simp)).trans (hB.mono (HC.out.to wr (by simp)).size)); obtain ⟨q0, q1, q2, q3, q4, q5⟩ := CY.out.below ((HC.out.to wr (by simp)).trans (hB.mono (HC.out.to wr (by simp)).size)); (go_simp <;> with_reducible rfl)
       try simp only [Act.put, List.setIfInBounds_toArray, List.set_cons_zero, List.set_cons_succ]
       refine wpAnyH_take (i := 18) (oi := ⟨some 39, _, _, _, _, _⟩) (v := ?_) rfl (by kernel_rfl) (by kernel_rfl) (by kernel_rfl) (fun _ _ _ h => h) (Or.inl ⟨by rfl, ?_⟩) hS ?_
       rotate_left 1
       · intro w' hB; obtain ⟨p0, p1, p2, p3, p4, p5⟩ := CX.out.below ((HC.out.to wr (by simp)).trans (hB.mono (HC.out.to wr (by simp)).size)); obtain ⟨q0, q1, q2, q3, q4, q5⟩ := CY.out.below ((HC.out.to wr (by simp)).trans (hB.mono (HC.out.to wr (by simp)).size)); (go_simp <;> with_reducible rfl)
       try simp only [Act.put, List.setIfInBounds_toArray, List.set_cons_zero, List.set_cons_succ]
       refine wpAnyH_take (i := 19) (oi := ⟨some 40, _, _, _, _, _⟩) (v := ?_) rfl (by kernel_rfl) (by kernel_rfl) (by kernel_rfl) (fun _ _ _ h => h) (Or.inl ⟨by rfl, ?_⟩) hS ?_
       rotate_left 1
       · intro w' hB; obtain ⟨p0, p1, p2, p3, p4, p5⟩ := CX.out.below ((HC.out.to wr (by simp)).trans (hB.mono (HC.out.to wr (by simp)).size)); obtain ⟨q0, q1, q2, q3, q4, q5⟩ := CY.out.below ((HC.out.to wr (by simp)).trans (hB.mono (HC.out.to wr (by simp)).size)); (go_simp <;> with_reducible rfl)
       try simp only [Act.put, List.setIfInBounds_toArray, List.set_cons_zero, List.set_cons_succ]
       refine wpAnyH_ready (rs := [20]) (by kernel_rfl) (by simp) (AllReadyH.cons (o := ⟨some 41, _, _, _, _, _⟩) rfl (fun K hK => ?_) AllReadyH.nil)
       go_simp
       refine (HCMP.out _).mono ?_
       rintro e w4 ⟨rfl, hb⟩
       refine hK.out _ _ (hS.trans (hb.mono hS.size)) (fun _ => ?_)
       clear hK K
       have hB := hS.trans (hb.mono hS.size)
       refine wpAnyH_now hB ?_
       clear hS
       have hS := Below.refl w4.heap.size w4
       replace HC := Lib.hid (HC.out.push hB)
       clear hB hb
       try simp only [Act.put, List.setIfInBounds_toArray, List.set_cons_zero, List.set_cons_succ]
       refine wpAnyH_take (i := 21) (oi := ⟨some 42, _, _, _, _, _⟩) (v := ?_) rfl (by kernel_rfl) (by kernel_rfl) (by kernel_rfl) (fun _ _ _ h => h) (Or.inl ⟨by rfl, ?_⟩) hS ?_
       rotate_left 1
       · intro w' hB; obtain ⟨p0, p1, p2, p3, p4, p5⟩ := CX.out.below ((HC.out.to wr (by simp)).trans (hB.mono (HC.out.to wr (by simp)).size)); obtain ⟨q0, q1, q2, q3, q4, q5⟩ := CY.out.below ((HC.out.to wr (by simp)).trans (hB.mono (HC.out.to wr (by simp)).size)); (go_simp <;> with_reducible rfl)
       try simp only [Act.put, List.setIfInBounds_toArray, List.set_cons_zero, List.set_cons_succ]
       refine wpAnyH_take (i := 22) (oi := ⟨some 43, _, _, _, _, _⟩) (v := ?_) rfl (by kernel_rfl) (by kernel_rfl) (by kernel_rfl) (fun _ _ _ h => h) (Or.inl ⟨by rfl, ?_⟩) hS ?_
       rotate_left 1
       · intro w' hB; obtain ⟨p0, p1, p2, p3, p4, p5⟩ := CX.out.below ((HC.out.to wr (by simp)).trans (hB.mono (HC.out.to wr (by simp)).size)); obtain ⟨q0, q1, q2, q3, q4, q5⟩ := CY.out.below ((HC.out.to wr (by simp)).trans (hB.mono (HC.out.to wr (by simp)).size)); (go_simp <;> with_reducible rfl)
       try simp only [Act.put, List.setIfInBounds_toArray, List.set_cons_zero, List.set_cons_succ]
       refine wpAnyH_take (i := 23) (oi := ⟨some 44, _, _, _, _, _⟩) (v := ?_) rfl (by kernel_rfl) (by kernel_rfl) (by kernel_rfl) (fun _ _ _ h => h) (Or.inl ⟨by rfl, ?_⟩) hS ?_
       rotate_left 1
       · intro w' hB; obtain ⟨p0, p1, p2, p3, p4, p5⟩ := CX.out.below ((HC.out.to wr (by simp)).trans (hB.mono (HC.out.to wr (by simp)).size)); obtain ⟨q0, q1, q2, q3, q4, q5⟩ := CY.out.below ((HC.out.to wr (by simp)).trans (hB.mono (HC.out.to wr (by simp)).size)); (go_simp <;> with_reducible rfl)
       try simp only [Act.put, List.setIfInBounds_toArray, List.set_cons_zero, List.set_cons_succ]
       refine wpAnyH_done (by kernel_rfl) (NoPanic.normal ?_) _
       have hbe := HC.out.to wr (by simp)
       clear hS HC
       have HB4 := Lib.hid (HB.out.trans ((hbe).mono HB.out.size))
       have HO4 := Lib.hid (own_later HO.out (hbe) (Nat.le_refl _))
       have HLB := Lib.hid (show St.Left A B (A.drop i) (B.drop (k + 1)) from by rw [HDA.out]; exact left_b SA.out SB.out OK.out (by rw [← HDA.out, ← HDB.out]; exact HL.out) HLT.out)
       have HEB : Hid (elsF base A B (A.drop i) (B.drop k) = (if hasS base y.1 then [] else [y]) ++ elsF base A B (A.drop i) (B.drop (k + 1))) := Lib.hid (by rw [HDA.out, HDB.out]; exact elsF_lt _ _ _ _ _ _ _ HLT.out)
       obtain ⟨qy, hqy⟩ : ∃ q, hasS base y.1 = q := ⟨_, rfl⟩
       have QY := Lib.hid hqy
       clear hqy
       have CY4 := Lib.hid (CY.out.below hbe)
       have cy4 := CY4.out
       obtain ⟨q0, q1, q2, q3, q4, q5⟩ := cy4
       clear hbe
       go_wp2_with fail
       refine (find_has (H1.out.below HB4.out rfl) N1.out (by omega) O1.out hoy.out qy QY.out Y HY.out).mono ?_
       rintro e w5 ⟨fi, rfl, f1, f2, hb5⟩
       have HB5 := Lib.hid (HB4.out.trans (hb5.mono HB4.out.size))
       have HO5 := Lib.hid (own_later HO4.out hb5 (Nat.le_refl _))
       have CY5 := Lib.hid (CY4.out.below hb5)
       clear q0 q1 q2 q3 q4 q5 hb5 f1
       obtain ⟨q0, q1, q2, q3, q4, q5⟩ := CY5.out
       cases qy with
       | true =>
        have f3 : decide (fi < 0) = false := f2
        clear f2
        go_wp2_with fail
        go_roundw
        case rel => exact ⟨i, k + 1, out, rfl, by go_num, by omega, by omega, HLB, Lib.hid (by rw [← HE.out, HEB.out, QY.out]; rfl), HO5, HB5⟩
        case measure => simp [intOf]; omega
       | false =>
        have f3 : decide (fi < 0) = true := f2
        clear f2
        have HBS := Lib.hid HB5.out.size
        go_wp2_with (at_builtin; refine wpList_app rfl _ _ 22 22 rfl w.heap.size 53 _ 6 64 ET.out u7 out.length (elsV (out.map toV)) rfl (HO5.out.alloc _) _ 1 (elV Y) rfl ((CellsAt.new w5 53 (0, 0) (elV Y)).srcN rfl (fun u hu => elsV_one [Y] u (by simpa [elsV] using hu)) Tryz.underlying22 1 (by decide)) (by omega) (by omega) (by have := HBS.out; simp; omega) ?_; intro v6 w6 hown _ hbel _)
        have HB6 := Lib.hid ((HB5.out.alloc HB5.out.size (.cells (elV Y).toArray 53)).trans hbel)
        have HO6 : Hid (w6.ownsRow w.heap.size 53 6 v6 (out ++ [y]).length (elsV ((out ++ [y]).map toV))) := Lib.hid (by rw [← app_one, ← HY.out, List.length_append]; exact hown)
        clear hown hbel
        go_wp2_with fail
        go_roundw
        case rel => exact ⟨i, k + 1, out ++ [y], rfl, by go_num, by omega, by omega, HLB, Lib.hid (by rw [← HE.out, HEB.out, QY.out]; simp), HO6, HB6⟩
        case measure => simp [intOf]; omega
      | false =>
       have hd : decide (cv ≤ 0) = true := by rw [CV.out, hlt]; rfl
       have HNL := Lib.hid hlt
       clear hlt
       refine wp_region_noPanic ?_
       refine wp_region_held_drew (S := fun w' => Below wr.heap.size wr w') (by kernel_rfl) (Below.refl _ _).drew (fun hS => ?_)
       refine wpAnyH_take (i := 0) (oi := ⟨some 21, _, _, _, _, _⟩) (v := ?_) rfl (by kernel_rfl) (by kernel_rfl) (by kernel_rfl) (fun _ _ _ h => h) (Or.inl ⟨by rfl, ?_⟩) hS ?_
       rotate_left 1
       · intro w' hB; obtain ⟨p0, p1, p2, p3, p4, p5⟩ := CX.out.below ((HC.out.to wr (by simp)).trans (hB.mono (HC.out.to wr (by simp)).size)); obtain ⟨q0, q1, q2, q3, q4, q5⟩ := CY.out.below ((HC.out.to wr (by simp)).trans (hB.mono (HC.out.to wr (by simp)).size)); (go_simp <;> with_reducible rfl)
       try simp only [Act.put, List.setIfInBounds_toArray, List.set_cons_zero, List.set_cons_succ]
       refine wpAnyH_take (i := 1) (oi := ⟨some 22, _, _, _, _, _⟩) (v := ?_) rfl (by kernel_rfl) (by kernel_rfl) (by kernel_rfl) (fun _ _ _ h => h) (Or.inl ⟨by rfl, ?_⟩) hS ?_
       rotate_left 1
       · intro w' hB; obtain ⟨p0, p1, p2, p3, p4, p5⟩ := CX.out.below ((HC.out.to wr (by simp)).trans (hB.mono (HC.out.to wr (by simp)).size)); obtain ⟨q0, q1, q2, q3, q4, q5⟩ := CY.out.below ((HC.out.to wr (by simp)).trans (hB.mono (HC.out.to wr (by simp)).size)); (go_simp <;> with_reducible rfl)
       try simp only [Act.put, List.setIfInBounds_toArray, List.set_cons_zero, List.set_cons_succ]
       refine wpAnyH_take (i := 2) (oi := ⟨some 23, _, _, _, _, _⟩) (v := ?_) rfl (by kernel_rfl) (by kernel_rfl) (by kernel_rfl) (fun _ _ _ h => h) (Or.inl ⟨by rfl, ?_⟩) hS ?_
       rotate_left 1
       · intro w' hB; obtain ⟨p0, p1, p2, p3, p4, p5⟩ := CX.out.below ((HC.out.to wr (by simp)).trans (hB.mono (HC.out.to wr (by simp)).size)); obtain ⟨q0, q1, q2, q3, q4, q5⟩ := CY.out.below ((HC.out.to wr (by simp)).trans (hB.mono (HC.out.to wr (by simp)).size)); (go_simp <;> with_reducible rfl)
       try simp only [Act.put, List.setIfInBounds_toArray, List.set_cons_zero, List.set_cons_succ]
       refine wpAnyH_take (i := 3) (oi := ⟨some 24, _, _, _, _, _⟩) (v := ?_) rfl (by kernel_rfl) (by kernel_rfl) (by kernel_rfl) (fun _ _ _ h => h) (Or.inl ⟨by rfl, ?_⟩) hS ?_
       rotate_left 1
       · intro w' hB; obtain ⟨p0, p1, p2, p3, p4, p5⟩ := CX.out.below ((HC.out.to wr (by simp)).trans (hB.mono (HC.out.to wr (by simp)).size)); obtain ⟨q0, q1, q2, q3, q4, q5⟩ := CY.out.below ((HC.out.to wr (by simp)).trans (hB.mono (HC.out.to wr (by simp)).size)); (go_simp <;> with_reducible rfl)
       try simp only [Act.put, List.setIfInBounds_toArray, List.set_cons_zero, List.set_cons_succ]
       refine wpAnyH_take (i := 4) (oi := ⟨some 25, _, _, _, _, _⟩) (v := ?_) rfl (by kernel_rfl) (by kernel_rfl) (by kernel_rfl) (fun _ _ _ h => h) (Or.inl ⟨by rfl, ?_⟩) hS ?_
       rotate_left 1
       · intro w' hB; obtain ⟨p0, p1, p2, p3, p4, p5⟩ := CX.out.below ((HC.out.to wr (by simp)).trans (hB.mono (HC.out.to wr (by simp)).size)); obtain ⟨q0, q1, q2, q3, q4, q5⟩ := CY.out.below ((HC.out.to wr (by simp)).trans (hB.mono (HC.out.to wr (by simp)).size)); (go_simp <;> with_reducible rfl)
       try simp only [Act.put, List.setIfInBounds_toArray, List.set_cons_zero, List.set_cons_succ]
       refine wpAnyH_take (i := 5) (oi := ⟨some 26, _, _, _, _, _⟩) (v := ?_) rfl (by kernel_rfl) (by kernel_rfl) (by kernel_rfl) (fun _ _ _ h => h) (Or.inl ⟨by rfl, ?_⟩) hS ?_
       rotate_left 1
       · intro w' hB; obtain ⟨p0, p1, p2, p3, p4, p5⟩ := CX.out.below ((HC.out.to wr (by simp)).trans (hB.mono (HC.out.to wr (by simp)).size)); obtain ⟨q0, q1, q2, q3, q4, q5⟩ := CY.out.below ((HC.out.to wr (by simp)).trans (hB.mono (HC.out.to wr (by simp)).size)); (go_simp <;> with_reducible rfl)
       try simp only [Act.put, List.setIfInBounds_toArray, List.set_cons_zero, List.set_cons_succ]
       refine wpAnyH_take (i := 6) (oi := ⟨some 27, _, _, _, _, _⟩) (v := ?_) rfl (by kernel_rfl) (by kernel_rfl) (by kernel_rfl) (fun _ _ _ h => h) (Or.inl ⟨by rfl, ?_⟩) hS ?_
       rotate_left 1
       · intro w' hB; obtain ⟨p0, p1, p2, p3, p4, p5⟩ := CX.out.below ((HC.out.to wr (by simp)).trans (hB.mono (HC.out.to wr (by simp)).size)); obtain ⟨q0, q1, q2, q3, q4, q5⟩ := CY.out.below ((HC.out.to wr (by simp)).trans (hB.mono (HC.out.to wr (by simp)).size)); (go_simp <;> with_reducible rfl)
       try simp only [Act.put, List.setIfInBounds_toArray, List.set_cons_zero, List.set_cons_succ]
       refine wpAnyH_take (i := 7) (oi := ⟨some 28, _, _, _, _, _⟩) (v := ?_) rfl (by kernel_rfl) (by kernel_rfl) (by kernel_rfl) (fun _ _ _ h => h) (Or.inl ⟨by rfl, ?_⟩) hS ?_
       rotate_left 1
       · intro w' hB; obtain ⟨p0, p1, p2, p3, p4, p5⟩ := CX.out.below ((HC.out.to wr (by simp)).trans (hB.mono (HC.out.to wr (by simp)).size)); obtain ⟨q0, q1, q2, q3, q4, q5⟩ := CY.out.below ((HC.out.to wr (by simp)).trans (hB.mono (HC.out.to wr (by simp)).size)); (go_simp <;> with_reducible rfl)
       try simp only [Act.put, List.setIfInBounds_toArray, List.set_cons_zero, List.set_cons_succ]
       refine wpAnyH_take (i := 8) (oi := ⟨some 29, _, _, _, _, _⟩) (v := ?_) rfl (by kernel_rfl) (by kernel_rfl) (by kernel_rfl) (fun _ _ _ h => h) (Or.inl ⟨by rfl, ?_⟩) hS ?_
       rotate_left 1
       · intro w' hB; obtain ⟨p0, p1, p2, p3, p4, p5⟩ := CX.out.below ((HC.out.to wr (by simp)).trans (hB.mono (HC.out.to wr (by simp)).size)); obtain ⟨q0, q1, q2, q3, q4, q5⟩ := CY.out.below ((HC.out.to wr (by simp)).trans (hB.mono (HC.out.to wr (by simp)).size)); (go_simp <;> with_reducible rfl)
       try simp only [Act.put, List.setIfInBounds_toArray, List.set_cons_zero, List.set_cons_succ]
       refine wpAnyH_take (i := 9) (oi := ⟨some 30, _, _, _, _, _⟩) (v := ?_) rfl (by kernel_rfl) (by kernel_rfl) (by kernel_rfl) (fun _ _ _ h => h) (Or.inl ⟨by rfl, ?_⟩) hS ?_
       rotate_left 1
       · intro w' hB; obtain ⟨p0, p1, p2, p3, p4, p5⟩ := CX.out.below ((HC.out.to wr (by simp)).trans (hB.mono (HC.out.to wr (by simp)).size)); obtain ⟨q0, q1, q2, q3, q4, q5⟩ := CY.out.below ((HC.out.to wr (by simp)).trans (hB.mono (HC.out.to wr (by simp)).size)); (go_simp <;> with_reducible rfl)
       try simp only [Act.put, List.setIfInBounds_toArray, List.set_cons_zero, List.set_cons_succ]
       refine wpAnyH_take (i := 10) (oi := ⟨some 31, _, _, _, _, _⟩) (v := ?_) rfl (by kernel_rfl) (by kernel_rfl) (by kernel_rfl) (fun _ _ _ h => h) (Or.inl ⟨by rfl, ?_⟩) hS ?_
       rotate_left 1
       · intro w' hB; obtain ⟨p0, p1, p2, p3, p4, p5⟩ := CX.out.below ((HC.out.to wr (by simp)).trans (hB.mono (HC.out.to wr (by simp)).size)); obtain ⟨q0, q1, q2, q3, q4, q5⟩ := CY.out.below ((HC.out.to wr (by simp)).trans (hB.mono (HC.out.to wr (by simp)).size)); (go_simp <;> with_reducible rfl)
       try simp only [Act.put, List.setIfInBounds_toArray, List.set_cons_zero, List.set_cons_succ]
       refine wpAnyH_take (i := 11) (oi := ⟨some 32, _, _, _, _, _⟩) (v := ?_) rfl (by kernel_rfl) (by kernel_rfl) (by kernel_rfl) (fun _ _ _ h => h) (Or.inl ⟨by rfl, ?_⟩) hS ?_
       rotate_left 1
       · intro w' hB; obtain ⟨p0, p1, p2, p3, p4, p5⟩ := CX.out.below ((HC.out.to wr (by simp)).trans (hB.mono (HC.out.to wr (by simp)).size)); obtain ⟨q0, q1, q2, q3, q4, q5⟩ := CY.out.below ((HC.out.to wr (by simp)).trans (hB.mono (HC.out.to wr (by simp)).size)); (go_simp <;> with_reducible rfl)
       try simp only [Act.put, List.setIfInBounds_toArray, List.set_cons_zero, List.set_cons_succ]
       refine wpAnyH_take (i := 12) (oi := ⟨some 33, _, _, _, _, _⟩) (v := ?_) rfl (by kernel_rfl) (by kernel_rfl) (by kernel_rfl) (fun _ _ _ h => h) (Or.inl ⟨by rfl, ?_⟩) hS ?_
       rotate_left 1
       · intro w' hB; obtain ⟨p0, p1, p2, p3, p4, p5⟩ := CX.out.below ((HC.out.to wr (by simp)).trans (hB.mono (HC.out.to wr (by simp)).size)); obtain ⟨q0, q1, q2, q3, q4, q5⟩ := CY.out.below ((HC.out.to wr (by simp)).trans (hB.mono (HC.out.to wr (by simp)).size)); (go_simp <;> with_reducible rfl)
       try simp only [Act.put, List.setIfInBounds_toArray, List.set_cons_zero, List.set_cons_succ]
       refine wpAnyH_take (i := 13) (oi := ⟨some 34, _, _, _, _, _⟩) (v := ?_) rfl (by kernel_rfl) (by kernel_rfl) (by kernel_rfl) (fun _ _ _ h => h) (Or.inl ⟨by rfl, ?_⟩) hS ?_
       rotate_left 1
       · intro w' hB; obtain ⟨p0, p1, p2, p3, p4, p5⟩ := CX.out.below ((HC.out.to wr (by simp)).trans (hB.mono (HC.out.to wr (by simp)).size)); obtain ⟨q0, q1, q2, q3, q4, q5⟩ := CY.out.below ((HC.out.to wr (by simp)).trans (hB.mono (HC.out.to wr (by simp)).size)); (go_simp <;> with_reducible rfl)
       try simp only [Act.put, List.setIfInBounds_toArray, List.set_cons_zero, List.set_cons_succ]
       refine wpAnyH_take (i := 14) (oi := ⟨some 35, _, _, _, _, _⟩) (v := ?_) rfl (by kernel_rfl) (by kernel_rfl) (by kernel_rfl) (fun _ _ _ h => h) (Or.inl ⟨by rfl, ?_⟩) hS ?_
       rotate_left 1
       · intro w' hB; obtain ⟨p0, p1, p2, p3, p4, p5⟩ := CX.out.below ((HC.out.to wr (by simp)).trans (hB.mono (HC.out.to wr (by simp)).size)); obtain ⟨q0, q1, q2, q3, q4, q5⟩ := CY.out.below ((HC.out.to wr (by simp)).trans (hB.mono (HC.out.to wr (by simp)).size)); (go_simp <;> with_reducible rfl)
       try simp only [Act.put, List.setIfInBounds_toArray, List.set_cons_zero, List.set_cons_succ]
       refine wpAnyH_take (i := 15) (oi := ⟨some 36, _, _, _, _, _⟩) (v := ?_) rfl (by kernel_rfl) (by kernel_rfl) (by kernel_rfl) (fun _ _ _ h => h) (Or.inl ⟨by rfl, ?_⟩) hS ?_
       rotate_left 1
       · intro w' hB; obtain ⟨p0, p1, p2, p3, p4, p5⟩ := CX.out.below ((HC.out.to wr (by simp)).trans (hB.mono (HC.out.to wr (by simp)).size)); obtain ⟨q0, q1, q2, q3, q4, q5⟩ := CY.out.below ((HC.out.to wr (by simp)).trans (hB.mono (HC.out.to wr (by simp)).size)); (go_simp <;> with_reducible rfl)
       try simp only [Act.put, List.setIfInBounds_toArray, List.set_cons_zero, List.set_cons_succ]
       refine wpAnyH_take (i := 16) (oi := ⟨some 37, _, _, _, _, _⟩) (v := ?_) rfl (by kernel_rfl) (by kernel_rfl) (by kernel_rfl) (fun _ _ _ h => h) (Or.inl ⟨by rfl, ?_⟩) hS ?_
       rotate_left 1
       · intro w' hB; obtain ⟨p0, p1, p2, p3, p4, p5⟩ := CX.out.below ((HC.out.to wr (by simp)).trans (hB.mono (HC.out.to wr (by simp)).size)); obtain ⟨q0, q1, q2, q3, q4, q5⟩ := CY.out.below ((HC.out.to wr (by simp)).trans (hB.mono (HC.out.to wr (by simp)).size)); (go_simp <;> with_reducible rfl)
       try simp only [Act.put, List.setIfInBounds_toArray, List.set_cons_zero, List.set_cons_succ]
       refine wpAnyH_take (i := 17) (oi := ⟨some 38, _, _, _, _, _⟩) (v := ?_) rfl (by kernel_rfl) (by kernel_rfl) (by kernel_rfl) (fun _ _ _ h => h) (Or.inl ⟨by rfl, ?_⟩) hS ?_
       rotate_left 1
       · intro w' hB; obtain ⟨p0, p1, p2, p3, p4, p5⟩ := CX.out.below ((HC.out.to wr (by simp)).trans (hB.mono (HC.out.to wr (by simp)).size)); obtain ⟨q0, q1, q2, q3, q4, q5⟩ := CY.out.below ((HC.out.to wr (by simp)).trans (hB.mono (HC.out.to wr (by simp)).size)); (go_simp <;> with_reducible rfl)
       try simp only [Act.put, List.setIfInBounds_toArray, List.set_cons_zero, List.set_cons_succ]
       refine wpAnyH_take (i := 18) (oi := ⟨some 39, _, _, _, _, _⟩) (v := ?_) rfl (by kernel_rfl) (by kernel_rfl) (by kernel_rfl) (fun _ _ _ h => h) (Or.inl ⟨by rfl, ?_⟩) hS ?_
       rotate_left 1
       · intro w' hB; obtain ⟨p0, p1, p2, p3, p4, p5⟩ := CX.out.below ((HC.out.to wr (by simp)).trans (hB.mono (HC.out.to wr (by simp)).size)); obtain ⟨q0, q1, q2, q3, q4, q5⟩ := CY.out.below ((HC.out.to wr (by simp)).trans (hB.mono (HC.out.to wr (by simp)).size)); (go_simp <;> with_reducible rfl)
       try simp only [Act.put, List.setIfInBounds_toArray, List.set_cons_zero, List.set_cons_succ]
       refine wpAnyH_take (i := 19) (oi := ⟨some 40, _, _, _, _, _⟩) (v := ?_) rfl (by kernel_rfl) (by kernel_rfl) (by kernel_rfl) (fun _ _ _ h => h) (Or.inl ⟨by rfl, ?_⟩) hS ?_
       rotate_left 1
       · intro w' hB; obtain ⟨p0, p1, p2, p3, p4, p5⟩ := CX.out.below ((HC.out.to wr (by simp)).trans (hB.mono (HC.out.to wr (by simp)).size)); obtain ⟨q0, q1, q2, q3, q4, q5⟩ := CY.out.below ((HC.out.to wr (by simp)).trans (hB.mono (HC.out.to wr (by simp)).size)); (go_simp <;> with_reducible rfl)
       try simp only [Act.put, List.setIfInBounds_toArray, List.set_cons_zero, List.set_cons_succ]
       refine wpAnyH_ready (rs := [20]) (by kernel_rfl) (by simp) (AllReadyH.cons (o := ⟨some 41, _, _, _, _, _⟩) rfl (fun K hK => ?_) AllReadyH.nil)
       go_simp
       refine (HCMP.out _).mono ?_
       rintro e w4 ⟨rfl, hb⟩
       refine hK.out _ _ (hS.trans (hb.mono hS.size)) (fun _ => ?_)
       clear hK K
       have hB := hS.trans (hb.mono hS.size)
       refine wpAnyH_now hB ?_
       clear hS
       have hS := Below.refl w4.heap.size w4
       replace HC := Lib.hid (HC.out.push hB)
       clear hB hb
       try simp only [Act.put, List.setIfInBounds_toArray, List.set_cons_zero, List.set_cons_succ]
       refine wpAnyH_take (i := 21) (oi := ⟨some 42, _, _, _, _, _⟩) (v := ?_) rfl (by kernel_rfl) (by kernel_rfl) (by kernel_rfl) (fun _ _ _ h => h) (Or.inl ⟨by rfl, ?_⟩) hS ?_
       rotate_left 1
       · intro w' hB; obtain ⟨p0, p1, p2, p3, p4, p5⟩ := CX.out.below ((HC.out.to wr (by simp)).trans (hB.mono (HC.out.to wr (by simp)).size)); obtain ⟨q0, q1, q2, q3, q4, q5⟩ := CY.out.below ((HC.out.to wr (by simp)).trans (hB.mono (HC.out.to wr (by simp)).size)); (go_simp <;> with_reducible rfl)
       try simp only [Act.put, List.setIfInBounds_toArray, List.set_cons_zero, List.set_cons_succ]
       refine wpAnyH_take (i := 22) (oi := ⟨some 43, _, _, _, _, _⟩) (v := ?_) rfl (by kernel_rfl) (by kernel_rfl) (by kernel_rfl) (fun _ _ _ h => h) (Or.inl ⟨by rfl, ?_⟩) hS ?_
       rotate_left 1
       · intro w' hB; obtain ⟨p0, p1, p2, p3, p4, p5⟩ := CX.out.below ((HC.out.to wr (by simp)).trans (hB.mono (HC.out.to wr (by simp)).size)); obtain ⟨q0, q1, q2, q3, q4, q5⟩ := CY.out.below ((HC.out.to wr (by simp)).trans (hB.mono (HC.out.to wr (by simp)).size)); (go_simp <;> with_reducible rfl)
       try simp only [Act.put, List.setIfInBounds_toArray, List.set_cons_zero, List.set_cons_succ]
       refine wpAnyH_take (i := 23) (oi := ⟨some 44, _, _, _, _, _⟩) (v := ?_) rfl (by kernel_rfl) (by kernel_rfl) (by kernel_rfl) (fun _ _ _ h => h) (Or.inl ⟨by rfl, ?_⟩) hS ?_
       rotate_left 1
       · intro w' hB; obtain ⟨p0, p1, p2, p3, p4, p5⟩ := CX.out.below ((HC.out.to wr (by simp)).trans (hB.mono (HC.out.to wr (by simp)).size)); obtain ⟨q0, q1, q2, q3, q4, q5⟩ := CY.out.below ((HC.out.to wr (by simp)).trans (hB.mono (HC.out.to wr (by simp)).size)); (go_simp <;> with_reducible rfl)
       try simp only [Act.put, List.setIfInBounds_toArray, List.set_cons_zero, List.set_cons_succ]
       refine wpAnyH_done (by kernel_rfl) (NoPanic.normal ?_) _
       have hbe := HC.out.to wr (by simp)
       clear hS HC
       have HB4 := Lib.hid (HB.out.trans ((hbe).mono HB.out.size))
       have HO4 := Lib.hid (own_later HO.out (hbe) (Nat.le_refl _))
       have HLA : hasS B x.1 = false → Hid (St.Left A B (A.drop (i + 1)) (B.drop k)) := fun h => Lib.hid (by rw [HDB.out]; exact left_a SA.out SB.out OK.out (by rw [← HDA.out, ← HDB.out]; exact HL.out) HNL.out h)
       have HEA : hasS B x.1 = false → Hid (elsF base A B (A.drop i) (B.drop k) = (if hasS base x.1 then [] else [x]) ++ elsF base A B (A.drop (i + 1)) (B.drop k)) := fun h => Lib.hid (by rw [HDA.out, HDB.out]; exact elsF_not _ _ _ _ _ _ _ HNL.out h)
       have CX4 := Lib.hid (CX.out.below hbe)
       have cx4 := CX4.out
       obtain ⟨p0, p1, p2, p3, p4, p5⟩ := cx4
       clear hbe
       go_wp2_with fail
       refine (find_has (H3.out.below HB4.out rfl) N3.out (by omega) O3.out hox.out qb QB.out X HX.out).mono ?_
       rintro e w5 ⟨fi, rfl, f1, f2, hb5⟩
       have HB5 := Lib.hid (HB4.out.trans (hb5.mono HB4.out.size))
       have HO5 := Lib.hid (own_later HO4.out hb5 (Nat.le_refl _))
       have CX5 := Lib.hid (CX4.out.below hb5)
       clear p0 p1 p2 p3 p4 p5 hb5 f2
       cases qb with
       | true =>
        have f3 : decide (0 ≤ fi) = true := f1
        have HLE := Lib.hid (left_both SA.out SB.out OK.out (by rw [← HDA.out, ← HDB.out]; exact HL.out) HNL.out QB.out)
        have HEE : Hid (elsF base A B (A.drop i) (B.drop k) = [x] ++ elsF base A B (A.drop (i + 1)) (B.drop (k + 1))) := Lib.hid (by rw [HDA.out, HDB.out]; exact elsF_both _ _ _ _ _ _ _ HNL.out QB.out)
        clear f1
        have HBS := Lib.hid HB5.out.size
        obtain ⟨p0, p1, p2, p3, p4, p5⟩ := CX5.out
        go_upto_region 8 with (at_builtin; refine wpList_app rfl _ _ 22 22 rfl w.heap.size 53 _ 6 64 ET.out u7 out.length (elsV (out.map toV)) rfl (HO5.out.alloc _) _ 1 (elV X) rfl ((CellsAt.new w5 53 (0, 0) (elV X)).srcN rfl (fun u hu => elsV_one [X] u (by simpa [elsV] using hu)) Tryz.underlying22 1 (by decide)) (by omega) (by omega) (by have := HBS.out; simp; omega) ?_; intro v6 w6 hown _ hbel _)
        have HB6 := Lib.hid ((HB5.out.alloc HB5.out.size (.cells (elV X).toArray 53)).trans hbel)
        have HO6 : Hid (w6.ownsRow w.heap.size 53 6 v6 (out ++ [x]).length (elsV ((out ++ [x]).map toV))) := Lib.hid (by rw [← app_one, ← HX.out, List.length_append]; exact hown)
        clear hown hbel
        go_wp2_with fail
        go_roundw
        case rel => exact ⟨i + 1, k + 1, out ++ [x], by go_num, by go_num, by omega, by omega, Lib.hid HLE.out.2, Lib.hid (by rw [← HE.out, HEE.out]; simp), HO6, HB6⟩
        case measure => simp [intOf]; omega
       | false =>
        have f3 : decide (0 ≤ fi) = false := f1
        clear f1
        have cx5 := CX5.out
        obtain ⟨p0, p1, p2, p3, p4, p5⟩ := cx5
        go_wp2_with fail
        refine (find_has (H1.out.below HB5.out rfl) N1.out (by omega) O1.out hox.out qs QS.out X HX.out).mono ?_
        rintro e w7 ⟨fj, rfl, g1, g2, hb7⟩
        have HB7 := Lib.hid (HB5.out.trans (hb7.mono HB5.out.size))
        have HO7 := Lib.hid (own_later HO5.out hb7 (Nat.le_refl _))
        have CX7 := Lib.hid (CX5.out.below hb7)
        clear p0 p1 p2 p3 p4 p5 hb7 g1 CX5 HO5 HB5
        cases qs with
        | true =>
         have g3 : decide (fj < 0) = false := g2
         clear g2
         go_wp2_with fail
         go_roundw
         case rel => exact ⟨i + 1, k, out, by go_num, rfl, by omega, by omega, HLA QB.out, Lib.hid (by rw [← HE.out, (HEA QB.out).out, QS.out]; rfl), HO7, HB7⟩
         case measure => simp [intOf]; omega
        | false =>
         have g3 : decide (fj < 0) = true := g2
         clear g2
         have HB5 := HB7
         have HO5 := HO7
         have CX5 := CX7
         have HBS := Lib.hid HB5.out.size
         obtain ⟨p0, p1, p2, p3, p4, p5⟩ := CX5.out
         go_upto_region 8 with (at_builtin; refine wpList_app rfl _ _ 22 22 rfl w.heap.size 53 _ 6 64 ET.out u7 out.length (elsV (out.map toV)) rfl (HO5.out.alloc _) _ 1 (elV X) rfl ((CellsAt.new w7 53 (0, 0) (elV X)).srcN rfl (fun u hu => elsV_one [X] u (by simpa [elsV] using hu)) Tryz.underlying22 1 (by decide)) (by omega) (by omega) (by have := HBS.out; simp; omega) ?_; intro v6 w6 hown _ hbel _)
         have HB6 := Lib.hid ((HB5.out.alloc HB5.out.size (.cells (elV X).toArray 53)).trans hbel)
         have HO6 : Hid (w6.ownsRow w.heap.size 53 6 v6 (out ++ [x]).length (elsV ((out ++ [x]).map toV))) := Lib.hid (by rw [← app_one, ← HX.out, List.length_append]; exact hown)
         clear hown hbel
         go_wp2_with fail
         go_roundw
         case rel => exact ⟨i + 1, k, out ++ [x], by go_num, rfl, by omega, by omega, HLA QB.out, Lib.hid (by rw [← HE.out, (HEA QB.out).out, QS.out]; simp), HO6, HB6⟩
         case measure => simp [intOf]; omega
    · obtain rfl : k = n3 := by omega
      have HDB : Hid (B.drop k = []) := Lib.hid (List.drop_of_length_le (by have := N3.out; omega))
      have HA0 := Lib.hid (left_a0 SA.out SB.out OK.out (show St.Left A B (x :: A.drop (i + 1)) [] from by rw [← HDA.out, ← HDB.out]; exact HL.out))
      have HNB : Hid (hasS B x.1 = false) := Lib.hid HA0.out.2
      have HLA : hasS B x.1 = false → Hid (St.Left A B (A.drop (i + 1)) (B.drop k)) := fun _ => Lib.hid (by rw [HDB.out]; exact HA0.out.1)
      have HEA : hasS B x.1 = false → Hid (elsF base A B (A.drop i) (B.drop k) = (if hasS base x.1 then [] else [x]) ++ elsF base A B (A.drop (i + 1)) (B.drop k)) := fun h => Lib.hid (by rw [HDA.out, HDB.out]; exact elsF_a0 _ _ _ _ _ h)
      have hd1 : decide ((k : Int) < (k : Int)) = false := by simp
      go_wp2_with fail
      go_quiet (fail)
      have hbe : Below wr.heap.size wr (wr.drewN nq) := below_drews (Below.refl _ _) _
      generalize wr.drewN nq = w4 at *
      have HB4 := Lib.hid (HB.out.trans ((hbe).mono HB.out.size))
      have HO4 := Lib.hid (own_later HO.out (hbe) (Nat.le_refl _))
      have CX4 := Lib.hid (CX.out.below hbe)
      have cx4 := CX4.out
      obtain ⟨p0, p1, p2, p3, p4, p5⟩ := cx4
      clear hbe
      go_wp2_with fail
      refine (find_has (H3.out.below HB4.out rfl) N3.out (by omega) O3.out hox.out qb QB.out X HX.out).mono ?_
      rintro e w5 ⟨fi, rfl, f1, f2, hb5⟩
      have HB5 := Lib.hid (HB4.out.trans (hb5.mono HB4.out.size))
      have HO5 := Lib.hid (own_later HO4.out hb5 (Nat.le_refl _))
      have CX5 := Lib.hid (CX4.out.below hb5)
      clear p0 p1 p2 p3 p4 p5 hb5 f2
      cases qb with
      | true =>
       exact absurd QB.out (by rw [HNB.out]; simp)
      | false =>
       have f3 : decide (0 ≤ fi) = false := f1
       clear f1
       have cx5 := CX5.out
       obtain ⟨p0, p1, p2, p3, p4, p5⟩ := cx5
       go_wp2_with fail
       refine (find_has (H1.out.below HB5.out rfl) N1.out (by omega) O1.out hox.out qs QS.out X HX.out).mono ?_
       rintro e w7 ⟨fj, rfl, g1, g2, hb7⟩
       have HB7 := Lib.hid (HB5.out.trans (hb7.mono HB5.out.size))
       have HO7 := Lib.hid (own_later HO5.out hb7 (Nat.le_refl _))
       have CX7 := Lib.hid (CX5.out.below hb7)
       clear p0 p1 p2 p3 p4 p5 hb7 g1 CX5 HO5 HB5
       cases qs with
       | true =>
        have g3 : decide (fj < 0) = false := g2
        clear g2
        go_wp2_with fail
        go_roundw
        case rel => exact ⟨i + 1, k, out, by go_num, rfl, by omega, by omega, HLA QB.out, Lib.hid (by rw [← HE.out, (HEA QB.out).out, QS.out]; rfl), HO7, HB7⟩
        case measure => simp [intOf]; omega
       | false =>
        have g3 : decide (fj < 0) = true := g2
        clear g2
        have HB5 := HB7
        have HO5 := HO7
        have CX5 := CX7
        have HBS := Lib.hid HB5.out.size
        obtain ⟨p0, p1, p2, p3, p4, p5⟩ := CX5.out
        go_upto_region 8 with (at_builtin; refine wpList_app rfl _ _ 22 22 rfl w.heap.size 53 _ 6 64 ET.out u7 out.length (elsV (out.map toV)) rfl (HO5.out.alloc _) _ 1 (elV X) rfl ((CellsAt.new w7 53 (0, 0) (elV X)).srcN rfl (fun u hu => elsV_one [X] u (by simpa [elsV] using hu)) Tryz.underlying22 1 (by decide)) (by omega) (by omega) (by have := HBS.out; simp; omega) ?_; intro v6 w6 hown _ hbel _)
        have HB6 := Lib.hid ((HB5.out.alloc HB5.out.size (.cells (elV X).toArray 53)).trans hbel)
        have HO6 : Hid (w6.ownsRow w.heap.size 53 6 v6 (out ++ [x]).length (elsV ((out ++ [x]).map toV))) := Lib.hid (by rw [← app_one, ← HX.out, List.length_append]; exact hown)
        clear hown hbel
        go_wp2_with fail
        go_roundw
        case rel => exact ⟨i + 1, k, out ++ [x], by go_num, rfl, by omega, by omega, HLA QB.out, Lib.hid (by rw [← HE.out, (HEA QB.out).out, QS.out]; simp), HO6, HB6⟩
        case measure => simp [intOf]; omega
  · obtain rfl : i = n2 := by omega
    have HDA : Hid (A.drop i = []) := Lib.hid (List.drop_of_length_le (by have := N2.out; omega))
    have hd0 : decide ((i : Int) < (i : Int)) = false := by simp
    by_cases hkb : k < n3
    · have hkB : k < B.length := by have := N3.out; omega
      have HDB := Lib.hid (List.drop_eq_getElem_cons hkB)
      have hoy : Hid (B[k].1.ok = true) := Lib.hid (O3.out _ (List.getElem_mem hkB))
      have HGB : Hid (∀ wx, CellsAt wx a3 (elsV (B.map toV)) → ∃ b off, a3 = some ⟨b, off, none⟩ ∧ ElCell wx b (off + k * 6) (toV B[k])) := Lib.hid (fun wx h => els_getE h k hkB)
      generalize B[k] = y at *
      obtain ⟨bY, oy, rfl, cy⟩ := HGB.out _ (H3.out.below HB.out rfl)
      obtain ⟨Y, hY⟩ : ∃ Y, Y = toV y := ⟨_, rfl⟩
      rw [← hY] at cy
      have CY := Lib.hid cy
      have HY := Lib.hid hY
      clear cy hY HGB
      have hkk : (k : Int) < (n3 : Int) := by omega
      have hkne : ((k : Int) == (n3 : Int)) = false := by simp; omega
      have hkne' : ¬ (k : Int) = (n3 : Int) := by omega
      have HLB := Lib.hid (show St.Left A B (A.drop i) (B.drop (k + 1)) from by rw [HDA.out]; exact left_b0 (by rw [← HDA.out, ← HDB.out]; exact HL.out))
      have HEB : Hid (elsF base A B (A.drop i) (B.drop k) = (if hasS base y.1 then [] else [y]) ++ elsF base A B (A.drop i) (B.drop (k + 1))) := Lib.hid (by rw [HDA.out, HDB.out]; exact elsF_0b _ _ _ _ _)
      go_wp2_with fail
      go_quiet (fail)
      have hbe : Below wr.heap.size wr (wr.drewN nq) := below_drews (Below.refl _ _) _
      generalize wr.drewN nq = w4 at *
      have HB4 := Lib.hid (HB.out.trans ((hbe).mono HB.out.size))
      have HO4 := Lib.hid (own_later HO.out (hbe) (Nat.le_refl _))
      obtain ⟨qy, hqy⟩ : ∃ q, hasS base y.1 = q := ⟨_, rfl⟩
      have QY := Lib.hid hqy
      clear hqy
      have CY4 := Lib.hid (CY.out.below hbe)
      have cy4 := CY4.out
      obtain ⟨q0, q1, q2, q3, q4, q5⟩ := cy4
      clear hbe
      go_wp2_with fail
      refine (find_has (H1.out.below HB4.out rfl) N1.out (by omega) O1.out hoy.out qy QY.out Y HY.out).mono ?_
      rintro e w5 ⟨fi, rfl, f1, f2, hb5⟩
      have HB5 := Lib.hid (HB4.out.trans (hb5.mono HB4.out.size))
      have HO5 := Lib.hid (own_later HO4.out hb5 (Nat.le_refl _))
      have CY5 := Lib.hid (CY4.out.below hb5)
      clear q0 q1 q2 q3 q4 q5 hb5 f1
      obtain ⟨q0, q1, q2, q3, q4, q5⟩ := CY5.out
      cases qy with
      | true =>
       have f3 : decide (fi < 0) = false := f2
       clear f2
       go_wp2_with fail
       go_roundw
       case rel => exact ⟨i, k + 1, out, rfl, by go_num, by omega, by omega, HLB, Lib.hid (by rw [← HE.out, HEB.out, QY.out]; rfl), HO5, HB5⟩
       case measure => simp [intOf]; omega
      | false =>
       have f3 : decide (fi < 0) = true := f2
       clear f2
       have HBS := Lib.hid HB5.out.size
       go_wp2_with (at_builtin; refine wpList_app rfl _ _ 22 22 rfl w.heap.size 53 _ 6 64 ET.out u7 out.length (elsV (out.map toV)) rfl (HO5.out.alloc _) _ 1 (elV Y) rfl ((CellsAt.new w5 53 (0, 0) (elV Y)).srcN rfl (fun u hu => elsV_one [Y] u (by simpa [elsV] using hu)) Tryz.underlying22 1 (by decide)) (by omega) (by omega) (by have := HBS.out; simp; omega) ?_; intro v6 w6 hown _ hbel _)
       have HB6 := Lib.hid ((HB5.out.alloc HB5.out.size (.cells (elV Y).toArray 53)).trans hbel)
       have HO6 : Hid (w6.ownsRow w.heap.size 53 6 v6 (out ++ [y]).length (elsV ((out ++ [y]).map toV))) := Lib.hid (by rw [← app_one, ← HY.out, List.length_append]; exact hown)
       clear hown hbel
       go_wp2_with fail
       go_roundw
       case rel => exact ⟨i, k + 1, out ++ [y], rfl, by go_num, by omega, by omega, HLB, Lib.hid (by rw [← HE.out, HEB.out, QY.out]; simp), HO6, HB6⟩
       case measure => simp [intOf]; omega
    · obtain rfl : k = n3 := by omega
      have HDB : Hid (B.drop k = []) := Lib.hid (List.drop_of_length_le (by have := N3.out; omega))
      have hd1 : decide ((k : Int) < (k : Int)) = false := by simp
      have HF : Hid (out = R) := Lib.hid (by rw [← HE.out, HDA.out, HDB.out, elsF_00, List.append_nil])
      go_wp2_with fail
      go_ret
      rw [← HF.out]
      exact ⟨_, rfl, HO.out, HB.out⟩
end Go.Proofs.YtjlliohjeiclaaaGreatDoor
