/- Words, contracts and walks that the proof stands on (KyS). -/
import Derived.Test.YtjlliohjeiclaaaGreatDoorKF1
import Derived.Deep.CutBlock
import Derived.Deep.DeepCutAuto
import Derived.Test.YtjlliohjeiclaaaGreatDoorKF7
namespace Go.Proofs.YtjlliohjeiclaaaGreatDoor
open Go.RowKit St
theorem ahead_stop {x : Ev} {out : List Ev} {k : Nat} (hk : k < out.length) (ht : ∀ y ∈ out.take k, aheadV x y = true) (hx : aheadV x out[k] = false) : insV x out = out.take k ++ x :: out.drop k := by
 have e := List.take_append_drop k out
 have hd := List.drop_eq_getElem_cons hk
 unfold insV
 have h1 : out.takeWhile (aheadV x) = out.take k := by
  rw [← e, List.takeWhile_append_of_pos ht, hd, List.takeWhile_cons, hx]
  simp
 have h2 : out.dropWhile (aheadV x) = out.drop k := by
  conv => lhs; rw [← e]
  rw [List.dropWhile_append_of_pos ht, hd, List.dropWhile_cons, hx]
  simp
 rw [h1, h2]
theorem ahead_end {x : Ev} {out : List Ev} (ht : ∀ y ∈ out.take out.length, aheadV x y = true) : insV x out = out.take out.length ++ x :: out.drop out.length := by
 rw [List.take_length] at ht ⊢
 rw [List.drop_length]
 unfold insV
 have h1 : out.takeWhile (aheadV x) = out := by
  have := List.takeWhile_append_of_pos (l₁ := out) (l₂ := []) ht
  simpa using this
 have h2 : out.dropWhile (aheadV x) = [] := by
  have := List.dropWhile_append_of_pos (l₁ := out) (l₂ := []) ht
  simpa using this
 rw [h1, h2]
theorem run_to {P : Program} (w : World) (t e : TypeId) (ht : P.underlying t = some (.slice e)) (size : Nat) (hz : ∀ w, (Go.sizeOf e).run P w = .ok size w) (a : Option Addr) (ha : a = none ∨ ∃ g, a = some ⟨g, 0, none⟩) (len cap k : Nat) (x : Int) (hx : x = (k : Int)) (hk : k ≤ cap) :
 (Instr.slice t (.slice a len cap) none (some (.int .i64 x)) none).run P w = .ok (.slice a k cap) w := by
 have ht' : P.underlying t = some (.slice (P.elem t)) := by simp [Program.elem, ht]
 have he : P.elem t = e := by simp [Program.elem, ht]
 subst hx
 rw [run_slice_h w t _ _ _ ht' .i64 _ (by omega) (by omega), he, hz]
 rcases ha with rfl | ⟨g, rfl⟩
 · simp [Result.andThen, sliced]
 · simp [Result.andThen, sliced, Addr_add]
theorem CellsAt.subN {w : World} {a : Option Addr} {vs : List Value} (h : CellsAt w a vs) (cap l size : Nat) (hl : cap = l → vs.length ≤ l * size) : CellsAt w (subN a cap l size) (vs.drop (l * size)) := by
 unfold Go.Proofs.YtjlliohjeiclaaaGreatDoor.subN
 split
 · rename_i e
   rw [List.drop_of_length_le (hl e)]
   exact CellsAt.nil _ _
 · exact h.drop (l * size)
theorem ElCell.below {w w' : World} {b o : Nat} {e : Ev} (h : ElCell w b o e) (hb : Below w.heap.size w w') : ElCell w' b o e := by
 have hl : b < w.heap.size := cell_lt h.c0
 have k : ∀ j, w'.cell? ⟨b, j, none⟩ = w.cell? ⟨b, j, none⟩ := fun j => hb.cell (p := ⟨b, j, none⟩) hl
 exact ⟨by rw [k]; exact h.c0, by rw [k]; exact h.c1, by rw [k]; exact h.c2, by rw [k]; exact h.c3, by rw [k]; exact h.c4, by rw [k]; exact h.c5⟩
set_option maxRecDepth 100000 in
set_option maxHeartbeats 4000000 in
theorem ref11_Sorted (l : List Ev) (a : Option Addr) (n c : Nat) (w : World) (hl : CellsAt w a (elsV l)) (hn : n = l.length) (hb : n ≤ 1000000) (hsz : ∀ e ∈ l, e.1.l.size ≤ 9223372036854775807) :
 Calls Tryz.prog 13 #[.slice a n c] w fun e w' => ∃ v, e = .returned v ∧ w'.ownsRow w.heap.size 53 6 v n (elsV (sortV l)) ∧ Below w.heap.size w w' := by
 have HL := Lib.hid hl
 have HSZ := Lib.hid hsz
 have HNN := Lib.hid hn
 clear hl hsz hn
 have EN := sv_eql
 go_enter Tryz.func13, Tryz.ntmps13
 go_wp2_with fail
 go_loopw [3, 4] (fun v i wr => ∃ k : Nat, k ≤ n ∧ i = .int .i64 (k : Int) ∧ Hid (wr.ownsRow w.heap.size 53 6 v k (elsV (sortV (l.take k)))) ∧ Hid (Below w.heap.size w wr)) (fun _ i _ => n - (intOf i).toNat)
 case atStart => exact ⟨0, Nat.zero_le _, rfl, Lib.hid ⟨rfl, Or.inl ⟨rfl, rfl⟩⟩, Lib.hid (Below.refl _ _)⟩
 case round =>
  obtain ⟨i, hi, rfl, HO, HB⟩ := hrel
  by_cases hlt : i < n
  · have hk1 : i < l.length := by have := HNN.out; omega
    obtain ⟨so, co, hsv, hle1, hle2⟩ := own_slice HO.out
    have hki : (i : Int) < (n : Int) := by omega
    subst hsv
    have HS : Hid (sortV (l.take (i + 1)) = insV l[i] (sortV (l.take i))) := Lib.hid (by rw [List.take_succ_eq_append_getElem hk1, sortV_snoc])
    have hol : Hid ((sortV (l.take i)).length = i) := Lib.hid (by rw [sortV_length, List.length_take]; omega)
    have HZX : Hid (l[i].1.l.size ≤ 9223372036854775807) := Lib.hid (HSZ.out _ (List.getElem_mem hk1))
    have HZO : Hid (∀ y ∈ sortV (l.take i), y.1.l.size ≤ 9223372036854775807) := Lib.hid (fun y hy => HSZ.out _ (List.mem_of_mem_take (sortV_mem.1 hy)))
    have HG : Hid (∀ wx, CellsAt wx a (elsV l) → ∃ b off, a = some ⟨b, off, none⟩ ∧ ElCell wx b (off + i * 6) l[i]) := Lib.hid (fun wx h => els_get h i hk1)
    generalize hout : sortV (l.take i) = out at *
    generalize l[i] = x at *
    have HA0 := Lib.hid (HL.out.below HB.out rfl)
    obtain ⟨wo, hwo⟩ : ∃ wo : World, wo = wr := ⟨_, rfl⟩
    clear hwo
    go_upto_block 2 with (fail)
    go_cut [5] (fun u5 wx => ∃ k : Nat, u5 = .int .i64 (k : Int) ∧ k ≤ i ∧ Hid (insV x out = out.take k ++ x :: out.drop k) ∧ Hid (wx.ownsRow w.heap.size 53 6 (.slice so i co) i (elsV out)) ∧ Hid (CellsAt wx a (elsV l)) ∧ Hid (Below w.heap.size w wx))
    case first =>
     go_wp2_with fail
     go_loopw [5] (fun u5 wr => ∃ k : Nat, k ≤ i ∧ u5 = .int .i64 (k : Int) ∧ Hid (∀ y ∈ out.take k, aheadV x y = true) ∧ Hid (wr.ownsRow w.heap.size 53 6 (.slice so i co) i (elsV out)) ∧ Hid (CellsAt wr a (elsV l)) ∧ Hid (Below w.heap.size w wr)) (fun u5 _ => i - (intOf u5).toNat)
     case atStart => exact ⟨0, Nat.zero_le _, rfl, Lib.hid (fun y hy => (by cases hy)), HO, HA0, HB⟩
     clear HO HA0 HB
     case round =>
      obtain ⟨k, hk, rfl, HT, HO2, HA, HB2⟩ := hrel
      by_cases hlt2 : k < i
      · have hki2 : (k : Int) < (i : Int) := by omega
        have hko : k < out.length := by have := hol.out; omega
        obtain ⟨bx, ox, rfl, cx⟩ := HG.out _ HA.out
        have CX := Lib.hid cx
        obtain ⟨g, cg, e1, _⟩ := own_form HO2.out (by omega)
        cases e1
        obtain ⟨b', o', e2, cy⟩ := els_get (CellsAt.ownN HO2.out) k hko
        cases e2
        rw [Nat.zero_add] at cy
        have HST : Hid (aheadV x out[k] = false → insV x out = out.take k ++ x :: out.drop k) := Lib.hid (fun h => ahead_stop hko HT.out h)
        have HGO : Hid (aheadV x out[k] = true → ∀ y ∈ out.take (k + 1), aheadV x y = true) := Lib.hid (fun h => take_none hko HT.out h)
        have HZY : Hid (out[k].1.l.size ≤ 9223372036854775807) := Lib.hid (HZO.out _ (List.getElem_mem hko))
        generalize out[k] = y at *
        have CY := Lib.hid cy
        have AV : Hid (aheadV x y = (decide (svC y.1 x.1 < 0) || (decide (y.1 = x.1) && Pm.klt y.2 x.2))) := Lib.hid rfl
        generalize aheadV x y = av at *
        clear cx cy
        have HC : Hid (Chain [wr] wr) := Lib.hid (Chain.one wr)
        go_wp2_with fail
        obtain ⟨cv, hcv⟩ : ∃ c, svC y.1 x.1 = c := ⟨_, rfl⟩
        rw [hcv] at AV
        have HCMP : Hid (∀ wx, Calls Tryz.prog 51 #[.agg #[.int .i64 y.1.g, .int .i64 y.1.r, .string y.1.l, .int .i64 y.1.n, .int .i64 y.1.i], .agg #[.int .i64 x.1.g, .int .i64 x.1.r, .string x.1.l, .int .i64 x.1.n, .int .i64 x.1.i]] wx fun e w' => e = .returned (.int .i64 cv) ∧ Below wx.heap.size wx w') := Lib.hid (fun wx => by rw [← hcv]; exact ref6_Cmp y.1 x.1 wx HZY.out HZX.out)
        clear hcv
        by_cases hcmp : cv < 0
        · have hd1 : decide (cv < 0) = true := decide_eq_true hcmp
          have H := Lib.hid (HGO.out (by rw [AV.out, hd1]; rfl))
          refine wp_region_noPanic ?_
          refine wp_region_held_drew (S := fun w' => Below wr.heap.size wr w') (by kernel_rfl) (Below.refl _ _).drew (fun hS => ?_)
          refine tk (i := 0) (oi := ⟨some 12, _, _, _, _, _⟩) (v := ?_) rfl (Or.inl ⟨by rfl, ?_⟩) hS ?_
          rotate_left 1
          · intro w' hB; (go_simp <;> with_reducible rfl)
          try simp only [Act.put, zA, zB, zC]
          refine tk (i := 1) (oi := ⟨some 13, _, _, _, _, _⟩) (v := ?_) rfl (Or.inl ⟨by rfl, ?_⟩) hS ?_
          rotate_left 1
          · intro w' hB; (go_simp <;> with_reducible rfl)
          try simp only [Act.put, zA, zB, zC]
          refine tk (i := 2) (oi := ⟨some 14, _, _, _, _, _⟩) (v := ?_) rfl (Or.inl ⟨by rfl, ?_⟩) hS ?_
          rotate_left 1
          · intro w' hB; (go_simp <;> with_reducible rfl)
          try simp only [Act.put, zA, zB, zC]
          refine tk (i := 3) (oi := ⟨some 15, _, _, _, _, _⟩) (v := ?_) rfl (Or.inl ⟨by rfl, ?_⟩) hS ?_
          rotate_left 1
          · intro w' hB; have CXw := CX.out.below ((HC.out.to wr (by simp)).trans (hB.mono (HC.out.to wr (by simp)).size)); obtain ⟨p0, p1, p2, p3, p4, p5⟩ := CXw; have CYw := CY.out.below ((HC.out.to wr (by simp)).trans (hB.mono (HC.out.to wr (by simp)).size)); obtain ⟨q0, q1, q2, q3, q4, q5⟩ := CYw; (go_simp <;> with_reducible rfl)
          try simp only [Act.put, zA, zB, zC]
          refine tk (i := 4) (oi := ⟨some 16, _, _, _, _, _⟩) (v := ?_) rfl (Or.inl ⟨by rfl, ?_⟩) hS ?_
          rotate_left 1
          · intro w' hB; (go_simp <;> with_reducible rfl)
          try simp only [Act.put, zA, zB, zC]
          refine tk (i := 5) (oi := ⟨some 17, _, _, _, _, _⟩) (v := ?_) rfl (Or.inl ⟨by rfl, ?_⟩) hS ?_
          rotate_left 1
          · intro w' hB; (go_simp <;> with_reducible rfl)
          try simp only [Act.put, zA, zB, zC]
          refine tk (i := 6) (oi := ⟨some 18, _, _, _, _, _⟩) (v := ?_) rfl (Or.inl ⟨by rfl, ?_⟩) hS ?_
          rotate_left 1
          · intro w' hB; (go_simp <;> with_reducible rfl)
          try simp only [Act.put, zA, zB, zC]
          refine tk (i := 7) (oi := ⟨some 19, _, _, _, _, _⟩) (v := ?_) rfl (Or.inl ⟨by rfl, ?_⟩) hS ?_
          rotate_left 1
          · intro w' hB; have CXw := CX.out.below ((HC.out.to wr (by simp)).trans (hB.mono (HC.out.to wr (by simp)).size)); obtain ⟨p0, p1, p2, p3, p4, p5⟩ := CXw; have CYw := CY.out.below ((HC.out.to wr (by simp)).trans (hB.mono (HC.out.to wr (by simp)).size)); obtain ⟨q0, q1, q2, q3, q4, q5⟩ := CYw; (go_simp <;> with_reducible rfl)
          try simp only [Act.put, zA, zB, zC]
          refine tk (i := 8) (oi := ⟨some 20, _, _, _, _, _⟩) (v := ?_) rfl (Or.inl ⟨by rfl, ?_⟩) hS ?_
          rotate_left 1
          · intro w' hB; (go_simp <;> with_reducible rfl)
          try simp only [Act.put, zA, zB, zC]
          refine tk (i := 9) (oi := ⟨some 21, _, _, _, _, _⟩) (v := ?_) rfl (Or.inl ⟨by rfl, ?_⟩) hS ?_
          rotate_left 1
          · intro w' hB; have CXw := CX.out.below ((HC.out.to wr (by simp)).trans (hB.mono (HC.out.to wr (by simp)).size)); obtain ⟨p0, p1, p2, p3, p4, p5⟩ := CXw; have CYw := CY.out.below ((HC.out.to wr (by simp)).trans (hB.mono (HC.out.to wr (by simp)).size)); obtain ⟨q0, q1, q2, q3, q4, q5⟩ := CYw; (go_simp <;> with_reducible rfl)
          try simp only [Act.put, zA, zB, zC]
          refine tk (i := 10) (oi := ⟨some 22, _, _, _, _, _⟩) (v := ?_) rfl (Or.inl ⟨by rfl, ?_⟩) hS ?_
          rotate_left 1
          · intro w' hB; (go_simp <;> with_reducible rfl)
          try simp only [Act.put, zA, zB, zC]
          refine tk (i := 11) (oi := ⟨some 23, _, _, _, _, _⟩) (v := ?_) rfl (Or.inl ⟨by rfl, ?_⟩) hS ?_
          rotate_left 1
          · intro w' hB; (go_simp <;> with_reducible rfl)
          try simp only [Act.put, zA, zB, zC]
          refine tk (i := 12) (oi := ⟨some 24, _, _, _, _, _⟩) (v := ?_) rfl (Or.inl ⟨by rfl, ?_⟩) hS ?_
          rotate_left 1
          · intro w' hB; have CXw := CX.out.below ((HC.out.to wr (by simp)).trans (hB.mono (HC.out.to wr (by simp)).size)); obtain ⟨p0, p1, p2, p3, p4, p5⟩ := CXw; have CYw := CY.out.below ((HC.out.to wr (by simp)).trans (hB.mono (HC.out.to wr (by simp)).size)); obtain ⟨q0, q1, q2, q3, q4, q5⟩ := CYw; (go_simp <;> with_reducible rfl)
          try simp only [Act.put, zA, zB, zC]
          refine tk (i := 13) (oi := ⟨some 25, _, _, _, _, _⟩) (v := ?_) rfl (Or.inl ⟨by rfl, ?_⟩) hS ?_
          rotate_left 1
          · intro w' hB; (go_simp <;> with_reducible rfl)
          try simp only [Act.put, zA, zB, zC]
          refine tk (i := 14) (oi := ⟨some 26, _, _, _, _, _⟩) (v := ?_) rfl (Or.inl ⟨by rfl, ?_⟩) hS ?_
          rotate_left 1
          · intro w' hB; have CXw := CX.out.below ((HC.out.to wr (by simp)).trans (hB.mono (HC.out.to wr (by simp)).size)); obtain ⟨p0, p1, p2, p3, p4, p5⟩ := CXw; have CYw := CY.out.below ((HC.out.to wr (by simp)).trans (hB.mono (HC.out.to wr (by simp)).size)); obtain ⟨q0, q1, q2, q3, q4, q5⟩ := CYw; (go_simp <;> with_reducible rfl)
          try simp only [Act.put, zA, zB, zC]
          refine wpAnyH_ready (rs := [15]) (by kernel_rfl) (by simp) (AllReadyH.cons (o := ⟨some 27, _, _, _, _, _⟩) rfl (fun K hK => ?_) AllReadyH.nil)
          go_simp
          refine (HCMP.out _).mono ?_
          rintro e w3 ⟨rfl, hb⟩
          refine hK.out _ _ (hS.trans (hb.mono hS.size)) (fun _ => ?_)
          clear hK K
          have hB := hS.trans (hb.mono hS.size)
          refine wpAnyH_now hB ?_
          clear hS
          have hS := Below.refl w3.heap.size w3
          replace HC := Lib.hid (HC.out.push hB)
          clear hB hb
          try simp only [Act.put, zA, zB, zC]
          refine tk (i := 16) (oi := ⟨some 28, _, _, _, _, _⟩) (v := ?_) rfl (Or.inl ⟨by rfl, ?_⟩) hS ?_
          rotate_left 1
          · intro w' hB; have CXw := CX.out.below ((HC.out.to wr (by simp)).trans (hB.mono (HC.out.to wr (by simp)).size)); obtain ⟨p0, p1, p2, p3, p4, p5⟩ := CXw; have CYw := CY.out.below ((HC.out.to wr (by simp)).trans (hB.mono (HC.out.to wr (by simp)).size)); obtain ⟨q0, q1, q2, q3, q4, q5⟩ := CYw; (go_simp <;> with_reducible rfl)
          try simp only [Act.put, zA, zB, zC]
          refine tk (i := 17) (oi := ⟨some 29, _, _, _, _, _⟩) (v := ?_) rfl (Or.inl ⟨by rfl, ?_⟩) hS ?_
          rotate_left 1
          · intro w' hB; (go_simp <;> with_reducible rfl)
          try simp only [Act.put, zA, zB, zC]
          refine tk (i := 18) (oi := ⟨some 30, _, _, _, _, _⟩) rfl (Or.inr ⟨by rfl, rfl⟩) hS ?_
          try simp only [Act.put, zA, zB, zC]
          refine tk (i := 19) (oi := ⟨some 31, _, _, _, _, _⟩) rfl (Or.inr ⟨by rfl, rfl⟩) hS ?_
          try simp only [Act.put, zA, zB, zC]
          refine tk (i := 20) (oi := ⟨some 32, _, _, _, _, _⟩) rfl (Or.inr ⟨by rfl, rfl⟩) hS ?_
          try simp only [Act.put, zA, zB, zC]
          refine tk (i := 21) (oi := ⟨some 33, _, _, _, _, _⟩) rfl (Or.inr ⟨by rfl, rfl⟩) hS ?_
          try simp only [Act.put, zA, zB, zC]
          refine tk (i := 22) (oi := ⟨some 34, _, _, _, _, _⟩) rfl (Or.inr ⟨by rfl, rfl⟩) hS ?_
          try simp only [Act.put, zA, zB, zC]
          refine tk (i := 23) (oi := ⟨some 35, _, _, _, _, _⟩) rfl (Or.inr ⟨by rfl, rfl⟩) hS ?_
          try simp only [Act.put, zA, zB, zC]
          refine tk (i := 24) (oi := ⟨some 36, _, _, _, _, _⟩) rfl (Or.inr ⟨by rfl, rfl⟩) hS ?_
          try simp only [Act.put, zA, zB, zC]
          refine tk (i := 25) (oi := ⟨some 37, _, _, _, _, _⟩) rfl (Or.inr ⟨by rfl, rfl⟩) hS ?_
          try simp only [Act.put, zA, zB, zC]
          refine tk (i := 26) (oi := ⟨some 38, _, _, _, _, _⟩) rfl (Or.inr ⟨by rfl, rfl⟩) hS ?_
          try simp only [Act.put, zA, zB, zC]
          refine tk (i := 27) (oi := ⟨some 39, _, _, _, _, _⟩) rfl (Or.inr ⟨by rfl, rfl⟩) hS ?_
          try simp only [Act.put, zA, zB, zC]
          refine tk (i := 28) (oi := ⟨some 40, _, _, _, _, _⟩) rfl (Or.inr ⟨by rfl, rfl⟩) hS ?_
          try simp only [Act.put, zA, zB, zC]
          refine tk (i := 29) (oi := ⟨some 41, _, _, _, _, _⟩) rfl (Or.inr ⟨by rfl, rfl⟩) hS ?_
          try simp only [Act.put, zA, zB, zC]
          refine tk (i := 30) (oi := ⟨some 42, _, _, _, _, _⟩) rfl (Or.inr ⟨by rfl, rfl⟩) hS ?_
          try simp only [Act.put, zA, zB, zC]
          refine tk (i := 31) (oi := ⟨some 43, _, _, _, _, _⟩) rfl (Or.inr ⟨by rfl, rfl⟩) hS ?_
          try simp only [Act.put, zA, zB, zC]
          refine tk (i := 32) (oi := ⟨some 44, _, _, _, _, _⟩) rfl (Or.inr ⟨by rfl, rfl⟩) hS ?_
          try simp only [Act.put, zA, zB, zC]
          refine tk (i := 33) (oi := ⟨some 45, _, _, _, _, _⟩) rfl (Or.inr ⟨by rfl, rfl⟩) hS ?_
          try simp only [Act.put, zA, zB, zC]
          refine tk (i := 34) (oi := ⟨some 46, _, _, _, _, _⟩) rfl (Or.inr ⟨by rfl, rfl⟩) hS ?_
          try simp only [Act.put, zA, zB, zC]
          refine tk (i := 35) (oi := ⟨some 47, _, _, _, _, _⟩) rfl (Or.inr ⟨by rfl, rfl⟩) hS ?_
          try simp only [Act.put, zA, zB, zC]
          refine tk (i := 36) (oi := ⟨some 48, _, _, _, _, _⟩) rfl (Or.inr ⟨by rfl, rfl⟩) hS ?_
          try simp only [Act.put, zA, zB, zC]
          refine tk (i := 37) (oi := ⟨some 49, _, _, _, _, _⟩) rfl (Or.inr ⟨by rfl, rfl⟩) hS ?_
          try simp only [Act.put, zA, zB, zC]
          refine tk (i := 38) (oi := ⟨some 50, _, _, _, _, _⟩) rfl (Or.inr ⟨by rfl, rfl⟩) hS ?_
          try simp only [Act.put, zA, zB, zC]
          refine tk (i := 39) (oi := ⟨some 51, _, _, _, _, _⟩) rfl (Or.inr ⟨by rfl, rfl⟩) hS ?_
          try simp only [Act.put, zA, zB, zC]
          refine tk (i := 40) (oi := ⟨some 52, _, _, _, _, _⟩) rfl (Or.inr ⟨by rfl, rfl⟩) hS ?_
          try simp only [Act.put, zA, zB, zC]
          refine tk (i := 41) (oi := ⟨some 53, _, _, _, _, _⟩) rfl (Or.inr ⟨by rfl, rfl⟩) hS ?_
          try simp only [Act.put, zA, zB, zC]
          refine tk (i := 42) (oi := ⟨some 54, _, _, _, _, _⟩) (v := ?_) rfl (Or.inl ⟨by rfl, ?_⟩) hS ?_
          rotate_left 1
          · intro w' hB; (go_simp <;> with_reducible rfl)
          try simp only [Act.put, zA, zB, zC]
          refine tk (i := 43) (oi := ⟨some 55, _, _, _, _, _⟩) (v := ?_) rfl (Or.inl ⟨by rfl, ?_⟩) hS ?_
          rotate_left 1
          · intro w' hB; (go_simp <;> with_reducible rfl)
          try simp only [Act.put, zA, zB, zC]
          refine wpAnyH_done (by kernel_rfl) (NoPanic.normal ?_) _
          have hbe := HC.out.to wr (by simp)
          have HB3 := Lib.hid (HB2.out.trans (hbe.mono HB2.out.size))
          have HO3 := Lib.hid (own_later HO2.out hbe (Nat.le_refl _))
          have HA3 := Lib.hid (HA.out.below hbe rfl)
          clear hbe hS HC
          go_wp2_with fail
          go_roundw
          case rel => exact ⟨k + 1, by omega, by go_num, H, HO3, HA3, HB3⟩
          case measure => simp [intOf]; omega
        · have hd1 : decide (cv < 0) = false := decide_eq_false hcmp
          by_cases heq : y.1 = x.1
          · have hd2 : decide (y.1 = x.1) = true := decide_eq_true heq
            clear heq
            by_cases hk : Pm.klt y.2 x.2 = true
            · have hd3 : Go.Op.bytesLess y.2.toList x.2.toList = true := hk
              have H := Lib.hid (HGO.out (by rw [AV.out, hd1, hd2, hk]; rfl))
              clear hk
              refine wp_region_noPanic ?_
              refine wp_region_held_drew (S := fun w' => Below wr.heap.size wr w') (by kernel_rfl) (Below.refl _ _).drew (fun hS => ?_)
              refine tk (i := 0) (oi := ⟨some 12, _, _, _, _, _⟩) (v := ?_) rfl (Or.inl ⟨by rfl, ?_⟩) hS ?_
              rotate_left 1
              · intro w' hB; (go_simp <;> with_reducible rfl)
              try simp only [Act.put, zA, zB, zC]
              refine tk (i := 1) (oi := ⟨some 13, _, _, _, _, _⟩) (v := ?_) rfl (Or.inl ⟨by rfl, ?_⟩) hS ?_
              rotate_left 1
              · intro w' hB; (go_simp <;> with_reducible rfl)
              try simp only [Act.put, zA, zB, zC]
              refine tk (i := 2) (oi := ⟨some 14, _, _, _, _, _⟩) (v := ?_) rfl (Or.inl ⟨by rfl, ?_⟩) hS ?_
              rotate_left 1
              · intro w' hB; (go_simp <;> with_reducible rfl)
              try simp only [Act.put, zA, zB, zC]
              refine tk (i := 3) (oi := ⟨some 15, _, _, _, _, _⟩) (v := ?_) rfl (Or.inl ⟨by rfl, ?_⟩) hS ?_
              rotate_left 1
              · intro w' hB; have CXw := CX.out.below ((HC.out.to wr (by simp)).trans (hB.mono (HC.out.to wr (by simp)).size)); obtain ⟨p0, p1, p2, p3, p4, p5⟩ := CXw; have CYw := CY.out.below ((HC.out.to wr (by simp)).trans (hB.mono (HC.out.to wr (by simp)).size)); obtain ⟨q0, q1, q2, q3, q4, q5⟩ := CYw; (go_simp <;> with_reducible rfl)
              try simp only [Act.put, zA, zB, zC]
              refine tk (i := 4) (oi := ⟨some 16, _, _, _, _, _⟩) (v := ?_) rfl (Or.inl ⟨by rfl, ?_⟩) hS ?_
              rotate_left 1
              · intro w' hB; (go_simp <;> with_reducible rfl)
              try simp only [Act.put, zA, zB, zC]
              refine tk (i := 5) (oi := ⟨some 17, _, _, _, _, _⟩) (v := ?_) rfl (Or.inl ⟨by rfl, ?_⟩) hS ?_
              rotate_left 1
              · intro w' hB; (go_simp <;> with_reducible rfl)
              try simp only [Act.put, zA, zB, zC]
              refine tk (i := 6) (oi := ⟨some 18, _, _, _, _, _⟩) (v := ?_) rfl (Or.inl ⟨by rfl, ?_⟩) hS ?_
              rotate_left 1
              · intro w' hB; (go_simp <;> with_reducible rfl)
              try simp only [Act.put, zA, zB, zC]
              refine tk (i := 7) (oi := ⟨some 19, _, _, _, _, _⟩) (v := ?_) rfl (Or.inl ⟨by rfl, ?_⟩) hS ?_
              rotate_left 1
              · intro w' hB; have CXw := CX.out.below ((HC.out.to wr (by simp)).trans (hB.mono (HC.out.to wr (by simp)).size)); obtain ⟨p0, p1, p2, p3, p4, p5⟩ := CXw; have CYw := CY.out.below ((HC.out.to wr (by simp)).trans (hB.mono (HC.out.to wr (by simp)).size)); obtain ⟨q0, q1, q2, q3, q4, q5⟩ := CYw; (go_simp <;> with_reducible rfl)
              try simp only [Act.put, zA, zB, zC]
              refine tk (i := 8) (oi := ⟨some 20, _, _, _, _, _⟩) (v := ?_) rfl (Or.inl ⟨by rfl, ?_⟩) hS ?_
              rotate_left 1
              · intro w' hB; (go_simp <;> with_reducible rfl)
              try simp only [Act.put, zA, zB, zC]
              refine tk (i := 9) (oi := ⟨some 21, _, _, _, _, _⟩) (v := ?_) rfl (Or.inl ⟨by rfl, ?_⟩) hS ?_
              rotate_left 1
              · intro w' hB; have CXw := CX.out.below ((HC.out.to wr (by simp)).trans (hB.mono (HC.out.to wr (by simp)).size)); obtain ⟨p0, p1, p2, p3, p4, p5⟩ := CXw; have CYw := CY.out.below ((HC.out.to wr (by simp)).trans (hB.mono (HC.out.to wr (by simp)).size)); obtain ⟨q0, q1, q2, q3, q4, q5⟩ := CYw; (go_simp <;> with_reducible rfl)
              try simp only [Act.put, zA, zB, zC]
              refine tk (i := 10) (oi := ⟨some 22, _, _, _, _, _⟩) (v := ?_) rfl (Or.inl ⟨by rfl, ?_⟩) hS ?_
              rotate_left 1
              · intro w' hB; (go_simp <;> with_reducible rfl)
              try simp only [Act.put, zA, zB, zC]
              refine tk (i := 11) (oi := ⟨some 23, _, _, _, _, _⟩) (v := ?_) rfl (Or.inl ⟨by rfl, ?_⟩) hS ?_
              rotate_left 1
              · intro w' hB; (go_simp <;> with_reducible rfl)
              try simp only [Act.put, zA, zB, zC]
              refine tk (i := 12) (oi := ⟨some 24, _, _, _, _, _⟩) (v := ?_) rfl (Or.inl ⟨by rfl, ?_⟩) hS ?_
              rotate_left 1
              · intro w' hB; have CXw := CX.out.below ((HC.out.to wr (by simp)).trans (hB.mono (HC.out.to wr (by simp)).size)); obtain ⟨p0, p1, p2, p3, p4, p5⟩ := CXw; have CYw := CY.out.below ((HC.out.to wr (by simp)).trans (hB.mono (HC.out.to wr (by simp)).size)); obtain ⟨q0, q1, q2, q3, q4, q5⟩ := CYw; (go_simp <;> with_reducible rfl)
              try simp only [Act.put, zA, zB, zC]
              refine tk (i := 13) (oi := ⟨some 25, _, _, _, _, _⟩) (v := ?_) rfl (Or.inl ⟨by rfl, ?_⟩) hS ?_
              rotate_left 1
              · intro w' hB; (go_simp <;> with_reducible rfl)
              try simp only [Act.put, zA, zB, zC]
              refine tk (i := 14) (oi := ⟨some 26, _, _, _, _, _⟩) (v := ?_) rfl (Or.inl ⟨by rfl, ?_⟩) hS ?_
              rotate_left 1
              · intro w' hB; have CXw := CX.out.below ((HC.out.to wr (by simp)).trans (hB.mono (HC.out.to wr (by simp)).size)); obtain ⟨p0, p1, p2, p3, p4, p5⟩ := CXw; have CYw := CY.out.below ((HC.out.to wr (by simp)).trans (hB.mono (HC.out.to wr (by simp)).size)); obtain ⟨q0, q1, q2, q3, q4, q5⟩ := CYw; (go_simp <;> with_reducible rfl)
              try simp only [Act.put, zA, zB, zC]
              refine wpAnyH_ready (rs := [15]) (by kernel_rfl) (by simp) (AllReadyH.cons (o := ⟨some 27, _, _, _, _, _⟩) rfl (fun K hK => ?_) AllReadyH.nil)
              go_simp
              refine (HCMP.out _).mono ?_
              rintro e w3 ⟨rfl, hb⟩
              refine hK.out _ _ (hS.trans (hb.mono hS.size)) (fun _ => ?_)
              clear hK K
              have hB := hS.trans (hb.mono hS.size)
              refine wpAnyH_now hB ?_
              clear hS
              have hS := Below.refl w3.heap.size w3
              replace HC := Lib.hid (HC.out.push hB)
              clear hB hb
              try simp only [Act.put, zA, zB, zC]
              refine tk (i := 16) (oi := ⟨some 28, _, _, _, _, _⟩) (v := ?_) rfl (Or.inl ⟨by rfl, ?_⟩) hS ?_
              rotate_left 1
              · intro w' hB; have CXw := CX.out.below ((HC.out.to wr (by simp)).trans (hB.mono (HC.out.to wr (by simp)).size)); obtain ⟨p0, p1, p2, p3, p4, p5⟩ := CXw; have CYw := CY.out.below ((HC.out.to wr (by simp)).trans (hB.mono (HC.out.to wr (by simp)).size)); obtain ⟨q0, q1, q2, q3, q4, q5⟩ := CYw; (go_simp <;> with_reducible rfl)
              try simp only [Act.put, zA, zB, zC]
              refine tk (i := 17) (oi := ⟨some 29, _, _, _, _, _⟩) (v := ?_) rfl (Or.inl ⟨by rfl, ?_⟩) hS ?_
              rotate_left 1
              · intro w' hB; (go_simp <;> with_reducible rfl)
              try simp only [Act.put, zA, zB, zC]
              refine tk (i := 18) (oi := ⟨some 30, _, _, _, _, _⟩) (v := ?_) rfl (Or.inl ⟨by rfl, ?_⟩) hS ?_
              rotate_left 1
              · intro w' hB; (go_simp <;> with_reducible rfl)
              try simp only [Act.put, zA, zB, zC]
              refine tk (i := 19) (oi := ⟨some 31, _, _, _, _, _⟩) (v := ?_) rfl (Or.inl ⟨by rfl, ?_⟩) hS ?_
              rotate_left 1
              · intro w' hB; (go_simp <;> with_reducible rfl)
              try simp only [Act.put, zA, zB, zC]
              refine tk (i := 20) (oi := ⟨some 32, _, _, _, _, _⟩) (v := ?_) rfl (Or.inl ⟨by rfl, ?_⟩) hS ?_
              rotate_left 1
              · intro w' hB; have CXw := CX.out.below ((HC.out.to wr (by simp)).trans (hB.mono (HC.out.to wr (by simp)).size)); obtain ⟨p0, p1, p2, p3, p4, p5⟩ := CXw; have CYw := CY.out.below ((HC.out.to wr (by simp)).trans (hB.mono (HC.out.to wr (by simp)).size)); obtain ⟨q0, q1, q2, q3, q4, q5⟩ := CYw; (go_simp <;> with_reducible rfl)
              try simp only [Act.put, zA, zB, zC]
              refine tk (i := 21) (oi := ⟨some 33, _, _, _, _, _⟩) (v := ?_) rfl (Or.inl ⟨by rfl, ?_⟩) hS ?_
              rotate_left 1
              · intro w' hB; (go_simp <;> with_reducible rfl)
              try simp only [Act.put, zA, zB, zC]
              refine tk (i := 22) (oi := ⟨some 34, _, _, _, _, _⟩) (v := ?_) rfl (Or.inl ⟨by rfl, ?_⟩) hS ?_
              rotate_left 1
              · intro w' hB; have CXw := CX.out.below ((HC.out.to wr (by simp)).trans (hB.mono (HC.out.to wr (by simp)).size)); obtain ⟨p0, p1, p2, p3, p4, p5⟩ := CXw; have CYw := CY.out.below ((HC.out.to wr (by simp)).trans (hB.mono (HC.out.to wr (by simp)).size)); obtain ⟨q0, q1, q2, q3, q4, q5⟩ := CYw; (go_simp <;> with_reducible rfl)
              try simp only [Act.put, zA, zB, zC]
              refine tk (i := 23) (oi := ⟨some 35, _, _, _, _, _⟩) (v := ?_) rfl (Or.inl ⟨by rfl, ?_⟩) hS ?_
              rotate_left 1
              · intro w' hB; (go_simp <;> with_reducible rfl)
              try simp only [Act.put, zA, zB, zC]
              refine tk (i := 24) (oi := ⟨some 36, _, _, _, _, _⟩) (v := ?_) rfl (Or.inl ⟨by rfl, ?_⟩) hS ?_
              rotate_left 1
              · intro w' hB; (go_simp <;> with_reducible rfl)
              try simp only [Act.put, zA, zB, zC]
              refine tk (i := 25) (oi := ⟨some 37, _, _, _, _, _⟩) (v := ?_) rfl (Or.inl ⟨by rfl, ?_⟩) hS ?_
              rotate_left 1
              · intro w' hB; have CXw := CX.out.below ((HC.out.to wr (by simp)).trans (hB.mono (HC.out.to wr (by simp)).size)); obtain ⟨p0, p1, p2, p3, p4, p5⟩ := CXw; have CYw := CY.out.below ((HC.out.to wr (by simp)).trans (hB.mono (HC.out.to wr (by simp)).size)); obtain ⟨q0, q1, q2, q3, q4, q5⟩ := CYw; (go_simp <;> with_reducible rfl)
              try simp only [Act.put, zA, zB, zC]
              refine tk (i := 26) (oi := ⟨some 38, _, _, _, _, _⟩) (v := ?_) rfl (Or.inl ⟨by rfl, ?_⟩) hS ?_
              rotate_left 1
              · intro w' hB; (go_simp <;> with_reducible rfl)
              try simp only [Act.put, zA, zB, zC]
              refine tk (i := 27) (oi := ⟨some 39, _, _, _, _, _⟩) (v := ?_) rfl (Or.inl ⟨by rfl, ?_⟩) hS ?_
              rotate_left 1
              · intro w' hB; have CXw := CX.out.below ((HC.out.to wr (by simp)).trans (hB.mono (HC.out.to wr (by simp)).size)); obtain ⟨p0, p1, p2, p3, p4, p5⟩ := CXw; have CYw := CY.out.below ((HC.out.to wr (by simp)).trans (hB.mono (HC.out.to wr (by simp)).size)); obtain ⟨q0, q1, q2, q3, q4, q5⟩ := CYw; (go_simp <;> with_reducible rfl)
              try simp only [Act.put, zA, zB, zC]
              refine tk (i := 28) (oi := ⟨some 40, _, _, _, _, _⟩) (v := ?_) rfl (Or.inl ⟨by rfl, ?_⟩) hS ?_
              rotate_left 1
              · intro w' hB; have CXw := CX.out.below ((HC.out.to wr (by simp)).trans (hB.mono (HC.out.to wr (by simp)).size)); obtain ⟨p0, p1, p2, p3, p4, p5⟩ := CXw; have CYw := CY.out.below ((HC.out.to wr (by simp)).trans (hB.mono (HC.out.to wr (by simp)).size)); obtain ⟨q0, q1, q2, q3, q4, q5⟩ := CYw; (go_simp <;> with_reducible rfl)
              try simp only [Act.put, zA, zB, zC]
              refine tk (i := 29) (oi := ⟨some 41, _, _, _, _, _⟩) (v := ?_) rfl (Or.inl ⟨by rfl, ?_⟩) hS ?_
              rotate_left 1
              · intro w' hB; (go_simp <;> with_reducible rfl)
              try simp only [Act.put, zA, zB, zC]
              refine tk (i := 30) (oi := ⟨some 42, _, _, _, _, _⟩) (v := ?_) rfl (Or.inl ⟨by rfl, ?_⟩) hS ?_
              rotate_left 1
              · intro w' hB; (go_simp <;> with_reducible rfl)
              try simp only [Act.put, zA, zB, zC]
              refine tk (i := 31) (oi := ⟨some 43, _, _, _, _, _⟩) (v := ?_) rfl (Or.inl ⟨by rfl, ?_⟩) hS ?_
              rotate_left 1
              · intro w' hB; (go_simp <;> with_reducible rfl)
              try simp only [Act.put, zA, zB, zC]
              refine tk (i := 32) (oi := ⟨some 44, _, _, _, _, _⟩) (v := ?_) rfl (Or.inl ⟨by rfl, ?_⟩) hS ?_
              rotate_left 1
              · intro w' hB; have CXw := CX.out.below ((HC.out.to wr (by simp)).trans (hB.mono (HC.out.to wr (by simp)).size)); obtain ⟨p0, p1, p2, p3, p4, p5⟩ := CXw; have CYw := CY.out.below ((HC.out.to wr (by simp)).trans (hB.mono (HC.out.to wr (by simp)).size)); obtain ⟨q0, q1, q2, q3, q4, q5⟩ := CYw; (go_simp <;> with_reducible rfl)
              try simp only [Act.put, zA, zB, zC]
              refine tk (i := 33) (oi := ⟨some 45, _, _, _, _, _⟩) (v := ?_) rfl (Or.inl ⟨by rfl, ?_⟩) hS ?_
              rotate_left 1
              · intro w' hB; (go_simp <;> with_reducible rfl)
              try simp only [Act.put, zA, zB, zC]
              refine tk (i := 34) (oi := ⟨some 46, _, _, _, _, _⟩) (v := ?_) rfl (Or.inl ⟨by rfl, ?_⟩) hS ?_
              rotate_left 1
              · intro w' hB; have CXw := CX.out.below ((HC.out.to wr (by simp)).trans (hB.mono (HC.out.to wr (by simp)).size)); obtain ⟨p0, p1, p2, p3, p4, p5⟩ := CXw; have CYw := CY.out.below ((HC.out.to wr (by simp)).trans (hB.mono (HC.out.to wr (by simp)).size)); obtain ⟨q0, q1, q2, q3, q4, q5⟩ := CYw; (go_simp <;> with_reducible rfl)
              try simp only [Act.put, zA, zB, zC]
              refine tk (i := 35) (oi := ⟨some 47, _, _, _, _, _⟩) (v := ?_) rfl (Or.inl ⟨by rfl, ?_⟩) hS ?_
              rotate_left 1
              · intro w' hB; (go_simp <;> with_reducible rfl)
              try simp only [Act.put, zA, zB, zC]
              refine tk (i := 36) (oi := ⟨some 48, _, _, _, _, _⟩) (v := ?_) rfl (Or.inl ⟨by rfl, ?_⟩) hS ?_
              rotate_left 1
              · intro w' hB; (go_simp <;> with_reducible rfl)
              try simp only [Act.put, zA, zB, zC]
              refine tk (i := 37) (oi := ⟨some 49, _, _, _, _, _⟩) (v := ?_) rfl (Or.inl ⟨by rfl, ?_⟩) hS ?_
              rotate_left 1
              · intro w' hB; have CXw := CX.out.below ((HC.out.to wr (by simp)).trans (hB.mono (HC.out.to wr (by simp)).size)); obtain ⟨p0, p1, p2, p3, p4, p5⟩ := CXw; have CYw := CY.out.below ((HC.out.to wr (by simp)).trans (hB.mono (HC.out.to wr (by simp)).size)); obtain ⟨q0, q1, q2, q3, q4, q5⟩ := CYw; (go_simp <;> with_reducible rfl)
              try simp only [Act.put, zA, zB, zC]
              refine tk (i := 38) (oi := ⟨some 50, _, _, _, _, _⟩) (v := ?_) rfl (Or.inl ⟨by rfl, ?_⟩) hS ?_
              rotate_left 1
              · intro w' hB; (go_simp <;> with_reducible rfl)
              try simp only [Act.put, zA, zB, zC]
              refine tk (i := 39) (oi := ⟨some 51, _, _, _, _, _⟩) (v := ?_) rfl (Or.inl ⟨by rfl, ?_⟩) hS ?_
              rotate_left 1
              · intro w' hB; have CXw := CX.out.below ((HC.out.to wr (by simp)).trans (hB.mono (HC.out.to wr (by simp)).size)); obtain ⟨p0, p1, p2, p3, p4, p5⟩ := CXw; have CYw := CY.out.below ((HC.out.to wr (by simp)).trans (hB.mono (HC.out.to wr (by simp)).size)); obtain ⟨q0, q1, q2, q3, q4, q5⟩ := CYw; (go_simp <;> with_reducible rfl)
              try simp only [Act.put, zA, zB, zC]
              refine tk (i := 40) (oi := ⟨some 52, _, _, _, _, _⟩) (v := ?_) rfl (Or.inl ⟨by rfl, ?_⟩) hS ?_
              rotate_left 1
              · intro w' hB; have CXw := CX.out.below ((HC.out.to wr (by simp)).trans (hB.mono (HC.out.to wr (by simp)).size)); obtain ⟨p0, p1, p2, p3, p4, p5⟩ := CXw; have CYw := CY.out.below ((HC.out.to wr (by simp)).trans (hB.mono (HC.out.to wr (by simp)).size)); obtain ⟨q0, q1, q2, q3, q4, q5⟩ := CYw; (go_simp <;> with_reducible rfl)
              try simp only [Act.put, zA, zB, zC]
              refine tk (i := 41) (oi := ⟨some 53, _, _, _, _, _⟩) (v := ?_) rfl (Or.inl ⟨by rfl, ?_⟩) hS ?_
              rotate_left 1
              · intro w' hB; (go_simp <;> with_reducible rfl)
              try simp only [Act.put, zA, zB, zC]
              refine tk (i := 42) (oi := ⟨some 54, _, _, _, _, _⟩) (v := ?_) rfl (Or.inl ⟨by rfl, ?_⟩) hS ?_
              rotate_left 1
              · intro w' hB; (go_simp <;> with_reducible rfl)
              try simp only [Act.put, zA, zB, zC]
              refine tk (i := 43) (oi := ⟨some 55, _, _, _, _, _⟩) (v := ?_) rfl (Or.inl ⟨by rfl, ?_⟩) hS ?_
              rotate_left 1
              · intro w' hB; (go_simp <;> with_reducible rfl)
              try simp only [Act.put, zA, zB, zC]
              refine wpAnyH_done (by kernel_rfl) (NoPanic.normal ?_) _
              have hbe := HC.out.to wr (by simp)
              have HB3 := Lib.hid (HB2.out.trans (hbe.mono HB2.out.size))
              have HO3 := Lib.hid (own_later HO2.out hbe (Nat.le_refl _))
              have HA3 := Lib.hid (HA.out.below hbe rfl)
              clear hbe hS HC
              go_wp2_with fail
              go_roundw
              case rel => exact ⟨k + 1, by omega, by go_num, H, HO3, HA3, HB3⟩
              case measure => simp [intOf]; omega
            · have hk' : Pm.klt y.2 x.2 = false := by simpa using hk
              have hd3 : Go.Op.bytesLess y.2.toList x.2.toList = false := hk'
              have H := Lib.hid (HST.out (by rw [AV.out, hd1, hd2, hk']; rfl))
              clear hk hk'
              refine wp_region_noPanic ?_
              refine wp_region_held_drew (S := fun w' => Below wr.heap.size wr w') (by kernel_rfl) (Below.refl _ _).drew (fun hS => ?_)
              refine tk (i := 0) (oi := ⟨some 12, _, _, _, _, _⟩) (v := ?_) rfl (Or.inl ⟨by rfl, ?_⟩) hS ?_
              rotate_left 1
              · intro w' hB; (go_simp <;> with_reducible rfl)
              try simp only [Act.put, zA, zB, zC]
              refine tk (i := 1) (oi := ⟨some 13, _, _, _, _, _⟩) (v := ?_) rfl (Or.inl ⟨by rfl, ?_⟩) hS ?_
              rotate_left 1
              · intro w' hB; (go_simp <;> with_reducible rfl)
              try simp only [Act.put, zA, zB, zC]
              refine tk (i := 2) (oi := ⟨some 14, _, _, _, _, _⟩) (v := ?_) rfl (Or.inl ⟨by rfl, ?_⟩) hS ?_
              rotate_left 1
              · intro w' hB; (go_simp <;> with_reducible rfl)
              try simp only [Act.put, zA, zB, zC]
              refine tk (i := 3) (oi := ⟨some 15, _, _, _, _, _⟩) (v := ?_) rfl (Or.inl ⟨by rfl, ?_⟩) hS ?_
              rotate_left 1
              · intro w' hB; have CXw := CX.out.below ((HC.out.to wr (by simp)).trans (hB.mono (HC.out.to wr (by simp)).size)); obtain ⟨p0, p1, p2, p3, p4, p5⟩ := CXw; have CYw := CY.out.below ((HC.out.to wr (by simp)).trans (hB.mono (HC.out.to wr (by simp)).size)); obtain ⟨q0, q1, q2, q3, q4, q5⟩ := CYw; (go_simp <;> with_reducible rfl)
              try simp only [Act.put, zA, zB, zC]
              refine tk (i := 4) (oi := ⟨some 16, _, _, _, _, _⟩) (v := ?_) rfl (Or.inl ⟨by rfl, ?_⟩) hS ?_
              rotate_left 1
              · intro w' hB; (go_simp <;> with_reducible rfl)
              try simp only [Act.put, zA, zB, zC]
              refine tk (i := 5) (oi := ⟨some 17, _, _, _, _, _⟩) (v := ?_) rfl (Or.inl ⟨by rfl, ?_⟩) hS ?_
              rotate_left 1
              · intro w' hB; (go_simp <;> with_reducible rfl)
              try simp only [Act.put, zA, zB, zC]
              refine tk (i := 6) (oi := ⟨some 18, _, _, _, _, _⟩) (v := ?_) rfl (Or.inl ⟨by rfl, ?_⟩) hS ?_
              rotate_left 1
              · intro w' hB; (go_simp <;> with_reducible rfl)
              try simp only [Act.put, zA, zB, zC]
              refine tk (i := 7) (oi := ⟨some 19, _, _, _, _, _⟩) (v := ?_) rfl (Or.inl ⟨by rfl, ?_⟩) hS ?_
              rotate_left 1
              · intro w' hB; have CXw := CX.out.below ((HC.out.to wr (by simp)).trans (hB.mono (HC.out.to wr (by simp)).size)); obtain ⟨p0, p1, p2, p3, p4, p5⟩ := CXw; have CYw := CY.out.below ((HC.out.to wr (by simp)).trans (hB.mono (HC.out.to wr (by simp)).size)); obtain ⟨q0, q1, q2, q3, q4, q5⟩ := CYw; (go_simp <;> with_reducible rfl)
              try simp only [Act.put, zA, zB, zC]
              refine tk (i := 8) (oi := ⟨some 20, _, _, _, _, _⟩) (v := ?_) rfl (Or.inl ⟨by rfl, ?_⟩) hS ?_
              rotate_left 1
              · intro w' hB; (go_simp <;> with_reducible rfl)
              try simp only [Act.put, zA, zB, zC]
              refine tk (i := 9) (oi := ⟨some 21, _, _, _, _, _⟩) (v := ?_) rfl (Or.inl ⟨by rfl, ?_⟩) hS ?_
              rotate_left 1
              · intro w' hB; have CXw := CX.out.below ((HC.out.to wr (by simp)).trans (hB.mono (HC.out.to wr (by simp)).size)); obtain ⟨p0, p1, p2, p3, p4, p5⟩ := CXw; have CYw := CY.out.below ((HC.out.to wr (by simp)).trans (hB.mono (HC.out.to wr (by simp)).size)); obtain ⟨q0, q1, q2, q3, q4, q5⟩ := CYw; (go_simp <;> with_reducible rfl)
              try simp only [Act.put, zA, zB, zC]
              refine tk (i := 10) (oi := ⟨some 22, _, _, _, _, _⟩) (v := ?_) rfl (Or.inl ⟨by rfl, ?_⟩) hS ?_
              rotate_left 1
              · intro w' hB; (go_simp <;> with_reducible rfl)
              try simp only [Act.put, zA, zB, zC]
              refine tk (i := 11) (oi := ⟨some 23, _, _, _, _, _⟩) (v := ?_) rfl (Or.inl ⟨by rfl, ?_⟩) hS ?_
              rotate_left 1
              · intro w' hB; (go_simp <;> with_reducible rfl)
              try simp only [Act.put, zA, zB, zC]
              refine tk (i := 12) (oi := ⟨some 24, _, _, _, _, _⟩) (v := ?_) rfl (Or.inl ⟨by rfl, ?_⟩) hS ?_
              rotate_left 1
              · intro w' hB; have CXw := CX.out.below ((HC.out.to wr (by simp)).trans (hB.mono (HC.out.to wr (by simp)).size)); obtain ⟨p0, p1, p2, p3, p4, p5⟩ := CXw; have CYw := CY.out.below ((HC.out.to wr (by simp)).trans (hB.mono (HC.out.to wr (by simp)).size)); obtain ⟨q0, q1, q2, q3, q4, q5⟩ := CYw; (go_simp <;> with_reducible rfl)
              try simp only [Act.put, zA, zB, zC]
              refine tk (i := 13) (oi := ⟨some 25, _, _, _, _, _⟩) (v := ?_) rfl (Or.inl ⟨by rfl, ?_⟩) hS ?_
              rotate_left 1
              · intro w' hB; (go_simp <;> with_reducible rfl)
              try simp only [Act.put, zA, zB, zC]
              refine tk (i := 14) (oi := ⟨some 26, _, _, _, _, _⟩) (v := ?_) rfl (Or.inl ⟨by rfl, ?_⟩) hS ?_
              rotate_left 1
              · intro w' hB; have CXw := CX.out.below ((HC.out.to wr (by simp)).trans (hB.mono (HC.out.to wr (by simp)).size)); obtain ⟨p0, p1, p2, p3, p4, p5⟩ := CXw; have CYw := CY.out.below ((HC.out.to wr (by simp)).trans (hB.mono (HC.out.to wr (by simp)).size)); obtain ⟨q0, q1, q2, q3, q4, q5⟩ := CYw; (go_simp <;> with_reducible rfl)
              try simp only [Act.put, zA, zB, zC]
              refine wpAnyH_ready (rs := [15]) (by kernel_rfl) (by simp) (AllReadyH.cons (o := ⟨some 27, _, _, _, _, _⟩) rfl (fun K hK => ?_) AllReadyH.nil)
              go_simp
              refine (HCMP.out _).mono ?_
              rintro e w3 ⟨rfl, hb⟩
              refine hK.out _ _ (hS.trans (hb.mono hS.size)) (fun _ => ?_)
              clear hK K
              have hB := hS.trans (hb.mono hS.size)
              refine wpAnyH_now hB ?_
              clear hS
              have hS := Below.refl w3.heap.size w3
              replace HC := Lib.hid (HC.out.push hB)
              clear hB hb
              try simp only [Act.put, zA, zB, zC]
              refine tk (i := 16) (oi := ⟨some 28, _, _, _, _, _⟩) (v := ?_) rfl (Or.inl ⟨by rfl, ?_⟩) hS ?_
              rotate_left 1
              · intro w' hB; have CXw := CX.out.below ((HC.out.to wr (by simp)).trans (hB.mono (HC.out.to wr (by simp)).size)); obtain ⟨p0, p1, p2, p3, p4, p5⟩ := CXw; have CYw := CY.out.below ((HC.out.to wr (by simp)).trans (hB.mono (HC.out.to wr (by simp)).size)); obtain ⟨q0, q1, q2, q3, q4, q5⟩ := CYw; (go_simp <;> with_reducible rfl)
              try simp only [Act.put, zA, zB, zC]
              refine tk (i := 17) (oi := ⟨some 29, _, _, _, _, _⟩) (v := ?_) rfl (Or.inl ⟨by rfl, ?_⟩) hS ?_
              rotate_left 1
              · intro w' hB; (go_simp <;> with_reducible rfl)
              try simp only [Act.put, zA, zB, zC]
              refine tk (i := 18) (oi := ⟨some 30, _, _, _, _, _⟩) (v := ?_) rfl (Or.inl ⟨by rfl, ?_⟩) hS ?_
              rotate_left 1
              · intro w' hB; (go_simp <;> with_reducible rfl)
              try simp only [Act.put, zA, zB, zC]
              refine tk (i := 19) (oi := ⟨some 31, _, _, _, _, _⟩) (v := ?_) rfl (Or.inl ⟨by rfl, ?_⟩) hS ?_
              rotate_left 1
              · intro w' hB; (go_simp <;> with_reducible rfl)
              try simp only [Act.put, zA, zB, zC]
              refine tk (i := 20) (oi := ⟨some 32, _, _, _, _, _⟩) (v := ?_) rfl (Or.inl ⟨by rfl, ?_⟩) hS ?_
              rotate_left 1
              · intro w' hB; have CXw := CX.out.below ((HC.out.to wr (by simp)).trans (hB.mono (HC.out.to wr (by simp)).size)); obtain ⟨p0, p1, p2, p3, p4, p5⟩ := CXw; have CYw := CY.out.below ((HC.out.to wr (by simp)).trans (hB.mono (HC.out.to wr (by simp)).size)); obtain ⟨q0, q1, q2, q3, q4, q5⟩ := CYw; (go_simp <;> with_reducible rfl)
              try simp only [Act.put, zA, zB, zC]
              refine tk (i := 21) (oi := ⟨some 33, _, _, _, _, _⟩) (v := ?_) rfl (Or.inl ⟨by rfl, ?_⟩) hS ?_
              rotate_left 1
              · intro w' hB; (go_simp <;> with_reducible rfl)
              try simp only [Act.put, zA, zB, zC]
              refine tk (i := 22) (oi := ⟨some 34, _, _, _, _, _⟩) (v := ?_) rfl (Or.inl ⟨by rfl, ?_⟩) hS ?_
              rotate_left 1
              · intro w' hB; have CXw := CX.out.below ((HC.out.to wr (by simp)).trans (hB.mono (HC.out.to wr (by simp)).size)); obtain ⟨p0, p1, p2, p3, p4, p5⟩ := CXw; have CYw := CY.out.below ((HC.out.to wr (by simp)).trans (hB.mono (HC.out.to wr (by simp)).size)); obtain ⟨q0, q1, q2, q3, q4, q5⟩ := CYw; (go_simp <;> with_reducible rfl)
              try simp only [Act.put, zA, zB, zC]
              refine tk (i := 23) (oi := ⟨some 35, _, _, _, _, _⟩) (v := ?_) rfl (Or.inl ⟨by rfl, ?_⟩) hS ?_
              rotate_left 1
              · intro w' hB; (go_simp <;> with_reducible rfl)
              try simp only [Act.put, zA, zB, zC]
              refine tk (i := 24) (oi := ⟨some 36, _, _, _, _, _⟩) (v := ?_) rfl (Or.inl ⟨by rfl, ?_⟩) hS ?_
              rotate_left 1
              · intro w' hB; (go_simp <;> with_reducible rfl)
              try simp only [Act.put, zA, zB, zC]
              refine tk (i := 25) (oi := ⟨some 37, _, _, _, _, _⟩) (v := ?_) rfl (Or.inl ⟨by rfl, ?_⟩) hS ?_
              rotate_left 1
              · intro w' hB; have CXw := CX.out.below ((HC.out.to wr (by simp)).trans (hB.mono (HC.out.to wr (by simp)).size)); obtain ⟨p0, p1, p2, p3, p4, p5⟩ := CXw; have CYw := CY.out.below ((HC.out.to wr (by simp)).trans (hB.mono (HC.out.to wr (by simp)).size)); obtain ⟨q0, q1, q2, q3, q4, q5⟩ := CYw; (go_simp <;> with_reducible rfl)
              try simp only [Act.put, zA, zB, zC]
              refine tk (i := 26) (oi := ⟨some 38, _, _, _, _, _⟩) (v := ?_) rfl (Or.inl ⟨by rfl, ?_⟩) hS ?_
              rotate_left 1
              · intro w' hB; (go_simp <;> with_reducible rfl)
              try simp only [Act.put, zA, zB, zC]
              refine tk (i := 27) (oi := ⟨some 39, _, _, _, _, _⟩) (v := ?_) rfl (Or.inl ⟨by rfl, ?_⟩) hS ?_
              rotate_left 1
              · intro w' hB; have CXw := CX.out.below ((HC.out.to wr (by simp)).trans (hB.mono (HC.out.to wr (by simp)).size)); obtain ⟨p0, p1, p2, p3, p4, p5⟩ := CXw; have CYw := CY.out.below ((HC.out.to wr (by simp)).trans (hB.mono (HC.out.to wr (by simp)).size)); obtain ⟨q0, q1, q2, q3, q4, q5⟩ := CYw; (go_simp <;> with_reducible rfl)
              try simp only [Act.put, zA, zB, zC]
              refine tk (i := 28) (oi := ⟨some 40, _, _, _, _, _⟩) (v := ?_) rfl (Or.inl ⟨by rfl, ?_⟩) hS ?_
              rotate_left 1
              · intro w' hB; have CXw := CX.out.below ((HC.out.to wr (by simp)).trans (hB.mono (HC.out.to wr (by simp)).size)); obtain ⟨p0, p1, p2, p3, p4, p5⟩ := CXw; have CYw := CY.out.below ((HC.out.to wr (by simp)).trans (hB.mono (HC.out.to wr (by simp)).size)); obtain ⟨q0, q1, q2, q3, q4, q5⟩ := CYw; (go_simp <;> with_reducible rfl)
              try simp only [Act.put, zA, zB, zC]
              refine tk (i := 29) (oi := ⟨some 41, _, _, _, _, _⟩) (v := ?_) rfl (Or.inl ⟨by rfl, ?_⟩) hS ?_
              rotate_left 1
              · intro w' hB; (go_simp <;> with_reducible rfl)
              try simp only [Act.put, zA, zB, zC]
              refine tk (i := 30) (oi := ⟨some 42, _, _, _, _, _⟩) (v := ?_) rfl (Or.inl ⟨by rfl, ?_⟩) hS ?_
              rotate_left 1
              · intro w' hB; (go_simp <;> with_reducible rfl)
              try simp only [Act.put, zA, zB, zC]
              refine tk (i := 31) (oi := ⟨some 43, _, _, _, _, _⟩) (v := ?_) rfl (Or.inl ⟨by rfl, ?_⟩) hS ?_
              rotate_left 1
              · intro w' hB; (go_simp <;> with_reducible rfl)
              try simp only [Act.put, zA, zB, zC]
              refine tk (i := 32) (oi := ⟨some 44, _, _, _, _, _⟩) (v := ?_) rfl (Or.inl ⟨by rfl, ?_⟩) hS ?_
              rotate_left 1
              · intro w' hB; have CXw := CX.out.below ((HC.out.to wr (by simp)).trans (hB.mono (HC.out.to wr (by simp)).size)); obtain ⟨p0, p1, p2, p3, p4, p5⟩ := CXw; have CYw := CY.out.below ((HC.out.to wr (by simp)).trans (hB.mono (HC.out.to wr (by simp)).size)); obtain ⟨q0, q1, q2, q3, q4, q5⟩ := CYw; (go_simp <;> with_reducible rfl)
              try simp only [Act.put, zA, zB, zC]
              refine tk (i := 33) (oi := ⟨some 45, _, _, _, _, _⟩) (v := ?_) rfl (Or.inl ⟨by rfl, ?_⟩) hS ?_
              rotate_left 1
              · intro w' hB; (go_simp <;> with_reducible rfl)
              try simp only [Act.put, zA, zB, zC]
              refine tk (i := 34) (oi := ⟨some 46, _, _, _, _, _⟩) (v := ?_) rfl (Or.inl ⟨by rfl, ?_⟩) hS ?_
              rotate_left 1
              · intro w' hB; have CXw := CX.out.below ((HC.out.to wr (by simp)).trans (hB.mono (HC.out.to wr (by simp)).size)); obtain ⟨p0, p1, p2, p3, p4, p5⟩ := CXw; have CYw := CY.out.below ((HC.out.to wr (by simp)).trans (hB.mono (HC.out.to wr (by simp)).size)); obtain ⟨q0, q1, q2, q3, q4, q5⟩ := CYw; (go_simp <;> with_reducible rfl)
              try simp only [Act.put, zA, zB, zC]
              refine tk (i := 35) (oi := ⟨some 47, _, _, _, _, _⟩) (v := ?_) rfl (Or.inl ⟨by rfl, ?_⟩) hS ?_
              rotate_left 1
              · intro w' hB; (go_simp <;> with_reducible rfl)
              try simp only [Act.put, zA, zB, zC]
              refine tk (i := 36) (oi := ⟨some 48, _, _, _, _, _⟩) (v := ?_) rfl (Or.inl ⟨by rfl, ?_⟩) hS ?_
              rotate_left 1
              · intro w' hB; (go_simp <;> with_reducible rfl)
              try simp only [Act.put, zA, zB, zC]
              refine tk (i := 37) (oi := ⟨some 49, _, _, _, _, _⟩) (v := ?_) rfl (Or.inl ⟨by rfl, ?_⟩) hS ?_
              rotate_left 1
              · intro w' hB; have CXw := CX.out.below ((HC.out.to wr (by simp)).trans (hB.mono (HC.out.to wr (by simp)).size)); obtain ⟨p0, p1, p2, p3, p4, p5⟩ := CXw; have CYw := CY.out.below ((HC.out.to wr (by simp)).trans (hB.mono (HC.out.to wr (by simp)).size)); obtain ⟨q0, q1, q2, q3, q4, q5⟩ := CYw; (go_simp <;> with_reducible rfl)
              try simp only [Act.put, zA, zB, zC]
              refine tk (i := 38) (oi := ⟨some 50, _, _, _, _, _⟩) (v := ?_) rfl (Or.inl ⟨by rfl, ?_⟩) hS ?_
              rotate_left 1
              · intro w' hB; (go_simp <;> with_reducible rfl)
              try simp only [Act.put, zA, zB, zC]
              refine tk (i := 39) (oi := ⟨some 51, _, _, _, _, _⟩) (v := ?_) rfl (Or.inl ⟨by rfl, ?_⟩) hS ?_
              rotate_left 1
              · intro w' hB; have CXw := CX.out.below ((HC.out.to wr (by simp)).trans (hB.mono (HC.out.to wr (by simp)).size)); obtain ⟨p0, p1, p2, p3, p4, p5⟩ := CXw; have CYw := CY.out.below ((HC.out.to wr (by simp)).trans (hB.mono (HC.out.to wr (by simp)).size)); obtain ⟨q0, q1, q2, q3, q4, q5⟩ := CYw; (go_simp <;> with_reducible rfl)
              try simp only [Act.put, zA, zB, zC]
              refine tk (i := 40) (oi := ⟨some 52, _, _, _, _, _⟩) (v := ?_) rfl (Or.inl ⟨by rfl, ?_⟩) hS ?_
              rotate_left 1
              · intro w' hB; have CXw := CX.out.below ((HC.out.to wr (by simp)).trans (hB.mono (HC.out.to wr (by simp)).size)); obtain ⟨p0, p1, p2, p3, p4, p5⟩ := CXw; have CYw := CY.out.below ((HC.out.to wr (by simp)).trans (hB.mono (HC.out.to wr (by simp)).size)); obtain ⟨q0, q1, q2, q3, q4, q5⟩ := CYw; (go_simp <;> with_reducible rfl)
              try simp only [Act.put, zA, zB, zC]
              refine tk (i := 41) (oi := ⟨some 53, _, _, _, _, _⟩) (v := ?_) rfl (Or.inl ⟨by rfl, ?_⟩) hS ?_
              rotate_left 1
              · intro w' hB; (go_simp <;> with_reducible rfl)
              try simp only [Act.put, zA, zB, zC]
              refine tk (i := 42) (oi := ⟨some 54, _, _, _, _, _⟩) (v := ?_) rfl (Or.inl ⟨by rfl, ?_⟩) hS ?_
              rotate_left 1
              · intro w' hB; (go_simp <;> with_reducible rfl)
              try simp only [Act.put, zA, zB, zC]
              refine tk (i := 43) (oi := ⟨some 55, _, _, _, _, _⟩) (v := ?_) rfl (Or.inl ⟨by rfl, ?_⟩) hS ?_
              rotate_left 1
              · intro w' hB; (go_simp <;> with_reducible rfl)
              try simp only [Act.put, zA, zB, zC]
              refine wpAnyH_done (by kernel_rfl) (NoPanic.normal ?_) _
              have hbe := HC.out.to wr (by simp)
              have HB3 := Lib.hid (HB2.out.trans (hbe.mono HB2.out.size))
              have HO3 := Lib.hid (own_later HO2.out hbe (Nat.le_refl _))
              have HA3 := Lib.hid (HA.out.below hbe rfl)
              clear hbe hS HC
              go_wp2_with fail
              go_meet
              exact ⟨k, rfl, by omega, H, HO3, HA3, HB3⟩
          · have hd2 : decide (y.1 = x.1) = false := decide_eq_false heq
            have H := Lib.hid (HST.out (by rw [AV.out, hd1, hd2]; rfl))
            clear heq
            refine wp_region_noPanic ?_
            refine wp_region_held_drew (S := fun w' => Below wr.heap.size wr w') (by kernel_rfl) (Below.refl _ _).drew (fun hS => ?_)
            refine tk (i := 0) (oi := ⟨some 12, _, _, _, _, _⟩) (v := ?_) rfl (Or.inl ⟨by rfl, ?_⟩) hS ?_
            rotate_left 1
            · intro w' hB; (go_simp <;> with_reducible rfl)
            try simp only [Act.put, zA, zB, zC]
            refine tk (i := 1) (oi := ⟨some 13, _, _, _, _, _⟩) (v := ?_) rfl (Or.inl ⟨by rfl, ?_⟩) hS ?_
            rotate_left 1
            · intro w' hB; (go_simp <;> with_reducible rfl)
            try simp only [Act.put, zA, zB, zC]
            refine tk (i := 2) (oi := ⟨some 14, _, _, _, _, _⟩) (v := ?_) rfl (Or.inl ⟨by rfl, ?_⟩) hS ?_
            rotate_left 1
            · intro w' hB; (go_simp <;> with_reducible rfl)
            try simp only [Act.put, zA, zB, zC]
            refine tk (i := 3) (oi := ⟨some 15, _, _, _, _, _⟩) (v := ?_) rfl (Or.inl ⟨by rfl, ?_⟩) hS ?_
            rotate_left 1
            · intro w' hB; have CXw := CX.out.below ((HC.out.to wr (by simp)).trans (hB.mono (HC.out.to wr (by simp)).size)); obtain ⟨p0, p1, p2, p3, p4, p5⟩ := CXw; have CYw := CY.out.below ((HC.out.to wr (by simp)).trans (hB.mono (HC.out.to wr (by simp)).size)); obtain ⟨q0, q1, q2, q3, q4, q5⟩ := CYw; (go_simp <;> with_reducible rfl)
            try simp only [Act.put, zA, zB, zC]
            refine tk (i := 4) (oi := ⟨some 16, _, _, _, _, _⟩) (v := ?_) rfl (Or.inl ⟨by rfl, ?_⟩) hS ?_
            rotate_left 1
            · intro w' hB; (go_simp <;> with_reducible rfl)
            try simp only [Act.put, zA, zB, zC]
            refine tk (i := 5) (oi := ⟨some 17, _, _, _, _, _⟩) (v := ?_) rfl (Or.inl ⟨by rfl, ?_⟩) hS ?_
            rotate_left 1
            · intro w' hB; (go_simp <;> with_reducible rfl)
            try simp only [Act.put, zA, zB, zC]
            refine tk (i := 6) (oi := ⟨some 18, _, _, _, _, _⟩) (v := ?_) rfl (Or.inl ⟨by rfl, ?_⟩) hS ?_
            rotate_left 1
            · intro w' hB; (go_simp <;> with_reducible rfl)
            try simp only [Act.put, zA, zB, zC]
            refine tk (i := 7) (oi := ⟨some 19, _, _, _, _, _⟩) (v := ?_) rfl (Or.inl ⟨by rfl, ?_⟩) hS ?_
            rotate_left 1
            · intro w' hB; have CXw := CX.out.below ((HC.out.to wr (by simp)).trans (hB.mono (HC.out.to wr (by simp)).size)); obtain ⟨p0, p1, p2, p3, p4, p5⟩ := CXw; have CYw := CY.out.below ((HC.out.to wr (by simp)).trans (hB.mono (HC.out.to wr (by simp)).size)); obtain ⟨q0, q1, q2, q3, q4, q5⟩ := CYw; (go_simp <;> with_reducible rfl)
            try simp only [Act.put, zA, zB, zC]
            refine tk (i := 8) (oi := ⟨some 20, _, _, _, _, _⟩) (v := ?_) rfl (Or.inl ⟨by rfl, ?_⟩) hS ?_
            rotate_left 1
            · intro w' hB; (go_simp <;> with_reducible rfl)
            try simp only [Act.put, zA, zB, zC]
            refine tk (i := 9) (oi := ⟨some 21, _, _, _, _, _⟩) (v := ?_) rfl (Or.inl ⟨by rfl, ?_⟩) hS ?_
            rotate_left 1
            · intro w' hB; have CXw := CX.out.below ((HC.out.to wr (by simp)).trans (hB.mono (HC.out.to wr (by simp)).size)); obtain ⟨p0, p1, p2, p3, p4, p5⟩ := CXw; have CYw := CY.out.below ((HC.out.to wr (by simp)).trans (hB.mono (HC.out.to wr (by simp)).size)); obtain ⟨q0, q1, q2, q3, q4, q5⟩ := CYw; (go_simp <;> with_reducible rfl)
            try simp only [Act.put, zA, zB, zC]
            refine tk (i := 10) (oi := ⟨some 22, _, _, _, _, _⟩) (v := ?_) rfl (Or.inl ⟨by rfl, ?_⟩) hS ?_
            rotate_left 1
            · intro w' hB; (go_simp <;> with_reducible rfl)
            try simp only [Act.put, zA, zB, zC]
            refine tk (i := 11) (oi := ⟨some 23, _, _, _, _, _⟩) (v := ?_) rfl (Or.inl ⟨by rfl, ?_⟩) hS ?_
            rotate_left 1
            · intro w' hB; (go_simp <;> with_reducible rfl)
            try simp only [Act.put, zA, zB, zC]
            refine tk (i := 12) (oi := ⟨some 24, _, _, _, _, _⟩) (v := ?_) rfl (Or.inl ⟨by rfl, ?_⟩) hS ?_
            rotate_left 1
            · intro w' hB; have CXw := CX.out.below ((HC.out.to wr (by simp)).trans (hB.mono (HC.out.to wr (by simp)).size)); obtain ⟨p0, p1, p2, p3, p4, p5⟩ := CXw; have CYw := CY.out.below ((HC.out.to wr (by simp)).trans (hB.mono (HC.out.to wr (by simp)).size)); obtain ⟨q0, q1, q2, q3, q4, q5⟩ := CYw; (go_simp <;> with_reducible rfl)
            try simp only [Act.put, zA, zB, zC]
            refine tk (i := 13) (oi := ⟨some 25, _, _, _, _, _⟩) (v := ?_) rfl (Or.inl ⟨by rfl, ?_⟩) hS ?_
            rotate_left 1
            · intro w' hB; (go_simp <;> with_reducible rfl)
            try simp only [Act.put, zA, zB, zC]
            refine tk (i := 14) (oi := ⟨some 26, _, _, _, _, _⟩) (v := ?_) rfl (Or.inl ⟨by rfl, ?_⟩) hS ?_
            rotate_left 1
            · intro w' hB; have CXw := CX.out.below ((HC.out.to wr (by simp)).trans (hB.mono (HC.out.to wr (by simp)).size)); obtain ⟨p0, p1, p2, p3, p4, p5⟩ := CXw; have CYw := CY.out.below ((HC.out.to wr (by simp)).trans (hB.mono (HC.out.to wr (by simp)).size)); obtain ⟨q0, q1, q2, q3, q4, q5⟩ := CYw; (go_simp <;> with_reducible rfl)
            try simp only [Act.put, zA, zB, zC]
            refine wpAnyH_ready (rs := [15]) (by kernel_rfl) (by simp) (AllReadyH.cons (o := ⟨some 27, _, _, _, _, _⟩) rfl (fun K hK => ?_) AllReadyH.nil)
            go_simp
            refine (HCMP.out _).mono ?_
            rintro e w3 ⟨rfl, hb⟩
            refine hK.out _ _ (hS.trans (hb.mono hS.size)) (fun _ => ?_)
            clear hK K
            have hB := hS.trans (hb.mono hS.size)
            refine wpAnyH_now hB ?_
            clear hS
            have hS := Below.refl w3.heap.size w3
            replace HC := Lib.hid (HC.out.push hB)
            clear hB hb
            try simp only [Act.put, zA, zB, zC]
            refine tk (i := 16) (oi := ⟨some 28, _, _, _, _, _⟩) (v := ?_) rfl (Or.inl ⟨by rfl, ?_⟩) hS ?_
            rotate_left 1
            · intro w' hB; have CXw := CX.out.below ((HC.out.to wr (by simp)).trans (hB.mono (HC.out.to wr (by simp)).size)); obtain ⟨p0, p1, p2, p3, p4, p5⟩ := CXw; have CYw := CY.out.below ((HC.out.to wr (by simp)).trans (hB.mono (HC.out.to wr (by simp)).size)); obtain ⟨q0, q1, q2, q3, q4, q5⟩ := CYw; (go_simp <;> with_reducible rfl)
            try simp only [Act.put, zA, zB, zC]
            refine tk (i := 17) (oi := ⟨some 29, _, _, _, _, _⟩) (v := ?_) rfl (Or.inl ⟨by rfl, ?_⟩) hS ?_
            rotate_left 1
            · intro w' hB; (go_simp <;> with_reducible rfl)
            try simp only [Act.put, zA, zB, zC]
            refine tk (i := 18) (oi := ⟨some 30, _, _, _, _, _⟩) (v := ?_) rfl (Or.inl ⟨by rfl, ?_⟩) hS ?_
            rotate_left 1
            · intro w' hB; (go_simp <;> with_reducible rfl)
            try simp only [Act.put, zA, zB, zC]
            refine tk (i := 19) (oi := ⟨some 31, _, _, _, _, _⟩) (v := ?_) rfl (Or.inl ⟨by rfl, ?_⟩) hS ?_
            rotate_left 1
            · intro w' hB; (go_simp <;> with_reducible rfl)
            try simp only [Act.put, zA, zB, zC]
            refine tk (i := 20) (oi := ⟨some 32, _, _, _, _, _⟩) (v := ?_) rfl (Or.inl ⟨by rfl, ?_⟩) hS ?_
            rotate_left 1
            · intro w' hB; have CXw := CX.out.below ((HC.out.to wr (by simp)).trans (hB.mono (HC.out.to wr (by simp)).size)); obtain ⟨p0, p1, p2, p3, p4, p5⟩ := CXw; have CYw := CY.out.below ((HC.out.to wr (by simp)).trans (hB.mono (HC.out.to wr (by simp)).size)); obtain ⟨q0, q1, q2, q3, q4, q5⟩ := CYw; (go_simp <;> with_reducible rfl)
            try simp only [Act.put, zA, zB, zC]
            refine tk (i := 21) (oi := ⟨some 33, _, _, _, _, _⟩) (v := ?_) rfl (Or.inl ⟨by rfl, ?_⟩) hS ?_
            rotate_left 1
            · intro w' hB; (go_simp <;> with_reducible rfl)
            try simp only [Act.put, zA, zB, zC]
            refine tk (i := 22) (oi := ⟨some 34, _, _, _, _, _⟩) (v := ?_) rfl (Or.inl ⟨by rfl, ?_⟩) hS ?_
            rotate_left 1
            · intro w' hB; have CXw := CX.out.below ((HC.out.to wr (by simp)).trans (hB.mono (HC.out.to wr (by simp)).size)); obtain ⟨p0, p1, p2, p3, p4, p5⟩ := CXw; have CYw := CY.out.below ((HC.out.to wr (by simp)).trans (hB.mono (HC.out.to wr (by simp)).size)); obtain ⟨q0, q1, q2, q3, q4, q5⟩ := CYw; (go_simp <;> with_reducible rfl)
            try simp only [Act.put, zA, zB, zC]
            refine tk (i := 23) (oi := ⟨some 35, _, _, _, _, _⟩) (v := ?_) rfl (Or.inl ⟨by rfl, ?_⟩) hS ?_
            rotate_left 1
            · intro w' hB; (go_simp <;> with_reducible rfl)
            try simp only [Act.put, zA, zB, zC]
            refine tk (i := 24) (oi := ⟨some 36, _, _, _, _, _⟩) (v := ?_) rfl (Or.inl ⟨by rfl, ?_⟩) hS ?_
            rotate_left 1
            · intro w' hB; (go_simp <;> with_reducible rfl)
            try simp only [Act.put, zA, zB, zC]
            refine tk (i := 25) (oi := ⟨some 37, _, _, _, _, _⟩) (v := ?_) rfl (Or.inl ⟨by rfl, ?_⟩) hS ?_
            rotate_left 1
            · intro w' hB; have CXw := CX.out.below ((HC.out.to wr (by simp)).trans (hB.mono (HC.out.to wr (by simp)).size)); obtain ⟨p0, p1, p2, p3, p4, p5⟩ := CXw; have CYw := CY.out.below ((HC.out.to wr (by simp)).trans (hB.mono (HC.out.to wr (by simp)).size)); obtain ⟨q0, q1, q2, q3, q4, q5⟩ := CYw; (go_simp <;> with_reducible rfl)
            try simp only [Act.put, zA, zB, zC]
            refine tk (i := 26) (oi := ⟨some 38, _, _, _, _, _⟩) (v := ?_) rfl (Or.inl ⟨by rfl, ?_⟩) hS ?_
            rotate_left 1
            · intro w' hB; (go_simp <;> with_reducible rfl)
            try simp only [Act.put, zA, zB, zC]
            refine tk (i := 27) (oi := ⟨some 39, _, _, _, _, _⟩) (v := ?_) rfl (Or.inl ⟨by rfl, ?_⟩) hS ?_
            rotate_left 1
            · intro w' hB; have CXw := CX.out.below ((HC.out.to wr (by simp)).trans (hB.mono (HC.out.to wr (by simp)).size)); obtain ⟨p0, p1, p2, p3, p4, p5⟩ := CXw; have CYw := CY.out.below ((HC.out.to wr (by simp)).trans (hB.mono (HC.out.to wr (by simp)).size)); obtain ⟨q0, q1, q2, q3, q4, q5⟩ := CYw; (go_simp <;> with_reducible rfl)
            try simp only [Act.put, zA, zB, zC]
            refine tk (i := 28) (oi := ⟨some 40, _, _, _, _, _⟩) (v := ?_) rfl (Or.inl ⟨by rfl, ?_⟩) hS ?_
            rotate_left 1
            · intro w' hB; have CXw := CX.out.below ((HC.out.to wr (by simp)).trans (hB.mono (HC.out.to wr (by simp)).size)); obtain ⟨p0, p1, p2, p3, p4, p5⟩ := CXw; have CYw := CY.out.below ((HC.out.to wr (by simp)).trans (hB.mono (HC.out.to wr (by simp)).size)); obtain ⟨q0, q1, q2, q3, q4, q5⟩ := CYw; (go_simp <;> with_reducible rfl)
            try simp only [Act.put, zA, zB, zC]
            refine tk (i := 29) (oi := ⟨some 41, _, _, _, _, _⟩) (v := ?_) rfl (Or.inl ⟨by rfl, ?_⟩) hS ?_
            rotate_left 1
            · intro w' hB; (go_simp <;> with_reducible rfl)
            try simp only [Act.put, zA, zB, zC]
            refine tk (i := 30) (oi := ⟨some 42, _, _, _, _, _⟩) rfl (Or.inr ⟨by rfl, rfl⟩) hS ?_
            try simp only [Act.put, zA, zB, zC]
            refine tk (i := 31) (oi := ⟨some 43, _, _, _, _, _⟩) rfl (Or.inr ⟨by rfl, rfl⟩) hS ?_
            try simp only [Act.put, zA, zB, zC]
            refine tk (i := 32) (oi := ⟨some 44, _, _, _, _, _⟩) rfl (Or.inr ⟨by rfl, rfl⟩) hS ?_
            try simp only [Act.put, zA, zB, zC]
            refine tk (i := 33) (oi := ⟨some 45, _, _, _, _, _⟩) rfl (Or.inr ⟨by rfl, rfl⟩) hS ?_
            try simp only [Act.put, zA, zB, zC]
            refine tk (i := 34) (oi := ⟨some 46, _, _, _, _, _⟩) rfl (Or.inr ⟨by rfl, rfl⟩) hS ?_
            try simp only [Act.put, zA, zB, zC]
            refine tk (i := 35) (oi := ⟨some 47, _, _, _, _, _⟩) rfl (Or.inr ⟨by rfl, rfl⟩) hS ?_
            try simp only [Act.put, zA, zB, zC]
            refine tk (i := 36) (oi := ⟨some 48, _, _, _, _, _⟩) rfl (Or.inr ⟨by rfl, rfl⟩) hS ?_
            try simp only [Act.put, zA, zB, zC]
            refine tk (i := 37) (oi := ⟨some 49, _, _, _, _, _⟩) rfl (Or.inr ⟨by rfl, rfl⟩) hS ?_
            try simp only [Act.put, zA, zB, zC]
            refine tk (i := 38) (oi := ⟨some 50, _, _, _, _, _⟩) rfl (Or.inr ⟨by rfl, rfl⟩) hS ?_
            try simp only [Act.put, zA, zB, zC]
            refine tk (i := 39) (oi := ⟨some 51, _, _, _, _, _⟩) rfl (Or.inr ⟨by rfl, rfl⟩) hS ?_
            try simp only [Act.put, zA, zB, zC]
            refine tk (i := 40) (oi := ⟨some 52, _, _, _, _, _⟩) rfl (Or.inr ⟨by rfl, rfl⟩) hS ?_
            try simp only [Act.put, zA, zB, zC]
            refine tk (i := 41) (oi := ⟨some 53, _, _, _, _, _⟩) (v := ?_) rfl (Or.inl ⟨by rfl, ?_⟩) hS ?_
            rotate_left 1
            · intro w' hB; (go_simp <;> with_reducible rfl)
            try simp only [Act.put, zA, zB, zC]
            refine tk (i := 42) (oi := ⟨some 54, _, _, _, _, _⟩) (v := ?_) rfl (Or.inl ⟨by rfl, ?_⟩) hS ?_
            rotate_left 1
            · intro w' hB; (go_simp <;> with_reducible rfl)
            try simp only [Act.put, zA, zB, zC]
            refine tk (i := 43) (oi := ⟨some 55, _, _, _, _, _⟩) (v := ?_) rfl (Or.inl ⟨by rfl, ?_⟩) hS ?_
            rotate_left 1
            · intro w' hB; (go_simp <;> with_reducible rfl)
            try simp only [Act.put, zA, zB, zC]
            refine wpAnyH_done (by kernel_rfl) (NoPanic.normal ?_) _
            have hbe := HC.out.to wr (by simp)
            have HB3 := Lib.hid (HB2.out.trans (hbe.mono HB2.out.size))
            have HO3 := Lib.hid (own_later HO2.out hbe (Nat.le_refl _))
            have HA3 := Lib.hid (HA.out.below hbe rfl)
            clear hbe hS HC
            go_wp2_with fail
            go_meet
            exact ⟨k, rfl, by omega, H, HO3, HA3, HB3⟩
      · obtain rfl : k = i := by omega
        have H : Hid (insV x out = out.take k ++ x :: out.drop k) := Lib.hid (by have := hol.out; rw [← this]; exact ahead_end (by rw [this]; exact HT.out))
        have hkf : decide ((k : Int) < (k : Int)) = false := by simp
        go_wp2_with fail
        go_quiet (fail)
        go_wp2_with fail
        go_meet
        exact ⟨k, rfl, Nat.le_refl _, H, Lib.hid (own_later HO2.out (below_drews (Below.refl _ _) _) (Nat.le_refl _)), Lib.hid (HA.out.below (below_drews (Below.refl _ _) _) rfl), Lib.hid (below_drews HB2.out _)⟩
    case rest =>
     clear HO HA0 HB
     obtain ⟨k, rfl, hk, H, HO, HA, HB⟩ := hcut
     have hso : so = none ∨ ∃ g, so = some ⟨g, 0, none⟩ := by
      rcases HO.out.2 with ⟨e, _⟩ | ⟨g, _, _, e, _⟩
      · cases e; exact .inl rfl
      · cases e; exact .inr ⟨g, rfl⟩
     obtain ⟨bx, ox, rfl, cx⟩ := HG.out _ HA.out
     have CX := Lib.hid cx
     clear cx
     have HC6 := CellsAt.ownN HO.out
     have HTK : Hid (CellsAt wc so (elsV (out.take k))) := Lib.hid (by rw [elsV_take]; exact HC6.take _)
     have HDK : Hid (CellsAt wc (subN so co k 6) (elsV (out.drop k))) := Lib.hid (by rw [elsV_drop]; exact HC6.subN co k 6 (fun e => by rw [elsV_length, hol.out]; omega))
     have hlt1 : (elsV (out.take k)).length = k * 6 := by rw [elsV_length, List.length_take, hol.out]; omega
     have hlt2 : (elsV (out.drop k)).length = (i - k) * 6 := by rw [elsV_length, List.length_drop, hol.out]
     have S1 := Lib.hid (fun w' => run_to (P := Tryz.prog) w' 22 53 Tryz.underlying22 6 Tryz.sizeOf53 so hso i co k (k : Int) rfl (by omega))
     have S2 := Lib.hid (fun w' => run_from (P := Tryz.prog) w' 22 53 Tryz.underlying22 6 Tryz.sizeOf53 so i co k (k : Int) rfl hk)
     have ET := Lib.hid elT
     clear HC6 hso HG
     generalize hsub : subN so co k 6 = sb at *
     go_wp2_with fail
     have HC : Hid (Chain [wc] wc) := Lib.hid (Chain.one wc)
     refine wp_region_noPanic ?_
     refine wp_region_held_drew (S := fun w' => Below wc.heap.size wc w') (by kernel_rfl) (Below.refl _ _).drew (fun hS => ?_)
     refine tk (i := 0) (oi := ⟨some 58, _, _, _, _, _⟩) (v := ?_) rfl (Or.inl ⟨by rfl, ?_⟩) hS ?_
     rotate_left 1
     · intro w' hB; (go_simp <;> with_reducible rfl)
     try simp only [Act.put, zA, zB, zC]
     refine tk (i := 1) (oi := ⟨some 59, _, _, _, _, _⟩) (v := ?_) rfl (Or.inl ⟨by rfl, ?_⟩) hS ?_
     rotate_left 1
     · intro w' hB; (go_simp <;> with_reducible rfl)
     try simp only [Act.put, zA, zB, zC]
     refine tk (i := 2) (oi := ⟨some 60, _, _, _, _, _⟩) (v := ?_) rfl (Or.inl ⟨by rfl, ?_⟩) hS ?_
     rotate_left 1
     · intro w' hB; obtain ⟨p0, p1, p2, p3, p4, p5⟩ := CX.out.below hB; have s1 := S1.out w'; have s2 := S2.out w'; (go_simp <;> with_reducible rfl)
     try simp only [Act.put, zA, zB, zC]
     refine tk (i := 4) (oi := ⟨some 62, _, _, _, _, _⟩) (v := ?_) rfl (Or.inl ⟨by rfl, ?_⟩) hS ?_
     rotate_left 1
     · intro w' hB; (go_simp <;> with_reducible rfl)
     try simp only [Act.put, zA, zB, zC]
     refine tk (i := 5) (oi := ⟨some 63, _, _, _, _, _⟩) (v := ?_) rfl (Or.inl ⟨by rfl, ?_⟩) hS ?_
     rotate_left 1
     · intro w' hB; (go_simp <;> with_reducible rfl)
     try simp only [Act.put, zA, zB, zC]
     refine tk (i := 6) (oi := ⟨some 64, _, _, _, _, _⟩) (v := ?_) rfl (Or.inl ⟨by rfl, ?_⟩) hS ?_
     rotate_left 1
     · intro w' hB; obtain ⟨p0, p1, p2, p3, p4, p5⟩ := CX.out.below hB; have s1 := S1.out w'; have s2 := S2.out w'; (go_simp <;> with_reducible rfl)
     try simp only [Act.put, zA, zB, zC]
     refine tk (i := 7) (oi := ⟨some 65, _, _, _, _, _⟩) (v := ?_) rfl (Or.inl ⟨by rfl, ?_⟩) hS ?_
     rotate_left 1
     · intro w' hB; obtain ⟨p0, p1, p2, p3, p4, p5⟩ := CX.out.below hB; have s1 := S1.out w'; have s2 := S2.out w'; (go_simp <;> with_reducible rfl)
     try simp only [Act.put, zA, zB, zC]
     refine tk (i := 10) (oi := ⟨some 68, _, _, _, _, _⟩) (v := ?_) rfl (Or.inl ⟨by rfl, ?_⟩) hS ?_
     rotate_left 1
     · intro w' hB; (go_simp <;> with_reducible rfl)
     try simp only [Act.put, zA, zB, zC]
     refine tk (i := 11) (oi := ⟨some 69, _, _, _, _, _⟩) (v := ?_) rfl (Or.inl ⟨by rfl, ?_⟩) hS ?_
     rotate_left 1
     · intro w' hB; (go_simp <;> with_reducible rfl)
     try simp only [Act.put, zA, zB, zC]
     refine tk (i := 12) (oi := ⟨some 70, _, _, _, _, _⟩) (v := ?_) rfl (Or.inl ⟨by rfl, ?_⟩) hS ?_
     rotate_left 1
     · intro w' hB; obtain ⟨p0, p1, p2, p3, p4, p5⟩ := CX.out.below hB; have s1 := S1.out w'; have s2 := S2.out w'; (go_simp <;> with_reducible rfl)
     try simp only [Act.put, zA, zB, zC]
     refine wpAnyH_ready (rs := [3, 8]) (by kernel_rfl) (by simp) (AllReadyH.cons (o := ⟨some 61, _, _, _, _, _⟩) rfl (fun K hK => ?way2) (AllReadyH.cons (o := ⟨some 66, _, _, _, _, _⟩) rfl (fun K hK => ?way1) AllReadyH.nil))
     case' way2 =>
      refine step_app rfl _ _ _ _ rfl wc.heap.size 53 _ 6 64 ET.out (.slice none 0 0) 0 [] rfl ⟨rfl, Or.inl ⟨rfl, rfl⟩⟩ _ k (elsV (out.take k)) rfl ((HTK.out.below hS rfl).srcN hlt1 (elsV_one _) Tryz.underlying22 co (by decide)) (by unfold maxLen; omega) (by omega) hS.size ?_
      intro v3 w3 hown hgr hb hor
      refine hK.out _ _ (hS.trans hb) (fun _ => ?_)
      clear hK K
      replace hS := hS.trans hb
      have H3 : Hid (World.ownsRow _ wc.heap.size 53 6 v3 k (elsV (out.take k))) := Lib.hid (by simpa using hown)
      (try (replace H8 := Lib.hid (H8.out.below (grown_none hgr) rfl)))
      clear hb hgr hor
      try simp only [Act.put, zA, zB, zC]
      refine wpAnyH_ready (rs := [8]) (by kernel_rfl) (by simp) (AllReadyH.cons (o := ⟨some 66, _, _, _, _, _⟩) rfl (fun K hK => ?_) AllReadyH.nil)
      go_simp
      refine hK.out _ _ (hS.alloc hS.size _) (fun _ => ?_)
      clear hK K
      refine wpAnyH_madeK hS hS.size ?_
      have hS0 := hS
      clear hS
      rintro w8 hw hS
      (try (replace H3 := Lib.hid (show World.ownsRow w8 wc.heap.size 53 6 v3 k (elsV (out.take k)) from by rw [hw]; exact H3.out.alloc _)))
      have H8 := Lib.hid (cellsAt_made (vs := elV x) hw)
      clear hw hS0
      try simp only [Act.put, zA, zB, zC]
      refine wpAnyH_ready (rs := [9]) (by kernel_rfl) (by simp) (AllReadyH.cons (o := ⟨some 67, _, _, _, _, _⟩) rfl (fun K hK => ?_) AllReadyH.nil)
      refine step_app rfl _ _ _ _ rfl wc.heap.size 53 _ 6 64 ET.out v3 k (elsV (out.take k)) rfl H3.out _ 1 (elV x) rfl (H8.out.srcN rfl (fun u hu => elsV_one [x] u (by simpa [elsV] using hu)) Tryz.underlying22 1 (by decide)) (by unfold maxLen; omega) (by omega) hS.size ?_
      intro v9 w9 hown hgr hb hor
      refine hK.out _ _ (hS.trans hb) (fun _ => ?_)
      clear hK K
      replace hS := hS.trans hb
      have H9 := Lib.hid hown
      clear hb hgr hor
      try simp only [Act.put, zA, zB, zC]
      refine wpAnyH_ready (rs := [13]) (by kernel_rfl) (by simp) (AllReadyH.cons (o := ⟨some 71, _, _, _, _, _⟩) rfl (fun K hK => ?_) AllReadyH.nil)
      refine step_app rfl _ _ _ _ rfl wc.heap.size 53 _ 6 64 ET.out v9 (k + 1) (elsV (out.take k) ++ elV x) rfl H9.out _ (i - k) (elsV (out.drop k)) rfl ((HDK.out.below hS rfl).srcN hlt2 (elsV_one _) Tryz.underlying22 (co - k) (by decide)) (by unfold maxLen; omega) (by omega) hS.size ?_
      intro v13 w13 hown hgr hb hor
      refine hK.out _ _ (hS.trans hb) (fun _ => ?_)
      clear hK K
      replace hS := hS.trans hb
      have H13 := Lib.hid hown
      clear hb hgr hor
      try simp only [Act.put, zA, zB, zC]
      refine tk (i := 14) (oi := ⟨some 3, _, _, _, _, _⟩) (v := ?_) rfl (Or.inl ⟨by rfl, ?_⟩) hS ?_
      rotate_left 1
      · intro w' hB; obtain ⟨p0, p1, p2, p3, p4, p5⟩ := CX.out.below hB; have s1 := S1.out w'; have s2 := S2.out w'; (go_simp <;> with_reducible rfl)
      try simp only [Act.put, zA, zB, zC]
      refine wpAnyH_done (by kernel_rfl) (NoPanic.normal ?_) _
     case' way1 =>
      go_simp
      refine hK.out _ _ (hS.alloc hS.size _) (fun _ => ?_)
      clear hK K
      refine wpAnyH_madeK hS hS.size ?_
      have hS0 := hS
      clear hS
      rintro w8 hw hS
      (try (replace H3 := Lib.hid (show World.ownsRow w8 wc.heap.size 53 6 v3 k (elsV (out.take k)) from by rw [hw]; exact H3.out.alloc _)))
      have H8 := Lib.hid (cellsAt_made (vs := elV x) hw)
      clear hw hS0
      try simp only [Act.put, zA, zB, zC]
      refine wpAnyH_ready (rs := [3]) (by kernel_rfl) (by simp) (AllReadyH.cons (o := ⟨some 61, _, _, _, _, _⟩) rfl (fun K hK => ?_) AllReadyH.nil)
      refine step_app rfl _ _ _ _ rfl wc.heap.size 53 _ 6 64 ET.out (.slice none 0 0) 0 [] rfl ⟨rfl, Or.inl ⟨rfl, rfl⟩⟩ _ k (elsV (out.take k)) rfl ((HTK.out.below hS rfl).srcN hlt1 (elsV_one _) Tryz.underlying22 co (by decide)) (by unfold maxLen; omega) (by omega) hS.size ?_
      intro v3 w3 hown hgr hb hor
      refine hK.out _ _ (hS.trans hb) (fun _ => ?_)
      clear hK K
      replace hS := hS.trans hb
      have H3 : Hid (World.ownsRow _ wc.heap.size 53 6 v3 k (elsV (out.take k))) := Lib.hid (by simpa using hown)
      (try (replace H8 := Lib.hid (H8.out.below (grown_none hgr) rfl)))
      clear hb hgr hor
      try simp only [Act.put, zA, zB, zC]
      refine wpAnyH_ready (rs := [9]) (by kernel_rfl) (by simp) (AllReadyH.cons (o := ⟨some 67, _, _, _, _, _⟩) rfl (fun K hK => ?_) AllReadyH.nil)
      refine step_app rfl _ _ _ _ rfl wc.heap.size 53 _ 6 64 ET.out v3 k (elsV (out.take k)) rfl H3.out _ 1 (elV x) rfl (H8.out.srcN rfl (fun u hu => elsV_one [x] u (by simpa [elsV] using hu)) Tryz.underlying22 1 (by decide)) (by unfold maxLen; omega) (by omega) hS.size ?_
      intro v9 w9 hown hgr hb hor
      refine hK.out _ _ (hS.trans hb) (fun _ => ?_)
      clear hK K
      replace hS := hS.trans hb
      have H9 := Lib.hid hown
      clear hb hgr hor
      try simp only [Act.put, zA, zB, zC]
      refine wpAnyH_ready (rs := [13]) (by kernel_rfl) (by simp) (AllReadyH.cons (o := ⟨some 71, _, _, _, _, _⟩) rfl (fun K hK => ?_) AllReadyH.nil)
      refine step_app rfl _ _ _ _ rfl wc.heap.size 53 _ 6 64 ET.out v9 (k + 1) (elsV (out.take k) ++ elV x) rfl H9.out _ (i - k) (elsV (out.drop k)) rfl ((HDK.out.below hS rfl).srcN hlt2 (elsV_one _) Tryz.underlying22 (co - k) (by decide)) (by unfold maxLen; omega) (by omega) hS.size ?_
      intro v13 w13 hown hgr hb hor
      refine hK.out _ _ (hS.trans hb) (fun _ => ?_)
      clear hK K
      replace hS := hS.trans hb
      have H13 := Lib.hid hown
      clear hb hgr hor
      try simp only [Act.put, zA, zB, zC]
      refine tk (i := 14) (oi := ⟨some 3, _, _, _, _, _⟩) (v := ?_) rfl (Or.inl ⟨by rfl, ?_⟩) hS ?_
      rotate_left 1
      · intro w' hB; obtain ⟨p0, p1, p2, p3, p4, p5⟩ := CX.out.below hB; have s1 := S1.out w'; have s2 := S2.out w'; (go_simp <;> with_reducible rfl)
      try simp only [Act.put, zA, zB, zC]
      refine wpAnyH_done (by kernel_rfl) (NoPanic.normal ?_) _
     all_goals
      have HBn := Lib.hid (HB.out.trans (hS.mono HB.out.size))
      have e13 : elsV (out.take k) ++ elV x ++ elsV (out.drop k) = elsV (sortV (l.take (i + 1))) := by
       rw [HS.out, H.out, elsV_append, elsV_cons, List.append_assoc]
      have HOn : Hid (w13.ownsRow w.heap.size 53 6 v13 (i + 1) (elsV (sortV (l.take (i + 1))))) := Lib.hid (by
       have h13 := own_mono H13.out HB.out.size
       rw [e13, show k + 1 + (i - k) = i + 1 by omega] at h13
       exact h13)
      clear hS H13 H9 H3 H8 e13
      go_wp2_with fail
      go_roundw
     all_goals
      first
       | exact ⟨i + 1, by omega, by go_num, HOn, HBn⟩
       | (simp [intOf]; omega)
  · obtain rfl : i = n := by omega
    go_wp2_with fail
    go_ret
    refine ⟨_, rfl, ?_, HB.out⟩
    have := HO.out
    rw [HNN.out, List.take_length, ← HNN.out] at this
    exact this
end Go.Proofs.YtjlliohjeiclaaaGreatDoor
