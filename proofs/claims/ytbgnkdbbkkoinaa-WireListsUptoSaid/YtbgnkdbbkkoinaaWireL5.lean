/- The walk of the law WireLists. -/
import Derived.Test.YtbgnkdbbkkoinaaWireL4
namespace Go.Proofs.Ytbgnkdbbkkoinaa
open Go.RowKit Wire
theorem pI_append (a b : List (Nat × Nat)) : pI (a ++ b) = pI a ++ pI b := by simp [pI]
theorem drew_below {w w' : World} {B : Nat} (h : ∃ q, w' = w.drewN q) : Below B w w' := by
  obtain ⟨q, rfl⟩ := h
  exact below_drews (Below.refl _ _) q
set_option maxRecDepth 100000 in
set_option maxHeartbeats 2000000 in
theorem lists_walk (qs : List (Nat × Nat)) (a : Option Addr) (cap : Nat) (cut : Int) (w : World) (h : PairsAt .u64 w a (pI qs)) (hl : qs.length ≤ 1048576) (hcap : qs.length ≤ cap) (hq : ∀ q ∈ qs, q.1 < 18446744073709551616 ∧ q.2 < 18446744073709551616) (hc1 : -9223372036854775808 ≤ cut) (hc2 : cut ≤ 9223372036854775807) :
    Calls Try.prog 5 #[.slice a qs.length cap, .int .i64 cut] w fun e w' => e = .returned (.bool true) ∧ Below w.heap.size w w' := by
  have BT := Lib.hid byteT
  have H := Lib.hid h; clear h
  have HQ := Lib.hid hq; clear hq
  have hne := neq_two Try.underlying51 Try.underlying22 (fun w => by kernel_rfl)
  have hEN := enc_length qs.length
  go_enter Try.func5, Try.ntmps5
  go_wp2_with (first
    | (at_builtin; refine wpList_app16 rfl _ _ rfl w.heap.size (.slice none 0 0) [] rfl (World.ownsRow_nil _ _ _ _) _ qs rfl (H.out.src Try.underlying50 cap) (by simp; omega) (Nat.le_refl _) ?_; intro v1 w1 hown1 hb1; rw [List.nil_append] at hown1; have HO1 := Lib.hid hown1; have HB1 := Lib.hid hb1; clear hown1 hb1)
    | (at_builtin; refine wpList_app16p rfl _ _ rfl w.heap.size v1 qs rfl (HO1.out.alloc _) _ (7, 71) rfl (src_two' w1 _ (7, 71) 7 71 rfl rfl) (by omega) (Nat.le_trans HB1.out.size (below_new _ _).size) ?_; intro gm capm w2 hcm1 hgm hgl hown2 hb2; have HO2 := Lib.hid hown2; have HB2 := Lib.hid hb2; clear hown2 hb2; have hcm0 : qs.length ≤ capm := by omega))
  have HM2 : Hid (PairsAt .u64 w2 (some ⟨gm, 0, none⟩) (pI qs ++ pI [(7, 71)])) := Lib.hid (by have := own_pairs HO2.out; rw [pI_append] at this; exact this)
  have HD2 : Hid (Below w.heap.size w w2) := Lib.hid ((HB1.out.trans ((Below.refl _ _).alloc HB1.out.size _)).trans HB2.out)
  clear hgm hgl HB1 HB2 HO1 HO2
  refine (put_ok qs _ _ _ HM2.out.take hl HQ.out).mono ?_
  rintro e w3 ⟨v3, rfl, ho, hb⟩
  obtain ⟨a3, c3, rfl, h3⟩ := own_bytesAt ho
  have H3 := Lib.hid h3; clear h3
  have hlc : (lenc qs).length ≤ c3 := own_len ho
  clear ho
  have HC : Hid (Chain [w3, w2, w] w3) := Lib.hid ((((Chain.one w).next HD2.out (by simp)).push (Below.refl _ _)).push hb); clear hb
  go_wp2_with fail
  refine (num_any 0 _).mono ?_
  rintro e w4 ⟨rfl, rfl⟩
  obtain ⟨b0, o0, e0, c0, c1⟩ := (HM2.out.below (HC.out.to w2 (by simp)) rfl) qs.length (by simp [pI])
  cases e0
  simp only [pI, List.getElem_append_right, List.length_map, Nat.le_refl, Nat.sub_self] at c0 c1
  rw [Nat.zero_add] at c0 c1
  have hw1 : IntKind.i64.wrap ((qs.length : Int) + 1) = (qs.length : Int) + 1 := i64_wrap (by omega) (by omega)
  go_wp2_with fail
  clear c0 c1 hw1
  refine (ref_Number _ qs.length _ rfl (by omega)).mono ?_
  rintro e w5 ⟨v5, rfl, ho, hb⟩
  have HC5 : Hid (Chain [w3, w2, w] w5) := Lib.hid (HC.out.next hb (by simp))
  have HZ5 : Hid (w3.heap.size ≤ w5.heap.size) := Lib.hid hb.size
  have HO5 := Lib.hid ho; clear ho hb
  have HZ3 : Hid (w.heap.size ≤ w3.heap.size) := Lib.hid (HC.out.to w (by simp)).size
  go_wp2_with fail
  go_loopw [8, 9] (fun v i wr => ∃ k : Nat, k ≤ qs.length ∧ i = .int .i64 (k : Int) ∧ wr.ownsRow w3.heap.size 5 1 v (enc qs.length ++ penc (qs.take k)).length (bvs (enc qs.length ++ penc (qs.take k))) ∧ Chain [w3, w2, w] wr) (fun _ i _ => qs.length - (intOf i).toNat)
  case atStart => exact ⟨0, Nat.zero_le _, rfl, by simpa [penc] using HO5.out, HC5.out⟩
  case round =>
    obtain ⟨wo, rfl⟩ : ∃ wo : World, wo = wr := ⟨_, rfl⟩
    obtain ⟨k, hk, rfl, hown, hcc⟩ := hrel
    have HO := Lib.hid hown; clear hown
    have HCr := Lib.hid hcc; clear hcc HC5 HO5
    by_cases hlt : k < qs.length
    · obtain ⟨ba, off, rfl, c0, c1⟩ := (H.out.below (HCr.out.to w (by simp)) rfl) k (by rw [pI_length]; exact hlt)
      obtain ⟨b1, o1, e1, d0, d1⟩ := (HM2.out.take.below (HCr.out.to w2 (by simp)) rfl) k (by rw [pI_length]; exact hlt)
      cases e1
      rw [Nat.zero_add] at d0 d1
      have HS := Lib.hid (penc_take_succ qs k hlt)
      have HPL := Lib.hid (penc_take_le qs k)
      have hqk := HQ.out _ (List.getElem_mem hlt)
      have HQK := Lib.hid hqk; clear hqk
      simp only [pI, List.getElem_map] at c0 c1 d0 d1
      generalize hq' : qs[k] = q at *
      clear hq'
      obtain ⟨x, y⟩ := q
      simp only at c0 c1 d0 d1 HQK HS
      have hi0 : (0 : Int) ≤ (k : Int) := by omega
      have hi1 : (k : Int) < (qs.length : Int) := by omega
      have hi2 : (k : Int) < (qs.length : Int) + 1 := by omega
      have hEX := enc_length x
      have hEY := enc_length y
      go_wp2_with fail
      go_quiet (fail)
      go_wp2_with fail
      have HBA : Hid (ba < w.heap.size) := Lib.hid (by obtain ⟨b9, o9, e9, f9, _⟩ := H.out k (by rw [pI_length]; exact hlt); cases e9; exact cell_lt f9)
      have HCq : Hid (Chain [w3, w2, w] (wo.drewN nq)) := Lib.hid (fun W hW => below_drews (HCr.out W hW) nq)
      have HOq : Hid ((wo.drewN nq).ownsRow w3.heap.size 5 1 u8 (enc qs.length ++ penc (qs.take k)).length (bvs (enc qs.length ++ penc (qs.take k)))) := Lib.hid HO.out
      have HZq : Hid (w3.heap.size ≤ (wo.drewN nq).heap.size) := Lib.hid (HCr.out.to w3 (by simp)).size
      have q0 : Hid ((wo.drewN nq).cell? ⟨ba, off + k * 2, none⟩ = some (.int .u64 (x : Int))) := Lib.hid c0
      have q1 : Hid ((wo.drewN nq).cell? ⟨ba, off + k * 2 + 1, none⟩ = some (.int .u64 (y : Int))) := Lib.hid c1
      clear c0 c1 d0 d1 HCr HO
      generalize wo.drewN nq = wq at *
      have HZB := HZq
      refine wp_region_noPanic ?_
      refine wp_region_held_drew (S := fun w' => Below w3.heap.size wq w') (by kernel_rfl) (Below.refl _ _).drew (fun hS => ?_)
      refine wpAnyH_take (i := 0) (oi := ⟨some 67, _, _, _, _, _⟩) (v := ?_) rfl (by kernel_rfl) (by kernel_rfl) (by kernel_rfl) (fun _ _ _ h => h) (Or.inl ⟨by rfl, ?_⟩) hS ?_
      rotate_left 1
      · intro w' hB; have r0 := (hB.cell (p := ⟨ba, off + k * 2, none⟩) (Nat.lt_of_lt_of_le HBA.out HZ3.out)).trans q0.out; have r1 := (hB.cell (p := ⟨ba, off + k * 2 + 1, none⟩) (Nat.lt_of_lt_of_le HBA.out HZ3.out)).trans q1.out; (go_simp <;> with_reducible rfl)
      try simp only [Act.put, List.setIfInBounds_toArray, List.set_cons_zero, List.set_cons_succ]
      refine wpAnyH_take (i := 1) (oi := ⟨some 68, _, _, _, _, _⟩) (v := ?_) rfl (by kernel_rfl) (by kernel_rfl) (by kernel_rfl) (fun _ _ _ h => h) (Or.inl ⟨by rfl, ?_⟩) hS ?_
      rotate_left 1
      · intro w' hB; have r0 := (hB.cell (p := ⟨ba, off + k * 2, none⟩) (Nat.lt_of_lt_of_le HBA.out HZ3.out)).trans q0.out; have r1 := (hB.cell (p := ⟨ba, off + k * 2 + 1, none⟩) (Nat.lt_of_lt_of_le HBA.out HZ3.out)).trans q1.out; (go_simp <;> with_reducible rfl)
      try simp only [Act.put, List.setIfInBounds_toArray, List.set_cons_zero, List.set_cons_succ]
      refine wpAnyH_take (i := 2) (oi := ⟨some 69, _, _, _, _, _⟩) (v := ?_) rfl (by kernel_rfl) (by kernel_rfl) (by kernel_rfl) (fun _ _ _ h => h) (Or.inl ⟨by rfl, ?_⟩) hS ?_
      rotate_left 1
      · intro w' hB; have r0 := (hB.cell (p := ⟨ba, off + k * 2, none⟩) (Nat.lt_of_lt_of_le HBA.out HZ3.out)).trans q0.out; have r1 := (hB.cell (p := ⟨ba, off + k * 2 + 1, none⟩) (Nat.lt_of_lt_of_le HBA.out HZ3.out)).trans q1.out; (go_simp <;> with_reducible rfl)
      try simp only [Act.put, List.setIfInBounds_toArray, List.set_cons_zero, List.set_cons_succ]
      refine wpAnyH_take (i := 3) (oi := ⟨some 70, _, _, _, _, _⟩) (v := ?_) rfl (by kernel_rfl) (by kernel_rfl) (by kernel_rfl) (fun _ _ _ h => h) (Or.inl ⟨by rfl, ?_⟩) hS ?_
      rotate_left 1
      · intro w' hB; have r0 := (hB.cell (p := ⟨ba, off + k * 2, none⟩) (Nat.lt_of_lt_of_le HBA.out HZ3.out)).trans q0.out; have r1 := (hB.cell (p := ⟨ba, off + k * 2 + 1, none⟩) (Nat.lt_of_lt_of_le HBA.out HZ3.out)).trans q1.out; (go_simp <;> with_reducible rfl)
      try simp only [Act.put, List.setIfInBounds_toArray, List.set_cons_zero, List.set_cons_succ]
      refine wpAnyH_take (i := 4) (oi := ⟨some 71, _, _, _, _, _⟩) (v := ?_) rfl (by kernel_rfl) (by kernel_rfl) (by kernel_rfl) (fun _ _ _ h => h) (Or.inl ⟨by rfl, ?_⟩) hS ?_
      rotate_left 1
      · intro w' hB; have r0 := (hB.cell (p := ⟨ba, off + k * 2, none⟩) (Nat.lt_of_lt_of_le HBA.out HZ3.out)).trans q0.out; have r1 := (hB.cell (p := ⟨ba, off + k * 2 + 1, none⟩) (Nat.lt_of_lt_of_le HBA.out HZ3.out)).trans q1.out; (go_simp <;> with_reducible rfl)
      try simp only [Act.put, List.setIfInBounds_toArray, List.set_cons_zero, List.set_cons_succ]
      refine wpAnyH_take (i := 5) (oi := ⟨some 72, _, _, _, _, _⟩) (v := ?_) rfl (by kernel_rfl) (by kernel_rfl) (by kernel_rfl) (fun _ _ _ h => h) (Or.inl ⟨by rfl, ?_⟩) hS ?_
      rotate_left 1
      · intro w' hB; have r0 := (hB.cell (p := ⟨ba, off + k * 2, none⟩) (Nat.lt_of_lt_of_le HBA.out HZ3.out)).trans q0.out; have r1 := (hB.cell (p := ⟨ba, off + k * 2 + 1, none⟩) (Nat.lt_of_lt_of_le HBA.out HZ3.out)).trans q1.out; (go_simp <;> with_reducible rfl)
      try simp only [Act.put, List.setIfInBounds_toArray, List.set_cons_zero, List.set_cons_succ]
      refine wpAnyH_take (i := 8) (oi := ⟨some 75, _, _, _, _, _⟩) (v := ?_) rfl (by kernel_rfl) (by kernel_rfl) (by kernel_rfl) (fun _ _ _ h => h) (Or.inl ⟨by rfl, ?_⟩) hS ?_
      rotate_left 1
      · intro w' hB; have r0 := (hB.cell (p := ⟨ba, off + k * 2, none⟩) (Nat.lt_of_lt_of_le HBA.out HZ3.out)).trans q0.out; have r1 := (hB.cell (p := ⟨ba, off + k * 2 + 1, none⟩) (Nat.lt_of_lt_of_le HBA.out HZ3.out)).trans q1.out; (go_simp <;> with_reducible rfl)
      try simp only [Act.put, List.setIfInBounds_toArray, List.set_cons_zero, List.set_cons_succ]
      refine wpAnyH_take (i := 9) (oi := ⟨some 76, _, _, _, _, _⟩) (v := ?_) rfl (by kernel_rfl) (by kernel_rfl) (by kernel_rfl) (fun _ _ _ h => h) (Or.inl ⟨by rfl, ?_⟩) hS ?_
      rotate_left 1
      · intro w' hB; have r0 := (hB.cell (p := ⟨ba, off + k * 2, none⟩) (Nat.lt_of_lt_of_le HBA.out HZ3.out)).trans q0.out; have r1 := (hB.cell (p := ⟨ba, off + k * 2 + 1, none⟩) (Nat.lt_of_lt_of_le HBA.out HZ3.out)).trans q1.out; (go_simp <;> with_reducible rfl)
      try simp only [Act.put, List.setIfInBounds_toArray, List.set_cons_zero, List.set_cons_succ]
      refine wpAnyH_take (i := 10) (oi := ⟨some 77, _, _, _, _, _⟩) (v := ?_) rfl (by kernel_rfl) (by kernel_rfl) (by kernel_rfl) (fun _ _ _ h => h) (Or.inl ⟨by rfl, ?_⟩) hS ?_
      rotate_left 1
      · intro w' hB; have r0 := (hB.cell (p := ⟨ba, off + k * 2, none⟩) (Nat.lt_of_lt_of_le HBA.out HZ3.out)).trans q0.out; have r1 := (hB.cell (p := ⟨ba, off + k * 2 + 1, none⟩) (Nat.lt_of_lt_of_le HBA.out HZ3.out)).trans q1.out; (go_simp <;> with_reducible rfl)
      try simp only [Act.put, List.setIfInBounds_toArray, List.set_cons_zero, List.set_cons_succ]
      refine wpAnyH_take (i := 11) (oi := ⟨some 78, _, _, _, _, _⟩) (v := ?_) rfl (by kernel_rfl) (by kernel_rfl) (by kernel_rfl) (fun _ _ _ h => h) (Or.inl ⟨by rfl, ?_⟩) hS ?_
      rotate_left 1
      · intro w' hB; have r0 := (hB.cell (p := ⟨ba, off + k * 2, none⟩) (Nat.lt_of_lt_of_le HBA.out HZ3.out)).trans q0.out; have r1 := (hB.cell (p := ⟨ba, off + k * 2 + 1, none⟩) (Nat.lt_of_lt_of_le HBA.out HZ3.out)).trans q1.out; (go_simp <;> with_reducible rfl)
      try simp only [Act.put, List.setIfInBounds_toArray, List.set_cons_zero, List.set_cons_succ]
      refine wpAnyH_take (i := 12) (oi := ⟨some 79, _, _, _, _, _⟩) (v := ?_) rfl (by kernel_rfl) (by kernel_rfl) (by kernel_rfl) (fun _ _ _ h => h) (Or.inl ⟨by rfl, ?_⟩) hS ?_
      rotate_left 1
      · intro w' hB; have r0 := (hB.cell (p := ⟨ba, off + k * 2, none⟩) (Nat.lt_of_lt_of_le HBA.out HZ3.out)).trans q0.out; have r1 := (hB.cell (p := ⟨ba, off + k * 2 + 1, none⟩) (Nat.lt_of_lt_of_le HBA.out HZ3.out)).trans q1.out; (go_simp <;> with_reducible rfl)
      try simp only [Act.put, List.setIfInBounds_toArray, List.set_cons_zero, List.set_cons_succ]
      refine wpAnyH_ready (rs := [6]) (by kernel_rfl) (by simp) (AllReadyH.cons (o := ⟨some 73, _, _, _, _, _⟩) rfl (fun K hK => ?_) AllReadyH.nil)
      go_simp
      refine (ref_Number _ x _ rfl HQK.out.1).mono ?_
      rintro e z1 ⟨y1, rfl, ho, hb⟩
      refine hK.out _ _ (hS.trans (hb.mono (Nat.le_trans HZB.out hS.size))) (fun _ => ?_)
      clear hK K
      replace hS := hS.trans (hb.mono (Nat.le_trans HZB.out hS.size))
      obtain ⟨a6, c6, rfl, h6⟩ := own_bytesAt ho
      have S1 := Lib.hid (h6.src Try.underlying23 c6)
      have O1 : Hid (z1.ownsRow w3.heap.size 5 1 u8 (enc qs.length ++ penc (qs.take k)).length (bvs (enc qs.length ++ penc (qs.take k)))) := Lib.hid (own_later (w := wq.drew) HOq.out hb (Nat.le_refl _))
      clear ho h6
      clear hb
      try simp only [Act.put, List.setIfInBounds_toArray, List.set_cons_zero, List.set_cons_succ]
      refine wpAnyH_ready (rs := [7]) (by kernel_rfl) (by simp) (AllReadyH.cons (o := ⟨some 74, _, _, _, _, _⟩) rfl (fun K hK => ?_) AllReadyH.nil)
      refine step_appb rfl _ _ _ _ rfl w3.heap.size 5 BT.out u8 (enc qs.length ++ penc (qs.take k)) rfl O1.out (.slice a6 (enc x).length c6) (enc x) rfl S1.out (by have := HPL.out; simp; omega) (Nat.le_trans HZq.out hS.size) ?_
      intro v7 z2 hown hgr hb _
      refine hK.out _ _ (hS.trans hb) (fun _ => ?_)
      clear hK K
      replace hS := hS.trans hb
      have O2 := Lib.hid hown
      clear hown
      clear hb hgr
      try simp only [Act.put, List.setIfInBounds_toArray, List.set_cons_zero, List.set_cons_succ]
      refine wpAnyH_ready (rs := [13]) (by kernel_rfl) (by simp) (AllReadyH.cons (o := ⟨some 80, _, _, _, _, _⟩) rfl (fun K hK => ?_) AllReadyH.nil)
      go_simp
      refine (ref_Number _ y _ rfl HQK.out.2).mono ?_
      rintro e z3 ⟨y1, rfl, ho, hb⟩
      refine hK.out _ _ (hS.trans (hb.mono (Nat.le_trans HZB.out hS.size))) (fun _ => ?_)
      clear hK K
      replace hS := hS.trans (hb.mono (Nat.le_trans HZB.out hS.size))
      obtain ⟨a7, c7, rfl, h6⟩ := own_bytesAt ho
      have S2 := Lib.hid (h6.src Try.underlying23 c7)
      have O3 := Lib.hid (own_later O2.out hb (Nat.le_refl _))
      clear ho h6
      clear hb
      try simp only [Act.put, List.setIfInBounds_toArray, List.set_cons_zero, List.set_cons_succ]
      refine wpAnyH_ready (rs := [14]) (by kernel_rfl) (by simp) (AllReadyH.cons (o := ⟨some 81, _, _, _, _, _⟩) rfl (fun K hK => ?_) AllReadyH.nil)
      refine step_appb rfl _ _ _ _ rfl w3.heap.size 5 BT.out v7 (enc qs.length ++ penc (qs.take k) ++ enc x) rfl O3.out (.slice a7 (enc y).length c7) (enc y) rfl S2.out (by have := HPL.out; simp; omega) (Nat.le_trans HZq.out hS.size) ?_
      intro v8 z4 hown hgr hb _
      refine hK.out _ _ (hS.trans hb) (fun _ => ?_)
      clear hK K
      replace hS := hS.trans hb
      have O4 := Lib.hid hown
      clear hown
      clear hb hgr
      try simp only [Act.put, List.setIfInBounds_toArray, List.set_cons_zero, List.set_cons_succ]
      refine wpAnyH_take (i := 15) (oi := ⟨some 8, _, _, _, _, _⟩) (v := ?_) rfl (by kernel_rfl) (by kernel_rfl) (by kernel_rfl) (fun _ _ _ h => h) (Or.inl ⟨by rfl, ?_⟩) hS ?_
      rotate_left 1
      · intro w' hB; have r0 := (hB.cell (p := ⟨ba, off + k * 2, none⟩) (Nat.lt_of_lt_of_le HBA.out HZ3.out)).trans q0.out; have r1 := (hB.cell (p := ⟨ba, off + k * 2 + 1, none⟩) (Nat.lt_of_lt_of_le HBA.out HZ3.out)).trans q1.out; (go_simp <;> with_reducible rfl)
      try simp only [Act.put, List.setIfInBounds_toArray, List.set_cons_zero, List.set_cons_succ]
      refine wpAnyH_done (by kernel_rfl) (NoPanic.normal ?_) _
      have HEND : Hid (z4.ownsRow w3.heap.size 5 1 v8 (enc qs.length ++ penc (qs.take (k + 1))).length (bvs (enc qs.length ++ penc (qs.take (k + 1))))) := Lib.hid (by have := O4.out; rw [List.append_assoc, List.append_assoc, ← HS.out] at this; exact this)
      have HCz : Hid (Chain [w3, w2, w] z4) := Lib.hid (fun W hW => (HCq.out W hW).trans (hS.mono (by simp only [List.mem_cons, List.not_mem_nil, or_false] at hW; rcases hW with h | h | h <;> subst h; exact Nat.le_refl _; exact (HC.out.to _ (by simp)).size; exact HZ3.out)))
      clear hS
      go_wp2_with fail
      go_roundw
      case rel => exact ⟨k + 1, by omega, by go_num, HEND.out, HCz.out⟩
      case measure => simp [intOf]; omega
    · obtain rfl : k = qs.length := by omega
      rw [List.take_length] at HO
      replace HO : Hid (wo.ownsRow w3.heap.size 5 1 u8 (lenc qs).length (bvs (lenc qs))) := HO
      have hLl : (lenc qs).length ≤ 33554432 := by have := penc_le qs; unfold lenc; simp; omega
      go_wp2_with fail
      have HCw := HCr
      clear HCr
      have HWo : Hid (w3.heap.size ≤ wo.heap.size) := Lib.hid (HCw.out.to w3 (by simp)).size
      refine (rd_Open (lenc qs) _ _ _ _ (H3.out.below (HCw.out.to w3 (by simp)) rfl) rfl (by omega)).mono ?_
      rintro e x1 ⟨g, ad, capr, rfl, hg, hr, hb, _⟩
      have HR1 := Lib.hid hr; clear hr
      have HG : Hid (∀ W ∈ [w3, w2, w], W.heap.size ≤ g) := Lib.hid (fun W hW => Nat.le_trans (HCw.out W hW).size hg); clear hg
      have HC1 : Hid (Chain [w3, w2, w] x1) := Lib.hid (HCw.out.push hb).drop
      obtain ⟨a8, c8, rfl, h8⟩ := own_bytesAt HO.out
      have s1 := (H3.out.below (HC1.out.to w3 (by simp)) rfl).str (lenc qs).length c3 rfl
      have s2 := (h8.below hb rfl).str (lenc qs).length c8 rfl
      clear hb h8 HO HCw
      have HLA := Lib.hid (lists_all qs (by omega) HQ.out)
      have HLC := Lib.hid (lists_cut qs (by omega) HQ.out)
      have HLF := Lib.hid (lists_few qs (by omega))
      generalize lenc qs = L at *
      clear hEN
      by_cases hpos : 0 < qs.length
      case' pos =>
        have hp0 : (0 : Int) < (qs.length : Int) := by omega
        have hw2 : IntKind.i64.wrap ((qs.length : Int) - 1) = (qs.length : Int) - 1 := i64_wrap (by omega) (by omega)
        go_wp2_with fail
        clear s1 s2
        refine (take_pairs ((qs.length : Int) - 1) (by omega) (by omega) HR1.out).mono ?_
        rintro e x2 ⟨v2, rfl, hown, hr⟩
        rw [HLF.out hpos] at hr hown ⊢
        obtain ⟨an, cn, rfl, _, _⟩ := own_slice hown
        clear hown
        have HC2 := Lib.hid (HC1.out.only hr.grown HG.out HR1.out.lt)
        have HR2 := Lib.hid hr; clear hr
        go_wp2_with fail
        refine (num_any 3 _).mono ?_
        rintro e x3 ⟨rfl, rfl⟩
        go_wp2_with fail
        refine (rd_Left HR2.out.rd).mono ?_
        rintro e x3 ⟨rfl, hq⟩
        rw [Nat.sub_zero]
        have CC : Hid (Chain [w3, w2, w] x3) := Lib.hid (fun W hW => (HC2.out W hW).trans (drew_below hq))
        have RR : Hid (wRd x3 g (some ad) capr L 0) := Lib.hid (by obtain ⟨q', rfl⟩ := hq; exact (Reads.stayd HR2.out.rd q').rd)
        clear hq HR1 HR2 HC1 HC2
        go_wp2_with fail
        clear hp0 hw2
      case' neg =>
        have hp0 : ¬ (0 : Int) < (qs.length : Int) := by omega
        go_wp2_with fail
        clear s1 s2 hp0
        have CC := HC1
        have RR := HR1
        clear HC1 HR1
        generalize x1 = x3 at *
      all_goals
        refine (take_pairs (qs.length : Int) (by omega) (by omega) RR.out).mono ?_
        rintro e x4 ⟨v4, rfl, hown, hr⟩
        rw [HLA.out] at hr hown ⊢
        obtain ⟨an4, cn4, rfl, hnc, hnm⟩ := own_slice hown
        have HP4 := Lib.hid (own_pairs hown); clear hown
        have C4 := Lib.hid (CC.out.only hr.grown HG.out RR.out.lt)
        have R4 := Lib.hid hr; clear hr
        go_wp2_with fail
        refine (num_any 0 _).mono ?_
        rintro e x5 ⟨rfl, rfl⟩
        go_wp2_with fail
        refine (rd_Left R4.out.rd).mono ?_
        rintro e x5 ⟨rfl, hq⟩
        rw [Nat.sub_self]
        have C5 : Hid (Chain [w3, w2, w] x5) := Lib.hid (fun W hW => (C4.out W hW).trans (drew_below hq))
        have HP5 := Lib.hid (HP4.out.below (drew_below hq) rfl)
        clear hq R4 C4 HP4
        go_wp2_with fail
        go_loopw [15] (fun i wr => ∃ k : Nat, k ≤ qs.length ∧ i = .int .i64 (k : Int) ∧ Below x5.heap.size x5 wr) (fun i _ => qs.length - (intOf i).toNat)
        case atStart => exact ⟨0, Nat.zero_le _, rfl, Below.refl _ _⟩
        case round =>
          obtain ⟨k, hk, rfl, hq⟩ := hrel
          have C6 : Hid (Chain [w3, w2, w] wr) := Lib.hid (fun W hW => (C5.out W hW).trans (hq.mono (C5.out W hW).size))
          have HP6 := Lib.hid (HP5.out.below hq rfl)
          have HQ6 := Lib.hid hq
          clear hq
          by_cases hlt : k < qs.length
          · obtain ⟨ba, off, rfl, c0, c1⟩ := (H.out.below (C6.out.to w (by simp)) rfl) k (by rw [pI_length]; exact hlt)
            obtain ⟨b1, o1, rfl, d0, d1⟩ := HP6.out k (by rw [pI_length]; exact hlt)
            simp only [pI, List.getElem_map] at c0 c1 d0 d1
            generalize hq' : qs[k] = q at *
            clear hq'
            obtain ⟨x, y⟩ := q
            simp only at c0 c1 d0 d1
            have hi0 : (0 : Int) ≤ (k : Int) := by omega
            have hi1 : (k : Int) < (qs.length : Int) := by omega
            go_wp2_with fail
            go_quiet (fail)
            go_wp2_with fail
            go_roundw
            case rel => exact ⟨k + 1, by omega, by go_num, below_drews HQ6.out _⟩
            case measure => simp [intOf]; omega
          · by_cases hcn : cut < 0
            · go_wp2_with fail
              refine (rd_known _).mono ?_
              rintro e y1 ⟨rfl, hb⟩
              go_wp2_with fail
              go_ret
              exact ⟨rfl, (C6.out.to w (by simp)).trans (hb.mono (C6.out.to w (by simp)).size)⟩
            · by_cases hcl : cut < (L.length : Int)
              · obtain ⟨c, rfl⟩ : ∃ c : Nat, cut = c := ⟨cut.toNat, by omega⟩
                have hcc : c < L.length := by omega
                have hci : (c : Int) ≤ (c3 : Int) := by omega
                have hge : ¬ (L.length : Int) ≤ (c : Int) := by omega
                go_wp2_with fail
                refine (rd_Open (L.take c) _ _ _ _ ((H3.out.below (C6.out.to w3 (by simp)) rfl).take c) (by simp; omega) (by simp; omega)).mono ?_
                rintro e y1 ⟨g9, ad9, cap9, rfl, hg9, hr, hb, _⟩
                have D1 : Hid (Below w.heap.size w y1) := Lib.hid ((C6.out.to w (by simp)).trans (hb.mono (C6.out.to w (by simp)).size))
                have G9 : Hid (w.heap.size ≤ g9) := Lib.hid (Nat.le_trans (C6.out.to w (by simp)).size hg9)
                have R9 := Lib.hid hr
                clear hr hb hg9
                go_wp2_with fail
                refine (take_pairs (qs.length : Int) (by omega) (by simp; omega) R9.out).mono ?_
                rintro e y2 ⟨v9, rfl, hown, hr⟩
                rw [HLC.out c hcc] at hr hown ⊢
                obtain ⟨a9, c9, rfl, _, _⟩ := own_slice hown
                clear hown
                have D2 : Hid (Below w.heap.size w y2) := Lib.hid (D1.out.trans (only_below hr.grown G9.out R9.out.lt))
                have R10 := Lib.hid hr; clear hr
                go_wp2_with fail
                refine (num_any 4 _).mono ?_
                rintro e y3 ⟨rfl, rfl⟩
                go_wp2_with fail
                refine (rd_Left R10.out.rd).mono ?_
                rintro e y3 ⟨rfl, hq⟩
                have D3 : Hid (Below w.heap.size w y3) := Lib.hid (D2.out.trans (drew_below hq))
                clear hq
                rw [Nat.sub_zero, show (L.take c).length = c by simp; omega]
                go_wp2_with fail
                refine (rd_known _).mono ?_
                rintro e y4 ⟨rfl, hb⟩
                go_wp2_with fail
                go_ret
                exact ⟨rfl, D3.out.trans (hb.mono D3.out.size)⟩
              · have hge : (L.length : Int) ≤ cut := by omega
                go_wp2_with fail
                refine (rd_known _).mono ?_
                rintro e y1 ⟨rfl, hb⟩
                go_wp2_with fail
                go_ret
                exact ⟨rfl, (C6.out.to w (by simp)).trans (hb.mono (C6.out.to w (by simp)).size)⟩
end Go.Proofs.Ytbgnkdbbkkoinaa

