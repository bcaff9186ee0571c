
/- Walks: MapMakes (under way). -/
import Derived.Test.YtikdlhbamdefaaaLwO
import Derived.Test.YtikdlhbamdefaaaTail2
import Derived.Deep.DeepCutAuto
namespace Go.Proofs.Ytikdlhbamdefaaa
open Go.RowKit Pm
set_option maxRecDepth 100000 in
set_option maxHeartbeats 8000000 in
theorem lw_MapMakes (ks ms : List ByteArray) (vs : List Int) (ak av am : Option Addr) (ck cv cm : Nat) (key : ByteArray) (w : World) (hk : CellsAt w ak (ks.map Value.string)) (hv : CellsAt w av (vs.map (Value.int .i64))) (hm : CellsAt w am (ms.map Value.string)) (hlk : ks.length ≤ maxLen) (hlv : vs.length ≤ maxLen) (hlm : ms.length ≤ maxLen) :
    Calls Try.prog 4 #[.slice ak ks.length ck, .slice av vs.length cv, .slice am ms.length cm, .string key] w fun e w' => e = .returned (.bool true) ∧ Below w.heap.size w w' := by
  have HK := Lib.hid hk
  have HV := Lib.hid hv
  have HM := Lib.hid hm
  clear hk hv hm
  obtain ⟨n, hn⟩ : ∃ n, ks.length = n := ⟨_, rfl⟩
  obtain ⟨m, hm⟩ : ∃ m, vs.length = m := ⟨_, rfl⟩
  obtain ⟨p, hp⟩ : ∃ p, ms.length = p := ⟨_, rfl⟩
  have HN := Lib.hid hn
  have HMM := Lib.hid hm
  have HP := Lib.hid hp
  rw [hn] at hlk ⊢
  rw [hm] at hlv ⊢
  rw [hp] at hlm ⊢
  clear hn hm hp
  unfold maxLen at hlk hlv hlm
  obtain ⟨B0, hB0⟩ : ∃ B0, ((n : Int) != (m : Int)) = B0 := ⟨_, rfl⟩
  have HB0 : Hid (B0 = true ↔ n ≠ m) := Lib.hid (by rw [← hB0]; simp; omega)
  by_cases hbig : 40 < n ∨ 40 < p
  · have hkn := lw_known w
    have HKN := Lib.hid hkn
    clear hkn
    by_cases h1 : 40 < n
    · have h1i : (40 : Int) < (n : Int) := by omega
      go_enter Try.func4, Try.ntmps4
      go_wp2_with fail
      refine HKN.out.mono ?_
      rintro e w1 ⟨rfl, hb⟩
      go_wp2_with fail
      go_ret
      exact ⟨rfl, hb⟩
    · have h1i : ¬ (40 : Int) < (n : Int) := by omega
      have h2i : (40 : Int) < (p : Int) := by omega
      go_enter Try.func4, Try.ntmps4
      go_wp2_with fail
      refine HKN.out.mono ?_
      rintro e w1 ⟨rfl, hb⟩
      go_wp2_with fail
      go_ret
      exact ⟨rfl, hb⟩
  · have h1 : n ≤ 40 := by omega
    have h2 : p ≤ 40 := by omega
    have h1i : ¬ (40 : Int) < (n : Int) := by omega
    have h2i : ¬ (40 : Int) < (p : Int) := by omega
    clear hbig
    have hOf := pm_OfAnyI ks vs ak av ck cv w HK.out HV.out (by rw [HN.out]; omega) (by rw [HMM.out]; omega)
    rw [HN.out, HMM.out] at hOf
    have HOF := Lib.hid hOf
    clear hOf
    go_enter Try.func4, Try.ntmps4
    go_wp2_with fail
    refine HOF.out.mono ?_
    rintro e w1 ⟨t, ee, hO, rfl, hA, hb⟩
    have HO := Lib.hid hO
    obtain ⟨b9, hb9⟩ : ∃ b9, w1.heap.size = b9 := ⟨_, rfl⟩
    have M1 : Hid (Mm1 w b9 t (w1.alloc (.cells #[.pointer (pa t)] 26))) := Lib.hid ⟨hA.below (below_new _ _) rfl, by rw [← hb9]; exact heap_alloc_new w1 _, hb.trans ((below_new w1 _).mono hb.size), by rw [← hb9]; exact hb.size⟩
    have HB9 := Lib.hid hb9
    clear hO hA hb hb9 HOF
    go_wp2_with fail
    rw [HB9.out]
    generalize w1.alloc (.cells #[.pointer (pa t)] 26) = w2 at *
    clear HB9
    clear hB0
    go_loopw [11, 12, 13] (fun sb sl si wr => ∃ (i : Nat) (l : List (ByteArray × Int)) (bad : Bool), sb = .bool bad ∧ si = .int .i64 (i : Int) ∧ i ≤ n ∧ Hid (EntAt wr sl l) ∧ Hid (Mm1 w b9 t wr) ∧ Hid (Srt l ∧ l.length ≤ i) ∧ Hid ((bad = false ∧ n = m ∧ ofL [] ((ks.zip vs).take i) = some l) ∨ (bad = true ∧ (n ≠ m ∨ ofL [] (ks.zip vs) = none)))) (fun _ _ si _ => n - (intOf si).toNat)
    case atStart =>
      refine ⟨0, [], B0, rfl, rfl, Nat.zero_le _, Lib.hid ⟨none, 0, rfl, Nat.le_refl _, Nat.zero_le _, CellsAt.nil _ _⟩, M1, Lib.hid ⟨List.Pairwise.nil, Nat.le_refl _⟩, Lib.hid ?_⟩
      cases B0 with
      | false => exact .inl ⟨rfl, by have := HB0.out; simp at this; exact this, by simp [ofL]⟩
      | true => exact .inr ⟨rfl, .inl (HB0.out.1 rfl)⟩
    case round =>
      clear M1 HB0
      obtain ⟨i, l, bad, rfl, rfl, hi, HE, M1, HS, HC⟩ := hrel
      cases bad with
      | true =>
        as_aux_lemma =>
          have hte : t = .nil ∧ ee = 2 := by
            rcases HC.out with ⟨h, _⟩ | ⟨_, h⟩
            · cases h
            · rcases HO.out with ⟨q1, q2, _⟩ | ⟨_, q2, q3⟩
              · rw [HN.out, HMM.out] at q1
                rcases h with h | h
                · exact absurd q1 h
                · rw [h] at q2; cases q2
              · exact ⟨q2, q3⟩
          obtain ⟨rfl, rfl⟩ := hte
          clear HC HS HO HE
          have k4 := cell_of_one M1.out.2.1
          have hpa : pa (.nil : Tr Int) = none := rfl
          rw [hpa] at k4
          clear hpa
          by_cases hlt : (i : Int) < (n : Int)
          all_goals
            go_wp2_with fail
            refine (pm_MLenI .nil wr trivial).mono ?_
            rintro e w3 ⟨rfl, hb⟩
            have hsz : ((sz (.nil : Tr Int) : Nat) : Int) = 0 := rfl
            rw [hsz]
            have D3 : Hid (Below w.heap.size w w3) := Lib.hid (M1.out.2.2.1.trans (hb.mono M1.out.2.2.1.size))
            clear hb k4 hsz M1
            go_wp2_with fail
            refine (lw_known w3).mono ?_
            rintro e w4 ⟨rfl, hb⟩
            have D4 : Hid (Below w.heap.size w w4) := Lib.hid (D3.out.trans (hb.mono D3.out.size))
            clear hb
            go_wp2_with fail
            go_ret
            exact ⟨rfl, D4.out⟩
      | false =>
        by_cases hlt : i < n
        · have hx0 : True := trivial
          as_aux_lemma =>
            have hnm : n = m := by rcases HC.out with ⟨_, h, _⟩ | ⟨h, _⟩ <;> first | exact h | cases h
            subst hnm
            have HOL : Hid (ofL [] ((ks.zip vs).take i) = some l) := Lib.hid (by rcases HC.out with ⟨_, _, h⟩ | ⟨h, _⟩ <;> first | exact h | cases h)
            clear HC
            have hli : (i : Int) < (n : Int) := by omega
            have hnle : ¬ n ≤ i := by omega
            have hdle : decide (n ≤ i) = false := by simp; omega
            have hik : i < ks.length := by rw [HN.out]; omega
            have hiv : i < vs.length := by rw [HMM.out]; omega
            obtain ⟨k, hkk⟩ : ∃ x, ks[i]'hik = x := ⟨_, rfl⟩
            obtain ⟨v, hvv⟩ : ∃ x, vs[i]'hiv = x := ⟨_, rfl⟩
            obtain ⟨b, off, ha, hc0⟩ := HK.out.get i (.string k) (by rw [List.getElem?_map, List.getElem?_eq_getElem hik, hkk]; rfl)
            obtain ⟨b1, off1, ha1, hc1⟩ := HV.out.get i (.int .i64 v) (by rw [List.getElem?_map, List.getElem?_eq_getElem hiv, hvv]; rfl)
            have NX : Hid ((isL l k = true → ofL [] (ks.zip vs) = none) ∧ (isL l k = false → ofL [] ((ks.zip vs).take (i + 1)) = some (ins k v l))) := Lib.hid (ofL_next (ks.zip vs) i k v l (by rw [List.getElem?_zip_eq_some]; exact ⟨by rw [List.getElem?_eq_getElem hik, hkk], by rw [List.getElem?_eq_getElem hiv, hvv]⟩) HOL.out HS.out.1)
            subst ha
            subst ha1
            have Q0 : Hid (wr.cell? ⟨b, off + i, none⟩ = some (.string k)) := Lib.hid ((M1.out.2.2.1.cell (p := ⟨b, off + i, none⟩) (block_lt_of_cell hc0)).trans hc0)
            have Q1 : Hid (wr.cell? ⟨b1, off1 + i, none⟩ = some (.int .i64 v)) := Lib.hid ((M1.out.2.2.1.cell (p := ⟨b1, off1 + i, none⟩) (block_lt_of_cell hc1)).trans hc1)
            obtain ⟨al, capl, rfl, hcapl, hcml, hcl⟩ := HE.out
            have HCL := Lib.hid hcl
            have hll : l.length ≤ 40 := by have := HS.out.2; omega
            have hcm2 : capl ≤ 140737488355328 ∨ True := .inr trivial
            have HCP : Hid (l.length ≤ capl ∧ capl ≤ maxLen) := Lib.hid ⟨hcapl, hcml⟩
            clear hc0 hc1 hkk hvv hik hiv HE hcl HOL hcapl hcml hcm2
            have q0 := Q0.out
            go_wp2_with fail
            refine (lw_at l k al capl wr HCL.out (by omega)).mono ?_
            rintro e w3 ⟨rfl, hb⟩
            obtain ⟨bb, hbb⟩ : ∃ bb, isL l k = bb := ⟨_, rfl⟩
            have HBB := Lib.hid hbb
            rw [hbb]
            have M3 := Lib.hid (M1.out.below hb)
            have CL3 := Lib.hid (HCL.out.below hb rfl)
            have R0 := Lib.hid ((hb.cell (p := ⟨b, off + i, none⟩) (block_lt_of_cell Q0.out)).trans Q0.out)
            have R1 := Lib.hid ((hb.cell (p := ⟨b1, off1 + i, none⟩) (block_lt_of_cell Q1.out)).trans Q1.out)
            clear hb q0 M1 HCL Q0 Q1 hbb
            go_wp2_with fail
            have HC : Hid (Chain [w3] w3) := Lib.hid (Chain.one w3)
            refine wp_region_noPanic ?_
            refine wp_region_held_drew (S := fun w' => Below w3.heap.size w3 w') (by kernel_rfl) (Below.refl _ _).drew (fun hS => ?_)
            refine wpAnyH_take (i := 0) (oi := ⟨some 62, _, _, _, _, _⟩) (v := ?_) rfl (by kernel_rfl) (by kernel_rfl) (by kernel_rfl) (fun _ _ _ h => h) (Or.inl ⟨by rfl, ?_⟩) hS ?_
            rotate_left 1
            · intro w' hB; have hd := (HC.out.to w3 (by simp)).trans (hB.mono (HC.out.to w3 (by simp)).size); have q0 := (hd.cell (p := ⟨b, off + i, none⟩) (block_lt_of_cell R0.out)).trans R0.out; have q1 := (hd.cell (p := ⟨b1, off1 + i, none⟩) (block_lt_of_cell R1.out)).trans R1.out; clear hd; have hnle := hnle; have hdle := hdle; have hli := hli; (go_simp <;> with_reducible rfl)
            try simp only [Act.put, List.setIfInBounds_toArray, List.set_cons_zero, List.set_cons_succ]
            refine wpAnyH_take (i := 1) (oi := ⟨some 63, _, _, _, _, _⟩) (v := ?_) rfl (by kernel_rfl) (by kernel_rfl) (by kernel_rfl) (fun _ _ _ h => h) (Or.inl ⟨by rfl, ?_⟩) hS ?_
            rotate_left 1
            · intro w' hB; have hd := (HC.out.to w3 (by simp)).trans (hB.mono (HC.out.to w3 (by simp)).size); have q0 := (hd.cell (p := ⟨b, off + i, none⟩) (block_lt_of_cell R0.out)).trans R0.out; have q1 := (hd.cell (p := ⟨b1, off1 + i, none⟩) (block_lt_of_cell R1.out)).trans R1.out; clear hd; have hnle := hnle; have hdle := hdle; have hli := hli; (go_simp <;> with_reducible rfl)
            try simp only [Act.put, List.setIfInBounds_toArray, List.set_cons_zero, List.set_cons_succ]
            refine wpAnyH_take (i := 2) (oi := ⟨some 64, _, _, _, _, _⟩) (v := ?_) rfl (by kernel_rfl) (by kernel_rfl) (by kernel_rfl) (fun _ _ _ h => h) (Or.inl ⟨by rfl, ?_⟩) hS ?_
            rotate_left 1
            · intro w' hB; have hd := (HC.out.to w3 (by simp)).trans (hB.mono (HC.out.to w3 (by simp)).size); have q0 := (hd.cell (p := ⟨b, off + i, none⟩) (block_lt_of_cell R0.out)).trans R0.out; have q1 := (hd.cell (p := ⟨b1, off1 + i, none⟩) (block_lt_of_cell R1.out)).trans R1.out; clear hd; have hnle := hnle; have hdle := hdle; have hli := hli; (go_simp <;> with_reducible rfl)
            try simp only [Act.put, List.setIfInBounds_toArray, List.set_cons_zero, List.set_cons_succ]
            refine wpAnyH_take (i := 3) (oi := ⟨some 65, _, _, _, _, _⟩) (v := ?_) rfl (by kernel_rfl) (by kernel_rfl) (by kernel_rfl) (fun _ _ _ h => h) (Or.inl ⟨by rfl, ?_⟩) hS ?_
            rotate_left 1
            · intro w' hB; have hd := (HC.out.to w3 (by simp)).trans (hB.mono (HC.out.to w3 (by simp)).size); have q0 := (hd.cell (p := ⟨b, off + i, none⟩) (block_lt_of_cell R0.out)).trans R0.out; have q1 := (hd.cell (p := ⟨b1, off1 + i, none⟩) (block_lt_of_cell R1.out)).trans R1.out; clear hd; have hnle := hnle; have hdle := hdle; have hli := hli; (go_simp <;> with_reducible rfl)
            try simp only [Act.put, List.setIfInBounds_toArray, List.set_cons_zero, List.set_cons_succ]
            refine wpAnyH_take (i := 4) (oi := ⟨some 66, _, _, _, _, _⟩) (v := ?_) rfl (by kernel_rfl) (by kernel_rfl) (by kernel_rfl) (fun _ _ _ h => h) (Or.inl ⟨by rfl, ?_⟩) hS ?_
            rotate_left 1
            · intro w' hB; have hd := (HC.out.to w3 (by simp)).trans (hB.mono (HC.out.to w3 (by simp)).size); have q0 := (hd.cell (p := ⟨b, off + i, none⟩) (block_lt_of_cell R0.out)).trans R0.out; have q1 := (hd.cell (p := ⟨b1, off1 + i, none⟩) (block_lt_of_cell R1.out)).trans R1.out; clear hd; have hnle := hnle; have hdle := hdle; have hli := hli; (go_simp <;> with_reducible rfl)
            try simp only [Act.put, List.setIfInBounds_toArray, List.set_cons_zero, List.set_cons_succ]
            refine wpAnyH_take (i := 5) (oi := ⟨some 67, _, _, _, _, _⟩) (v := ?_) rfl (by kernel_rfl) (by kernel_rfl) (by kernel_rfl) (fun _ _ _ h => h) (Or.inl ⟨by rfl, ?_⟩) hS ?_
            rotate_left 1
            · intro w' hB; have hd := (HC.out.to w3 (by simp)).trans (hB.mono (HC.out.to w3 (by simp)).size); have q0 := (hd.cell (p := ⟨b, off + i, none⟩) (block_lt_of_cell R0.out)).trans R0.out; have q1 := (hd.cell (p := ⟨b1, off1 + i, none⟩) (block_lt_of_cell R1.out)).trans R1.out; clear hd; have hnle := hnle; have hdle := hdle; have hli := hli; (go_simp <;> with_reducible rfl)
            try simp only [Act.put, List.setIfInBounds_toArray, List.set_cons_zero, List.set_cons_succ]
            refine wpAnyH_take (i := 6) (oi := ⟨some 68, _, _, _, _, _⟩) (v := ?_) rfl (by kernel_rfl) (by kernel_rfl) (by kernel_rfl) (fun _ _ _ h => h) (Or.inl ⟨by rfl, ?_⟩) hS ?_
            rotate_left 1
            · intro w' hB; have hd := (HC.out.to w3 (by simp)).trans (hB.mono (HC.out.to w3 (by simp)).size); have q0 := (hd.cell (p := ⟨b, off + i, none⟩) (block_lt_of_cell R0.out)).trans R0.out; have q1 := (hd.cell (p := ⟨b1, off1 + i, none⟩) (block_lt_of_cell R1.out)).trans R1.out; clear hd; have hnle := hnle; have hdle := hdle; have hli := hli; (go_simp <;> with_reducible rfl)
            try simp only [Act.put, List.setIfInBounds_toArray, List.set_cons_zero, List.set_cons_succ]
            refine wpAnyH_take (i := 7) (oi := ⟨some 69, _, _, _, _, _⟩) (v := ?_) rfl (by kernel_rfl) (by kernel_rfl) (by kernel_rfl) (fun _ _ _ h => h) (Or.inl ⟨by rfl, ?_⟩) hS ?_
            rotate_left 1
            · intro w' hB; have hd := (HC.out.to w3 (by simp)).trans (hB.mono (HC.out.to w3 (by simp)).size); have q0 := (hd.cell (p := ⟨b, off + i, none⟩) (block_lt_of_cell R0.out)).trans R0.out; have q1 := (hd.cell (p := ⟨b1, off1 + i, none⟩) (block_lt_of_cell R1.out)).trans R1.out; clear hd; have hnle := hnle; have hdle := hdle; have hli := hli; (go_simp <;> with_reducible rfl)
            try simp only [Act.put, List.setIfInBounds_toArray, List.set_cons_zero, List.set_cons_succ]
            refine wpAnyH_take (i := 8) (oi := ⟨some 70, _, _, _, _, _⟩) (v := ?_) rfl (by kernel_rfl) (by kernel_rfl) (by kernel_rfl) (fun _ _ _ h => h) (Or.inl ⟨by rfl, ?_⟩) hS ?_
            rotate_left 1
            · intro w' hB; have hd := (HC.out.to w3 (by simp)).trans (hB.mono (HC.out.to w3 (by simp)).size); have q0 := (hd.cell (p := ⟨b, off + i, none⟩) (block_lt_of_cell R0.out)).trans R0.out; have q1 := (hd.cell (p := ⟨b1, off1 + i, none⟩) (block_lt_of_cell R1.out)).trans R1.out; clear hd; have hnle := hnle; have hdle := hdle; have hli := hli; (go_simp <;> with_reducible rfl)
            try simp only [Act.put, List.setIfInBounds_toArray, List.set_cons_zero, List.set_cons_succ]
            refine wpAnyH_ready (rs := [9]) (by kernel_rfl) (by simp) (AllReadyH.cons (o := ⟨some 71, _, _, _, _, _⟩) rfl (fun K hK => ?_) AllReadyH.nil)
            go_simp
            refine (lw_put l k v (.slice al l.length capl) _ (EntAt.below ⟨al, capl, rfl, HCP.out.1, HCP.out.2, CL3.out⟩ ((HC.out.to w3 (by simp)).trans (hS.mono (HC.out.to w3 (by simp)).size))) (by omega)).mono ?_
            rintro e w4 ⟨v4, rfl, hE, hb⟩
            refine hK.out _ _ (hS.trans (hb.mono hS.size)) (fun _ => ?_)
            clear hK K
            have hB := hS.trans (hb.mono hS.size)
            refine wpAnyH_now hB ?_
            clear hS
            have hS := Below.refl w4.heap.size w4
            replace HC := Lib.hid (HC.out.push hB)
            have E4 := Lib.hid hE
            clear hE
            clear hB hb
            try simp only [Act.put, List.setIfInBounds_toArray, List.set_cons_zero, List.set_cons_succ]
            refine wpAnyH_take (i := 10) (oi := ⟨some 12, _, _, _, _, _⟩) (v := ?_) rfl (by kernel_rfl) (by kernel_rfl) (by kernel_rfl) (fun _ _ _ h => h) (Or.inl ⟨by rfl, ?_⟩) hS ?_
            rotate_left 1
            · intro w' hB; have hd := (HC.out.to w3 (by simp)).trans (hB.mono (HC.out.to w3 (by simp)).size); have q0 := (hd.cell (p := ⟨b, off + i, none⟩) (block_lt_of_cell R0.out)).trans R0.out; have q1 := (hd.cell (p := ⟨b1, off1 + i, none⟩) (block_lt_of_cell R1.out)).trans R1.out; clear hd; have hnle := hnle; have hdle := hdle; have hli := hli; (go_simp <;> with_reducible rfl)
            try simp only [Act.put, List.setIfInBounds_toArray, List.set_cons_zero, List.set_cons_succ]
            refine wpAnyH_done (by kernel_rfl) (NoPanic.normal ?_) _
            have M4 := Lib.hid (M3.out.below (HC.out.to w3 (by simp)))
            clear hS HC M3 CL3 R0 R1
            go_wp2_with fail
            go_roundw
            case rel =>
              refine ⟨i + 1, ins k v l, bb, rfl, by simp, by omega, E4, M4, Lib.hid ⟨ins_srt HS.out.1, ?_⟩, Lib.hid ?_⟩
              · have := ins_length (k := k) (v := v) l
                have := HS.out.2
                omega
              · cases bb with
                | false => refine .inl ⟨?_, ?_, ?_⟩ <;> first | rfl | trivial | exact NX.out.2 HBB.out
                | true => refine .inr ⟨?_, ?_⟩ <;> first | rfl | trivial | exact .inr (NX.out.1 HBB.out)
            case measure =>
              have p1 : (intOf (Value.int .i64 ((i : Int) + 1))).toNat = i + 1 := by simp [intOf]
              have p2 : (intOf (Value.int .i64 (i : Int))).toNat = i := by simp [intOf]
              first | (rw [p1, p2]; omega) | (simp [intOf]; omega)
        · have hli : ¬ (i : Int) < (n : Int) := by omega
          have hin : i = n := by omega
          subst hin
          have hte : ee = 0 ∧ items t = l ∧ Bal t := by
            rcases HC.out with ⟨_, h1, h2⟩ | ⟨h, _⟩
            · rw [List.take_of_length_le (by simp; have := HN.out; omega)] at h2
              rcases HO.out with ⟨q1, q2, q3, q4, q5⟩ | ⟨q1, q2, q3⟩
              · rw [h2] at q2; cases q2; exact ⟨q5, rfl, q3⟩
              · rw [HN.out, HMM.out] at q1
                rcases q1 with q1 | q1
                · exact absurd h1 q1
                · rw [h2] at q1; cases q1
            · cases h
          obtain ⟨rfl, rfl, hbal⟩ := hte
          have HS1 : Hid (Bal t ∧ Srt (items t)) := Lib.hid ⟨hbal, HS.out.1⟩
          have hq40 : sz t ≤ 40 := by have := HS.out.2; rw [sz_items] at this; omega
          obtain ⟨q, hq⟩ : ∃ q, sz t = q := ⟨_, rfl⟩
          have HQ := Lib.hid hq
          obtain ⟨al, capl, rfl, hcapl, hcml, hcl⟩ := HE.out
          rw [sz_items, hq] at hcapl
          rw [sz_items, hq]
          rw [hq] at hq40
          have HCL := Lib.hid hcl
          have HCP : Hid (q ≤ capl ∧ capl ≤ maxLen) := Lib.hid ⟨hcapl, hcml⟩
          clear hbal hq hcapl hcml hcl HC HS HO HE
          have htl : ∀ (W : World) (lv : Int) (ky : ByteArray), Below wr.heap.size wr W → Calls Try.prog 13 #[.agg #[.pointer (pa t)], .slice al q capl, .int .i64 lv, .string ky] W fun e w' => e = .returned (.bool true) ∧ Below W.heap.size W w' := fun W lv ky hb => by
            have := lw_tells t al capl lv ky W (M1.out.1.below hb rfl) HS1.out.1 HS1.out.2 (HCL.out.below hb rfl) (by rw [HQ.out]; omega) (by rw [HQ.out]; exact HCP.out.1)
            rw [HQ.out] at this
            exact this
          have HTL := Lib.hid htl
          have k4 := cell_of_one M1.out.2.1
          clear htl
          go_wp2_with fail
          refine (HTL.out _ 1 key (Below.refl _ _)).mono ?_
          rintro e w3 ⟨rfl, hb⟩
          have M3 := Lib.hid (M1.out.below hb)
          have CL3 := Lib.hid (HCL.out.below hb rfl)
          clear hb k4 M1 HCL HTL
          have M5 : Hid (Mm2 w b9 w3.heap.size t .nil (w3.alloc (.cells #[.pointer none] 26))) := Lib.hid ⟨M3.out.below (below_new _ _), trivial, heap_alloc_new w3 _, by
            have := M3.out.2.1
            exact (Array.getElem?_eq_some_iff.1 this).1⟩
          have CL5 := Lib.hid (CL3.out.below (below_new w3 (.cells #[.pointer none] 26)) rfl)
          clear M3 CL3
          go_wp2_with fail
          obtain ⟨b14, hb14⟩ : ∃ b, w3.heap.size = b := ⟨_, rfl⟩
          rw [hb14] at M5
          rw [hb14]
          clear hb14
          generalize w3.alloc (.cells #[.pointer none] 26) = w4 at *
          obtain ⟨wo, rfl⟩ : ∃ wo : World, wo = wr := ⟨_, rfl⟩
          go_loopw [15, 16] (fun sr si wr => ∃ (j : Nat) (o : Tr Int), si = .int .i64 (j : Int) ∧ j ≤ p ∧ Hid (EntAt wr sr (items o)) ∧ Hid (Mm2 w b9 b14 t o wr) ∧ Hid (CellsAt wr al (entV (items t))) ∧ Hid (Bal o ∧ Srt (items o) ∧ sz o ≤ j)) (fun _ si _ => p - (intOf si).toNat)
          case atStart => exact ⟨0, .nil, rfl, Nat.zero_le _, Lib.hid ⟨none, 0, rfl, Nat.le_refl _, Nat.zero_le _, CellsAt.nil _ _⟩, M5, CL5, Lib.hid ⟨trivial, List.Pairwise.nil, Nat.le_refl _⟩⟩
          case round =>
            clear M5 CL5
            obtain ⟨j, o, rfl, hj, HE, M5, CL5, HS2⟩ := hrel
            by_cases hjp : j < p
            · have hx0 : True := trivial
              as_aux_lemma =>
                have hli2 : (j : Int) < (p : Int) := by omega
                have hnle2 : ¬ p ≤ j := by omega
                have hdle2 : decide (p ≤ j) = false := by simp; omega
                have hjm : j < ms.length := by rw [HP.out]; omega
                obtain ⟨k, hkk⟩ : ∃ x, ms[j]'hjm = x := ⟨_, rfl⟩
                obtain ⟨b, off, ha, hc0⟩ := HM.out.get j (.string k) (by rw [List.getElem?_map, List.getElem?_eq_getElem hjm, hkk]; rfl)
                subst ha
                have Q0 : Hid (wr.cell? ⟨b, off + j, none⟩ = some (.string k)) := Lib.hid ((M5.out.1.2.2.1.cell (p := ⟨b, off + j, none⟩) (block_lt_of_cell hc0)).trans hc0)
                clear hc0 hkk hjm
                go_wp2_with fail
                have HC : Hid (Chain [wr] wr) := Lib.hid (Chain.one wr)
                refine wp_region_noPanic ?_
                refine region_tail (S := fun w' => Below wr.heap.size wr w') [14, 15] (by kernel_rfl) (Below.refl _ _).drew (fun hS => ?_)
                refine anyT_take2 (i := 0) (oi := ⟨some 98, _, _, _, _, _⟩) (v := ?_) rfl (by kernel_rfl) (by kernel_rfl) (by rfl) (fun _ _ _ h => h) (by kernel_rfl) (by kernel_rfl) (by kernel_rfl) (Or.inl ⟨by rfl, ?_⟩) hS ?_
                rotate_left 1
                · intro w' hB; have hd := (HC.out.to wr (by simp)).trans (hB.mono (HC.out.to wr (by simp)).size); have q0 := (hd.cell (p := ⟨b, off + j, none⟩) (block_lt_of_cell Q0.out)).trans Q0.out; have k4 := cell_of_one (boxStays M5.out.2.2.1 hd); clear hd; have hnle2 := hnle2; have hdle2 := hdle2; have hli2 := hli2; (go_simp <;> with_reducible rfl)
                try simp only [Act.put, List.setIfInBounds_toArray, List.set_cons_zero, List.set_cons_succ]
                refine anyT_take2 (i := 1) (oi := ⟨some 99, _, _, _, _, _⟩) (v := ?_) rfl (by kernel_rfl) (by kernel_rfl) (by rfl) (fun _ _ _ h => h) (by kernel_rfl) (by kernel_rfl) (by kernel_rfl) (Or.inl ⟨by rfl, ?_⟩) hS ?_
                rotate_left 1
                · intro w' hB; have hd := (HC.out.to wr (by simp)).trans (hB.mono (HC.out.to wr (by simp)).size); have q0 := (hd.cell (p := ⟨b, off + j, none⟩) (block_lt_of_cell Q0.out)).trans Q0.out; have k4 := cell_of_one (boxStays M5.out.2.2.1 hd); clear hd; have hnle2 := hnle2; have hdle2 := hdle2; have hli2 := hli2; (go_simp <;> with_reducible rfl)
                try simp only [Act.put, List.setIfInBounds_toArray, List.set_cons_zero, List.set_cons_succ]
                refine anyT_take2 (i := 2) (oi := ⟨some 100, _, _, _, _, _⟩) (v := ?_) rfl (by kernel_rfl) (by kernel_rfl) (by rfl) (fun _ _ _ h => h) (by kernel_rfl) (by kernel_rfl) (by kernel_rfl) (Or.inl ⟨by rfl, ?_⟩) hS ?_
                rotate_left 1
                · intro w' hB; have hd := (HC.out.to wr (by simp)).trans (hB.mono (HC.out.to wr (by simp)).size); have q0 := (hd.cell (p := ⟨b, off + j, none⟩) (block_lt_of_cell Q0.out)).trans Q0.out; have k4 := cell_of_one (boxStays M5.out.2.2.1 hd); clear hd; have hnle2 := hnle2; have hdle2 := hdle2; have hli2 := hli2; (go_simp <;> with_reducible rfl)
                try simp only [Act.put, List.setIfInBounds_toArray, List.set_cons_zero, List.set_cons_succ]
                refine anyT_take2 (i := 3) (oi := ⟨some 101, _, _, _, _, _⟩) (v := ?_) rfl (by kernel_rfl) (by kernel_rfl) (by rfl) (fun _ _ _ h => h) (by kernel_rfl) (by kernel_rfl) (by kernel_rfl) (Or.inl ⟨by rfl, ?_⟩) hS ?_
                rotate_left 1
                · intro w' hB; have hd := (HC.out.to wr (by simp)).trans (hB.mono (HC.out.to wr (by simp)).size); have q0 := (hd.cell (p := ⟨b, off + j, none⟩) (block_lt_of_cell Q0.out)).trans Q0.out; have k4 := cell_of_one (boxStays M5.out.2.2.1 hd); clear hd; have hnle2 := hnle2; have hdle2 := hdle2; have hli2 := hli2; (go_simp <;> with_reducible rfl)
                try simp only [Act.put, List.setIfInBounds_toArray, List.set_cons_zero, List.set_cons_succ]
                refine anyT_take2 (i := 4) (oi := ⟨some 102, _, _, _, _, _⟩) (v := ?_) rfl (by kernel_rfl) (by kernel_rfl) (by rfl) (fun _ _ _ h => h) (by kernel_rfl) (by kernel_rfl) (by kernel_rfl) (Or.inl ⟨by rfl, ?_⟩) hS ?_
                rotate_left 1
                · intro w' hB; have hd := (HC.out.to wr (by simp)).trans (hB.mono (HC.out.to wr (by simp)).size); have q0 := (hd.cell (p := ⟨b, off + j, none⟩) (block_lt_of_cell Q0.out)).trans Q0.out; have k4 := cell_of_one (boxStays M5.out.2.2.1 hd); clear hd; have hnle2 := hnle2; have hdle2 := hdle2; have hli2 := hli2; (go_simp <;> with_reducible rfl)
                try simp only [Act.put, List.setIfInBounds_toArray, List.set_cons_zero, List.set_cons_succ]
                refine anyT_take2 (i := 5) (oi := ⟨some 103, _, _, _, _, _⟩) (v := ?_) rfl (by kernel_rfl) (by kernel_rfl) (by rfl) (fun _ _ _ h => h) (by kernel_rfl) (by kernel_rfl) (by kernel_rfl) (Or.inl ⟨by rfl, ?_⟩) hS ?_
                rotate_left 1
                · intro w' hB; have hd := (HC.out.to wr (by simp)).trans (hB.mono (HC.out.to wr (by simp)).size); have q0 := (hd.cell (p := ⟨b, off + j, none⟩) (block_lt_of_cell Q0.out)).trans Q0.out; have k4 := cell_of_one (boxStays M5.out.2.2.1 hd); clear hd; have hnle2 := hnle2; have hdle2 := hdle2; have hli2 := hli2; (go_simp <;> with_reducible rfl)
                try simp only [Act.put, List.setIfInBounds_toArray, List.set_cons_zero, List.set_cons_succ]
                refine anyT_take2 (i := 7) (oi := ⟨some 105, _, _, _, _, _⟩) (v := ?_) rfl (by kernel_rfl) (by kernel_rfl) (by rfl) (fun _ _ _ h => h) (by kernel_rfl) (by kernel_rfl) (by kernel_rfl) (Or.inl ⟨by rfl, ?_⟩) hS ?_
                rotate_left 1
                · intro w' hB; have hd := (HC.out.to wr (by simp)).trans (hB.mono (HC.out.to wr (by simp)).size); have q0 := (hd.cell (p := ⟨b, off + j, none⟩) (block_lt_of_cell Q0.out)).trans Q0.out; have k4 := cell_of_one (boxStays M5.out.2.2.1 hd); clear hd; have hnle2 := hnle2; have hdle2 := hdle2; have hli2 := hli2; (go_simp <;> with_reducible rfl)
                try simp only [Act.put, List.setIfInBounds_toArray, List.set_cons_zero, List.set_cons_succ]
                refine anyT_take2 (i := 8) (oi := ⟨some 106, _, _, _, _, _⟩) (v := ?_) rfl (by kernel_rfl) (by kernel_rfl) (by rfl) (fun _ _ _ h => h) (by kernel_rfl) (by kernel_rfl) (by kernel_rfl) (Or.inl ⟨by rfl, ?_⟩) hS ?_
                rotate_left 1
                · intro w' hB; have hd := (HC.out.to wr (by simp)).trans (hB.mono (HC.out.to wr (by simp)).size); have q0 := (hd.cell (p := ⟨b, off + j, none⟩) (block_lt_of_cell Q0.out)).trans Q0.out; have k4 := cell_of_one (boxStays M5.out.2.2.1 hd); clear hd; have hnle2 := hnle2; have hdle2 := hdle2; have hli2 := hli2; (go_simp <;> with_reducible rfl)
                try simp only [Act.put, List.setIfInBounds_toArray, List.set_cons_zero, List.set_cons_succ]
                refine anyT_take2 (i := 9) (oi := ⟨some 107, _, _, _, _, _⟩) (v := ?_) rfl (by kernel_rfl) (by kernel_rfl) (by rfl) (fun _ _ _ h => h) (by kernel_rfl) (by kernel_rfl) (by kernel_rfl) (Or.inl ⟨by rfl, ?_⟩) hS ?_
                rotate_left 1
                · intro w' hB; have hd := (HC.out.to wr (by simp)).trans (hB.mono (HC.out.to wr (by simp)).size); have q0 := (hd.cell (p := ⟨b, off + j, none⟩) (block_lt_of_cell Q0.out)).trans Q0.out; have k4 := cell_of_one (boxStays M5.out.2.2.1 hd); clear hd; have hnle2 := hnle2; have hdle2 := hdle2; have hli2 := hli2; (go_simp <;> with_reducible rfl)
                try simp only [Act.put, List.setIfInBounds_toArray, List.set_cons_zero, List.set_cons_succ]
                refine anyT_take2 (i := 10) (oi := ⟨some 108, _, _, _, _, _⟩) (v := ?_) rfl (by kernel_rfl) (by kernel_rfl) (by rfl) (fun _ _ _ h => h) (by kernel_rfl) (by kernel_rfl) (by kernel_rfl) (Or.inl ⟨by rfl, ?_⟩) hS ?_
                rotate_left 1
                · intro w' hB; have hd := (HC.out.to wr (by simp)).trans (hB.mono (HC.out.to wr (by simp)).size); have q0 := (hd.cell (p := ⟨b, off + j, none⟩) (block_lt_of_cell Q0.out)).trans Q0.out; have k4 := cell_of_one (boxStays M5.out.2.2.1 hd); clear hd; have hnle2 := hnle2; have hdle2 := hdle2; have hli2 := hli2; (go_simp <;> with_reducible rfl)
                try simp only [Act.put, List.setIfInBounds_toArray, List.set_cons_zero, List.set_cons_succ]
                refine anyT_take2 (i := 11) (oi := ⟨some 109, _, _, _, _, _⟩) (v := ?_) rfl (by kernel_rfl) (by kernel_rfl) (by rfl) (fun _ _ _ h => h) (by kernel_rfl) (by kernel_rfl) (by kernel_rfl) (Or.inl ⟨by rfl, ?_⟩) hS ?_
                rotate_left 1
                · intro w' hB; have hd := (HC.out.to wr (by simp)).trans (hB.mono (HC.out.to wr (by simp)).size); have q0 := (hd.cell (p := ⟨b, off + j, none⟩) (block_lt_of_cell Q0.out)).trans Q0.out; have k4 := cell_of_one (boxStays M5.out.2.2.1 hd); clear hd; have hnle2 := hnle2; have hdle2 := hdle2; have hli2 := hli2; (go_simp <;> with_reducible rfl)
                try simp only [Act.put, List.setIfInBounds_toArray, List.set_cons_zero, List.set_cons_succ]
                refine anyT_take2 (i := 12) (oi := ⟨some 110, _, _, _, _, _⟩) (v := ?_) rfl (by kernel_rfl) (by kernel_rfl) (by rfl) (fun _ _ _ h => h) (by kernel_rfl) (by kernel_rfl) (by kernel_rfl) (Or.inl ⟨by rfl, ?_⟩) hS ?_
                rotate_left 1
                · intro w' hB; have hd := (HC.out.to wr (by simp)).trans (hB.mono (HC.out.to wr (by simp)).size); have q0 := (hd.cell (p := ⟨b, off + j, none⟩) (block_lt_of_cell Q0.out)).trans Q0.out; have k4 := cell_of_one (boxStays M5.out.2.2.1 hd); clear hd; have hnle2 := hnle2; have hdle2 := hdle2; have hli2 := hli2; (go_simp <;> with_reducible rfl)
                try simp only [Act.put, List.setIfInBounds_toArray, List.set_cons_zero, List.set_cons_succ]
                refine anyT_ready (rs := [6]) (by kernel_rfl) (by kernel_rfl) (by simp) (AllReadyT.cons (o := ⟨some 104, _, _, _, _, _⟩) rfl (by rfl) (fun K hK => ?_) AllReadyT.nil)
                go_simp
                refine (pm_MPutI o k (j : Int) w.heap.size _ (by have h1 := hS.size; have h2 := (HC.out.to wr (by simp)).size; have h3 := M5.out.1.2.2.1.size; omega) (M5.out.2.1.chain HC.out hS (by simp)) (by have := HS2.out.2.2; omega)).mono ?_
                rintro e wP ⟨o', hP, rfl, hA, hb⟩
                refine hK.out _ _ (hS.trans (hb.mono hS.size)) (fun _ => ?_)
                clear hK K
                have hB := hS.trans (hb.mono hS.size)
                refine anyT_now hB ?_
                clear hS
                have hS := Below.refl wP.heap.size wP
                replace HC := Lib.hid (HC.out.push hB)
                have P1 := Lib.hid hP
                have A1 := Lib.hid hA
                clear hP hA
                clear hB hb
                try simp only [Act.put, List.setIfInBounds_toArray, List.set_cons_zero, List.set_cons_succ]
                refine anyT_ready (rs := [13]) (by kernel_rfl) (by kernel_rfl) (by simp) (AllReadyT.cons (o := ⟨some 111, _, _, _, _, _⟩) rfl (by rfl) (fun K hK => ?_) AllReadyT.nil)
                go_simp
                refine (lw_put (items o) k (j : Int) u15 _ (HE.out.below ((HC.out.to wr (by simp)).trans (hS.mono (HC.out.to wr (by simp)).size))) (by rw [sz_items]; have := HS2.out.2.2; omega)).mono ?_
                rintro e wL ⟨r', rfl, hE, hb⟩
                refine hK.out _ _ (hS.trans (hb.mono hS.size)) (fun _ => ?_)
                clear hK K
                have hB := hS.trans (hb.mono hS.size)
                refine anyT_now hB ?_
                clear hS
                have hS := Below.refl wL.heap.size wL
                replace HC := Lib.hid (HC.out.push hB)
                have E1 := Lib.hid hE
                clear hE
                clear hB hb
                try simp only [Act.put, List.setIfInBounds_toArray, List.set_cons_zero, List.set_cons_succ]
                refine anyT_tail (by kernel_rfl) ?_
                (try clear hS)
                refine any_one (i := 14) (o := ⟨none, _, _, _, _, _⟩) (by kernel_rfl) rfl (by rfl) (fun K hK => ?_)
                have M6 := Lib.hid (M5.out.below (HC.out.to wr (by simp)))
                have k4 := cell_of_one M6.out.2.2.1
                have f4 := frozen_of_row _ b14 0 _ _ M6.out.2.2.1
                go_simp
                refine hK.out _ _ ?_
                clear hK K
                try simp only [Act.put, List.setIfInBounds_toArray, List.set_cons_zero, List.set_cons_succ]
                refine wpAny_take (i := 15) (oi := ⟨some 15, _, _, _, _, _⟩) (v := ?_) rfl (by kernel_rfl) (by kernel_rfl) (by kernel_rfl) (fun _ _ _ h => h) (Or.inl ⟨by rfl, ?_⟩) ?_
                rotate_left 1
                · intro w'; (go_simp <;> with_reducible rfl)
                try simp only [Act.put, List.setIfInBounds_toArray, List.set_cons_zero, List.set_cons_succ]
                refine wpAny_done (by kernel_rfl) (NoPanic.normal ?_) _
                all_goals
                  have M7 := Lib.hid (M6.out.set (A1.out.below (HC.out.to wP (by simp)) rfl))
                  have E7 := Lib.hid ((E1.out.below (HC.out.to wL (by simp))).setBox M6.out.2.2.1 (.pointer (pa o')))
                  have C7 := Lib.hid (entCells_set (CL5.out.below (HC.out.to wr (by simp)) rfl) M6.out.2.2.1 (.pointer (pa o')))
                  clear k4 f4 M6 E1 A1 CL5 M5 HE HC Q0
                  go_wp2_with fail
                  go_roundw
                  case rel =>
                    have hz := P1.out.sz_leI
                    have hb3 := P1.out.bal HS2.out.1
                    have hi3 := P1.out.items HS2.out.2.1
                    refine ⟨j + 1, o', by simp, by omega, Lib.hid ?_, M7, C7, Lib.hid ⟨hb3.1, by rw [hi3]; exact ins_srt HS2.out.2.1, by have := HS2.out.2.2; omega⟩⟩
                    rw [hi3]; exact E7.out
                  case measure =>
                    have p1 : (intOf (Value.int .i64 ((j : Int) + 1))).toNat = j + 1 := by simp [intOf]
                    have p2 : (intOf (Value.int .i64 (j : Int))).toNat = j := by simp [intOf]
                    first | (rw [p1, p2]; omega) | (simp [intOf]; omega)
            · have hjp2 : j = p := by omega
              subst hjp2
              clear hj hjp
              obtain ⟨ao, capo, rfl, hcapo, hcmo, hco⟩ := HE.out
              obtain ⟨z, hz⟩ : ∃ z, sz o = z := ⟨_, rfl⟩
              have HZ := Lib.hid hz
              have hz40 : z ≤ 40 := by have := HS2.out.2.2; omega
              rw [sz_items, hz] at hcapo
              rw [sz_items, hz]
              have CO := Lib.hid hco
              have HCO : Hid (z ≤ capo ∧ capo ≤ maxLen) := Lib.hid ⟨hcapo, hcmo⟩
              have hL := last_cases CL5.out key
              have hO := first_cases CO.out key
              rw [sz_items, HQ.out] at hL
              rw [sz_items, HZ.out] at hO
              obtain ⟨RL, hRL⟩ : ∃ b, lastLt (items t) key = b := ⟨_, rfl⟩
              obtain ⟨RO, hRO⟩ : ∃ b, ltFirst key (items o) = b := ⟨_, rfl⟩
              rw [hRL] at hL
              rw [hRO] at hO
              have HRL := Lib.hid hRL
              have HRO := Lib.hid hRO
              have HL := Lib.hid hL
              have HO := Lib.hid hO
              clear hz hcapo hcmo hco HE hRL hRO hL hO
              have hli2 : ¬ (j : Int) < (j : Int) := by omega
              go_upto_region 21 with (fail)
              go_cut [17] (fun s17 wx => s17 = .bool (RL && RO) ∧ wr = wx)
              case first =>
                as_aux_lemma =>
                  rcases HL.out with ⟨hq0, hrl⟩ | ⟨m1, b, off, lk, hq1, ha, hc, hkl⟩
                  case' inl =>
                    subst hq0
                    subst hrl
                  case' inr =>
                    subst ha
                    have hmi : (q : Int) - 1 = (m1 : Int) := by omega
                    have hmli : (m1 : Int) < (q : Int) := by omega
                    have hnle : ¬ q ≤ m1 := by omega
                    have hdle : decide (q ≤ m1) = false := by simp; omega
                    have hnz : ¬ q = 0 := by omega
                    have hnz2 : ¬ q ≤ 0 := by omega
                    clear hq1
                  all_goals
                    clear HL
                    rcases HO.out with ⟨hz0, hro⟩ | ⟨b', off', fk, hz1, ha', hc', hkf⟩
                  case' inl.inl =>
                    subst hz0
                    subst hro
                  case' inr.inl =>
                    subst hz0
                    subst hro
                    cases RL
                  case' inl.inr =>
                    subst ha'
                    have hzi : (0 : Int) < (z : Int) := by omega
                    have hzz : ¬ z = 0 := by omega
                    have hzz2 : ¬ z ≤ 0 := by omega
                    have hzb : ((z : Int) == 0) = false := beq_eq_false_iff_ne.2 (by omega)
                    cases RO
                  case' inr.inr =>
                    subst ha'
                    have hzi : (0 : Int) < (z : Int) := by omega
                    have hzz : ¬ z = 0 := by omega
                    have hzz2 : ¬ z ≤ 0 := by omega
                    have hzb : ((z : Int) == 0) = false := beq_eq_false_iff_ne.2 (by omega)
                    cases RL <;> cases RO
                  all_goals (try (have e1 : Op.bytesLess lk.toList key.toList = _ := hkl))
                  all_goals (try (have e2 : (!Op.bytesLess fk.toList key.toList && !(fk.toList == key.toList)) = _ := (gt_form fk key).trans hkf))
                  all_goals (try clear hkl)
                  all_goals (try clear hkf)
                  all_goals
                    clear HO
                    go_wp2_with fail
                    go_meet
                    first | exact ⟨rfl, rfl⟩ | (simp; done) | (rw [hzb, e2]; exact ⟨rfl, rfl⟩)
              case rest =>
                obtain ⟨rfl, rfl⟩ := hcut
                clear HL HO
                obtain ⟨R, hR⟩ : ∃ R, (RL && RO) = R := ⟨_, rfl⟩
                have HR : Hid ((lastLt (items t) key && ltFirst key (items o)) = R) := Lib.hid (by rw [HRL.out, HRO.out, hR])
                rw [hR]
                clear hR HRL HRO
                have hj1 : ∀ W : World, Below wr.heap.size wr W → Calls Try.prog 17 #[.agg #[.pointer (pa t)], .string key, .int .i64 7, .agg #[.pointer (pa o)]] W fun e w' => ∃ (x : Tr Int) (ex : Int), ((R = true ∧ ex = 0 ∧ items x = items t ++ (key, 7) :: items o ∧ Bal x) ∨ (R = false ∧ ex = 2 ∧ x = .nil)) ∧ e = .returned (.tuple #[.agg #[.pointer (pa x)], .int .i64 ex]) ∧ AtI w' x ∧ Below W.heap.size W w' := fun W hb => by
                  refine (pm_JoinI t o key 7 w.heap.size W (Nat.le_trans M5.out.1.2.2.1.size hb.size) (M5.out.1.1.below hb rfl) (M5.out.2.1.below hb rfl) (by rw [HQ.out, HZ.out]; omega)).mono ?_
                  rintro e w' ⟨x, nn, hx, rfl, hA, hB⟩
                  refine ⟨x, (nn : Int), ?_, rfl, hA, hB⟩
                  rcases hx with ⟨h1, h2, rfl⟩ | ⟨h1, rfl, rfl⟩
                  · exact .inl ⟨by rw [← HR.out]; exact (join_ok_iff t o key).1 h1, rfl, h2.items, (h2.bal HS1.out.1 HS2.out.1).1⟩
                  · refine .inr ⟨?_, rfl, rfl⟩
                    rw [join_ok_iff, HR.out] at h1
                    simpa using h1
                have hm1 : ∀ W : World, Below wr.heap.size wr W → Calls Try.prog 18 #[.pointer (pa t), .string key, .int .i64 7, .pointer (pa o)] W fun e w' => ∃ (y : Tr Int) (fy : Int), (((R = true ∧ ht t ≤ ht o + 1 ∧ ht o ≤ ht t + 1) ∧ fy = 0 ∧ ∃ b, y = .node b t key 7 o) ∨ (¬ (R = true ∧ ht t ≤ ht o + 1 ∧ ht o ≤ ht t + 1) ∧ fy = 2 ∧ y = .nil)) ∧ e = .returned (.tuple #[.agg #[.pointer (pa y)], .int .i64 fy]) ∧ AtI w' y ∧ Below W.heap.size W w' := fun W hb => by
                  refine (pm_MakeI t o key 7 w.heap.size W (Nat.le_trans M5.out.1.2.2.1.size hb.size) (M5.out.1.1.below hb rfl) (M5.out.2.1.below hb rfl) (by rw [HQ.out, HZ.out]; omega)).mono ?_
                  rintro e w' ⟨y, nn, hy, rfl, hA, hB⟩
                  refine ⟨y, (nn : Int), ?_, rfl, hA, hB⟩
                  rw [join_ok_iff, HR.out] at hy
                  rcases hy with ⟨h1, ⟨b, _, rfl⟩, rfl⟩ | ⟨h1, rfl, rfl⟩
                  · exact .inl ⟨h1, rfl, b, rfl⟩
                  · exact .inr ⟨h1, rfl, rfl⟩
                have HJ1 := Lib.hid hj1
                have HM1 := Lib.hid hm1
                have hht1 := ht_le t
                have hht2 := ht_le o
                rw [HQ.out] at hht1
                rw [HZ.out] at hht2
                obtain ⟨h1', hh1⟩ : ∃ h, ht t = h := ⟨_, rfl⟩
                obtain ⟨h2', hh2⟩ : ∃ h, ht o = h := ⟨_, rfl⟩
                have HH1 := Lib.hid hh1
                have HH2 := Lib.hid hh2
                rw [hh1] at hht1
                rw [hh2] at hht2
                have hc1 : ∀ W : World, Below wr.heap.size wr W → Calls Try.prog 11 #[.agg #[.pointer (pa t)]] W fun e w' => e = .returned (.int .i64 (h1' : Int)) ∧ Below W.heap.size W w' := fun W hb => by
                  have := pm_MHeightI t W (M5.out.1.1.below hb rfl)
                  rw [hh1] at this
                  exact this
                have hc2 : ∀ W : World, Below wr.heap.size wr W → Calls Try.prog 11 #[.agg #[.pointer (pa o)]] W fun e w' => e = .returned (.int .i64 (h2' : Int)) ∧ Below W.heap.size W w' := fun W hb => by
                  have := pm_MHeightI o W (M5.out.2.1.below hb rfl)
                  rw [hh2] at this
                  exact this
                have HCT := Lib.hid hc1
                have HCO2 := Lib.hid hc2
                clear hj1 hm1 hh1 hh2 hc1 hc2
                have hwr : IntKind.i64.wrap ((h1' : Int) - (h2' : Int)) = (h1' : Int) - (h2' : Int) := IntWalk.i64_in _ (by omega)
                have HWR := Lib.hid hwr
                clear hwr
                have k9 := cell_of_one M5.out.1.2.1
                have k14 := cell_of_one M5.out.2.2.1
                go_wp2_with fail
                refine (HJ1.out _ (Below.refl _ _)).mono ?_
                rintro e w5 ⟨x, ex, hx, rfl, hA, hb⟩
                have HX := Lib.hid hx
                have AX : Hid (AtI (w5.alloc (.cells #[.pointer (pa x)] 26)) x) := Lib.hid (hA.below (below_new _ _) rfl)
                have X5 : Hid ((w5.alloc (.cells #[.pointer (pa x)] 26)).heap[w5.heap.size]? = some (.cells #[.pointer (pa x)] 26 (0, 0))) := Lib.hid (heap_alloc_new w5 _)
                have D5 : Hid (Below wr.heap.size wr (w5.alloc (.cells #[.pointer (pa x)] 26))) := Lib.hid (hb.trans ((below_new w5 _).mono hb.size))
                obtain ⟨b18, hb18⟩ : ∃ b, w5.heap.size = b := ⟨_, rfl⟩
                rw [hb18] at X5
                have HB18 := Lib.hid hb18
                clear hx hA hb k9 k14 hb18 HJ1
                go_wp2_with fail
                rw [HB18.out]
                generalize w5.alloc (.cells #[.pointer (pa x)] 26) = w6 at *
                clear HB18
                go_cut [19, 20] (fun s19 s20 wx => ∃ (y : Tr Int) (fy : Int) (b19 : Nat), s19 = .pointer (some ⟨b19, 0, none⟩) ∧ s20 = .int .i64 fy ∧ Hid (((R = true ∧ ht t ≤ ht o + 1 ∧ ht o ≤ ht t + 1) ∧ fy = 0 ∧ ∃ b, y = .node b t key 7 o) ∨ (¬ (R = true ∧ ht t ≤ ht o + 1 ∧ ht o ≤ ht t + 1) ∧ fy = 2 ∧ y = .nil)) ∧ Hid (Below wr.heap.size wr wx) ∧ Hid (AtI wx y ∧ wx.heap[b19]? = some (.cells #[.pointer (pa y)] 26 (0, 0))) ∧ Hid (AtI wx x ∧ wx.heap[b18]? = some (.cells #[.pointer (pa x)] 26 (0, 0))))
                case first =>
                  as_aux_lemma =>
                    obtain ⟨s6, hs6⟩ : ∃ s, w6.heap.size = s := ⟨_, rfl⟩
                    have HZB : Hid (s6 ≤ w6.heap.size) := Lib.hid (Nat.le_of_eq hs6.symm)
                    have HS6 := Lib.hid hs6
                    clear hs6
                    refine wp_region_noPanic ?_
                    refine wp_region_held_drew (S := fun w' => Below s6 w6 w') (by kernel_rfl) (Below.refl _ _).drew (fun hS => ?_)
                    refine wpAnyH_take (i := 0) (oi := ⟨some 147, _, _, _, _, _⟩) (v := ?_) rfl (by kernel_rfl) (by kernel_rfl) (by kernel_rfl) (fun _ _ _ h => h) (Or.inl ⟨by rfl, ?_⟩) hS ?_
                    rotate_left 1
                    · intro w' hB; have hr := D5.out.trans (hB.mono (by have h1 := D5.out.size; have h2 := HS6.out; omega)); have k9 := cell_of_one (boxStays M5.out.1.2.1 hr); have k14 := cell_of_one (boxStays M5.out.2.2.1 hr); clear hr; (go_simp <;> with_reducible rfl)
                    try simp only [Act.put, List.setIfInBounds_toArray, List.set_cons_zero, List.set_cons_succ]
                    refine wpAnyH_take (i := 2) (oi := ⟨some 149, _, _, _, _, _⟩) (v := ?_) rfl (by kernel_rfl) (by kernel_rfl) (by kernel_rfl) (fun _ _ _ h => h) (Or.inl ⟨by rfl, ?_⟩) hS ?_
                    rotate_left 1
                    · intro w' hB; have hr := D5.out.trans (hB.mono (by have h1 := D5.out.size; have h2 := HS6.out; omega)); have k9 := cell_of_one (boxStays M5.out.1.2.1 hr); have k14 := cell_of_one (boxStays M5.out.2.2.1 hr); clear hr; (go_simp <;> with_reducible rfl)
                    try simp only [Act.put, List.setIfInBounds_toArray, List.set_cons_zero, List.set_cons_succ]
                    refine wpAnyH_take (i := 3) (oi := ⟨some 150, _, _, _, _, _⟩) (v := ?_) rfl (by kernel_rfl) (by kernel_rfl) (by kernel_rfl) (fun _ _ _ h => h) (Or.inl ⟨by rfl, ?_⟩) hS ?_
                    rotate_left 1
                    · intro w' hB; have hr := D5.out.trans (hB.mono (by have h1 := D5.out.size; have h2 := HS6.out; omega)); have k9 := cell_of_one (boxStays M5.out.1.2.1 hr); have k14 := cell_of_one (boxStays M5.out.2.2.1 hr); clear hr; (go_simp <;> with_reducible rfl)
                    try simp only [Act.put, List.setIfInBounds_toArray, List.set_cons_zero, List.set_cons_succ]
                    refine wpAnyH_ready (rs := [1, 9]) (by kernel_rfl) (by simp) (AllReadyH.cons (o := ⟨some 148, _, _, _, _, _⟩) rfl (fun K hK => ?way2) (AllReadyH.cons (o := ⟨some 19, _, _, _, _, _⟩) rfl (fun K hK => ?way1) AllReadyH.nil))
                    case' way2 =>
                      go_simp
                      refine (pm_MRootI t _).mono ?_
                      rintro e w7 ⟨rfl, hb⟩
                      refine hK.out _ _ (hS.trans (hb.mono (Nat.le_trans HZB.out hS.size))) (fun _ => ?_)
                      clear hK K
                      replace hS := hS.trans (hb.mono (Nat.le_trans HZB.out hS.size))
                      (try replace XY := Lib.hid (boxStays XY.out hb))
                      clear hb
                      try simp only [Act.put, List.setIfInBounds_toArray, List.set_cons_zero, List.set_cons_succ]
                      refine wpAnyH_ready (rs := [4, 9]) (by kernel_rfl) (by simp) (AllReadyH.cons (o := ⟨some 151, _, _, _, _, _⟩) rfl (fun K hK => ?way4) (AllReadyH.cons (o := ⟨some 19, _, _, _, _, _⟩) rfl (fun K hK => ?way3) AllReadyH.nil))
                      case' way4 =>
                        go_simp
                        refine (pm_MRootI o _).mono ?_
                        rintro e w8 ⟨rfl, hb⟩
                        refine hK.out _ _ (hS.trans (hb.mono (Nat.le_trans HZB.out hS.size))) (fun _ => ?_)
                        clear hK K
                        replace hS := hS.trans (hb.mono (Nat.le_trans HZB.out hS.size))
                        (try replace XY := Lib.hid (boxStays XY.out hb))
                        clear hb
                        try simp only [Act.put, List.setIfInBounds_toArray, List.set_cons_zero, List.set_cons_succ]
                        refine wpAnyH_ready (rs := [5, 9]) (by kernel_rfl) (by simp) (AllReadyH.cons (o := ⟨some 152, _, _, _, _, _⟩) rfl (fun K hK => ?way6) (AllReadyH.cons (o := ⟨some 19, _, _, _, _, _⟩) rfl (fun K hK => ?way5) AllReadyH.nil))
                        case' way6 =>
                          go_simp
                          refine (HM1.out _ (D5.out.trans (hS.mono (by have h1 := D5.out.size; have h2 := HS6.out; omega)))).mono ?_
                          rintro e w9 ⟨y, fy, hy, rfl, hA, hb⟩
                          refine hK.out _ _ (hS.trans (hb.mono (Nat.le_trans HZB.out hS.size))) (fun _ => ?_)
                          clear hK K
                          replace hS := hS.trans (hb.mono (Nat.le_trans HZB.out hS.size))
                          have HY := Lib.hid hy
                          have AY := Lib.hid hA
                          clear hy hA
                          (try replace XY := Lib.hid (boxStays XY.out hb))
                          clear hb
                          try simp only [Act.put, List.setIfInBounds_toArray, List.set_cons_zero, List.set_cons_succ]
                          refine wpAnyH_take (i := 6) (oi := ⟨some 146, _, _, _, _, _⟩) (v := ?_) rfl (by kernel_rfl) (by kernel_rfl) (by kernel_rfl) (fun _ _ _ h => h) (Or.inl ⟨by rfl, ?_⟩) hS ?_
                          rotate_left 1
                          · intro w' hB; have hr := D5.out.trans (hB.mono (by have h1 := D5.out.size; have h2 := HS6.out; omega)); have k9 := cell_of_one (boxStays M5.out.1.2.1 hr); have k14 := cell_of_one (boxStays M5.out.2.2.1 hr); clear hr; (go_simp <;> with_reducible rfl)
                          try simp only [Act.put, List.setIfInBounds_toArray, List.set_cons_zero, List.set_cons_succ]
                          refine wpAnyH_take (i := 7) (oi := ⟨some 153, _, _, _, _, _⟩) (v := ?_) rfl (by kernel_rfl) (by kernel_rfl) (by kernel_rfl) (fun _ _ _ h => h) (Or.inl ⟨by rfl, ?_⟩) hS ?_
                          rotate_left 1
                          · intro w' hB; have hr := D5.out.trans (hB.mono (by have h1 := D5.out.size; have h2 := HS6.out; omega)); have k9 := cell_of_one (boxStays M5.out.1.2.1 hr); have k14 := cell_of_one (boxStays M5.out.2.2.1 hr); clear hr; (go_simp <;> with_reducible rfl)
                          try simp only [Act.put, List.setIfInBounds_toArray, List.set_cons_zero, List.set_cons_succ]
                          refine wpAnyH_take (i := 8) (oi := ⟨some 154, _, _, _, _, _⟩) (v := ?_) rfl (by kernel_rfl) (by kernel_rfl) (by kernel_rfl) (fun _ _ _ h => h) (Or.inl ⟨by rfl, ?_⟩) hS ?_
                          rotate_left 1
                          · intro w' hB; have hr := D5.out.trans (hB.mono (by have h1 := D5.out.size; have h2 := HS6.out; omega)); have k9 := cell_of_one (boxStays M5.out.1.2.1 hr); have k14 := cell_of_one (boxStays M5.out.2.2.1 hr); clear hr; (go_simp <;> with_reducible rfl)
                          try simp only [Act.put, List.setIfInBounds_toArray, List.set_cons_zero, List.set_cons_succ]
                          refine wpAnyH_ready (rs := [9]) (by kernel_rfl) (by simp) (AllReadyH.cons (o := ⟨some 19, _, _, _, _, _⟩) rfl (fun K hK => ?_) AllReadyH.nil)
                          go_simp
                          refine hK.out _ _ (hS.alloc (Nat.le_trans HZB.out hS.size) _) (fun _ => ?_)
                          clear hK K
                          refine wpAnyH_madeK hS (Nat.le_trans HZB.out hS.size) ?_
                          have hS0 := hS
                          clear hS
                          rintro w10 hw hS
                          obtain ⟨c19, hc19, hx19⟩ := made_at hw
                          have G19 : Hid (s6 ≤ c19) := Lib.hid (by have h2 := hS0.size; have h3 := HZB.out; rw [hc19] at h2; omega)
                          (try simp at hc19)
                          rw [hc19]
                          have XY := Lib.hid hx19
                          (try replace AY := Lib.hid (AY.out.below (show Below _ _ w10 by rw [hw]; exact below_new _ _) rfl))
                          clear hc19 hx19
                          clear hw hS0
                          try simp only [Act.put, List.setIfInBounds_toArray, List.set_cons_zero, List.set_cons_succ]
                          refine wpAnyH_ready (rs := [10]) (by kernel_rfl) (by simp) (AllReadyH.cons (o := ⟨none, _, _, _, _, _⟩) rfl (fun K hK => ?_) AllReadyH.nil)
                          have k19 := cell_of_one XY.out
                          have f19 := frozen_of_row _ c19 0 _ _ XY.out
                          replace hS := hS.setCell (p := ⟨c19, 0, none⟩) (by simpa using G19.out) (Value.pointer (pa y))
                          go_simp
                          refine hK.out _ _ hS (fun _ => ?_)
                          clear hK K k19 f19
                          try simp only [Act.put, List.setIfInBounds_toArray, List.set_cons_zero, List.set_cons_succ]
                          refine wpAnyH_take (i := 11) (oi := ⟨some 20, _, _, _, _, _⟩) (v := ?_) rfl (by kernel_rfl) (by kernel_rfl) (by kernel_rfl) (fun _ _ _ h => h) (Or.inl ⟨by rfl, ?_⟩) hS ?_
                          rotate_left 1
                          · intro w' hB; have hr := D5.out.trans (hB.mono (by have h1 := D5.out.size; have h2 := HS6.out; omega)); have k9 := cell_of_one (boxStays M5.out.1.2.1 hr); have k14 := cell_of_one (boxStays M5.out.2.2.1 hr); clear hr; (go_simp <;> with_reducible rfl)
                          try simp only [Act.put, List.setIfInBounds_toArray, List.set_cons_zero, List.set_cons_succ]
                          refine wpAnyH_done (by kernel_rfl) (NoPanic.normal ?_) _
                        case' way5 =>
                          go_simp
                          refine hK.out _ _ (hS.alloc (Nat.le_trans HZB.out hS.size) _) (fun _ => ?_)
                          clear hK K
                          refine wpAnyH_madeK hS (Nat.le_trans HZB.out hS.size) ?_
                          have hS0 := hS
                          clear hS
                          rintro w10 hw hS
                          obtain ⟨c19, hc19, hx19⟩ := made_at hw
                          have G19 : Hid (s6 ≤ c19) := Lib.hid (by have h2 := hS0.size; have h3 := HZB.out; rw [hc19] at h2; omega)
                          (try simp at hc19)
                          rw [hc19]
                          have XY := Lib.hid hx19
                          (try replace AY := Lib.hid (AY.out.below (show Below _ _ w10 by rw [hw]; exact below_new _ _) rfl))
                          clear hc19 hx19
                          clear hw hS0
                          try simp only [Act.put, List.setIfInBounds_toArray, List.set_cons_zero, List.set_cons_succ]
                          refine wpAnyH_ready (rs := [5]) (by kernel_rfl) (by simp) (AllReadyH.cons (o := ⟨some 152, _, _, _, _, _⟩) rfl (fun K hK => ?_) AllReadyH.nil)
                          go_simp
                          refine (HM1.out _ (D5.out.trans (hS.mono (by have h1 := D5.out.size; have h2 := HS6.out; omega)))).mono ?_
                          rintro e w9 ⟨y, fy, hy, rfl, hA, hb⟩
                          refine hK.out _ _ (hS.trans (hb.mono (Nat.le_trans HZB.out hS.size))) (fun _ => ?_)
                          clear hK K
                          replace hS := hS.trans (hb.mono (Nat.le_trans HZB.out hS.size))
                          have HY := Lib.hid hy
                          have AY := Lib.hid hA
                          clear hy hA
                          (try replace XY := Lib.hid (boxStays XY.out hb))
                          clear hb
                          try simp only [Act.put, List.setIfInBounds_toArray, List.set_cons_zero, List.set_cons_succ]
                          refine wpAnyH_take (i := 6) (oi := ⟨some 146, _, _, _, _, _⟩) (v := ?_) rfl (by kernel_rfl) (by kernel_rfl) (by kernel_rfl) (fun _ _ _ h => h) (Or.inl ⟨by rfl, ?_⟩) hS ?_
                          rotate_left 1
                          · intro w' hB; have hr := D5.out.trans (hB.mono (by have h1 := D5.out.size; have h2 := HS6.out; omega)); have k9 := cell_of_one (boxStays M5.out.1.2.1 hr); have k14 := cell_of_one (boxStays M5.out.2.2.1 hr); clear hr; (go_simp <;> with_reducible rfl)
                          try simp only [Act.put, List.setIfInBounds_toArray, List.set_cons_zero, List.set_cons_succ]
                          refine wpAnyH_take (i := 7) (oi := ⟨some 153, _, _, _, _, _⟩) (v := ?_) rfl (by kernel_rfl) (by kernel_rfl) (by kernel_rfl) (fun _ _ _ h => h) (Or.inl ⟨by rfl, ?_⟩) hS ?_
                          rotate_left 1
                          · intro w' hB; have hr := D5.out.trans (hB.mono (by have h1 := D5.out.size; have h2 := HS6.out; omega)); have k9 := cell_of_one (boxStays M5.out.1.2.1 hr); have k14 := cell_of_one (boxStays M5.out.2.2.1 hr); clear hr; (go_simp <;> with_reducible rfl)
                          try simp only [Act.put, List.setIfInBounds_toArray, List.set_cons_zero, List.set_cons_succ]
                          refine wpAnyH_take (i := 8) (oi := ⟨some 154, _, _, _, _, _⟩) (v := ?_) rfl (by kernel_rfl) (by kernel_rfl) (by kernel_rfl) (fun _ _ _ h => h) (Or.inl ⟨by rfl, ?_⟩) hS ?_
                          rotate_left 1
                          · intro w' hB; have hr := D5.out.trans (hB.mono (by have h1 := D5.out.size; have h2 := HS6.out; omega)); have k9 := cell_of_one (boxStays M5.out.1.2.1 hr); have k14 := cell_of_one (boxStays M5.out.2.2.1 hr); clear hr; (go_simp <;> with_reducible rfl)
                          try simp only [Act.put, List.setIfInBounds_toArray, List.set_cons_zero, List.set_cons_succ]
                          refine wpAnyH_ready (rs := [10]) (by kernel_rfl) (by simp) (AllReadyH.cons (o := ⟨none, _, _, _, _, _⟩) rfl (fun K hK => ?_) AllReadyH.nil)
                          have k19 := cell_of_one XY.out
                          have f19 := frozen_of_row _ c19 0 _ _ XY.out
                          replace hS := hS.setCell (p := ⟨c19, 0, none⟩) (by simpa using G19.out) (Value.pointer (pa y))
                          go_simp
                          refine hK.out _ _ hS (fun _ => ?_)
                          clear hK K k19 f19
                          try simp only [Act.put, List.setIfInBounds_toArray, List.set_cons_zero, List.set_cons_succ]
                          refine wpAnyH_take (i := 11) (oi := ⟨some 20, _, _, _, _, _⟩) (v := ?_) rfl (by kernel_rfl) (by kernel_rfl) (by kernel_rfl) (fun _ _ _ h => h) (Or.inl ⟨by rfl, ?_⟩) hS ?_
                          rotate_left 1
                          · intro w' hB; have hr := D5.out.trans (hB.mono (by have h1 := D5.out.size; have h2 := HS6.out; omega)); have k9 := cell_of_one (boxStays M5.out.1.2.1 hr); have k14 := cell_of_one (boxStays M5.out.2.2.1 hr); clear hr; (go_simp <;> with_reducible rfl)
                          try simp only [Act.put, List.setIfInBounds_toArray, List.set_cons_zero, List.set_cons_succ]
                          refine wpAnyH_done (by kernel_rfl) (NoPanic.normal ?_) _
                      case' way3 =>
                        go_simp
                        refine hK.out _ _ (hS.alloc (Nat.le_trans HZB.out hS.size) _) (fun _ => ?_)
                        clear hK K
                        refine wpAnyH_madeK hS (Nat.le_trans HZB.out hS.size) ?_
                        have hS0 := hS
                        clear hS
                        rintro w10 hw hS
                        obtain ⟨c19, hc19, hx19⟩ := made_at hw
                        have G19 : Hid (s6 ≤ c19) := Lib.hid (by have h2 := hS0.size; have h3 := HZB.out; rw [hc19] at h2; omega)
                        (try simp at hc19)
                        rw [hc19]
                        have XY := Lib.hid hx19
                        (try replace AY := Lib.hid (AY.out.below (show Below _ _ w10 by rw [hw]; exact below_new _ _) rfl))
                        clear hc19 hx19
                        clear hw hS0
                        try simp only [Act.put, List.setIfInBounds_toArray, List.set_cons_zero, List.set_cons_succ]
                        refine wpAnyH_ready (rs := [4]) (by kernel_rfl) (by simp) (AllReadyH.cons (o := ⟨some 151, _, _, _, _, _⟩) rfl (fun K hK => ?_) AllReadyH.nil)
                        go_simp
                        refine (pm_MRootI o _).mono ?_
                        rintro e w8 ⟨rfl, hb⟩
                        refine hK.out _ _ (hS.trans (hb.mono (Nat.le_trans HZB.out hS.size))) (fun _ => ?_)
                        clear hK K
                        replace hS := hS.trans (hb.mono (Nat.le_trans HZB.out hS.size))
                        (try replace XY := Lib.hid (boxStays XY.out hb))
                        clear hb
                        try simp only [Act.put, List.setIfInBounds_toArray, List.set_cons_zero, List.set_cons_succ]
                        refine wpAnyH_ready (rs := [5]) (by kernel_rfl) (by simp) (AllReadyH.cons (o := ⟨some 152, _, _, _, _, _⟩) rfl (fun K hK => ?_) AllReadyH.nil)
                        go_simp
                        refine (HM1.out _ (D5.out.trans (hS.mono (by have h1 := D5.out.size; have h2 := HS6.out; omega)))).mono ?_
                        rintro e w9 ⟨y, fy, hy, rfl, hA, hb⟩
                        refine hK.out _ _ (hS.trans (hb.mono (Nat.le_trans HZB.out hS.size))) (fun _ => ?_)
                        clear hK K
                        replace hS := hS.trans (hb.mono (Nat.le_trans HZB.out hS.size))
                        have HY := Lib.hid hy
                        have AY := Lib.hid hA
                        clear hy hA
                        (try replace XY := Lib.hid (boxStays XY.out hb))
                        clear hb
                        try simp only [Act.put, List.setIfInBounds_toArray, List.set_cons_zero, List.set_cons_succ]
                        refine wpAnyH_take (i := 6) (oi := ⟨some 146, _, _, _, _, _⟩) (v := ?_) rfl (by kernel_rfl) (by kernel_rfl) (by kernel_rfl) (fun _ _ _ h => h) (Or.inl ⟨by rfl, ?_⟩) hS ?_
                        rotate_left 1
                        · intro w' hB; have hr := D5.out.trans (hB.mono (by have h1 := D5.out.size; have h2 := HS6.out; omega)); have k9 := cell_of_one (boxStays M5.out.1.2.1 hr); have k14 := cell_of_one (boxStays M5.out.2.2.1 hr); clear hr; (go_simp <;> with_reducible rfl)
                        try simp only [Act.put, List.setIfInBounds_toArray, List.set_cons_zero, List.set_cons_succ]
                        refine wpAnyH_take (i := 7) (oi := ⟨some 153, _, _, _, _, _⟩) (v := ?_) rfl (by kernel_rfl) (by kernel_rfl) (by kernel_rfl) (fun _ _ _ h => h) (Or.inl ⟨by rfl, ?_⟩) hS ?_
                        rotate_left 1
                        · intro w' hB; have hr := D5.out.trans (hB.mono (by have h1 := D5.out.size; have h2 := HS6.out; omega)); have k9 := cell_of_one (boxStays M5.out.1.2.1 hr); have k14 := cell_of_one (boxStays M5.out.2.2.1 hr); clear hr; (go_simp <;> with_reducible rfl)
                        try simp only [Act.put, List.setIfInBounds_toArray, List.set_cons_zero, List.set_cons_succ]
                        refine wpAnyH_take (i := 8) (oi := ⟨some 154, _, _, _, _, _⟩) (v := ?_) rfl (by kernel_rfl) (by kernel_rfl) (by kernel_rfl) (fun _ _ _ h => h) (Or.inl ⟨by rfl, ?_⟩) hS ?_
                        rotate_left 1
                        · intro w' hB; have hr := D5.out.trans (hB.mono (by have h1 := D5.out.size; have h2 := HS6.out; omega)); have k9 := cell_of_one (boxStays M5.out.1.2.1 hr); have k14 := cell_of_one (boxStays M5.out.2.2.1 hr); clear hr; (go_simp <;> with_reducible rfl)
                        try simp only [Act.put, List.setIfInBounds_toArray, List.set_cons_zero, List.set_cons_succ]
                        refine wpAnyH_ready (rs := [10]) (by kernel_rfl) (by simp) (AllReadyH.cons (o := ⟨none, _, _, _, _, _⟩) rfl (fun K hK => ?_) AllReadyH.nil)
                        have k19 := cell_of_one XY.out
                        have f19 := frozen_of_row _ c19 0 _ _ XY.out
                        replace hS := hS.setCell (p := ⟨c19, 0, none⟩) (by simpa using G19.out) (Value.pointer (pa y))
                        go_simp
                        refine hK.out _ _ hS (fun _ => ?_)
                        clear hK K k19 f19
                        try simp only [Act.put, List.setIfInBounds_toArray, List.set_cons_zero, List.set_cons_succ]
                        refine wpAnyH_take (i := 11) (oi := ⟨some 20, _, _, _, _, _⟩) (v := ?_) rfl (by kernel_rfl) (by kernel_rfl) (by kernel_rfl) (fun _ _ _ h => h) (Or.inl ⟨by rfl, ?_⟩) hS ?_
                        rotate_left 1
                        · intro w' hB; have hr := D5.out.trans (hB.mono (by have h1 := D5.out.size; have h2 := HS6.out; omega)); have k9 := cell_of_one (boxStays M5.out.1.2.1 hr); have k14 := cell_of_one (boxStays M5.out.2.2.1 hr); clear hr; (go_simp <;> with_reducible rfl)
                        try simp only [Act.put, List.setIfInBounds_toArray, List.set_cons_zero, List.set_cons_succ]
                        refine wpAnyH_done (by kernel_rfl) (NoPanic.normal ?_) _
                    case' way1 =>
                      go_simp
                      refine hK.out _ _ (hS.alloc (Nat.le_trans HZB.out hS.size) _) (fun _ => ?_)
                      clear hK K
                      refine wpAnyH_madeK hS (Nat.le_trans HZB.out hS.size) ?_
                      have hS0 := hS
                      clear hS
                      rintro w10 hw hS
                      obtain ⟨c19, hc19, hx19⟩ := made_at hw
                      have G19 : Hid (s6 ≤ c19) := Lib.hid (by have h2 := hS0.size; have h3 := HZB.out; rw [hc19] at h2; omega)
                      (try simp at hc19)
                      rw [hc19]
                      have XY := Lib.hid hx19
                      (try replace AY := Lib.hid (AY.out.below (show Below _ _ w10 by rw [hw]; exact below_new _ _) rfl))
                      clear hc19 hx19
                      clear hw hS0
                      try simp only [Act.put, List.setIfInBounds_toArray, List.set_cons_zero, List.set_cons_succ]
                      refine wpAnyH_ready (rs := [1]) (by kernel_rfl) (by simp) (AllReadyH.cons (o := ⟨some 148, _, _, _, _, _⟩) rfl (fun K hK => ?_) AllReadyH.nil)
                      go_simp
                      refine (pm_MRootI t _).mono ?_
                      rintro e w7 ⟨rfl, hb⟩
                      refine hK.out _ _ (hS.trans (hb.mono (Nat.le_trans HZB.out hS.size))) (fun _ => ?_)
                      clear hK K
                      replace hS := hS.trans (hb.mono (Nat.le_trans HZB.out hS.size))
                      (try replace XY := Lib.hid (boxStays XY.out hb))
                      clear hb
                      try simp only [Act.put, List.setIfInBounds_toArray, List.set_cons_zero, List.set_cons_succ]
                      refine wpAnyH_ready (rs := [4]) (by kernel_rfl) (by simp) (AllReadyH.cons (o := ⟨some 151, _, _, _, _, _⟩) rfl (fun K hK => ?_) AllReadyH.nil)
                      go_simp
                      refine (pm_MRootI o _).mono ?_
                      rintro e w8 ⟨rfl, hb⟩
                      refine hK.out _ _ (hS.trans (hb.mono (Nat.le_trans HZB.out hS.size))) (fun _ => ?_)
                      clear hK K
                      replace hS := hS.trans (hb.mono (Nat.le_trans HZB.out hS.size))
                      (try replace XY := Lib.hid (boxStays XY.out hb))
                      clear hb
                      try simp only [Act.put, List.setIfInBounds_toArray, List.set_cons_zero, List.set_cons_succ]
                      refine wpAnyH_ready (rs := [5]) (by kernel_rfl) (by simp) (AllReadyH.cons (o := ⟨some 152, _, _, _, _, _⟩) rfl (fun K hK => ?_) AllReadyH.nil)
                      go_simp
                      refine (HM1.out _ (D5.out.trans (hS.mono (by have h1 := D5.out.size; have h2 := HS6.out; omega)))).mono ?_
                      rintro e w9 ⟨y, fy, hy, rfl, hA, hb⟩
                      refine hK.out _ _ (hS.trans (hb.mono (Nat.le_trans HZB.out hS.size))) (fun _ => ?_)
                      clear hK K
                      replace hS := hS.trans (hb.mono (Nat.le_trans HZB.out hS.size))
                      have HY := Lib.hid hy
                      have AY := Lib.hid hA
                      clear hy hA
                      (try replace XY := Lib.hid (boxStays XY.out hb))
                      clear hb
                      try simp only [Act.put, List.setIfInBounds_toArray, List.set_cons_zero, List.set_cons_succ]
                      refine wpAnyH_take (i := 6) (oi := ⟨some 146, _, _, _, _, _⟩) (v := ?_) rfl (by kernel_rfl) (by kernel_rfl) (by kernel_rfl) (fun _ _ _ h => h) (Or.inl ⟨by rfl, ?_⟩) hS ?_
                      rotate_left 1
                      · intro w' hB; have hr := D5.out.trans (hB.mono (by have h1 := D5.out.size; have h2 := HS6.out; omega)); have k9 := cell_of_one (boxStays M5.out.1.2.1 hr); have k14 := cell_of_one (boxStays M5.out.2.2.1 hr); clear hr; (go_simp <;> with_reducible rfl)
                      try simp only [Act.put, List.setIfInBounds_toArray, List.set_cons_zero, List.set_cons_succ]
                      refine wpAnyH_take (i := 7) (oi := ⟨some 153, _, _, _, _, _⟩) (v := ?_) rfl (by kernel_rfl) (by kernel_rfl) (by kernel_rfl) (fun _ _ _ h => h) (Or.inl ⟨by rfl, ?_⟩) hS ?_
                      rotate_left 1
                      · intro w' hB; have hr := D5.out.trans (hB.mono (by have h1 := D5.out.size; have h2 := HS6.out; omega)); have k9 := cell_of_one (boxStays M5.out.1.2.1 hr); have k14 := cell_of_one (boxStays M5.out.2.2.1 hr); clear hr; (go_simp <;> with_reducible rfl)
                      try simp only [Act.put, List.setIfInBounds_toArray, List.set_cons_zero, List.set_cons_succ]
                      refine wpAnyH_take (i := 8) (oi := ⟨some 154, _, _, _, _, _⟩) (v := ?_) rfl (by kernel_rfl) (by kernel_rfl) (by kernel_rfl) (fun _ _ _ h => h) (Or.inl ⟨by rfl, ?_⟩) hS ?_
                      rotate_left 1
                      · intro w' hB; have hr := D5.out.trans (hB.mono (by have h1 := D5.out.size; have h2 := HS6.out; omega)); have k9 := cell_of_one (boxStays M5.out.1.2.1 hr); have k14 := cell_of_one (boxStays M5.out.2.2.1 hr); clear hr; (go_simp <;> with_reducible rfl)
                      try simp only [Act.put, List.setIfInBounds_toArray, List.set_cons_zero, List.set_cons_succ]
                      refine wpAnyH_ready (rs := [10]) (by kernel_rfl) (by simp) (AllReadyH.cons (o := ⟨none, _, _, _, _, _⟩) rfl (fun K hK => ?_) AllReadyH.nil)
                      have k19 := cell_of_one XY.out
                      have f19 := frozen_of_row _ c19 0 _ _ XY.out
                      replace hS := hS.setCell (p := ⟨c19, 0, none⟩) (by simpa using G19.out) (Value.pointer (pa y))
                      go_simp
                      refine hK.out _ _ hS (fun _ => ?_)
                      clear hK K k19 f19
                      try simp only [Act.put, List.setIfInBounds_toArray, List.set_cons_zero, List.set_cons_succ]
                      refine wpAnyH_take (i := 11) (oi := ⟨some 20, _, _, _, _, _⟩) (v := ?_) rfl (by kernel_rfl) (by kernel_rfl) (by kernel_rfl) (fun _ _ _ h => h) (Or.inl ⟨by rfl, ?_⟩) hS ?_
                      rotate_left 1
                      · intro w' hB; have hr := D5.out.trans (hB.mono (by have h1 := D5.out.size; have h2 := HS6.out; omega)); have k9 := cell_of_one (boxStays M5.out.1.2.1 hr); have k14 := cell_of_one (boxStays M5.out.2.2.1 hr); clear hr; (go_simp <;> with_reducible rfl)
                      try simp only [Act.put, List.setIfInBounds_toArray, List.set_cons_zero, List.set_cons_succ]
                      refine wpAnyH_done (by kernel_rfl) (NoPanic.normal ?_) _
                    all_goals
                      have hS6 := hS.mono (Nat.le_of_eq HS6.out)
                      have D8 := Lib.hid (D5.out.trans (hS6.mono D5.out.size))
                      have A8 := Lib.hid (AY.out.setBox XY.out (by decide) 0 (.pointer (pa y)))
                      have B8 := Lib.hid (AX.out.below hS6 rfl)
                      have X8 := Lib.hid (boxStays X5.out hS6)
                      have Y8 := Lib.hid (heap_setCell_same _ c19 0 _ _ (.pointer (pa y)) XY.out)
                      clear hS hS6
                      go_wp2_with fail
                      go_meet
                      exact ⟨y, fy, c19, rfl, rfl, HY, D8, Lib.hid ⟨A8.out, Y8.out⟩, Lib.hid ⟨B8.out, X8.out⟩⟩
                case rest =>
                  obtain ⟨y, fy, b19, rfl, rfl, HY, D8, Y8, X8⟩ := hcut
                  clear AX D5 X5 HM1
                  have HMD : Hid ((R = true ∧ ex = 0 ∧ items x = items t ++ (key, 7) :: items o ∧ Bal x ∧ (h1' ≤ h2' + 1 ∧ h2' ≤ h1' + 1) ∧ fy = 0 ∧ ∃ b, y = .node b t key 7 o) ∨ (R = true ∧ ex = 0 ∧ items x = items t ++ (key, 7) :: items o ∧ Bal x ∧ ¬ (h1' ≤ h2' + 1 ∧ h2' ≤ h1' + 1) ∧ fy = 2 ∧ y = .nil) ∨ (R = false ∧ ex = 2 ∧ x = .nil ∧ fy = 2 ∧ y = .nil)) := Lib.hid (by
                    have hy := HY.out
                    rw [HH1.out, HH2.out] at hy
                    rcases HX.out with ⟨e1, e2, e3, e4⟩ | ⟨e1, e2, e3⟩
                    · rcases hy with ⟨⟨g1, g2⟩, g3, g4⟩ | ⟨g1, g2, g3⟩
                      · exact .inl ⟨e1, e2, e3, e4, g2, g3, g4⟩
                      · exact .inr (.inl ⟨e1, e2, e3, e4, fun h => g1 ⟨e1, h⟩, g2, g3⟩)
                    · rcases hy with ⟨⟨g1, _⟩, _⟩ | ⟨g1, g2, g3⟩
                      · rw [e1] at g1; cases g1
                      · exact .inr (.inr ⟨e1, e2, e3, g2, g3⟩))
                  clear HY HX
                  go_wp2_with fail
                  have HC : Hid (Chain [wc] wc) := Lib.hid (Chain.one wc)
                  refine wp_region_noPanic ?_
                  refine wp_region_held_drew (S := fun w' => Below wc.heap.size wc w') (by kernel_rfl) (Below.refl _ _).drew (fun hS => ?_)
                  refine wpAnyH_take (i := 0) (oi := ⟨some 155, _, _, _, _, _⟩) (v := ?_) rfl (by kernel_rfl) (by kernel_rfl) (by kernel_rfl) (fun _ _ _ h => h) (Or.inl ⟨by rfl, ?_⟩) hS ?_
                  rotate_left 1
                  · intro w' hB; have hd := (HC.out.to wc (by simp)).trans (hB.mono (HC.out.to wc (by simp)).size); have k9 := cell_of_one (boxStays M5.out.1.2.1 (D8.out.trans (hd.mono D8.out.size))); have k14 := cell_of_one (boxStays M5.out.2.2.1 (D8.out.trans (hd.mono D8.out.size))); clear hd; have hwr := HWR.out; (go_simp <;> with_reducible rfl)
                  try simp only [Act.put, List.setIfInBounds_toArray, List.set_cons_zero, List.set_cons_succ]
                  refine wpAnyH_take (i := 2) (oi := ⟨some 157, _, _, _, _, _⟩) (v := ?_) rfl (by kernel_rfl) (by kernel_rfl) (by kernel_rfl) (fun _ _ _ h => h) (Or.inl ⟨by rfl, ?_⟩) hS ?_
                  rotate_left 1
                  · intro w' hB; have hd := (HC.out.to wc (by simp)).trans (hB.mono (HC.out.to wc (by simp)).size); have k9 := cell_of_one (boxStays M5.out.1.2.1 (D8.out.trans (hd.mono D8.out.size))); have k14 := cell_of_one (boxStays M5.out.2.2.1 (D8.out.trans (hd.mono D8.out.size))); clear hd; have hwr := HWR.out; (go_simp <;> with_reducible rfl)
                  try simp only [Act.put, List.setIfInBounds_toArray, List.set_cons_zero, List.set_cons_succ]
                  refine wpAnyH_ready (rs := [1]) (by kernel_rfl) (by simp) (AllReadyH.cons (o := ⟨some 156, _, _, _, _, _⟩) rfl (fun K hK => ?_) AllReadyH.nil)
                  go_simp
                  refine (HCT.out _ (D8.out.trans (((HC.out.to wc (by simp)).trans (hS.mono (HC.out.to wc (by simp)).size)).mono D8.out.size))).mono ?_
                  rintro e wd ⟨rfl, hb⟩
                  refine hK.out _ _ (hS.trans (hb.mono hS.size)) (fun _ => ?_)
                  clear hK K
                  have hB := hS.trans (hb.mono hS.size)
                  refine wpAnyH_now hB ?_
                  clear hS
                  have hS := Below.refl wd.heap.size wd
                  replace HC := Lib.hid (HC.out.push hB)
                  clear hB hb
                  try simp only [Act.put, List.setIfInBounds_toArray, List.set_cons_zero, List.set_cons_succ]
                  refine wpAnyH_ready (rs := [3]) (by kernel_rfl) (by simp) (AllReadyH.cons (o := ⟨some 158, _, _, _, _, _⟩) rfl (fun K hK => ?_) AllReadyH.nil)
                  go_simp
                  refine (HCO2.out _ (D8.out.trans (((HC.out.to wc (by simp)).trans (hS.mono (HC.out.to wc (by simp)).size)).mono D8.out.size))).mono ?_
                  rintro e we ⟨rfl, hb⟩
                  refine hK.out _ _ (hS.trans (hb.mono hS.size)) (fun _ => ?_)
                  clear hK K
                  have hB := hS.trans (hb.mono hS.size)
                  refine wpAnyH_now hB ?_
                  clear hS
                  have hS := Below.refl we.heap.size we
                  replace HC := Lib.hid (HC.out.push hB)
                  clear hB hb
                  try simp only [Act.put, List.setIfInBounds_toArray, List.set_cons_zero, List.set_cons_succ]
                  refine wpAnyH_take (i := 4) (oi := ⟨some 159, _, _, _, _, _⟩) (v := ?_) rfl (by kernel_rfl) (by kernel_rfl) (by kernel_rfl) (fun _ _ _ h => h) (Or.inl ⟨by rfl, ?_⟩) hS ?_
                  rotate_left 1
                  · intro w' hB; have hd := (HC.out.to wc (by simp)).trans (hB.mono (HC.out.to wc (by simp)).size); have k9 := cell_of_one (boxStays M5.out.1.2.1 (D8.out.trans (hd.mono D8.out.size))); have k14 := cell_of_one (boxStays M5.out.2.2.1 (D8.out.trans (hd.mono D8.out.size))); clear hd; have hwr := HWR.out; (go_simp <;> with_reducible rfl)
                  try simp only [Act.put, List.setIfInBounds_toArray, List.set_cons_zero, List.set_cons_succ]
                  refine wpAnyH_take (i := 5) (oi := ⟨some 21, _, _, _, _, _⟩) (v := ?_) rfl (by kernel_rfl) (by kernel_rfl) (by kernel_rfl) (fun _ _ _ h => h) (Or.inl ⟨by rfl, ?_⟩) hS ?_
                  rotate_left 1
                  · intro w' hB; have hd := (HC.out.to wc (by simp)).trans (hB.mono (HC.out.to wc (by simp)).size); have k9 := cell_of_one (boxStays M5.out.1.2.1 (D8.out.trans (hd.mono D8.out.size))); have k14 := cell_of_one (boxStays M5.out.2.2.1 (D8.out.trans (hd.mono D8.out.size))); clear hd; have hwr := HWR.out; (go_simp <;> with_reducible rfl)
                  try simp only [Act.put, List.setIfInBounds_toArray, List.set_cons_zero, List.set_cons_succ]
                  refine wpAnyH_done (by kernel_rfl) (NoPanic.normal ?_) _
                  have D9 := Lib.hid (D8.out.trans ((HC.out.to wc (by simp)).mono D8.out.size))
                  have X9 : Hid (AtI we x ∧ we.heap[b18]? = some (.cells #[.pointer (pa x)] 26 (0, 0))) := Lib.hid ⟨X8.out.1.below (HC.out.to wc (by simp)) rfl, boxStays X8.out.2 (HC.out.to wc (by simp))⟩
                  have Y9 : Hid (AtI we y ∧ we.heap[b19]? = some (.cells #[.pointer (pa y)] 26 (0, 0))) := Lib.hid ⟨Y8.out.1.below (HC.out.to wc (by simp)) rfl, boxStays Y8.out.2 (HC.out.to wc (by simp))⟩
                  clear hS HC D8 X8 Y8 HCT HCO2 HWR
                  go_upto_region 25 with (fail)
                  go_cut [203] (fun s203 wx => s203 = .bool false ∧ Hid (Below wr.heap.size wr wx ∧ Below we.heap.size we wx))
                  case first =>
                    as_aux_lemma =>
                      try simp only [List.append]
                      rcases HMD.out with ⟨rfl, rfl, _, _, ⟨d1, d2⟩, rfl, _⟩ | ⟨rfl, rfl, _, _, d, rfl, rfl⟩ | ⟨rfl, rfl, rfl, rfl, rfl⟩
                      · have g1 : (h1' : Int) - (h2' : Int) < 2 := by omega
                        have g2 : -2 < (h1' : Int) - (h2' : Int) := by omega
                        clear d1 d2 HMD
                        go_wp2_with fail
                        go_meet
                        exact ⟨rfl, Lib.hid ⟨D9.out, Below.refl _ _⟩⟩
                      · have k19 := cell_of_one Y9.out.2
                        have hpa : pa (.nil : Tr Int) = none := rfl
                        rw [hpa] at k19
                        clear hpa HMD
                        by_cases d1 : h1' ≤ h2' + 1
                        case' pos =>
                          have g1 : (h1' : Int) - (h2' : Int) < 2 := by omega
                          have g2 : ¬ -2 < (h1' : Int) - (h2' : Int) := by omega
                        case' neg => have g1 : ¬ (h1' : Int) - (h2' : Int) < 2 := by omega
                        all_goals
                          clear d1 d
                          go_wp2_with fail
                          refine (pm_MLenI .nil we trivial).mono ?_
                          rintro e wf ⟨rfl, hb⟩
                          have hsz : ((sz (.nil : Tr Int) : Nat) : Int) = 0 := rfl
                          rw [hsz]
                          clear hsz k19
                          have DF : Hid (Below wr.heap.size wr wf ∧ Below we.heap.size we wf) := Lib.hid ⟨D9.out.trans (hb.mono D9.out.size), hb⟩
                          clear hb
                          go_wp2_with fail
                          go_meet
                          exact ⟨rfl, DF⟩
                      · have k18 := cell_of_one X9.out.2
                        have hpa : pa (.nil : Tr Int) = none := rfl
                        rw [hpa] at k18
                        clear HMD
                        go_wp2_with fail
                        refine (pm_MLenI .nil we trivial).mono ?_
                        rintro e wf ⟨rfl, hb⟩
                        have hsz : ((sz (.nil : Tr Int) : Nat) : Int) = 0 := rfl
                        rw [hsz]
                        clear hsz k18
                        have DF : Hid (Below wr.heap.size wr wf ∧ Below we.heap.size we wf) := Lib.hid ⟨D9.out.trans (hb.mono D9.out.size), hb⟩
                        have k19 := cell_of_one (boxStays Y9.out.2 hb)
                        rw [hpa] at k19
                        clear hb hpa
                        go_wp2_with fail
                        refine (pm_MLenI .nil wf trivial).mono ?_
                        rintro e wg ⟨rfl, hb⟩
                        have hsz : ((sz (.nil : Tr Int) : Nat) : Int) = 0 := rfl
                        rw [hsz]
                        clear hsz k19
                        have DG : Hid (Below wr.heap.size wr wg ∧ Below we.heap.size we wg) := Lib.hid ⟨DF.out.1.trans (hb.mono DF.out.1.size), DF.out.2.trans (hb.mono DF.out.2.size)⟩
                        clear hb DF
                        go_wp2_with fail
                        go_meet
                        exact ⟨rfl, DG⟩
                  case rest =>
                    obtain ⟨rfl, DW⟩ := hcut
                    have X10 : Hid (AtI wc x ∧ wc.heap[b18]? = some (.cells #[.pointer (pa x)] 26 (0, 0))) := Lib.hid ⟨X9.out.1.below DW.out.2 rfl, boxStays X9.out.2 DW.out.2⟩
                    have Y10 : Hid (AtI wc y ∧ wc.heap[b19]? = some (.cells #[.pointer (pa y)] 26 (0, 0))) := Lib.hid ⟨Y9.out.1.below DW.out.2 rfl, boxStays Y9.out.2 DW.out.2⟩
                    have D10 := Lib.hid DW.out.1
                    clear X9 Y9 D9 DW
                    have ET := Lib.hid entT
                    have SR1 : Hid (Src Try.prog 2 27 (.slice al q capl) q (entV (items t)) wc) := Lib.hid ((CL5.out.below D10.out rfl).src (by rw [entV_length, sz_items, HQ.out]) (entV_one _) Try.underlying27 capl (Or.inr rfl))
                    have SR3 : Hid (∀ W : World, Below wr.heap.size wr W → Src Try.prog 2 27 (.slice ao z capo) z (entV (items o)) W) := Lib.hid (fun W hb => (CO.out.below hb rfl).src (by rw [entV_length, sz_items, HZ.out]) (entV_one _) Try.underlying27 capo (Or.inr rfl))
                    go_upto_region 28 with (first
                      | (at_builtin; refine wpList_app rfl _ _ 27 27 rfl wc.heap.size 47 (.agg #[.string ⟨#[]⟩, .int .i64 0]) 2 24 ET.out v2 (q + 1) (entV (items t ++ [(key, 7)])) rfl O2.out _ _ _ rfl (SR3.out _ (D10.out.trans (D12.out.mono D10.out.size))) (by omega) (by omega) (by have := D12.out.size; omega) ?_; intro v3 w13 hown _ hb _; have O3 := Lib.hid hown; have D13a := Lib.hid (D12.out.trans hb); clear hown hb)
                      | (at_builtin; refine wpList_app rfl _ _ 27 27 rfl wc.heap.size 47 (.agg #[.string ⟨#[]⟩, .int .i64 0]) 2 24 ET.out v1 q (entV (items t)) rfl (O1.out.alloc _) _ 1 [.string key, .int .i64 7] rfl ((CellsAt.new w11 47 (0, 0) [.string key, .int .i64 7]).src rfl (by simp [Value.oneCell']) Try.underlying27 1 (Or.inr rfl)) (by omega) (by omega) (by have := D11.out.size; simp; omega) ?_; intro v2 w12 hown _ hb _; have O2 : Hid (w12.ownsRow wc.heap.size 47 2 v2 (q + 1) (entV (items t ++ [(key, 7)]))) := Lib.hid (by rw [entV_append]; exact hown); have D12 := Lib.hid ((D11.out.alloc D11.out.size (.cells #[.string key, .int .i64 7] 47)).trans hb); clear hown hb)
                      | (at_builtin; refine wpList_app rfl _ _ 27 27 rfl wc.heap.size 47 (.agg #[.string ⟨#[]⟩, .int .i64 0]) 2 24 ET.out (.slice none 0 0) 0 [] rfl (World.ownsRow_nil _ _ _ _) _ q (entV (items t)) rfl SR1.out (by omega) (by omega) (Nat.le_refl _) ?_; intro v1 w11 hown _ hb _; rw [Nat.zero_add, List.nil_append] at hown; have O1 := Lib.hid hown; have D11 := Lib.hid hb; clear hown hb)
                      | fail)
                    have D13 : Hid (Below wr.heap.size wr w13) := Lib.hid (D10.out.trans (D13a.out.mono D10.out.size))
                    have X13 : Hid (AtI w13 x ∧ w13.heap[b18]? = some (.cells #[.pointer (pa x)] 26 (0, 0))) := Lib.hid ⟨X10.out.1.below D13a.out rfl, boxStays X10.out.2 D13a.out⟩
                    have Y13 : Hid (AtI w13 y ∧ w13.heap[b19]? = some (.cells #[.pointer (pa y)] 26 (0, 0))) := Lib.hid ⟨Y10.out.1.below D13a.out rfl, boxStays Y10.out.2 D13a.out⟩
                    have E13 : Hid (EntAt w13 v3 (items t ++ (key, 7) :: items o)) := Lib.hid (by
                      have := O3.out
                      rw [← entV_append] at this
                      have e : items t ++ [(key, 7)] ++ items o = items t ++ (key, 7) :: items o := by simp
                      rw [e] at this
                      exact EntAt.own this)
                    clear O1 O2 O3 D11 D12 D13a D10 X10 Y10 SR1 SR3 ET
                    obtain ⟨a3, cap3, rfl, hcap3, _, hc3⟩ := E13.out
                    have hl3 : (items t ++ (key, 7) :: items o).length = q + z + 1 := by simp only [List.length_append, List.length_cons, sz_items, HQ.out, HZ.out]; omega
                    rw [hl3] at hcap3
                    rw [hl3]
                    have htl3 : ∀ (u : Tr Int) (W : World), AtI w13 u → items u = items t ++ (key, 7) :: items o → Bal u → R = true → Below w13.heap.size w13 W → Calls Try.prog 13 #[.agg #[.pointer (pa u)], .slice a3 (q + z + 1) cap3, .int .i64 2, .string key] W fun e w' => e = .returned (.bool true) ∧ Below W.heap.size W w' := fun u W hu hi hbu hr hb => by
                      have hsu : sz u = q + z + 1 := by rw [← sz_items, hi, hl3]
                      have hsr : Srt (items u) := by
                        rw [hi]
                        have h1 := HR.out
                        rw [hr, Bool.and_eq_true] at h1
                        exact srt_joined 7 HS1.out.2 HS2.out.2.1 h1.1 h1.2
                      have := lw_tells u a3 cap3 2 key W (hu.below hb rfl) hbu hsr (by rw [hi]; exact hc3.below hb rfl) (by rw [hsu]; omega) (by rw [hsu]; exact hcap3)
                      rw [hsu] at this
                      exact this
                    have HTL3 := Lib.hid htl3
                    clear htl3 hc3 hcap3 hl3 E13
                    rcases HMD.out with ⟨hR1, rfl, hix, hbx, ⟨d1, d2⟩, rfl, by0, hy0⟩ | ⟨hR1, rfl, hix, hbx, d, rfl, rfl⟩ | ⟨rfl, rfl, rfl, rfl, rfl⟩
                    case' inr.inr =>
                      go_upto_region 30 with (fail)
                      try simp only [List.append]
                      obtain ⟨w14, rfl⟩ : ∃ W : World, W = w13 := ⟨_, rfl⟩
                      have D14 := D13
                    case' inl =>
                      subst hR1
                      have hbal2 : Bal y := by rw [hy0]; exact ⟨HS1.out.1, HS2.out.1, by rw [HH1.out, HH2.out]; exact d1, by rw [HH1.out, HH2.out]; exact d2⟩
                      have hiy : items y = items t ++ (key, 7) :: items o := by rw [hy0]; rfl
                      have HTX : Hid (∀ W : World, Below w13.heap.size w13 W → Calls Try.prog 13 #[.agg #[.pointer (pa x)], .slice a3 (q + z + 1) cap3, .int .i64 2, .string key] W fun e w' => e = .returned (.bool true) ∧ Below W.heap.size W w') := Lib.hid (fun W => HTL3.out x W X13.out.1 hix hbx rfl)
                      have HTY : Hid (∀ W : World, Below w13.heap.size w13 W → Calls Try.prog 13 #[.agg #[.pointer (pa y)], .slice a3 (q + z + 1) cap3, .int .i64 2, .string key] W fun e w' => e = .returned (.bool true) ∧ Below W.heap.size W w') := Lib.hid (fun W => HTL3.out y W Y13.out.1 hiy hbal2 rfl)
                      have HY0 : Hid (leftOr y = t ∧ rightOr y = o ∧ keyOr y = key ∧ valOr y = 7) := Lib.hid (by rw [hy0]; exact ⟨rfl, rfl, rfl, rfl⟩)
                      clear hix hbx d1 d2 hy0 hbal2 hiy by0
                    case' inr.inl =>
                      subst hR1
                      have HTX : Hid (∀ W : World, Below w13.heap.size w13 W → Calls Try.prog 13 #[.agg #[.pointer (pa x)], .slice a3 (q + z + 1) cap3, .int .i64 2, .string key] W fun e w' => e = .returned (.bool true) ∧ Below W.heap.size W w') := Lib.hid (fun W => HTL3.out x W X13.out.1 hix hbx rfl)
                      clear hix hbx d
                    case' inl =>
                      clear HTL3 HMD
                      have k18 := cell_of_one X13.out.2
                      go_wp2_with fail
                      refine (HTX.out _ (Below.refl _ _)).mono ?_
                      rintro e w14 ⟨rfl, hb⟩
                      have D14 := Lib.hid (D13.out.trans (hb.mono D13.out.size))
                      have Y14 : Hid (AtI w14 y ∧ w14.heap[b19]? = some (.cells #[.pointer (pa y)] 26 (0, 0))) := Lib.hid ⟨Y13.out.1.below hb rfl, boxStays Y13.out.2 hb⟩
                      have HTY2 : Hid (∀ W : World, Below w14.heap.size w14 W → Calls Try.prog 13 #[.agg #[.pointer (pa y)], .slice a3 (q + z + 1) cap3, .int .i64 2, .string key] W fun e w' => e = .returned (.bool true) ∧ Below W.heap.size W w') := Lib.hid (fun W h => HTY.out W (hb.trans (h.mono hb.size)))
                      clear hb k18 HTX HTY Y13 X13 D13
                      go_upto_region 30 with (fail)
                      as_aux_lemma =>
                        try simp only [List.append]
                        have HC : Hid (Chain [w14] w14) := Lib.hid (Chain.one w14)
                        refine wp_region_noPanic ?_
                        refine wp_region_held_drew (S := fun w' => Below w14.heap.size w14 w') (by kernel_rfl) (Below.refl _ _).drew (fun hS => ?_)
                        refine wpAnyH_take (i := 0) (oi := ⟨some 221, _, _, _, _, _⟩) (v := ?_) rfl (by kernel_rfl) (by kernel_rfl) (by kernel_rfl) (fun _ _ _ h => h) (Or.inl ⟨by rfl, ?_⟩) hS ?_
                        rotate_left 1
                        · intro w' hB; have hd := (HC.out.to w14 (by simp)).trans (hB.mono (HC.out.to w14 (by simp)).size); have hr := D14.out.trans (hd.mono D14.out.size); have k19 := cell_of_one (boxStays Y14.out.2 hd); have k9 := cell_of_one (boxStays M5.out.1.2.1 hr); have k14 := cell_of_one (boxStays M5.out.2.2.1 hr); have pe1 := ptrSame w' t (M5.out.1.1.below hr rfl); have pe2 := ptrSame w' o (M5.out.2.1.below hr rfl); clear hd hr; (go_simp <;> with_reducible rfl)
                        try simp only [Act.put, List.setIfInBounds_toArray, List.set_cons_zero, List.set_cons_succ]
                        refine wpAnyH_take (i := 1) (oi := ⟨some 222, _, _, _, _, _⟩) (v := ?_) rfl (by kernel_rfl) (by kernel_rfl) (by kernel_rfl) (fun _ _ _ h => h) (Or.inl ⟨by rfl, ?_⟩) hS ?_
                        rotate_left 1
                        · intro w' hB; have hd := (HC.out.to w14 (by simp)).trans (hB.mono (HC.out.to w14 (by simp)).size); have hr := D14.out.trans (hd.mono D14.out.size); have k19 := cell_of_one (boxStays Y14.out.2 hd); have k9 := cell_of_one (boxStays M5.out.1.2.1 hr); have k14 := cell_of_one (boxStays M5.out.2.2.1 hr); have pe1 := ptrSame w' t (M5.out.1.1.below hr rfl); have pe2 := ptrSame w' o (M5.out.2.1.below hr rfl); clear hd hr; (go_simp <;> with_reducible rfl)
                        try simp only [Act.put, List.setIfInBounds_toArray, List.set_cons_zero, List.set_cons_succ]
                        refine wpAnyH_take (i := 2) (oi := ⟨some 223, _, _, _, _, _⟩) (v := ?_) rfl (by kernel_rfl) (by kernel_rfl) (by kernel_rfl) (fun _ _ _ h => h) (Or.inl ⟨by rfl, ?_⟩) hS ?_
                        rotate_left 1
                        · intro w' hB; have hd := (HC.out.to w14 (by simp)).trans (hB.mono (HC.out.to w14 (by simp)).size); have hr := D14.out.trans (hd.mono D14.out.size); have k19 := cell_of_one (boxStays Y14.out.2 hd); have k9 := cell_of_one (boxStays M5.out.1.2.1 hr); have k14 := cell_of_one (boxStays M5.out.2.2.1 hr); have pe1 := ptrSame w' t (M5.out.1.1.below hr rfl); have pe2 := ptrSame w' o (M5.out.2.1.below hr rfl); clear hd hr; (go_simp <;> with_reducible rfl)
                        try simp only [Act.put, List.setIfInBounds_toArray, List.set_cons_zero, List.set_cons_succ]
                        refine wpAnyH_take (i := 3) (oi := ⟨some 224, _, _, _, _, _⟩) (v := ?_) rfl (by kernel_rfl) (by kernel_rfl) (by kernel_rfl) (fun _ _ _ h => h) (Or.inl ⟨by rfl, ?_⟩) hS ?_
                        rotate_left 1
                        · intro w' hB; have hd := (HC.out.to w14 (by simp)).trans (hB.mono (HC.out.to w14 (by simp)).size); have hr := D14.out.trans (hd.mono D14.out.size); have k19 := cell_of_one (boxStays Y14.out.2 hd); have k9 := cell_of_one (boxStays M5.out.1.2.1 hr); have k14 := cell_of_one (boxStays M5.out.2.2.1 hr); have pe1 := ptrSame w' t (M5.out.1.1.below hr rfl); have pe2 := ptrSame w' o (M5.out.2.1.below hr rfl); clear hd hr; (go_simp <;> with_reducible rfl)
                        try simp only [Act.put, List.setIfInBounds_toArray, List.set_cons_zero, List.set_cons_succ]
                        refine wpAnyH_take (i := 4) (oi := ⟨some 225, _, _, _, _, _⟩) (v := ?_) rfl (by kernel_rfl) (by kernel_rfl) (by kernel_rfl) (fun _ _ _ h => h) (Or.inl ⟨by rfl, ?_⟩) hS ?_
                        rotate_left 1
                        · intro w' hB; have hd := (HC.out.to w14 (by simp)).trans (hB.mono (HC.out.to w14 (by simp)).size); have hr := D14.out.trans (hd.mono D14.out.size); have k19 := cell_of_one (boxStays Y14.out.2 hd); have k9 := cell_of_one (boxStays M5.out.1.2.1 hr); have k14 := cell_of_one (boxStays M5.out.2.2.1 hr); have pe1 := ptrSame w' t (M5.out.1.1.below hr rfl); have pe2 := ptrSame w' o (M5.out.2.1.below hr rfl); clear hd hr; (go_simp <;> with_reducible rfl)
                        try simp only [Act.put, List.setIfInBounds_toArray, List.set_cons_zero, List.set_cons_succ]
                        refine wpAnyH_take (i := 5) (oi := ⟨some 226, _, _, _, _, _⟩) (v := ?_) rfl (by kernel_rfl) (by kernel_rfl) (by kernel_rfl) (fun _ _ _ h => h) (Or.inl ⟨by rfl, ?_⟩) hS ?_
                        rotate_left 1
                        · intro w' hB; have hd := (HC.out.to w14 (by simp)).trans (hB.mono (HC.out.to w14 (by simp)).size); have hr := D14.out.trans (hd.mono D14.out.size); have k19 := cell_of_one (boxStays Y14.out.2 hd); have k9 := cell_of_one (boxStays M5.out.1.2.1 hr); have k14 := cell_of_one (boxStays M5.out.2.2.1 hr); have pe1 := ptrSame w' t (M5.out.1.1.below hr rfl); have pe2 := ptrSame w' o (M5.out.2.1.below hr rfl); clear hd hr; (go_simp <;> with_reducible rfl)
                        try simp only [Act.put, List.setIfInBounds_toArray, List.set_cons_zero, List.set_cons_succ]
                        refine wpAnyH_ready (rs := [6]) (by kernel_rfl) (by simp) (AllReadyH.cons (o := ⟨some 227, _, _, _, _, _⟩) rfl (fun K hK => ?_) AllReadyH.nil)
                        go_simp
                        refine (HTY2.out _ ((HC.out.to w14 (by simp)).trans (hS.mono (HC.out.to w14 (by simp)).size))).mono ?_
                        rintro e w15 ⟨rfl, hb⟩
                        refine hK.out _ _ (hS.trans (hb.mono hS.size)) (fun _ => ?_)
                        clear hK K
                        have hB := hS.trans (hb.mono hS.size)
                        refine wpAnyH_now hB ?_
                        clear hS
                        have hS := Below.refl w15.heap.size w15
                        replace HC := Lib.hid (HC.out.push hB)
                        clear hB hb
                        try simp only [Act.put, List.setIfInBounds_toArray, List.set_cons_zero, List.set_cons_succ]
                        refine wpAnyH_take (i := 7) (oi := ⟨some 228, _, _, _, _, _⟩) (v := ?_) rfl (by kernel_rfl) (by kernel_rfl) (by kernel_rfl) (fun _ _ _ h => h) (Or.inl ⟨by rfl, ?_⟩) hS ?_
                        rotate_left 1
                        · intro w' hB; have hd := (HC.out.to w14 (by simp)).trans (hB.mono (HC.out.to w14 (by simp)).size); have hr := D14.out.trans (hd.mono D14.out.size); have k19 := cell_of_one (boxStays Y14.out.2 hd); have k9 := cell_of_one (boxStays M5.out.1.2.1 hr); have k14 := cell_of_one (boxStays M5.out.2.2.1 hr); have pe1 := ptrSame w' t (M5.out.1.1.below hr rfl); have pe2 := ptrSame w' o (M5.out.2.1.below hr rfl); clear hd hr; (go_simp <;> with_reducible rfl)
                        try simp only [Act.put, List.setIfInBounds_toArray, List.set_cons_zero, List.set_cons_succ]
                        refine wpAnyH_take (i := 8) (oi := ⟨some 229, _, _, _, _, _⟩) (v := ?_) rfl (by kernel_rfl) (by kernel_rfl) (by kernel_rfl) (fun _ _ _ h => h) (Or.inl ⟨by rfl, ?_⟩) hS ?_
                        rotate_left 1
                        · intro w' hB; have hd := (HC.out.to w14 (by simp)).trans (hB.mono (HC.out.to w14 (by simp)).size); have hr := D14.out.trans (hd.mono D14.out.size); have k19 := cell_of_one (boxStays Y14.out.2 hd); have k9 := cell_of_one (boxStays M5.out.1.2.1 hr); have k14 := cell_of_one (boxStays M5.out.2.2.1 hr); have pe1 := ptrSame w' t (M5.out.1.1.below hr rfl); have pe2 := ptrSame w' o (M5.out.2.1.below hr rfl); clear hd hr; (go_simp <;> with_reducible rfl)
                        try simp only [Act.put, List.setIfInBounds_toArray, List.set_cons_zero, List.set_cons_succ]
                        refine wpAnyH_take (i := 11) (oi := ⟨some 232, _, _, _, _, _⟩) (v := ?_) rfl (by kernel_rfl) (by kernel_rfl) (by kernel_rfl) (fun _ _ _ h => h) (Or.inl ⟨by rfl, ?_⟩) hS ?_
                        rotate_left 1
                        · intro w' hB; have hd := (HC.out.to w14 (by simp)).trans (hB.mono (HC.out.to w14 (by simp)).size); have hr := D14.out.trans (hd.mono D14.out.size); have k19 := cell_of_one (boxStays Y14.out.2 hd); have k9 := cell_of_one (boxStays M5.out.1.2.1 hr); have k14 := cell_of_one (boxStays M5.out.2.2.1 hr); have pe1 := ptrSame w' t (M5.out.1.1.below hr rfl); have pe2 := ptrSame w' o (M5.out.2.1.below hr rfl); clear hd hr; (go_simp <;> with_reducible rfl)
                        try simp only [Act.put, List.setIfInBounds_toArray, List.set_cons_zero, List.set_cons_succ]
                        refine wpAnyH_ready (rs := [9]) (by kernel_rfl) (by simp) (AllReadyH.cons (o := ⟨some 230, _, _, _, _, _⟩) rfl (fun K hK => ?_) AllReadyH.nil)
                        go_simp
                        refine (pm_MRootI y _).mono ?_
                        rintro e w16 ⟨rfl, hb⟩
                        refine hK.out _ _ (hS.trans (hb.mono hS.size)) (fun _ => ?_)
                        clear hK K
                        have hB := hS.trans (hb.mono hS.size)
                        refine wpAnyH_now hB ?_
                        clear hS
                        have hS := Below.refl w16.heap.size w16
                        replace HC := Lib.hid (HC.out.push hB)
                        clear hB hb
                        try simp only [Act.put, List.setIfInBounds_toArray, List.set_cons_zero, List.set_cons_succ]
                        refine wpAnyH_ready (rs := [10]) (by kernel_rfl) (by simp) (AllReadyH.cons (o := ⟨some 231, _, _, _, _, _⟩) rfl (fun K hK => ?_) AllReadyH.nil)
                        go_simp
                        refine (calls_exact (pm_LeftI y _ (Y14.out.1.chain HC.out hS (by simp)))).mono ?_
                        rintro e w17 ⟨rfl, hb⟩
                        refine hK.out _ _ (hS.trans (hb.mono hS.size)) (fun _ => ?_)
                        clear hK K
                        have hB := hS.trans (hb.mono hS.size)
                        refine wpAnyH_now hB ?_
                        clear hS
                        have hS := Below.refl w17.heap.size w17
                        replace HC := Lib.hid (HC.out.push hB)
                        rw [HY0.out.1]
                        clear hB hb
                        try simp only [Act.put, List.setIfInBounds_toArray, List.set_cons_zero, List.set_cons_succ]
                        refine wpAnyH_ready (rs := [12]) (by kernel_rfl) (by simp) (AllReadyH.cons (o := ⟨some 233, _, _, _, _, _⟩) rfl (fun K hK => ?_) AllReadyH.nil)
                        go_simp
                        refine (pm_MRootI t _).mono ?_
                        rintro e w18 ⟨rfl, hb⟩
                        refine hK.out _ _ (hS.trans (hb.mono hS.size)) (fun _ => ?_)
                        clear hK K
                        have hB := hS.trans (hb.mono hS.size)
                        refine wpAnyH_now hB ?_
                        clear hS
                        have hS := Below.refl w18.heap.size w18
                        replace HC := Lib.hid (HC.out.push hB)
                        clear hB hb
                        try simp only [Act.put, List.setIfInBounds_toArray, List.set_cons_zero, List.set_cons_succ]
                        refine wpAnyH_take (i := 13) (oi := ⟨some 234, _, _, _, _, _⟩) (v := ?_) rfl (by kernel_rfl) (by kernel_rfl) (by kernel_rfl) (fun _ _ _ h => h) (Or.inl ⟨by rfl, ?_⟩) hS ?_
                        rotate_left 1
                        · intro w' hB; have hd := (HC.out.to w14 (by simp)).trans (hB.mono (HC.out.to w14 (by simp)).size); have hr := D14.out.trans (hd.mono D14.out.size); have k19 := cell_of_one (boxStays Y14.out.2 hd); have k9 := cell_of_one (boxStays M5.out.1.2.1 hr); have k14 := cell_of_one (boxStays M5.out.2.2.1 hr); have pe1 := ptrSame w' t (M5.out.1.1.below hr rfl); have pe2 := ptrSame w' o (M5.out.2.1.below hr rfl); clear hd hr; (go_simp <;> with_reducible rfl)
                        try simp only [Act.put, List.setIfInBounds_toArray, List.set_cons_zero, List.set_cons_succ]
                        refine wpAnyH_take (i := 14) (oi := ⟨some 235, _, _, _, _, _⟩) (v := ?_) rfl (by kernel_rfl) (by kernel_rfl) (by kernel_rfl) (fun _ _ _ h => h) (Or.inl ⟨by rfl, ?_⟩) hS ?_
                        rotate_left 1
                        · intro w' hB; have hd := (HC.out.to w14 (by simp)).trans (hB.mono (HC.out.to w14 (by simp)).size); have hr := D14.out.trans (hd.mono D14.out.size); have k19 := cell_of_one (boxStays Y14.out.2 hd); have k9 := cell_of_one (boxStays M5.out.1.2.1 hr); have k14 := cell_of_one (boxStays M5.out.2.2.1 hr); have pe1 := ptrSame w' t (M5.out.1.1.below hr rfl); have pe2 := ptrSame w' o (M5.out.2.1.below hr rfl); clear hd hr; (go_simp <;> with_reducible rfl)
                        try simp only [Act.put, List.setIfInBounds_toArray, List.set_cons_zero, List.set_cons_succ]
                        refine wpAnyH_take (i := 15) (oi := ⟨some 236, _, _, _, _, _⟩) (v := ?_) rfl (by kernel_rfl) (by kernel_rfl) (by kernel_rfl) (fun _ _ _ h => h) (Or.inl ⟨by rfl, ?_⟩) hS ?_
                        rotate_left 1
                        · intro w' hB; have hd := (HC.out.to w14 (by simp)).trans (hB.mono (HC.out.to w14 (by simp)).size); have hr := D14.out.trans (hd.mono D14.out.size); have k19 := cell_of_one (boxStays Y14.out.2 hd); have k9 := cell_of_one (boxStays M5.out.1.2.1 hr); have k14 := cell_of_one (boxStays M5.out.2.2.1 hr); have pe1 := ptrSame w' t (M5.out.1.1.below hr rfl); have pe2 := ptrSame w' o (M5.out.2.1.below hr rfl); clear hd hr; (go_simp <;> with_reducible rfl)
                        try simp only [Act.put, List.setIfInBounds_toArray, List.set_cons_zero, List.set_cons_succ]
                        refine wpAnyH_take (i := 16) (oi := ⟨some 237, _, _, _, _, _⟩) (v := ?_) rfl (by kernel_rfl) (by kernel_rfl) (by kernel_rfl) (fun _ _ _ h => h) (Or.inl ⟨by rfl, ?_⟩) hS ?_
                        rotate_left 1
                        · intro w' hB; have hd := (HC.out.to w14 (by simp)).trans (hB.mono (HC.out.to w14 (by simp)).size); have hr := D14.out.trans (hd.mono D14.out.size); have k19 := cell_of_one (boxStays Y14.out.2 hd); have k9 := cell_of_one (boxStays M5.out.1.2.1 hr); have k14 := cell_of_one (boxStays M5.out.2.2.1 hr); have pe1 := ptrSame w' t (M5.out.1.1.below hr rfl); have pe2 := ptrSame w' o (M5.out.2.1.below hr rfl); clear hd hr; (go_simp <;> with_reducible rfl)
                        try simp only [Act.put, List.setIfInBounds_toArray, List.set_cons_zero, List.set_cons_succ]
                        refine wpAnyH_take (i := 19) (oi := ⟨some 240, _, _, _, _, _⟩) (v := ?_) rfl (by kernel_rfl) (by kernel_rfl) (by kernel_rfl) (fun _ _ _ h => h) (Or.inl ⟨by rfl, ?_⟩) hS ?_
                        rotate_left 1
                        · intro w' hB; have hd := (HC.out.to w14 (by simp)).trans (hB.mono (HC.out.to w14 (by simp)).size); have hr := D14.out.trans (hd.mono D14.out.size); have k19 := cell_of_one (boxStays Y14.out.2 hd); have k9 := cell_of_one (boxStays M5.out.1.2.1 hr); have k14 := cell_of_one (boxStays M5.out.2.2.1 hr); have pe1 := ptrSame w' t (M5.out.1.1.below hr rfl); have pe2 := ptrSame w' o (M5.out.2.1.below hr rfl); clear hd hr; (go_simp <;> with_reducible rfl)
                        try simp only [Act.put, List.setIfInBounds_toArray, List.set_cons_zero, List.set_cons_succ]
                        refine wpAnyH_ready (rs := [17]) (by kernel_rfl) (by simp) (AllReadyH.cons (o := ⟨some 238, _, _, _, _, _⟩) rfl (fun K hK => ?_) AllReadyH.nil)
                        go_simp
                        refine (pm_MRootI y _).mono ?_
                        rintro e w19 ⟨rfl, hb⟩
                        refine hK.out _ _ (hS.trans (hb.mono hS.size)) (fun _ => ?_)
                        clear hK K
                        have hB := hS.trans (hb.mono hS.size)
                        refine wpAnyH_now hB ?_
                        clear hS
                        have hS := Below.refl w19.heap.size w19
                        replace HC := Lib.hid (HC.out.push hB)
                        clear hB hb
                        try simp only [Act.put, List.setIfInBounds_toArray, List.set_cons_zero, List.set_cons_succ]
                        refine wpAnyH_ready (rs := [18]) (by kernel_rfl) (by simp) (AllReadyH.cons (o := ⟨some 239, _, _, _, _, _⟩) rfl (fun K hK => ?_) AllReadyH.nil)
                        go_simp
                        refine (calls_exact (pm_RightI y _ (Y14.out.1.chain HC.out hS (by simp)))).mono ?_
                        rintro e w20 ⟨rfl, hb⟩
                        refine hK.out _ _ (hS.trans (hb.mono hS.size)) (fun _ => ?_)
                        clear hK K
                        have hB := hS.trans (hb.mono hS.size)
                        refine wpAnyH_now hB ?_
                        clear hS
                        have hS := Below.refl w20.heap.size w20
                        replace HC := Lib.hid (HC.out.push hB)
                        rw [HY0.out.2.1]
                        clear hB hb
                        try simp only [Act.put, List.setIfInBounds_toArray, List.set_cons_zero, List.set_cons_succ]
                        refine wpAnyH_ready (rs := [20]) (by kernel_rfl) (by simp) (AllReadyH.cons (o := ⟨some 241, _, _, _, _, _⟩) rfl (fun K hK => ?_) AllReadyH.nil)
                        go_simp
                        refine (pm_MRootI o _).mono ?_
                        rintro e w21 ⟨rfl, hb⟩
                        refine hK.out _ _ (hS.trans (hb.mono hS.size)) (fun _ => ?_)
                        clear hK K
                        have hB := hS.trans (hb.mono hS.size)
                        refine wpAnyH_now hB ?_
                        clear hS
                        have hS := Below.refl w21.heap.size w21
                        replace HC := Lib.hid (HC.out.push hB)
                        clear hB hb
                        try simp only [Act.put, List.setIfInBounds_toArray, List.set_cons_zero, List.set_cons_succ]
                        refine wpAnyH_take (i := 21) (oi := ⟨some 242, _, _, _, _, _⟩) (v := ?_) rfl (by kernel_rfl) (by kernel_rfl) (by kernel_rfl) (fun _ _ _ h => h) (Or.inl ⟨by rfl, ?_⟩) hS ?_
                        rotate_left 1
                        · intro w' hB; have hd := (HC.out.to w14 (by simp)).trans (hB.mono (HC.out.to w14 (by simp)).size); have hr := D14.out.trans (hd.mono D14.out.size); have k19 := cell_of_one (boxStays Y14.out.2 hd); have k9 := cell_of_one (boxStays M5.out.1.2.1 hr); have k14 := cell_of_one (boxStays M5.out.2.2.1 hr); have pe1 := ptrSame w' t (M5.out.1.1.below hr rfl); have pe2 := ptrSame w' o (M5.out.2.1.below hr rfl); clear hd hr; (go_simp <;> with_reducible rfl)
                        try simp only [Act.put, List.setIfInBounds_toArray, List.set_cons_zero, List.set_cons_succ]
                        refine wpAnyH_take (i := 22) (oi := ⟨some 243, _, _, _, _, _⟩) (v := ?_) rfl (by kernel_rfl) (by kernel_rfl) (by kernel_rfl) (fun _ _ _ h => h) (Or.inl ⟨by rfl, ?_⟩) hS ?_
                        rotate_left 1
                        · intro w' hB; have hd := (HC.out.to w14 (by simp)).trans (hB.mono (HC.out.to w14 (by simp)).size); have hr := D14.out.trans (hd.mono D14.out.size); have k19 := cell_of_one (boxStays Y14.out.2 hd); have k9 := cell_of_one (boxStays M5.out.1.2.1 hr); have k14 := cell_of_one (boxStays M5.out.2.2.1 hr); have pe1 := ptrSame w' t (M5.out.1.1.below hr rfl); have pe2 := ptrSame w' o (M5.out.2.1.below hr rfl); clear hd hr; (go_simp <;> with_reducible rfl)
                        try simp only [Act.put, List.setIfInBounds_toArray, List.set_cons_zero, List.set_cons_succ]
                        refine wpAnyH_take (i := 23) (oi := ⟨some 244, _, _, _, _, _⟩) (v := ?_) rfl (by kernel_rfl) (by kernel_rfl) (by kernel_rfl) (fun _ _ _ h => h) (Or.inl ⟨by rfl, ?_⟩) hS ?_
                        rotate_left 1
                        · intro w' hB; have hd := (HC.out.to w14 (by simp)).trans (hB.mono (HC.out.to w14 (by simp)).size); have hr := D14.out.trans (hd.mono D14.out.size); have k19 := cell_of_one (boxStays Y14.out.2 hd); have k9 := cell_of_one (boxStays M5.out.1.2.1 hr); have k14 := cell_of_one (boxStays M5.out.2.2.1 hr); have pe1 := ptrSame w' t (M5.out.1.1.below hr rfl); have pe2 := ptrSame w' o (M5.out.2.1.below hr rfl); clear hd hr; (go_simp <;> with_reducible rfl)
                        try simp only [Act.put, List.setIfInBounds_toArray, List.set_cons_zero, List.set_cons_succ]
                        refine wpAnyH_take (i := 24) (oi := ⟨some 245, _, _, _, _, _⟩) (v := ?_) rfl (by kernel_rfl) (by kernel_rfl) (by kernel_rfl) (fun _ _ _ h => h) (Or.inl ⟨by rfl, ?_⟩) hS ?_
                        rotate_left 1
                        · intro w' hB; have hd := (HC.out.to w14 (by simp)).trans (hB.mono (HC.out.to w14 (by simp)).size); have hr := D14.out.trans (hd.mono D14.out.size); have k19 := cell_of_one (boxStays Y14.out.2 hd); have k9 := cell_of_one (boxStays M5.out.1.2.1 hr); have k14 := cell_of_one (boxStays M5.out.2.2.1 hr); have pe1 := ptrSame w' t (M5.out.1.1.below hr rfl); have pe2 := ptrSame w' o (M5.out.2.1.below hr rfl); clear hd hr; (go_simp <;> with_reducible rfl)
                        try simp only [Act.put, List.setIfInBounds_toArray, List.set_cons_zero, List.set_cons_succ]
                        refine wpAnyH_take (i := 27) (oi := ⟨some 248, _, _, _, _, _⟩) (v := ?_) rfl (by kernel_rfl) (by kernel_rfl) (by kernel_rfl) (fun _ _ _ h => h) (Or.inl ⟨by rfl, ?_⟩) hS ?_
                        rotate_left 1
                        · intro w' hB; have hd := (HC.out.to w14 (by simp)).trans (hB.mono (HC.out.to w14 (by simp)).size); have hr := D14.out.trans (hd.mono D14.out.size); have k19 := cell_of_one (boxStays Y14.out.2 hd); have k9 := cell_of_one (boxStays M5.out.1.2.1 hr); have k14 := cell_of_one (boxStays M5.out.2.2.1 hr); have pe1 := ptrSame w' t (M5.out.1.1.below hr rfl); have pe2 := ptrSame w' o (M5.out.2.1.below hr rfl); clear hd hr; (go_simp <;> with_reducible rfl)
                        try simp only [Act.put, List.setIfInBounds_toArray, List.set_cons_zero, List.set_cons_succ]
                        refine wpAnyH_ready (rs := [25]) (by kernel_rfl) (by simp) (AllReadyH.cons (o := ⟨some 246, _, _, _, _, _⟩) rfl (fun K hK => ?_) AllReadyH.nil)
                        go_simp
                        refine (pm_MRootI y _).mono ?_
                        rintro e w22 ⟨rfl, hb⟩
                        refine hK.out _ _ (hS.trans (hb.mono hS.size)) (fun _ => ?_)
                        clear hK K
                        have hB := hS.trans (hb.mono hS.size)
                        refine wpAnyH_now hB ?_
                        clear hS
                        have hS := Below.refl w22.heap.size w22
                        replace HC := Lib.hid (HC.out.push hB)
                        clear hB hb
                        try simp only [Act.put, List.setIfInBounds_toArray, List.set_cons_zero, List.set_cons_succ]
                        refine wpAnyH_ready (rs := [26]) (by kernel_rfl) (by simp) (AllReadyH.cons (o := ⟨some 247, _, _, _, _, _⟩) rfl (fun K hK => ?_) AllReadyH.nil)
                        go_simp
                        refine (calls_exact (pm_KeyI y _ (Y14.out.1.chain HC.out hS (by simp)))).mono ?_
                        rintro e w23 ⟨rfl, hb⟩
                        refine hK.out _ _ (hS.trans (hb.mono hS.size)) (fun _ => ?_)
                        clear hK K
                        have hB := hS.trans (hb.mono hS.size)
                        refine wpAnyH_now hB ?_
                        clear hS
                        have hS := Below.refl w23.heap.size w23
                        replace HC := Lib.hid (HC.out.push hB)
                        rw [HY0.out.2.2.1]
                        clear hB hb
                        try simp only [Act.put, List.setIfInBounds_toArray, List.set_cons_zero, List.set_cons_succ]
                        refine wpAnyH_take (i := 28) (oi := ⟨some 249, _, _, _, _, _⟩) (v := ?_) rfl (by kernel_rfl) (by kernel_rfl) (by kernel_rfl) (fun _ _ _ h => h) (Or.inl ⟨by rfl, ?_⟩) hS ?_
                        rotate_left 1
                        · intro w' hB; have hd := (HC.out.to w14 (by simp)).trans (hB.mono (HC.out.to w14 (by simp)).size); have hr := D14.out.trans (hd.mono D14.out.size); have k19 := cell_of_one (boxStays Y14.out.2 hd); have k9 := cell_of_one (boxStays M5.out.1.2.1 hr); have k14 := cell_of_one (boxStays M5.out.2.2.1 hr); have pe1 := ptrSame w' t (M5.out.1.1.below hr rfl); have pe2 := ptrSame w' o (M5.out.2.1.below hr rfl); clear hd hr; (go_simp <;> with_reducible rfl)
                        try simp only [Act.put, List.setIfInBounds_toArray, List.set_cons_zero, List.set_cons_succ]
                        refine wpAnyH_take (i := 29) (oi := ⟨some 250, _, _, _, _, _⟩) (v := ?_) rfl (by kernel_rfl) (by kernel_rfl) (by kernel_rfl) (fun _ _ _ h => h) (Or.inl ⟨by rfl, ?_⟩) hS ?_
                        rotate_left 1
                        · intro w' hB; have hd := (HC.out.to w14 (by simp)).trans (hB.mono (HC.out.to w14 (by simp)).size); have hr := D14.out.trans (hd.mono D14.out.size); have k19 := cell_of_one (boxStays Y14.out.2 hd); have k9 := cell_of_one (boxStays M5.out.1.2.1 hr); have k14 := cell_of_one (boxStays M5.out.2.2.1 hr); have pe1 := ptrSame w' t (M5.out.1.1.below hr rfl); have pe2 := ptrSame w' o (M5.out.2.1.below hr rfl); clear hd hr; (go_simp <;> with_reducible rfl)
                        try simp only [Act.put, List.setIfInBounds_toArray, List.set_cons_zero, List.set_cons_succ]
                        refine wpAnyH_take (i := 30) (oi := ⟨some 251, _, _, _, _, _⟩) (v := ?_) rfl (by kernel_rfl) (by kernel_rfl) (by kernel_rfl) (fun _ _ _ h => h) (Or.inl ⟨by rfl, ?_⟩) hS ?_
                        rotate_left 1
                        · intro w' hB; have hd := (HC.out.to w14 (by simp)).trans (hB.mono (HC.out.to w14 (by simp)).size); have hr := D14.out.trans (hd.mono D14.out.size); have k19 := cell_of_one (boxStays Y14.out.2 hd); have k9 := cell_of_one (boxStays M5.out.1.2.1 hr); have k14 := cell_of_one (boxStays M5.out.2.2.1 hr); have pe1 := ptrSame w' t (M5.out.1.1.below hr rfl); have pe2 := ptrSame w' o (M5.out.2.1.below hr rfl); clear hd hr; (go_simp <;> with_reducible rfl)
                        try simp only [Act.put, List.setIfInBounds_toArray, List.set_cons_zero, List.set_cons_succ]
                        refine wpAnyH_take (i := 31) (oi := ⟨some 252, _, _, _, _, _⟩) (v := ?_) rfl (by kernel_rfl) (by kernel_rfl) (by kernel_rfl) (fun _ _ _ h => h) (Or.inl ⟨by rfl, ?_⟩) hS ?_
                        rotate_left 1
                        · intro w' hB; have hd := (HC.out.to w14 (by simp)).trans (hB.mono (HC.out.to w14 (by simp)).size); have hr := D14.out.trans (hd.mono D14.out.size); have k19 := cell_of_one (boxStays Y14.out.2 hd); have k9 := cell_of_one (boxStays M5.out.1.2.1 hr); have k14 := cell_of_one (boxStays M5.out.2.2.1 hr); have pe1 := ptrSame w' t (M5.out.1.1.below hr rfl); have pe2 := ptrSame w' o (M5.out.2.1.below hr rfl); clear hd hr; (go_simp <;> with_reducible rfl)
                        try simp only [Act.put, List.setIfInBounds_toArray, List.set_cons_zero, List.set_cons_succ]
                        refine wpAnyH_ready (rs := [32]) (by kernel_rfl) (by simp) (AllReadyH.cons (o := ⟨some 253, _, _, _, _, _⟩) rfl (fun K hK => ?_) AllReadyH.nil)
                        go_simp
                        refine (pm_MRootI y _).mono ?_
                        rintro e w24 ⟨rfl, hb⟩
                        refine hK.out _ _ (hS.trans (hb.mono hS.size)) (fun _ => ?_)
                        clear hK K
                        have hB := hS.trans (hb.mono hS.size)
                        refine wpAnyH_now hB ?_
                        clear hS
                        have hS := Below.refl w24.heap.size w24
                        replace HC := Lib.hid (HC.out.push hB)
                        clear hB hb
                        try simp only [Act.put, List.setIfInBounds_toArray, List.set_cons_zero, List.set_cons_succ]
                        refine wpAnyH_ready (rs := [33]) (by kernel_rfl) (by simp) (AllReadyH.cons (o := ⟨some 254, _, _, _, _, _⟩) rfl (fun K hK => ?_) AllReadyH.nil)
                        go_simp
                        refine (calls_exact (pm_ValueI y _ (Y14.out.1.chain HC.out hS (by simp)))).mono ?_
                        rintro e w25 ⟨rfl, hb⟩
                        refine hK.out _ _ (hS.trans (hb.mono hS.size)) (fun _ => ?_)
                        clear hK K
                        have hB := hS.trans (hb.mono hS.size)
                        refine wpAnyH_now hB ?_
                        clear hS
                        have hS := Below.refl w25.heap.size w25
                        replace HC := Lib.hid (HC.out.push hB)
                        rw [HY0.out.2.2.2]
                        clear hB hb
                        try simp only [Act.put, List.setIfInBounds_toArray, List.set_cons_zero, List.set_cons_succ]
                        refine wpAnyH_take (i := 34) (oi := ⟨some 255, _, _, _, _, _⟩) (v := ?_) rfl (by kernel_rfl) (by kernel_rfl) (by kernel_rfl) (fun _ _ _ h => h) (Or.inl ⟨by rfl, ?_⟩) hS ?_
                        rotate_left 1
                        · intro w' hB; have hd := (HC.out.to w14 (by simp)).trans (hB.mono (HC.out.to w14 (by simp)).size); have hr := D14.out.trans (hd.mono D14.out.size); have k19 := cell_of_one (boxStays Y14.out.2 hd); have k9 := cell_of_one (boxStays M5.out.1.2.1 hr); have k14 := cell_of_one (boxStays M5.out.2.2.1 hr); have pe1 := ptrSame w' t (M5.out.1.1.below hr rfl); have pe2 := ptrSame w' o (M5.out.2.1.below hr rfl); clear hd hr; (go_simp <;> with_reducible rfl)
                        try simp only [Act.put, List.setIfInBounds_toArray, List.set_cons_zero, List.set_cons_succ]
                        refine wpAnyH_take (i := 35) (oi := ⟨some 256, _, _, _, _, _⟩) (v := ?_) rfl (by kernel_rfl) (by kernel_rfl) (by kernel_rfl) (fun _ _ _ h => h) (Or.inl ⟨by rfl, ?_⟩) hS ?_
                        rotate_left 1
                        · intro w' hB; have hd := (HC.out.to w14 (by simp)).trans (hB.mono (HC.out.to w14 (by simp)).size); have hr := D14.out.trans (hd.mono D14.out.size); have k19 := cell_of_one (boxStays Y14.out.2 hd); have k9 := cell_of_one (boxStays M5.out.1.2.1 hr); have k14 := cell_of_one (boxStays M5.out.2.2.1 hr); have pe1 := ptrSame w' t (M5.out.1.1.below hr rfl); have pe2 := ptrSame w' o (M5.out.2.1.below hr rfl); clear hd hr; (go_simp <;> with_reducible rfl)
                        try simp only [Act.put, List.setIfInBounds_toArray, List.set_cons_zero, List.set_cons_succ]
                        refine wpAnyH_take (i := 36) (oi := ⟨some 257, _, _, _, _, _⟩) (v := ?_) rfl (by kernel_rfl) (by kernel_rfl) (by kernel_rfl) (fun _ _ _ h => h) (Or.inl ⟨by rfl, ?_⟩) hS ?_
                        rotate_left 1
                        · intro w' hB; have hd := (HC.out.to w14 (by simp)).trans (hB.mono (HC.out.to w14 (by simp)).size); have hr := D14.out.trans (hd.mono D14.out.size); have k19 := cell_of_one (boxStays Y14.out.2 hd); have k9 := cell_of_one (boxStays M5.out.1.2.1 hr); have k14 := cell_of_one (boxStays M5.out.2.2.1 hr); have pe1 := ptrSame w' t (M5.out.1.1.below hr rfl); have pe2 := ptrSame w' o (M5.out.2.1.below hr rfl); clear hd hr; (go_simp <;> with_reducible rfl)
                        try simp only [Act.put, List.setIfInBounds_toArray, List.set_cons_zero, List.set_cons_succ]
                        refine wpAnyH_take (i := 37) (oi := ⟨some 258, _, _, _, _, _⟩) (v := ?_) rfl (by kernel_rfl) (by kernel_rfl) (by kernel_rfl) (fun _ _ _ h => h) (Or.inl ⟨by rfl, ?_⟩) hS ?_
                        rotate_left 1
                        · intro w' hB; have hd := (HC.out.to w14 (by simp)).trans (hB.mono (HC.out.to w14 (by simp)).size); have hr := D14.out.trans (hd.mono D14.out.size); have k19 := cell_of_one (boxStays Y14.out.2 hd); have k9 := cell_of_one (boxStays M5.out.1.2.1 hr); have k14 := cell_of_one (boxStays M5.out.2.2.1 hr); have pe1 := ptrSame w' t (M5.out.1.1.below hr rfl); have pe2 := ptrSame w' o (M5.out.2.1.below hr rfl); clear hd hr; (go_simp <;> with_reducible rfl)
                        try simp only [Act.put, List.setIfInBounds_toArray, List.set_cons_zero, List.set_cons_succ]
                        refine wpAnyH_ready (rs := [38]) (by kernel_rfl) (by simp) (AllReadyH.cons (o := ⟨some 259, _, _, _, _, _⟩) rfl (fun K hK => ?_) AllReadyH.nil)
                        go_simp
                        refine (lw_known _).mono ?_
                        rintro e w26 ⟨rfl, hb⟩
                        refine hK.out _ _ (hS.trans (hb.mono hS.size)) (fun _ => ?_)
                        clear hK K
                        have hB := hS.trans (hb.mono hS.size)
                        refine wpAnyH_now hB ?_
                        clear hS
                        have hS := Below.refl w26.heap.size w26
                        replace HC := Lib.hid (HC.out.push hB)
                        clear hB hb
                        try simp only [Act.put, List.setIfInBounds_toArray, List.set_cons_zero, List.set_cons_succ]
                        refine wpAnyH_take (i := 39) (oi := ⟨some 260, _, _, _, _, _⟩) (v := ?_) rfl (by kernel_rfl) (by kernel_rfl) (by kernel_rfl) (fun _ _ _ h => h) (Or.inl ⟨by rfl, ?_⟩) hS ?_
                        rotate_left 1
                        · intro w' hB; have hd := (HC.out.to w14 (by simp)).trans (hB.mono (HC.out.to w14 (by simp)).size); have hr := D14.out.trans (hd.mono D14.out.size); have k19 := cell_of_one (boxStays Y14.out.2 hd); have k9 := cell_of_one (boxStays M5.out.1.2.1 hr); have k14 := cell_of_one (boxStays M5.out.2.2.1 hr); have pe1 := ptrSame w' t (M5.out.1.1.below hr rfl); have pe2 := ptrSame w' o (M5.out.2.1.below hr rfl); clear hd hr; (go_simp <;> with_reducible rfl)
                        try simp only [Act.put, List.setIfInBounds_toArray, List.set_cons_zero, List.set_cons_succ]
                        refine wpAnyH_take (i := 40) (oi := ⟨some 8, _, _, _, _, _⟩) (v := ?_) rfl (by kernel_rfl) (by kernel_rfl) (by kernel_rfl) (fun _ _ _ h => h) (Or.inl ⟨by rfl, ?_⟩) hS ?_
                        rotate_left 1
                        · intro w' hB; have hd := (HC.out.to w14 (by simp)).trans (hB.mono (HC.out.to w14 (by simp)).size); have hr := D14.out.trans (hd.mono D14.out.size); have k19 := cell_of_one (boxStays Y14.out.2 hd); have k9 := cell_of_one (boxStays M5.out.1.2.1 hr); have k14 := cell_of_one (boxStays M5.out.2.2.1 hr); have pe1 := ptrSame w' t (M5.out.1.1.below hr rfl); have pe2 := ptrSame w' o (M5.out.2.1.below hr rfl); clear hd hr; (go_simp <;> with_reducible rfl)
                        try simp only [Act.put, List.setIfInBounds_toArray, List.set_cons_zero, List.set_cons_succ]
                        refine wpAnyH_done (by kernel_rfl) (NoPanic.normal ?_) _
                        have DD : Hid (Below w.heap.size w w26) := Lib.hid (M5.out.1.2.2.1.trans ((D14.out.trans ((HC.out.to w14 (by simp)).mono D14.out.size)).mono M5.out.1.2.2.1.size))
                        clear hS HC
                        go_wp2_with fail
                        go_ret
                        exact ⟨rfl, DD.out⟩
                    case' inr.inl =>
                      clear HTL3 HMD
                      have k18 := cell_of_one X13.out.2
                      go_wp2_with fail
                      refine (HTX.out _ (Below.refl _ _)).mono ?_
                      rintro e w14 ⟨rfl, hb⟩
                      have D14 := Lib.hid (D13.out.trans (hb.mono D13.out.size))
                      clear hb k18 HTX Y13 X13 D13
                      go_upto_region 30 with (fail)
                      try simp only [List.append]
                    case' inr.inr =>
                      clear HTL3 HMD X13 Y13
                    all_goals
                      as_aux_lemma =>
                        have HC : Hid (Chain [w14] w14) := Lib.hid (Chain.one w14)
                        refine wp_region_noPanic ?_
                        refine wp_region_held_drew (S := fun w' => Below w14.heap.size w14 w') (by kernel_rfl) (Below.refl _ _).drew (fun hS => ?_)
                        refine wpAnyH_take (i := 0) (oi := ⟨some 221, _, _, _, _, _⟩) (v := ?_) rfl (by kernel_rfl) (by kernel_rfl) (by kernel_rfl) (fun _ _ _ h => h) (Or.inl ⟨by rfl, ?_⟩) hS ?_
                        rotate_left 1
                        · intro w' hB; skip; (go_simp <;> with_reducible rfl)
                        try simp only [Act.put, List.setIfInBounds_toArray, List.set_cons_zero, List.set_cons_succ]
                        refine wpAnyH_take (i := 1) (oi := ⟨some 222, _, _, _, _, _⟩) (v := ?_) rfl (by kernel_rfl) (by kernel_rfl) (by kernel_rfl) (fun _ _ _ h => h) (Or.inl ⟨by rfl, ?_⟩) hS ?_
                        rotate_left 1
                        · intro w' hB; skip; (go_simp <;> with_reducible rfl)
                        try simp only [Act.put, List.setIfInBounds_toArray, List.set_cons_zero, List.set_cons_succ]
                        refine wpAnyH_take (i := 2) (oi := ⟨some 223, _, _, _, _, _⟩) (v := ?_) rfl (by kernel_rfl) (by kernel_rfl) (by kernel_rfl) (fun _ _ _ h => h) (Or.inl ⟨by rfl, ?_⟩) hS ?_
                        rotate_left 1
                        · intro w' hB; skip; (go_simp <;> with_reducible rfl)
                        try simp only [Act.put, List.setIfInBounds_toArray, List.set_cons_zero, List.set_cons_succ]
                        refine wpAnyH_take (i := 3) (oi := ⟨some 224, _, _, _, _, _⟩) rfl (by kernel_rfl) (by kernel_rfl) (by kernel_rfl) (fun _ _ _ h => h) (Or.inr ⟨by rfl, rfl⟩) hS ?_
                        try simp only [Act.put, List.setIfInBounds_toArray, List.set_cons_zero, List.set_cons_succ]
                        refine wpAnyH_take (i := 4) (oi := ⟨some 225, _, _, _, _, _⟩) rfl (by kernel_rfl) (by kernel_rfl) (by kernel_rfl) (fun _ _ _ h => h) (Or.inr ⟨by rfl, rfl⟩) hS ?_
                        try simp only [Act.put, List.setIfInBounds_toArray, List.set_cons_zero, List.set_cons_succ]
                        refine wpAnyH_take (i := 5) (oi := ⟨some 226, _, _, _, _, _⟩) rfl (by kernel_rfl) (by kernel_rfl) (by kernel_rfl) (fun _ _ _ h => h) (Or.inr ⟨by rfl, rfl⟩) hS ?_
                        try simp only [Act.put, List.setIfInBounds_toArray, List.set_cons_zero, List.set_cons_succ]
                        refine wpAnyH_take (i := 6) (oi := ⟨some 227, _, _, _, _, _⟩) rfl (by kernel_rfl) (by kernel_rfl) (by kernel_rfl) (fun _ _ _ h => h) (Or.inr ⟨by rfl, rfl⟩) hS ?_
                        try simp only [Act.put, List.setIfInBounds_toArray, List.set_cons_zero, List.set_cons_succ]
                        refine wpAnyH_take (i := 7) (oi := ⟨some 228, _, _, _, _, _⟩) rfl (by kernel_rfl) (by kernel_rfl) (by kernel_rfl) (fun _ _ _ h => h) (Or.inr ⟨by rfl, rfl⟩) hS ?_
                        try simp only [Act.put, List.setIfInBounds_toArray, List.set_cons_zero, List.set_cons_succ]
                        refine wpAnyH_take (i := 8) (oi := ⟨some 229, _, _, _, _, _⟩) rfl (by kernel_rfl) (by kernel_rfl) (by kernel_rfl) (fun _ _ _ h => h) (Or.inr ⟨by rfl, rfl⟩) hS ?_
                        try simp only [Act.put, List.setIfInBounds_toArray, List.set_cons_zero, List.set_cons_succ]
                        refine wpAnyH_take (i := 9) (oi := ⟨some 230, _, _, _, _, _⟩) rfl (by kernel_rfl) (by kernel_rfl) (by kernel_rfl) (fun _ _ _ h => h) (Or.inr ⟨by rfl, rfl⟩) hS ?_
                        try simp only [Act.put, List.setIfInBounds_toArray, List.set_cons_zero, List.set_cons_succ]
                        refine wpAnyH_take (i := 10) (oi := ⟨some 231, _, _, _, _, _⟩) rfl (by kernel_rfl) (by kernel_rfl) (by kernel_rfl) (fun _ _ _ h => h) (Or.inr ⟨by rfl, rfl⟩) hS ?_
                        try simp only [Act.put, List.setIfInBounds_toArray, List.set_cons_zero, List.set_cons_succ]
                        refine wpAnyH_take (i := 11) (oi := ⟨some 232, _, _, _, _, _⟩) rfl (by kernel_rfl) (by kernel_rfl) (by kernel_rfl) (fun _ _ _ h => h) (Or.inr ⟨by rfl, rfl⟩) hS ?_
                        try simp only [Act.put, List.setIfInBounds_toArray, List.set_cons_zero, List.set_cons_succ]
                        refine wpAnyH_take (i := 12) (oi := ⟨some 233, _, _, _, _, _⟩) rfl (by kernel_rfl) (by kernel_rfl) (by kernel_rfl) (fun _ _ _ h => h) (Or.inr ⟨by rfl, rfl⟩) hS ?_
                        try simp only [Act.put, List.setIfInBounds_toArray, List.set_cons_zero, List.set_cons_succ]
                        refine wpAnyH_take (i := 13) (oi := ⟨some 234, _, _, _, _, _⟩) rfl (by kernel_rfl) (by kernel_rfl) (by kernel_rfl) (fun _ _ _ h => h) (Or.inr ⟨by rfl, rfl⟩) hS ?_
                        try simp only [Act.put, List.setIfInBounds_toArray, List.set_cons_zero, List.set_cons_succ]
                        refine wpAnyH_take (i := 14) (oi := ⟨some 235, _, _, _, _, _⟩) rfl (by kernel_rfl) (by kernel_rfl) (by kernel_rfl) (fun _ _ _ h => h) (Or.inr ⟨by rfl, rfl⟩) hS ?_
                        try simp only [Act.put, List.setIfInBounds_toArray, List.set_cons_zero, List.set_cons_succ]
                        refine wpAnyH_take (i := 15) (oi := ⟨some 236, _, _, _, _, _⟩) rfl (by kernel_rfl) (by kernel_rfl) (by kernel_rfl) (fun _ _ _ h => h) (Or.inr ⟨by rfl, rfl⟩) hS ?_
                        try simp only [Act.put, List.setIfInBounds_toArray, List.set_cons_zero, List.set_cons_succ]
                        refine wpAnyH_take (i := 16) (oi := ⟨some 237, _, _, _, _, _⟩) rfl (by kernel_rfl) (by kernel_rfl) (by kernel_rfl) (fun _ _ _ h => h) (Or.inr ⟨by rfl, rfl⟩) hS ?_
                        try simp only [Act.put, List.setIfInBounds_toArray, List.set_cons_zero, List.set_cons_succ]
                        refine wpAnyH_take (i := 17) (oi := ⟨some 238, _, _, _, _, _⟩) rfl (by kernel_rfl) (by kernel_rfl) (by kernel_rfl) (fun _ _ _ h => h) (Or.inr ⟨by rfl, rfl⟩) hS ?_
                        try simp only [Act.put, List.setIfInBounds_toArray, List.set_cons_zero, List.set_cons_succ]
                        refine wpAnyH_take (i := 18) (oi := ⟨some 239, _, _, _, _, _⟩) rfl (by kernel_rfl) (by kernel_rfl) (by kernel_rfl) (fun _ _ _ h => h) (Or.inr ⟨by rfl, rfl⟩) hS ?_
                        try simp only [Act.put, List.setIfInBounds_toArray, List.set_cons_zero, List.set_cons_succ]
                        refine wpAnyH_take (i := 19) (oi := ⟨some 240, _, _, _, _, _⟩) rfl (by kernel_rfl) (by kernel_rfl) (by kernel_rfl) (fun _ _ _ h => h) (Or.inr ⟨by rfl, rfl⟩) hS ?_
                        try simp only [Act.put, List.setIfInBounds_toArray, List.set_cons_zero, List.set_cons_succ]
                        refine wpAnyH_take (i := 20) (oi := ⟨some 241, _, _, _, _, _⟩) rfl (by kernel_rfl) (by kernel_rfl) (by kernel_rfl) (fun _ _ _ h => h) (Or.inr ⟨by rfl, rfl⟩) hS ?_
                        try simp only [Act.put, List.setIfInBounds_toArray, List.set_cons_zero, List.set_cons_succ]
                        refine wpAnyH_take (i := 21) (oi := ⟨some 242, _, _, _, _, _⟩) rfl (by kernel_rfl) (by kernel_rfl) (by kernel_rfl) (fun _ _ _ h => h) (Or.inr ⟨by rfl, rfl⟩) hS ?_
                        try simp only [Act.put, List.setIfInBounds_toArray, List.set_cons_zero, List.set_cons_succ]
                        refine wpAnyH_take (i := 22) (oi := ⟨some 243, _, _, _, _, _⟩) rfl (by kernel_rfl) (by kernel_rfl) (by kernel_rfl) (fun _ _ _ h => h) (Or.inr ⟨by rfl, rfl⟩) hS ?_
                        try simp only [Act.put, List.setIfInBounds_toArray, List.set_cons_zero, List.set_cons_succ]
                        refine wpAnyH_take (i := 23) (oi := ⟨some 244, _, _, _, _, _⟩) rfl (by kernel_rfl) (by kernel_rfl) (by kernel_rfl) (fun _ _ _ h => h) (Or.inr ⟨by rfl, rfl⟩) hS ?_
                        try simp only [Act.put, List.setIfInBounds_toArray, List.set_cons_zero, List.set_cons_succ]
                        refine wpAnyH_take (i := 24) (oi := ⟨some 245, _, _, _, _, _⟩) rfl (by kernel_rfl) (by kernel_rfl) (by kernel_rfl) (fun _ _ _ h => h) (Or.inr ⟨by rfl, rfl⟩) hS ?_
                        try simp only [Act.put, List.setIfInBounds_toArray, List.set_cons_zero, List.set_cons_succ]
                        refine wpAnyH_take (i := 25) (oi := ⟨some 246, _, _, _, _, _⟩) rfl (by kernel_rfl) (by kernel_rfl) (by kernel_rfl) (fun _ _ _ h => h) (Or.inr ⟨by rfl, rfl⟩) hS ?_
                        try simp only [Act.put, List.setIfInBounds_toArray, List.set_cons_zero, List.set_cons_succ]
                        refine wpAnyH_take (i := 26) (oi := ⟨some 247, _, _, _, _, _⟩) rfl (by kernel_rfl) (by kernel_rfl) (by kernel_rfl) (fun _ _ _ h => h) (Or.inr ⟨by rfl, rfl⟩) hS ?_
                        try simp only [Act.put, List.setIfInBounds_toArray, List.set_cons_zero, List.set_cons_succ]
                        refine wpAnyH_take (i := 27) (oi := ⟨some 248, _, _, _, _, _⟩) rfl (by kernel_rfl) (by kernel_rfl) (by kernel_rfl) (fun _ _ _ h => h) (Or.inr ⟨by rfl, rfl⟩) hS ?_
                        try simp only [Act.put, List.setIfInBounds_toArray, List.set_cons_zero, List.set_cons_succ]
                        refine wpAnyH_take (i := 28) (oi := ⟨some 249, _, _, _, _, _⟩) rfl (by kernel_rfl) (by kernel_rfl) (by kernel_rfl) (fun _ _ _ h => h) (Or.inr ⟨by rfl, rfl⟩) hS ?_
                        try simp only [Act.put, List.setIfInBounds_toArray, List.set_cons_zero, List.set_cons_succ]
                        refine wpAnyH_take (i := 29) (oi := ⟨some 250, _, _, _, _, _⟩) rfl (by kernel_rfl) (by kernel_rfl) (by kernel_rfl) (fun _ _ _ h => h) (Or.inr ⟨by rfl, rfl⟩) hS ?_
                        try simp only [Act.put, List.setIfInBounds_toArray, List.set_cons_zero, List.set_cons_succ]
                        refine wpAnyH_take (i := 30) (oi := ⟨some 251, _, _, _, _, _⟩) rfl (by kernel_rfl) (by kernel_rfl) (by kernel_rfl) (fun _ _ _ h => h) (Or.inr ⟨by rfl, rfl⟩) hS ?_
                        try simp only [Act.put, List.setIfInBounds_toArray, List.set_cons_zero, List.set_cons_succ]
                        refine wpAnyH_take (i := 31) (oi := ⟨some 252, _, _, _, _, _⟩) rfl (by kernel_rfl) (by kernel_rfl) (by kernel_rfl) (fun _ _ _ h => h) (Or.inr ⟨by rfl, rfl⟩) hS ?_
                        try simp only [Act.put, List.setIfInBounds_toArray, List.set_cons_zero, List.set_cons_succ]
                        refine wpAnyH_take (i := 32) (oi := ⟨some 253, _, _, _, _, _⟩) rfl (by kernel_rfl) (by kernel_rfl) (by kernel_rfl) (fun _ _ _ h => h) (Or.inr ⟨by rfl, rfl⟩) hS ?_
                        try simp only [Act.put, List.setIfInBounds_toArray, List.set_cons_zero, List.set_cons_succ]
                        refine wpAnyH_take (i := 33) (oi := ⟨some 254, _, _, _, _, _⟩) rfl (by kernel_rfl) (by kernel_rfl) (by kernel_rfl) (fun _ _ _ h => h) (Or.inr ⟨by rfl, rfl⟩) hS ?_
                        try simp only [Act.put, List.setIfInBounds_toArray, List.set_cons_zero, List.set_cons_succ]
                        refine wpAnyH_take (i := 34) (oi := ⟨some 255, _, _, _, _, _⟩) rfl (by kernel_rfl) (by kernel_rfl) (by kernel_rfl) (fun _ _ _ h => h) (Or.inr ⟨by rfl, rfl⟩) hS ?_
                        try simp only [Act.put, List.setIfInBounds_toArray, List.set_cons_zero, List.set_cons_succ]
                        refine wpAnyH_take (i := 35) (oi := ⟨some 256, _, _, _, _, _⟩) rfl (by kernel_rfl) (by kernel_rfl) (by kernel_rfl) (fun _ _ _ h => h) (Or.inr ⟨by rfl, rfl⟩) hS ?_
                        try simp only [Act.put, List.setIfInBounds_toArray, List.set_cons_zero, List.set_cons_succ]
                        refine wpAnyH_take (i := 36) (oi := ⟨some 257, _, _, _, _, _⟩) (v := ?_) rfl (by kernel_rfl) (by kernel_rfl) (by kernel_rfl) (fun _ _ _ h => h) (Or.inl ⟨by rfl, ?_⟩) hS ?_
                        rotate_left 1
                        · intro w' hB; skip; (go_simp <;> with_reducible rfl)
                        try simp only [Act.put, List.setIfInBounds_toArray, List.set_cons_zero, List.set_cons_succ]
                        refine wpAnyH_take (i := 37) (oi := ⟨some 258, _, _, _, _, _⟩) (v := ?_) rfl (by kernel_rfl) (by kernel_rfl) (by kernel_rfl) (fun _ _ _ h => h) (Or.inl ⟨by rfl, ?_⟩) hS ?_
                        rotate_left 1
                        · intro w' hB; skip; (go_simp <;> with_reducible rfl)
                        try simp only [Act.put, List.setIfInBounds_toArray, List.set_cons_zero, List.set_cons_succ]
                        refine wpAnyH_ready (rs := [38]) (by kernel_rfl) (by simp) (AllReadyH.cons (o := ⟨some 259, _, _, _, _, _⟩) rfl (fun K hK => ?_) AllReadyH.nil)
                        go_simp
                        refine (lw_known _).mono ?_
                        rintro e w26 ⟨rfl, hb⟩
                        refine hK.out _ _ (hS.trans (hb.mono hS.size)) (fun _ => ?_)
                        clear hK K
                        have hB := hS.trans (hb.mono hS.size)
                        refine wpAnyH_now hB ?_
                        clear hS
                        have hS := Below.refl w26.heap.size w26
                        replace HC := Lib.hid (HC.out.push hB)
                        clear hB hb
                        try simp only [Act.put, List.setIfInBounds_toArray, List.set_cons_zero, List.set_cons_succ]
                        refine wpAnyH_take (i := 39) (oi := ⟨some 260, _, _, _, _, _⟩) (v := ?_) rfl (by kernel_rfl) (by kernel_rfl) (by kernel_rfl) (fun _ _ _ h => h) (Or.inl ⟨by rfl, ?_⟩) hS ?_
                        rotate_left 1
                        · intro w' hB; skip; (go_simp <;> with_reducible rfl)
                        try simp only [Act.put, List.setIfInBounds_toArray, List.set_cons_zero, List.set_cons_succ]
                        refine wpAnyH_take (i := 40) (oi := ⟨some 8, _, _, _, _, _⟩) (v := ?_) rfl (by kernel_rfl) (by kernel_rfl) (by kernel_rfl) (fun _ _ _ h => h) (Or.inl ⟨by rfl, ?_⟩) hS ?_
                        rotate_left 1
                        · intro w' hB; skip; (go_simp <;> with_reducible rfl)
                        try simp only [Act.put, List.setIfInBounds_toArray, List.set_cons_zero, List.set_cons_succ]
                        refine wpAnyH_done (by kernel_rfl) (NoPanic.normal ?_) _
                        have DD : Hid (Below w.heap.size w w26) := Lib.hid (M5.out.1.2.2.1.trans ((D14.out.trans ((HC.out.to w14 (by simp)).mono D14.out.size)).mono M5.out.1.2.2.1.size))
                        clear hS HC
                        go_wp2_with fail
                        go_ret
                        exact ⟨rfl, DD.out⟩
end Go.Proofs.Ytikdlhbamdefaaa

