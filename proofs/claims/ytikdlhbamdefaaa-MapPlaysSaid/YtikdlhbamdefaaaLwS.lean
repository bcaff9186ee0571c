
/- Walks: MapPlays. -/
import Derived.Test.YtikdlhbamdefaaaLwR
import Derived.Test.YtikdlhbamdefaaaTail2
import Derived.Deep.DeepCutAuto
import Derived.Deep.CutBlock
namespace Go.Proofs.Ytikdlhbamdefaaa
open Go.RowKit Pm
set_option maxRecDepth 100000 in
set_option maxHeartbeats 8000000 in
theorem lw_MapPlays (sts : List (Int × ByteArray × Int)) (asd : Option Addr) (cs : Nat) (leave : Int) (fr : ByteArray) (w : World) (hst : CellsAt w asd (stV sts)) (hl : sts.length ≤ maxLen) :
    Calls Try.prog 5 #[.slice asd sts.length cs, .int .i64 leave, .string fr] w fun e w' => e = .returned (.bool true) ∧ Below w.heap.size w w' := by
  have HST := Lib.hid hst
  clear hst
  obtain ⟨n, hn⟩ : ∃ n, sts.length = n := ⟨_, rfl⟩
  have HN := Lib.hid hn
  rw [hn] at hl ⊢
  clear hn
  unfold maxLen at hl
  by_cases hbig : 60 < n
  · have h1i : (60 : Int) < (n : Int) := by omega
    have hkn := lw_known w
    have HKN := Lib.hid hkn
    clear hkn
    go_enter Try.func5, Try.ntmps5
    go_wp2_with fail
    refine HKN.out.mono ?_
    rintro e w1 ⟨rfl, hb⟩
    go_wp2_with fail
    go_ret
    exact ⟨rfl, hb⟩
  · have h1 : n ≤ 60 := by omega
    have h1i : ¬ (60 : Int) < (n : Int) := by omega
    clear hbig
    have F0 : Hid (PlF w .nil (.slice none 0 0) [] [] (w.alloc (.cells #[.pointer none] 26))) := Lib.hid ⟨trivial, heap_alloc_new w _, EntT.nil _, below_new w _, fun j x hj => by simp at hj⟩
    have R0 : Hid (PlR w [] [] (.slice none 0 0) (.slice none 0 0) (w.alloc (.cells #[.pointer none] 26))) := Lib.hid ⟨World.ownsRow_nil _ _ _ _, World.ownsRow_nil _ _ _ _, rfl⟩
    go_enter Try.func5, Try.ntmps5
    go_wp2_with fail
    generalize w.alloc (.cells #[.pointer none] 26) = w1 at *
    go_loopw [8, 9, 10, 11] (fun s8 s9 s10 si wr => ∃ (i : Nat) (t : Tr Int) (ts : List (Tr Int)) (vs : List Value), si = .int .i64 (i : Int) ∧ i ≤ n ∧ Hid (PlF w t s8 ts vs wr) ∧ Hid (PlR w ts vs s9 s10 wr) ∧ Hid (PlG i t) ∧ Hid (ts.length = i ∧ ∀ x ∈ ts, PlG 60 x)) (fun _ _ _ si _ => n - (intOf si).toNat)
    case atStart => exact ⟨0, .nil, [], [], rfl, Nat.zero_le _, F0, R0, Lib.hid ⟨trivial, List.Pairwise.nil, Nat.le_refl _⟩, Lib.hid ⟨rfl, fun x hx => by cases hx⟩⟩
    case round =>
      clear F0 R0
      obtain ⟨i, t, ts, vs, rfl, hi, HF, HR, HG, HTS⟩ := hrel
      by_cases hlt : i < n
      · have hx0 : True := trivial
        have hli : (i : Int) < (n : Int) := by omega
        have hnle : ¬ n ≤ i := by omega
        have hdle : decide (n ≤ i) = false := by simp; omega
        have his : i < sts.length := by rw [HN.out]; exact hlt
        obtain ⟨⟨kd, key, vl⟩, hx⟩ : ∃ x, sts[i]'his = x := ⟨_, rfl⟩
        obtain ⟨e0, e1, e2⟩ := stV_get sts i his
        rw [hx] at e0 e1 e2
        obtain ⟨b, off, ha, hc0⟩ := HST.out.get _ _ e0
        obtain ⟨b', off', ha', hc1⟩ := HST.out.get _ _ e1
        rw [ha] at ha'
        cases ha'
        obtain ⟨b', off', ha', hc2⟩ := HST.out.get _ _ e2
        rw [ha] at ha'
        cases ha'
        subst ha
        have q0 : wr.cell? ⟨b, off + i * 3, none⟩ = some (.int .i64 kd) := (HF.out.2.2.2.1.cell (p := ⟨b, off + i * 3, none⟩) (block_lt_of_cell hc0)).trans hc0
        have q1 : wr.cell? ⟨b, off + i * 3 + 1, none⟩ = some (.string key) := (HF.out.2.2.2.1.cell (p := ⟨b, off + (i * 3 + 1), none⟩) (block_lt_of_cell hc1)).trans hc1
        have q2 : wr.cell? ⟨b, off + i * 3 + 2, none⟩ = some (.int .i64 vl) := (HF.out.2.2.2.1.cell (p := ⟨b, off + (i * 3 + 2), none⟩) (block_lt_of_cell hc2)).trans hc2
        have hkb : Hid (True) := Lib.hid trivial
        have k7 := cell_of_one HF.out.2.1
        have HE : Hid (EntAt wr u8 (items t)) := Lib.hid HF.out.2.2.1.at
        obtain ⟨al, capl, rfl, hcapl, hcml, hcl⟩ := HE.out
        obtain ⟨z, hz⟩ : ∃ z, sz t = z := ⟨_, rfl⟩
        have HZ := Lib.hid hz
        have hz60 : z ≤ i := by rw [← hz]; exact HG.out.2.2
        rw [sz_items, hz] at hcapl HF
        rw [sz_items, hz]
        have HCP : Hid (z ≤ capl ∧ capl ≤ maxLen) := Lib.hid ⟨hcapl, hcml⟩
        have hcl2 := True.intro
        clear hc0 hc1 hc2 e0 e1 e2 hx his hz hcapl hcml hcl HE
        have hlt7 : w.heap.size < wr.heap.size := (Array.getElem?_eq_some_iff.1 HF.out.2.1).1
        have hne7 : w.heap.size ≠ wr.heap.size := by omega
        go_wp2_with fail
        clear hlt7 hne7
        obtain ⟨c12, hc12⟩ : ∃ c, wr.heap.size = c := ⟨_, rfl⟩
        have hlt12 : w.heap.size < c12 := by rw [← hc12]; exact (Array.getElem?_eq_some_iff.1 HF.out.2.1).1
        obtain ⟨w2, hw2⟩ : ∃ W, (wr.alloc (.cells #[.int .i64 kd, .string key, .int .i64 vl] 57)).alloc (.cells #[.pointer (pa t)] 26) = W := ⟨_, rfl⟩
        have hb2 : Below wr.heap.size wr w2 := by rw [← hw2]; exact ((Below.refl _ wr).alloc (Nat.le_refl _) _).alloc (by simp) _
        have X12 : Hid (w2.heap[c12]? = some (.cells #[.int .i64 kd, .string key, .int .i64 vl] 57 (0, 0))) := Lib.hid (by rw [← hw2, ← hc12]; exact boxStays (heap_alloc_new wr _) (below_new _ _))
        have X13 : Hid (w2.heap[c12 + 1]? = some (.cells #[.pointer (pa t)] 26 (0, 0))) := Lib.hid (by rw [← hw2, ← hc12]; have := heap_alloc_new (wr.alloc (.cells #[.int .i64 kd, .string key, .int .i64 vl] 57)) (.cells #[.pointer (pa t)] 26); simpa using this)
        have F2 := Lib.hid (HF.out.below hb2)
        have R2 := Lib.hid (HR.out.below hb2)
        have HW2 := Lib.hid hw2
        have HC12 := Lib.hid hc12
        clear q0 q1 q2 k7 hb2 hw2 hc12 HF HR hcl2
        rw [HW2.out, HC12.out]
        clear HW2 HC12
        have hat : ∀ W : World, Below w2.heap.size w2 W → Calls Try.prog 16 #[.slice al z capl, .string key] W fun e w' => e = .returned (.tuple #[.int .i64 (posL (items t) key : Int), .bool (isL (items t) key)]) ∧ Below W.heap.size W w' := fun W hb => lw_atT (items t) key _ W (F2.out.2.2.1.below hb) (by rw [sz_items, HZ.out]; omega)
        obtain ⟨p0, hp0⟩ : ∃ p, posL (items t) key = p := ⟨_, rfl⟩
        obtain ⟨th, hth⟩ : ∃ p, isL (items t) key = p := ⟨_, rfl⟩
        rw [hp0, hth] at hat
        have HP0 := Lib.hid hp0
        have HTH := Lib.hid hth
        have HAT := Lib.hid hat
        clear hp0 hth hat
        refine (HAT.out _ (Below.refl _ _)).mono ?_
        rintro e w3 ⟨rfl, hb⟩
        have F3 := Lib.hid (F2.out.below hb)
        have R3 := Lib.hid (R2.out.below hb)
        have Y12 := Lib.hid (boxStays X12.out hb)
        have Y13 := Lib.hid (boxStays X13.out hb)
        have HAT3 : Hid (∀ W : World, Below w3.heap.size w3 W → Calls Try.prog 16 #[.slice al z capl, .string key] W fun e w' => e = .returned (.tuple #[.int .i64 (p0 : Int), .bool th]) ∧ Below W.heap.size W w') := Lib.hid (fun W h => HAT.out W (hb.trans (h.mono hb.size)))
        clear hb F2 R2 X12 X13 HAT
        have k12 := box3 Y12.out
        go_upto_block 2 with (fail)
        clear k12
        go_cut [8] (fun s8 wx => ∃ t' : Tr Int, Hid (PlF w t' s8 ts vs wx) ∧ Hid (PlR w ts vs u9 u10 wx) ∧ Hid (PlG (i + 1) t'))
        case first =>
          by_cases hk1 : kd = 1
          · subst hk1
            as_aux_lemma =>
              have hx0 : True := trivial
              go_wp2_with fail
              have HC : Hid (Chain [w3] w3) := Lib.hid (Chain.one w3)
              refine wp_region_noPanic ?_
              refine region_tail (S := fun w' => Below w3.heap.size w3 w') [12, 13] (by kernel_rfl) (Below.refl _ _).drew (fun hS => ?_)
              refine anyT_take2 (i := 0) (oi := ⟨some 53, _, _, _, _, _⟩) (v := ?_) rfl (by kernel_rfl) (by kernel_rfl) (by rfl) (fun _ _ _ h => h) (by kernel_rfl) (by kernel_rfl) (by kernel_rfl) (Or.inl ⟨by rfl, ?_⟩) hS ?_
              rotate_left 1
              · intro w' hB; have hd := (HC.out.to w3 (by simp)).trans (hB.mono (HC.out.to w3 (by simp)).size); have k7 := cell_of_one (boxStays F3.out.2.1 hd); have k12 := box3 (boxStays Y12.out hd); clear hd; (go_simp <;> with_reducible rfl)
              try simp only [Act.put, List.setIfInBounds_toArray, List.set_cons_zero, List.set_cons_succ]
              refine anyT_take2 (i := 1) (oi := ⟨some 54, _, _, _, _, _⟩) (v := ?_) rfl (by kernel_rfl) (by kernel_rfl) (by rfl) (fun _ _ _ h => h) (by kernel_rfl) (by kernel_rfl) (by kernel_rfl) (Or.inl ⟨by rfl, ?_⟩) hS ?_
              rotate_left 1
              · intro w' hB; have hd := (HC.out.to w3 (by simp)).trans (hB.mono (HC.out.to w3 (by simp)).size); have k7 := cell_of_one (boxStays F3.out.2.1 hd); have k12 := box3 (boxStays Y12.out hd); clear hd; (go_simp <;> with_reducible rfl)
              try simp only [Act.put, List.setIfInBounds_toArray, List.set_cons_zero, List.set_cons_succ]
              refine anyT_take2 (i := 2) (oi := ⟨some 55, _, _, _, _, _⟩) (v := ?_) rfl (by kernel_rfl) (by kernel_rfl) (by rfl) (fun _ _ _ h => h) (by kernel_rfl) (by kernel_rfl) (by kernel_rfl) (Or.inl ⟨by rfl, ?_⟩) hS ?_
              rotate_left 1
              · intro w' hB; have hd := (HC.out.to w3 (by simp)).trans (hB.mono (HC.out.to w3 (by simp)).size); have k7 := cell_of_one (boxStays F3.out.2.1 hd); have k12 := box3 (boxStays Y12.out hd); clear hd; (go_simp <;> with_reducible rfl)
              try simp only [Act.put, List.setIfInBounds_toArray, List.set_cons_zero, List.set_cons_succ]
              refine anyT_take2 (i := 3) (oi := ⟨some 56, _, _, _, _, _⟩) (v := ?_) rfl (by kernel_rfl) (by kernel_rfl) (by rfl) (fun _ _ _ h => h) (by kernel_rfl) (by kernel_rfl) (by kernel_rfl) (Or.inl ⟨by rfl, ?_⟩) hS ?_
              rotate_left 1
              · intro w' hB; have hd := (HC.out.to w3 (by simp)).trans (hB.mono (HC.out.to w3 (by simp)).size); have k7 := cell_of_one (boxStays F3.out.2.1 hd); have k12 := box3 (boxStays Y12.out hd); clear hd; (go_simp <;> with_reducible rfl)
              try simp only [Act.put, List.setIfInBounds_toArray, List.set_cons_zero, List.set_cons_succ]
              refine anyT_take2 (i := 4) (oi := ⟨some 57, _, _, _, _, _⟩) (v := ?_) rfl (by kernel_rfl) (by kernel_rfl) (by rfl) (fun _ _ _ h => h) (by kernel_rfl) (by kernel_rfl) (by kernel_rfl) (Or.inl ⟨by rfl, ?_⟩) hS ?_
              rotate_left 1
              · intro w' hB; have hd := (HC.out.to w3 (by simp)).trans (hB.mono (HC.out.to w3 (by simp)).size); have k7 := cell_of_one (boxStays F3.out.2.1 hd); have k12 := box3 (boxStays Y12.out hd); clear hd; (go_simp <;> with_reducible rfl)
              try simp only [Act.put, List.setIfInBounds_toArray, List.set_cons_zero, List.set_cons_succ]
              refine anyT_take2 (i := 6) (oi := ⟨some 59, _, _, _, _, _⟩) (v := ?_) rfl (by kernel_rfl) (by kernel_rfl) (by rfl) (fun _ _ _ h => h) (by kernel_rfl) (by kernel_rfl) (by kernel_rfl) (Or.inl ⟨by rfl, ?_⟩) hS ?_
              rotate_left 1
              · intro w' hB; have hd := (HC.out.to w3 (by simp)).trans (hB.mono (HC.out.to w3 (by simp)).size); have k7 := cell_of_one (boxStays F3.out.2.1 hd); have k12 := box3 (boxStays Y12.out hd); clear hd; (go_simp <;> with_reducible rfl)
              try simp only [Act.put, List.setIfInBounds_toArray, List.set_cons_zero, List.set_cons_succ]
              refine anyT_take2 (i := 7) (oi := ⟨some 60, _, _, _, _, _⟩) (v := ?_) rfl (by kernel_rfl) (by kernel_rfl) (by rfl) (fun _ _ _ h => h) (by kernel_rfl) (by kernel_rfl) (by kernel_rfl) (Or.inl ⟨by rfl, ?_⟩) hS ?_
              rotate_left 1
              · intro w' hB; have hd := (HC.out.to w3 (by simp)).trans (hB.mono (HC.out.to w3 (by simp)).size); have k7 := cell_of_one (boxStays F3.out.2.1 hd); have k12 := box3 (boxStays Y12.out hd); clear hd; (go_simp <;> with_reducible rfl)
              try simp only [Act.put, List.setIfInBounds_toArray, List.set_cons_zero, List.set_cons_succ]
              refine anyT_take2 (i := 8) (oi := ⟨some 61, _, _, _, _, _⟩) (v := ?_) rfl (by kernel_rfl) (by kernel_rfl) (by rfl) (fun _ _ _ h => h) (by kernel_rfl) (by kernel_rfl) (by kernel_rfl) (Or.inl ⟨by rfl, ?_⟩) hS ?_
              rotate_left 1
              · intro w' hB; have hd := (HC.out.to w3 (by simp)).trans (hB.mono (HC.out.to w3 (by simp)).size); have k7 := cell_of_one (boxStays F3.out.2.1 hd); have k12 := box3 (boxStays Y12.out hd); clear hd; (go_simp <;> with_reducible rfl)
              try simp only [Act.put, List.setIfInBounds_toArray, List.set_cons_zero, List.set_cons_succ]
              refine anyT_take2 (i := 9) (oi := ⟨some 62, _, _, _, _, _⟩) (v := ?_) rfl (by kernel_rfl) (by kernel_rfl) (by rfl) (fun _ _ _ h => h) (by kernel_rfl) (by kernel_rfl) (by kernel_rfl) (Or.inl ⟨by rfl, ?_⟩) hS ?_
              rotate_left 1
              · intro w' hB; have hd := (HC.out.to w3 (by simp)).trans (hB.mono (HC.out.to w3 (by simp)).size); have k7 := cell_of_one (boxStays F3.out.2.1 hd); have k12 := box3 (boxStays Y12.out hd); clear hd; (go_simp <;> with_reducible rfl)
              try simp only [Act.put, List.setIfInBounds_toArray, List.set_cons_zero, List.set_cons_succ]
              refine anyT_take2 (i := 10) (oi := ⟨some 63, _, _, _, _, _⟩) (v := ?_) rfl (by kernel_rfl) (by kernel_rfl) (by rfl) (fun _ _ _ h => h) (by kernel_rfl) (by kernel_rfl) (by kernel_rfl) (Or.inl ⟨by rfl, ?_⟩) hS ?_
              rotate_left 1
              · intro w' hB; have hd := (HC.out.to w3 (by simp)).trans (hB.mono (HC.out.to w3 (by simp)).size); have k7 := cell_of_one (boxStays F3.out.2.1 hd); have k12 := box3 (boxStays Y12.out hd); clear hd; (go_simp <;> with_reducible rfl)
              try simp only [Act.put, List.setIfInBounds_toArray, List.set_cons_zero, List.set_cons_succ]
              refine anyT_ready (rs := [5]) (by kernel_rfl) (by kernel_rfl) (by simp) (AllReadyT.cons (o := ⟨some 58, _, _, _, _, _⟩) rfl (by rfl) (fun K hK => ?_) AllReadyT.nil)
              go_simp
              refine (pm_MPutI t key vl w3.heap.size _ (by have h1 := hS.size; have h2 := (HC.out.to w3 (by simp)).size; omega) (F3.out.1.chain HC.out hS (by simp)) (by rw [HZ.out]; omega)).mono ?_
              rintro e wP ⟨t', hP, rfl, hA, hb⟩
              refine hK.out _ _ (hS.trans (hb.mono hS.size)) (fun _ => ?_)
              clear hK K
              have hB := hS.trans (hb.mono hS.size)
              refine anyT_now hB ?_
              clear hS
              have hS := Below.refl wP.heap.size wP
              replace HC := Lib.hid (HC.out.push hB)
              have P1 := Lib.hid hP
              have A1 := Lib.hid hA
              clear hP hA
              clear hB hb
              try simp only [Act.put, List.setIfInBounds_toArray, List.set_cons_zero, List.set_cons_succ]
              refine anyT_ready (rs := [11]) (by kernel_rfl) (by kernel_rfl) (by simp) (AllReadyT.cons (o := ⟨some 64, _, _, _, _, _⟩) rfl (by rfl) (fun K hK => ?_) AllReadyT.nil)
              go_simp
              refine (lw_put2 (items t) key vl (.slice al z capl) _ ((F3.out.below (((HC.out.to w3 (by simp)).trans (hS.mono (HC.out.to w3 (by simp)).size)))).2.2.1.at) (by rw [sz_items, HZ.out]; omega)).mono ?_
              rintro e wL ⟨v8', rfl, hE, hb⟩
              refine hK.out _ _ (hS.trans (hb.mono hS.size)) (fun _ => ?_)
              clear hK K
              have hB := hS.trans (hb.mono hS.size)
              refine anyT_now hB ?_
              clear hS
              have hS := Below.refl wL.heap.size wL
              replace HC := Lib.hid (HC.out.push hB)
              have E1 := Lib.hid hE
              clear hE
              clear hB hb
              try simp only [Act.put, List.setIfInBounds_toArray, List.set_cons_zero, List.set_cons_succ]
              refine anyT_tail (by kernel_rfl) ?_
              (try clear hS)
              refine any_one (i := 12) (o := ⟨none, _, _, _, _, _⟩) (by kernel_rfl) rfl (by rfl) (fun K hK => ?_)
              have F4 := Lib.hid (F3.out.below (HC.out.to w3 (by simp)))
              have k7 := cell_of_one F4.out.2.1
              have f7 := frozen_of_row _ w.heap.size 0 _ _ F4.out.2.1
              go_simp
              refine hK.out _ _ ?_
              clear hK K
              try simp only [Act.put, List.setIfInBounds_toArray, List.set_cons_zero, List.set_cons_succ]
              refine wpAny_take (i := 13) (oi := ⟨some 8, _, _, _, _, _⟩) (v := ?_) rfl (by kernel_rfl) (by kernel_rfl) (by kernel_rfl) (fun _ _ _ h => h) (Or.inl ⟨by rfl, ?_⟩) ?_
              rotate_left 1
              · intro w'; (go_simp <;> with_reducible rfl)
              try simp only [Act.put, List.setIfInBounds_toArray, List.set_cons_zero, List.set_cons_succ]
              refine wpAny_done (by kernel_rfl) (NoPanic.normal ?_) _
              have F5 := Lib.hid (F4.out.set (A1.out.below (HC.out.to wP (by simp)) rfl) (by rw [P1.out.items HG.out.2.1]; exact E1.out.below (HC.out.to wL (by simp))))
              have R5 := Lib.hid ((R3.out.below (HC.out.to w3 (by simp))).set (.pointer (pa t')))
              have T5 := Lib.hid (F4.out.1.setBox F4.out.2.1 (by decide) 0 (.pointer (pa t')))
              have Z13 := Lib.hid ((Below.heap_setCell _ ⟨w.heap.size, 0, none⟩ (.pointer (pa t')) (c12 + 1) (by simp; omega)).trans (boxStays Y13.out (HC.out.to w3 (by simp))))
              have hMk := put_made P1.out HG.out.1 HG.out.2.1 F3.out.1.lt
              have G5 : Hid (PlG (i + 1) t') := Lib.hid ⟨(P1.out.bal HG.out.1).1, by rw [P1.out.items HG.out.2.1]; exact ins_srt HG.out.2.1, by have := P1.out.sz_leI; have := HG.out.2.2; omega⟩
              clear k7 f7 F4 A1 E1 HC
              generalize wL.setCell ⟨w.heap.size, 0, none⟩ (.pointer (pa t')) = w5 at *
              obtain ⟨mk, hmk⟩ : ∃ m : Int, (sz t' : Int) - (sharedNI t' t : Int) = m := ⟨_, rfl⟩
              obtain ⟨h, hh⟩ : ∃ h, ht t = h := ⟨_, rfl⟩
              have hh60 : h ≤ 60 := by rw [← hh]; have := ht_le t; have := HG.out.2.2; omega
              rw [hmk, hh, HTH.out] at hMk
              have HLE := Lib.hid hMk
              clear hMk
              have hmd : ∀ W : World, Below w5.heap.size w5 W → Calls Try.prog 24 #[.agg #[.pointer (pa t)], .agg #[.pointer (pa t')]] W fun e w' => e = .returned (.int .i64 mk) ∧ Below W.heap.size W w' := fun W hb => by
                have := lw_made t t' W (T5.out.below hb rfl) (F5.out.1.below hb rfl) (nodup_blocksI t (T5.out.below hb rfl) HG.out.2.1) (by have := G5.out.2.2; omega)
                rw [hmk] at this
                exact this
              have hhd : ∀ W : World, Below w5.heap.size w5 W → Calls Try.prog 11 #[.agg #[.pointer (pa t)]] W fun e w' => e = .returned (.int .i64 (h : Int)) ∧ Below W.heap.size W w' := fun W hb => by
                have := pm_MHeightI t W (T5.out.below hb rfl)
                rw [hh] at this
                exact this
              have HMD := Lib.hid hmd
              have HHD := Lib.hid hhd
              clear hmd hhd hmk hh
              have HWR : Hid (IntKind.i64.wrap ((h : Int) + 1) = (h : Int) + 1) := Lib.hid (IntWalk.i64_in _ (by omega))
              have hgt : ¬ (h : Int) + 1 < mk := by have := HLE.out.1; omega
              have hgtb : decide ((h : Int) + 1 < mk) = false := decide_eq_false hgt
              go_wp2_with fail
              have HC : Hid (Chain [w5] w5) := Lib.hid (Chain.one w5)
              cases th
              case' false =>
                refine wp_region_noPanic ?_
                refine wp_region_held_drew (S := fun w' => Below w5.heap.size w5 w') (by kernel_rfl) (Below.refl _ _).drew (fun hS => ?_)
                refine wpAnyH_take (i := 0) (oi := ⟨some 65, _, _, _, _, _⟩) (v := ?_) rfl (by kernel_rfl) (by kernel_rfl) (by kernel_rfl) (fun _ _ _ h => h) (Or.inl ⟨by rfl, ?_⟩) hS ?_
                rotate_left 1
                · intro w' hB; have hd := (HC.out.to w5 (by simp)).trans (hB.mono (HC.out.to w5 (by simp)).size); have k7 := cell_of_one (boxStays F5.out.2.1 hd); have k13 := cell_of_one (boxStays Z13.out hd); clear hd; have hwr := HWR.out; have hgt := hgt; have hgtb := hgtb; (go_simp <;> with_reducible rfl)
                try simp only [Act.put, List.setIfInBounds_toArray, List.set_cons_zero, List.set_cons_succ]
                refine wpAnyH_take (i := 1) (oi := ⟨some 66, _, _, _, _, _⟩) (v := ?_) rfl (by kernel_rfl) (by kernel_rfl) (by kernel_rfl) (fun _ _ _ h => h) (Or.inl ⟨by rfl, ?_⟩) hS ?_
                rotate_left 1
                · intro w' hB; have hd := (HC.out.to w5 (by simp)).trans (hB.mono (HC.out.to w5 (by simp)).size); have k7 := cell_of_one (boxStays F5.out.2.1 hd); have k13 := cell_of_one (boxStays Z13.out hd); clear hd; have hwr := HWR.out; have hgt := hgt; have hgtb := hgtb; (go_simp <;> with_reducible rfl)
                try simp only [Act.put, List.setIfInBounds_toArray, List.set_cons_zero, List.set_cons_succ]
                refine wpAnyH_take (i := 3) (oi := ⟨some 68, _, _, _, _, _⟩) (v := ?_) rfl (by kernel_rfl) (by kernel_rfl) (by kernel_rfl) (fun _ _ _ h => h) (Or.inl ⟨by rfl, ?_⟩) hS ?_
                rotate_left 1
                · intro w' hB; have hd := (HC.out.to w5 (by simp)).trans (hB.mono (HC.out.to w5 (by simp)).size); have k7 := cell_of_one (boxStays F5.out.2.1 hd); have k13 := cell_of_one (boxStays Z13.out hd); clear hd; have hwr := HWR.out; have hgt := hgt; have hgtb := hgtb; (go_simp <;> with_reducible rfl)
                try simp only [Act.put, List.setIfInBounds_toArray, List.set_cons_zero, List.set_cons_succ]
                refine wpAnyH_ready (rs := [2]) (by kernel_rfl) (by simp) (AllReadyH.cons (o := ⟨some 67, _, _, _, _, _⟩) rfl (fun K hK => ?_) AllReadyH.nil)
                go_simp
                refine (HMD.out _ ((HC.out.to w5 (by simp)).trans (hS.mono (HC.out.to w5 (by simp)).size))).mono ?_
                rintro e w6 ⟨rfl, hb⟩
                refine hK.out _ _ (hS.trans (hb.mono hS.size)) (fun _ => ?_)
                clear hK K
                have hB := hS.trans (hb.mono hS.size)
                refine wpAnyH_now hB ?_
                clear hS
                have hS := Below.refl w6.heap.size w6
                replace HC := Lib.hid (HC.out.push hB)
                clear hB hb
                try simp only [Act.put, List.setIfInBounds_toArray, List.set_cons_zero, List.set_cons_succ]
                refine wpAnyH_ready (rs := [4]) (by kernel_rfl) (by simp) (AllReadyH.cons (o := ⟨some 69, _, _, _, _, _⟩) rfl (fun K hK => ?_) AllReadyH.nil)
                go_simp
                refine (HHD.out _ ((HC.out.to w5 (by simp)).trans (hS.mono (HC.out.to w5 (by simp)).size))).mono ?_
                rintro e w7 ⟨rfl, hb⟩
                refine hK.out _ _ (hS.trans (hb.mono hS.size)) (fun _ => ?_)
                clear hK K
                have hB := hS.trans (hb.mono hS.size)
                refine wpAnyH_now hB ?_
                clear hS
                have hS := Below.refl w7.heap.size w7
                replace HC := Lib.hid (HC.out.push hB)
                clear hB hb
                try simp only [Act.put, List.setIfInBounds_toArray, List.set_cons_zero, List.set_cons_succ]
                refine wpAnyH_take (i := 5) (oi := ⟨some 70, _, _, _, _, _⟩) (v := ?_) rfl (by kernel_rfl) (by kernel_rfl) (by kernel_rfl) (fun _ _ _ h => h) (Or.inl ⟨by rfl, ?_⟩) hS ?_
                rotate_left 1
                · intro w' hB; have hd := (HC.out.to w5 (by simp)).trans (hB.mono (HC.out.to w5 (by simp)).size); have k7 := cell_of_one (boxStays F5.out.2.1 hd); have k13 := cell_of_one (boxStays Z13.out hd); clear hd; have hwr := HWR.out; have hgt := hgt; have hgtb := hgtb; (go_simp <;> with_reducible rfl)
                try simp only [Act.put, List.setIfInBounds_toArray, List.set_cons_zero, List.set_cons_succ]
                refine wpAnyH_take (i := 6) (oi := ⟨some 71, _, _, _, _, _⟩) (v := ?_) rfl (by kernel_rfl) (by kernel_rfl) (by kernel_rfl) (fun _ _ _ h => h) (Or.inl ⟨by rfl, ?_⟩) hS ?_
                rotate_left 1
                · intro w' hB; have hd := (HC.out.to w5 (by simp)).trans (hB.mono (HC.out.to w5 (by simp)).size); have k7 := cell_of_one (boxStays F5.out.2.1 hd); have k13 := cell_of_one (boxStays Z13.out hd); clear hd; have hwr := HWR.out; have hgt := hgt; have hgtb := hgtb; (go_simp <;> with_reducible rfl)
                try simp only [Act.put, List.setIfInBounds_toArray, List.set_cons_zero, List.set_cons_succ]
                refine wpAnyH_take (i := 7) (oi := ⟨some 72, _, _, _, _, _⟩) (v := ?_) rfl (by kernel_rfl) (by kernel_rfl) (by kernel_rfl) (fun _ _ _ h => h) (Or.inl ⟨by rfl, ?_⟩) hS ?_
                rotate_left 1
                · intro w' hB; have hd := (HC.out.to w5 (by simp)).trans (hB.mono (HC.out.to w5 (by simp)).size); have k7 := cell_of_one (boxStays F5.out.2.1 hd); have k13 := cell_of_one (boxStays Z13.out hd); clear hd; have hwr := HWR.out; have hgt := hgt; have hgtb := hgtb; (go_simp <;> with_reducible rfl)
                try simp only [Act.put, List.setIfInBounds_toArray, List.set_cons_zero, List.set_cons_succ]
                refine wpAnyH_take (i := 8) (oi := ⟨some 73, _, _, _, _, _⟩) (v := ?_) rfl (by kernel_rfl) (by kernel_rfl) (by kernel_rfl) (fun _ _ _ h => h) (Or.inl ⟨by rfl, ?_⟩) hS ?_
                rotate_left 1
                · intro w' hB; have hd := (HC.out.to w5 (by simp)).trans (hB.mono (HC.out.to w5 (by simp)).size); have k7 := cell_of_one (boxStays F5.out.2.1 hd); have k13 := cell_of_one (boxStays Z13.out hd); clear hd; have hwr := HWR.out; have hgt := hgt; have hgtb := hgtb; (go_simp <;> with_reducible rfl)
                try simp only [Act.put, List.setIfInBounds_toArray, List.set_cons_zero, List.set_cons_succ]
                refine wpAnyH_take (i := 9) (oi := ⟨some 74, _, _, _, _, _⟩) (v := ?_) rfl (by kernel_rfl) (by kernel_rfl) (by kernel_rfl) (fun _ _ _ h => h) (Or.inl ⟨by rfl, ?_⟩) hS ?_
                rotate_left 1
                · intro w' hB; have hd := (HC.out.to w5 (by simp)).trans (hB.mono (HC.out.to w5 (by simp)).size); have k7 := cell_of_one (boxStays F5.out.2.1 hd); have k13 := cell_of_one (boxStays Z13.out hd); clear hd; have hwr := HWR.out; have hgt := hgt; have hgtb := hgtb; (go_simp <;> with_reducible rfl)
                try simp only [Act.put, List.setIfInBounds_toArray, List.set_cons_zero, List.set_cons_succ]
                refine wpAnyH_take (i := 10) (oi := ⟨some 75, _, _, _, _, _⟩) rfl (by kernel_rfl) (by kernel_rfl) (by kernel_rfl) (fun _ _ _ h => h) (Or.inr ⟨by rfl, rfl⟩) hS ?_
                try simp only [Act.put, List.setIfInBounds_toArray, List.set_cons_zero, List.set_cons_succ]
                refine wpAnyH_take (i := 11) (oi := ⟨some 76, _, _, _, _, _⟩) rfl (by kernel_rfl) (by kernel_rfl) (by kernel_rfl) (fun _ _ _ h => h) (Or.inr ⟨by rfl, rfl⟩) hS ?_
                try simp only [Act.put, List.setIfInBounds_toArray, List.set_cons_zero, List.set_cons_succ]
                refine wpAnyH_take (i := 12) (oi := ⟨some 77, _, _, _, _, _⟩) rfl (by kernel_rfl) (by kernel_rfl) (by kernel_rfl) (fun _ _ _ h => h) (Or.inr ⟨by rfl, rfl⟩) hS ?_
                try simp only [Act.put, List.setIfInBounds_toArray, List.set_cons_zero, List.set_cons_succ]
                refine wpAnyH_take (i := 13) (oi := ⟨some 78, _, _, _, _, _⟩) rfl (by kernel_rfl) (by kernel_rfl) (by kernel_rfl) (fun _ _ _ h => h) (Or.inr ⟨by rfl, rfl⟩) hS ?_
                try simp only [Act.put, List.setIfInBounds_toArray, List.set_cons_zero, List.set_cons_succ]
                refine wpAnyH_take (i := 14) (oi := ⟨some 79, _, _, _, _, _⟩) rfl (by kernel_rfl) (by kernel_rfl) (by kernel_rfl) (fun _ _ _ h => h) (Or.inr ⟨by rfl, rfl⟩) hS ?_
                try simp only [Act.put, List.setIfInBounds_toArray, List.set_cons_zero, List.set_cons_succ]
                refine wpAnyH_take (i := 15) (oi := ⟨some 80, _, _, _, _, _⟩) rfl (by kernel_rfl) (by kernel_rfl) (by kernel_rfl) (fun _ _ _ h => h) (Or.inr ⟨by rfl, rfl⟩) hS ?_
                try simp only [Act.put, List.setIfInBounds_toArray, List.set_cons_zero, List.set_cons_succ]
                refine wpAnyH_take (i := 16) (oi := ⟨some 81, _, _, _, _, _⟩) (v := ?_) rfl (by kernel_rfl) (by kernel_rfl) (by kernel_rfl) (fun _ _ _ h => h) (Or.inl ⟨by rfl, ?_⟩) hS ?_
                rotate_left 1
                · intro w' hB; have hd := (HC.out.to w5 (by simp)).trans (hB.mono (HC.out.to w5 (by simp)).size); have k7 := cell_of_one (boxStays F5.out.2.1 hd); have k13 := cell_of_one (boxStays Z13.out hd); clear hd; have hwr := HWR.out; have hgt := hgt; have hgtb := hgtb; (go_simp <;> with_reducible rfl)
                try simp only [Act.put, List.setIfInBounds_toArray, List.set_cons_zero, List.set_cons_succ]
                refine wpAnyH_take (i := 17) (oi := ⟨some 82, _, _, _, _, _⟩) (v := ?_) rfl (by kernel_rfl) (by kernel_rfl) (by kernel_rfl) (fun _ _ _ h => h) (Or.inl ⟨by rfl, ?_⟩) hS ?_
                rotate_left 1
                · intro w' hB; have hd := (HC.out.to w5 (by simp)).trans (hB.mono (HC.out.to w5 (by simp)).size); have k7 := cell_of_one (boxStays F5.out.2.1 hd); have k13 := cell_of_one (boxStays Z13.out hd); clear hd; have hwr := HWR.out; have hgt := hgt; have hgtb := hgtb; (go_simp <;> with_reducible rfl)
                try simp only [Act.put, List.setIfInBounds_toArray, List.set_cons_zero, List.set_cons_succ]
                refine wpAnyH_done (by kernel_rfl) (NoPanic.normal ?_) _
              case' true =>
                have hgt2 : ¬ (h : Int) < mk := by have := HLE.out.2 rfl; omega
                have hgt2b : decide ((h : Int) < mk) = false := decide_eq_false hgt2
                refine wp_region_noPanic ?_
                refine wp_region_held_drew (S := fun w' => Below w5.heap.size w5 w') (by kernel_rfl) (Below.refl _ _).drew (fun hS => ?_)
                refine wpAnyH_take (i := 0) (oi := ⟨some 65, _, _, _, _, _⟩) (v := ?_) rfl (by kernel_rfl) (by kernel_rfl) (by kernel_rfl) (fun _ _ _ h => h) (Or.inl ⟨by rfl, ?_⟩) hS ?_
                rotate_left 1
                · intro w' hB; have hd := (HC.out.to w5 (by simp)).trans (hB.mono (HC.out.to w5 (by simp)).size); have k7 := cell_of_one (boxStays F5.out.2.1 hd); have k13 := cell_of_one (boxStays Z13.out hd); clear hd; have hwr := HWR.out; have hgt := hgt; have hgtb := hgtb; have hgt2 := hgt2; have hgt2b := hgt2b; (go_simp <;> with_reducible rfl)
                try simp only [Act.put, List.setIfInBounds_toArray, List.set_cons_zero, List.set_cons_succ]
                refine wpAnyH_take (i := 1) (oi := ⟨some 66, _, _, _, _, _⟩) (v := ?_) rfl (by kernel_rfl) (by kernel_rfl) (by kernel_rfl) (fun _ _ _ h => h) (Or.inl ⟨by rfl, ?_⟩) hS ?_
                rotate_left 1
                · intro w' hB; have hd := (HC.out.to w5 (by simp)).trans (hB.mono (HC.out.to w5 (by simp)).size); have k7 := cell_of_one (boxStays F5.out.2.1 hd); have k13 := cell_of_one (boxStays Z13.out hd); clear hd; have hwr := HWR.out; have hgt := hgt; have hgtb := hgtb; have hgt2 := hgt2; have hgt2b := hgt2b; (go_simp <;> with_reducible rfl)
                try simp only [Act.put, List.setIfInBounds_toArray, List.set_cons_zero, List.set_cons_succ]
                refine wpAnyH_take (i := 3) (oi := ⟨some 68, _, _, _, _, _⟩) (v := ?_) rfl (by kernel_rfl) (by kernel_rfl) (by kernel_rfl) (fun _ _ _ h => h) (Or.inl ⟨by rfl, ?_⟩) hS ?_
                rotate_left 1
                · intro w' hB; have hd := (HC.out.to w5 (by simp)).trans (hB.mono (HC.out.to w5 (by simp)).size); have k7 := cell_of_one (boxStays F5.out.2.1 hd); have k13 := cell_of_one (boxStays Z13.out hd); clear hd; have hwr := HWR.out; have hgt := hgt; have hgtb := hgtb; have hgt2 := hgt2; have hgt2b := hgt2b; (go_simp <;> with_reducible rfl)
                try simp only [Act.put, List.setIfInBounds_toArray, List.set_cons_zero, List.set_cons_succ]
                refine wpAnyH_ready (rs := [2]) (by kernel_rfl) (by simp) (AllReadyH.cons (o := ⟨some 67, _, _, _, _, _⟩) rfl (fun K hK => ?_) AllReadyH.nil)
                go_simp
                refine (HMD.out _ ((HC.out.to w5 (by simp)).trans (hS.mono (HC.out.to w5 (by simp)).size))).mono ?_
                rintro e w6 ⟨rfl, hb⟩
                refine hK.out _ _ (hS.trans (hb.mono hS.size)) (fun _ => ?_)
                clear hK K
                have hB := hS.trans (hb.mono hS.size)
                refine wpAnyH_now hB ?_
                clear hS
                have hS := Below.refl w6.heap.size w6
                replace HC := Lib.hid (HC.out.push hB)
                clear hB hb
                try simp only [Act.put, List.setIfInBounds_toArray, List.set_cons_zero, List.set_cons_succ]
                refine wpAnyH_ready (rs := [4]) (by kernel_rfl) (by simp) (AllReadyH.cons (o := ⟨some 69, _, _, _, _, _⟩) rfl (fun K hK => ?_) AllReadyH.nil)
                go_simp
                refine (HHD.out _ ((HC.out.to w5 (by simp)).trans (hS.mono (HC.out.to w5 (by simp)).size))).mono ?_
                rintro e w7 ⟨rfl, hb⟩
                refine hK.out _ _ (hS.trans (hb.mono hS.size)) (fun _ => ?_)
                clear hK K
                have hB := hS.trans (hb.mono hS.size)
                refine wpAnyH_now hB ?_
                clear hS
                have hS := Below.refl w7.heap.size w7
                replace HC := Lib.hid (HC.out.push hB)
                clear hB hb
                try simp only [Act.put, List.setIfInBounds_toArray, List.set_cons_zero, List.set_cons_succ]
                refine wpAnyH_take (i := 5) (oi := ⟨some 70, _, _, _, _, _⟩) (v := ?_) rfl (by kernel_rfl) (by kernel_rfl) (by kernel_rfl) (fun _ _ _ h => h) (Or.inl ⟨by rfl, ?_⟩) hS ?_
                rotate_left 1
                · intro w' hB; have hd := (HC.out.to w5 (by simp)).trans (hB.mono (HC.out.to w5 (by simp)).size); have k7 := cell_of_one (boxStays F5.out.2.1 hd); have k13 := cell_of_one (boxStays Z13.out hd); clear hd; have hwr := HWR.out; have hgt := hgt; have hgtb := hgtb; have hgt2 := hgt2; have hgt2b := hgt2b; (go_simp <;> with_reducible rfl)
                try simp only [Act.put, List.setIfInBounds_toArray, List.set_cons_zero, List.set_cons_succ]
                refine wpAnyH_take (i := 6) (oi := ⟨some 71, _, _, _, _, _⟩) (v := ?_) rfl (by kernel_rfl) (by kernel_rfl) (by kernel_rfl) (fun _ _ _ h => h) (Or.inl ⟨by rfl, ?_⟩) hS ?_
                rotate_left 1
                · intro w' hB; have hd := (HC.out.to w5 (by simp)).trans (hB.mono (HC.out.to w5 (by simp)).size); have k7 := cell_of_one (boxStays F5.out.2.1 hd); have k13 := cell_of_one (boxStays Z13.out hd); clear hd; have hwr := HWR.out; have hgt := hgt; have hgtb := hgtb; have hgt2 := hgt2; have hgt2b := hgt2b; (go_simp <;> with_reducible rfl)
                try simp only [Act.put, List.setIfInBounds_toArray, List.set_cons_zero, List.set_cons_succ]
                refine wpAnyH_take (i := 7) (oi := ⟨some 72, _, _, _, _, _⟩) (v := ?_) rfl (by kernel_rfl) (by kernel_rfl) (by kernel_rfl) (fun _ _ _ h => h) (Or.inl ⟨by rfl, ?_⟩) hS ?_
                rotate_left 1
                · intro w' hB; have hd := (HC.out.to w5 (by simp)).trans (hB.mono (HC.out.to w5 (by simp)).size); have k7 := cell_of_one (boxStays F5.out.2.1 hd); have k13 := cell_of_one (boxStays Z13.out hd); clear hd; have hwr := HWR.out; have hgt := hgt; have hgtb := hgtb; have hgt2 := hgt2; have hgt2b := hgt2b; (go_simp <;> with_reducible rfl)
                try simp only [Act.put, List.setIfInBounds_toArray, List.set_cons_zero, List.set_cons_succ]
                refine wpAnyH_take (i := 8) (oi := ⟨some 73, _, _, _, _, _⟩) (v := ?_) rfl (by kernel_rfl) (by kernel_rfl) (by kernel_rfl) (fun _ _ _ h => h) (Or.inl ⟨by rfl, ?_⟩) hS ?_
                rotate_left 1
                · intro w' hB; have hd := (HC.out.to w5 (by simp)).trans (hB.mono (HC.out.to w5 (by simp)).size); have k7 := cell_of_one (boxStays F5.out.2.1 hd); have k13 := cell_of_one (boxStays Z13.out hd); clear hd; have hwr := HWR.out; have hgt := hgt; have hgtb := hgtb; have hgt2 := hgt2; have hgt2b := hgt2b; (go_simp <;> with_reducible rfl)
                try simp only [Act.put, List.setIfInBounds_toArray, List.set_cons_zero, List.set_cons_succ]
                refine wpAnyH_take (i := 9) (oi := ⟨some 74, _, _, _, _, _⟩) (v := ?_) rfl (by kernel_rfl) (by kernel_rfl) (by kernel_rfl) (fun _ _ _ h => h) (Or.inl ⟨by rfl, ?_⟩) hS ?_
                rotate_left 1
                · intro w' hB; have hd := (HC.out.to w5 (by simp)).trans (hB.mono (HC.out.to w5 (by simp)).size); have k7 := cell_of_one (boxStays F5.out.2.1 hd); have k13 := cell_of_one (boxStays Z13.out hd); clear hd; have hwr := HWR.out; have hgt := hgt; have hgtb := hgtb; have hgt2 := hgt2; have hgt2b := hgt2b; (go_simp <;> with_reducible rfl)
                try simp only [Act.put, List.setIfInBounds_toArray, List.set_cons_zero, List.set_cons_succ]
                refine wpAnyH_take (i := 10) (oi := ⟨some 75, _, _, _, _, _⟩) (v := ?_) rfl (by kernel_rfl) (by kernel_rfl) (by kernel_rfl) (fun _ _ _ h => h) (Or.inl ⟨by rfl, ?_⟩) hS ?_
                rotate_left 1
                · intro w' hB; have hd := (HC.out.to w5 (by simp)).trans (hB.mono (HC.out.to w5 (by simp)).size); have k7 := cell_of_one (boxStays F5.out.2.1 hd); have k13 := cell_of_one (boxStays Z13.out hd); clear hd; have hwr := HWR.out; have hgt := hgt; have hgtb := hgtb; have hgt2 := hgt2; have hgt2b := hgt2b; (go_simp <;> with_reducible rfl)
                try simp only [Act.put, List.setIfInBounds_toArray, List.set_cons_zero, List.set_cons_succ]
                refine wpAnyH_take (i := 11) (oi := ⟨some 76, _, _, _, _, _⟩) (v := ?_) rfl (by kernel_rfl) (by kernel_rfl) (by kernel_rfl) (fun _ _ _ h => h) (Or.inl ⟨by rfl, ?_⟩) hS ?_
                rotate_left 1
                · intro w' hB; have hd := (HC.out.to w5 (by simp)).trans (hB.mono (HC.out.to w5 (by simp)).size); have k7 := cell_of_one (boxStays F5.out.2.1 hd); have k13 := cell_of_one (boxStays Z13.out hd); clear hd; have hwr := HWR.out; have hgt := hgt; have hgtb := hgtb; have hgt2 := hgt2; have hgt2b := hgt2b; (go_simp <;> with_reducible rfl)
                try simp only [Act.put, List.setIfInBounds_toArray, List.set_cons_zero, List.set_cons_succ]
                refine wpAnyH_take (i := 13) (oi := ⟨some 78, _, _, _, _, _⟩) (v := ?_) rfl (by kernel_rfl) (by kernel_rfl) (by kernel_rfl) (fun _ _ _ h => h) (Or.inl ⟨by rfl, ?_⟩) hS ?_
                rotate_left 1
                · intro w' hB; have hd := (HC.out.to w5 (by simp)).trans (hB.mono (HC.out.to w5 (by simp)).size); have k7 := cell_of_one (boxStays F5.out.2.1 hd); have k13 := cell_of_one (boxStays Z13.out hd); clear hd; have hwr := HWR.out; have hgt := hgt; have hgtb := hgtb; have hgt2 := hgt2; have hgt2b := hgt2b; (go_simp <;> with_reducible rfl)
                try simp only [Act.put, List.setIfInBounds_toArray, List.set_cons_zero, List.set_cons_succ]
                refine wpAnyH_ready (rs := [12]) (by kernel_rfl) (by simp) (AllReadyH.cons (o := ⟨some 77, _, _, _, _, _⟩) rfl (fun K hK => ?_) AllReadyH.nil)
                go_simp
                refine (HMD.out _ ((HC.out.to w5 (by simp)).trans (hS.mono (HC.out.to w5 (by simp)).size))).mono ?_
                rintro e w8 ⟨rfl, hb⟩
                refine hK.out _ _ (hS.trans (hb.mono hS.size)) (fun _ => ?_)
                clear hK K
                have hB := hS.trans (hb.mono hS.size)
                refine wpAnyH_now hB ?_
                clear hS
                have hS := Below.refl w8.heap.size w8
                replace HC := Lib.hid (HC.out.push hB)
                clear hB hb
                try simp only [Act.put, List.setIfInBounds_toArray, List.set_cons_zero, List.set_cons_succ]
                refine wpAnyH_ready (rs := [14]) (by kernel_rfl) (by simp) (AllReadyH.cons (o := ⟨some 79, _, _, _, _, _⟩) rfl (fun K hK => ?_) AllReadyH.nil)
                go_simp
                refine (HHD.out _ ((HC.out.to w5 (by simp)).trans (hS.mono (HC.out.to w5 (by simp)).size))).mono ?_
                rintro e w9 ⟨rfl, hb⟩
                refine hK.out _ _ (hS.trans (hb.mono hS.size)) (fun _ => ?_)
                clear hK K
                have hB := hS.trans (hb.mono hS.size)
                refine wpAnyH_now hB ?_
                clear hS
                have hS := Below.refl w9.heap.size w9
                replace HC := Lib.hid (HC.out.push hB)
                clear hB hb
                try simp only [Act.put, List.setIfInBounds_toArray, List.set_cons_zero, List.set_cons_succ]
                refine wpAnyH_take (i := 15) (oi := ⟨some 80, _, _, _, _, _⟩) (v := ?_) rfl (by kernel_rfl) (by kernel_rfl) (by kernel_rfl) (fun _ _ _ h => h) (Or.inl ⟨by rfl, ?_⟩) hS ?_
                rotate_left 1
                · intro w' hB; have hd := (HC.out.to w5 (by simp)).trans (hB.mono (HC.out.to w5 (by simp)).size); have k7 := cell_of_one (boxStays F5.out.2.1 hd); have k13 := cell_of_one (boxStays Z13.out hd); clear hd; have hwr := HWR.out; have hgt := hgt; have hgtb := hgtb; have hgt2 := hgt2; have hgt2b := hgt2b; (go_simp <;> with_reducible rfl)
                try simp only [Act.put, List.setIfInBounds_toArray, List.set_cons_zero, List.set_cons_succ]
                refine wpAnyH_take (i := 16) (oi := ⟨some 81, _, _, _, _, _⟩) (v := ?_) rfl (by kernel_rfl) (by kernel_rfl) (by kernel_rfl) (fun _ _ _ h => h) (Or.inl ⟨by rfl, ?_⟩) hS ?_
                rotate_left 1
                · intro w' hB; have hd := (HC.out.to w5 (by simp)).trans (hB.mono (HC.out.to w5 (by simp)).size); have k7 := cell_of_one (boxStays F5.out.2.1 hd); have k13 := cell_of_one (boxStays Z13.out hd); clear hd; have hwr := HWR.out; have hgt := hgt; have hgtb := hgtb; have hgt2 := hgt2; have hgt2b := hgt2b; (go_simp <;> with_reducible rfl)
                try simp only [Act.put, List.setIfInBounds_toArray, List.set_cons_zero, List.set_cons_succ]
                refine wpAnyH_take (i := 17) (oi := ⟨some 82, _, _, _, _, _⟩) (v := ?_) rfl (by kernel_rfl) (by kernel_rfl) (by kernel_rfl) (fun _ _ _ h => h) (Or.inl ⟨by rfl, ?_⟩) hS ?_
                rotate_left 1
                · intro w' hB; have hd := (HC.out.to w5 (by simp)).trans (hB.mono (HC.out.to w5 (by simp)).size); have k7 := cell_of_one (boxStays F5.out.2.1 hd); have k13 := cell_of_one (boxStays Z13.out hd); clear hd; have hwr := HWR.out; have hgt := hgt; have hgtb := hgtb; have hgt2 := hgt2; have hgt2b := hgt2b; (go_simp <;> with_reducible rfl)
                try simp only [Act.put, List.setIfInBounds_toArray, List.set_cons_zero, List.set_cons_succ]
                refine wpAnyH_done (by kernel_rfl) (NoPanic.normal ?_) _
              all_goals
                have F6 := Lib.hid (F5.out.below (HC.out.to w5 (by simp)))
                have R6 := Lib.hid (R5.out.below (HC.out.to w5 (by simp)))
                clear hS HC
                go_wp2_with fail
                go_meet
                exact ⟨t', F6, R6, G5⟩
          · by_cases hk2 : kd = 2
            · subst hk2
              as_aux_lemma =>
                have hx0 : True := trivial
                go_wp2_with fail
                have HC : Hid (Chain [w3] w3) := Lib.hid (Chain.one w3)
                refine wp_region_noPanic ?_
                refine region_tail (S := fun w' => Below w3.heap.size w3 w') [8, 9] (by kernel_rfl) (Below.refl _ _).drew (fun hS => ?_)
                refine anyT_take2 (i := 0) (oi := ⟨some 85, _, _, _, _, _⟩) (v := ?_) rfl (by kernel_rfl) (by kernel_rfl) (by rfl) (fun _ _ _ h => h) (by kernel_rfl) (by kernel_rfl) (by kernel_rfl) (Or.inl ⟨by rfl, ?_⟩) hS ?_
                rotate_left 1
                · intro w' hB; have hd := (HC.out.to w3 (by simp)).trans (hB.mono (HC.out.to w3 (by simp)).size); have k7 := cell_of_one (boxStays F3.out.2.1 hd); have k12 := box3 (boxStays Y12.out hd); clear hd; (go_simp <;> with_reducible rfl)
                try simp only [Act.put, List.setIfInBounds_toArray, List.set_cons_zero, List.set_cons_succ]
                refine anyT_take2 (i := 1) (oi := ⟨some 86, _, _, _, _, _⟩) (v := ?_) rfl (by kernel_rfl) (by kernel_rfl) (by rfl) (fun _ _ _ h => h) (by kernel_rfl) (by kernel_rfl) (by kernel_rfl) (Or.inl ⟨by rfl, ?_⟩) hS ?_
                rotate_left 1
                · intro w' hB; have hd := (HC.out.to w3 (by simp)).trans (hB.mono (HC.out.to w3 (by simp)).size); have k7 := cell_of_one (boxStays F3.out.2.1 hd); have k12 := box3 (boxStays Y12.out hd); clear hd; (go_simp <;> with_reducible rfl)
                try simp only [Act.put, List.setIfInBounds_toArray, List.set_cons_zero, List.set_cons_succ]
                refine anyT_take2 (i := 2) (oi := ⟨some 87, _, _, _, _, _⟩) (v := ?_) rfl (by kernel_rfl) (by kernel_rfl) (by rfl) (fun _ _ _ h => h) (by kernel_rfl) (by kernel_rfl) (by kernel_rfl) (Or.inl ⟨by rfl, ?_⟩) hS ?_
                rotate_left 1
                · intro w' hB; have hd := (HC.out.to w3 (by simp)).trans (hB.mono (HC.out.to w3 (by simp)).size); have k7 := cell_of_one (boxStays F3.out.2.1 hd); have k12 := box3 (boxStays Y12.out hd); clear hd; (go_simp <;> with_reducible rfl)
                try simp only [Act.put, List.setIfInBounds_toArray, List.set_cons_zero, List.set_cons_succ]
                refine anyT_take2 (i := 4) (oi := ⟨some 89, _, _, _, _, _⟩) (v := ?_) rfl (by kernel_rfl) (by kernel_rfl) (by rfl) (fun _ _ _ h => h) (by kernel_rfl) (by kernel_rfl) (by kernel_rfl) (Or.inl ⟨by rfl, ?_⟩) hS ?_
                rotate_left 1
                · intro w' hB; have hd := (HC.out.to w3 (by simp)).trans (hB.mono (HC.out.to w3 (by simp)).size); have k7 := cell_of_one (boxStays F3.out.2.1 hd); have k12 := box3 (boxStays Y12.out hd); clear hd; (go_simp <;> with_reducible rfl)
                try simp only [Act.put, List.setIfInBounds_toArray, List.set_cons_zero, List.set_cons_succ]
                refine anyT_take2 (i := 5) (oi := ⟨some 90, _, _, _, _, _⟩) (v := ?_) rfl (by kernel_rfl) (by kernel_rfl) (by rfl) (fun _ _ _ h => h) (by kernel_rfl) (by kernel_rfl) (by kernel_rfl) (Or.inl ⟨by rfl, ?_⟩) hS ?_
                rotate_left 1
                · intro w' hB; have hd := (HC.out.to w3 (by simp)).trans (hB.mono (HC.out.to w3 (by simp)).size); have k7 := cell_of_one (boxStays F3.out.2.1 hd); have k12 := box3 (boxStays Y12.out hd); clear hd; (go_simp <;> with_reducible rfl)
                try simp only [Act.put, List.setIfInBounds_toArray, List.set_cons_zero, List.set_cons_succ]
                refine anyT_take2 (i := 6) (oi := ⟨some 91, _, _, _, _, _⟩) (v := ?_) rfl (by kernel_rfl) (by kernel_rfl) (by rfl) (fun _ _ _ h => h) (by kernel_rfl) (by kernel_rfl) (by kernel_rfl) (Or.inl ⟨by rfl, ?_⟩) hS ?_
                rotate_left 1
                · intro w' hB; have hd := (HC.out.to w3 (by simp)).trans (hB.mono (HC.out.to w3 (by simp)).size); have k7 := cell_of_one (boxStays F3.out.2.1 hd); have k12 := box3 (boxStays Y12.out hd); clear hd; (go_simp <;> with_reducible rfl)
                try simp only [Act.put, List.setIfInBounds_toArray, List.set_cons_zero, List.set_cons_succ]
                refine anyT_ready (rs := [3]) (by kernel_rfl) (by kernel_rfl) (by simp) (AllReadyT.cons (o := ⟨some 88, _, _, _, _, _⟩) rfl (by rfl) (fun K hK => ?_) AllReadyT.nil)
                go_simp
                refine (pm_MTakeI t key w3.heap.size _ (by have h1 := hS.size; have h2 := (HC.out.to w3 (by simp)).size; omega) (F3.out.1.chain HC.out hS (by simp)) (by rw [HZ.out]; omega)).mono ?_
                rintro e wP ⟨t', hP, rfl, hA, hb⟩
                refine hK.out _ _ (hS.trans (hb.mono hS.size)) (fun _ => ?_)
                clear hK K
                have hB := hS.trans (hb.mono hS.size)
                refine anyT_now hB ?_
                clear hS
                have hS := Below.refl wP.heap.size wP
                replace HC := Lib.hid (HC.out.push hB)
                have P1 := Lib.hid hP
                have A1 := Lib.hid hA
                clear hP hA
                clear hB hb
                try simp only [Act.put, List.setIfInBounds_toArray, List.set_cons_zero, List.set_cons_succ]
                refine anyT_ready (rs := [7]) (by kernel_rfl) (by kernel_rfl) (by simp) (AllReadyT.cons (o := ⟨some 92, _, _, _, _, _⟩) rfl (by rfl) (fun K hK => ?_) AllReadyT.nil)
                go_simp
                refine (lw_take2 (items t) key (.slice al z capl) _ ((F3.out.below (((HC.out.to w3 (by simp)).trans (hS.mono (HC.out.to w3 (by simp)).size)))).2.2.1) (by rw [sz_items, HZ.out]; omega) HG.out.2.1).mono ?_
                rintro e wL ⟨v8', rfl, hE, hb⟩
                refine hK.out _ _ (hS.trans (hb.mono hS.size)) (fun _ => ?_)
                clear hK K
                have hB := hS.trans (hb.mono hS.size)
                refine anyT_now hB ?_
                clear hS
                have hS := Below.refl wL.heap.size wL
                replace HC := Lib.hid (HC.out.push hB)
                have E1 := Lib.hid hE
                clear hE
                clear hB hb
                try simp only [Act.put, List.setIfInBounds_toArray, List.set_cons_zero, List.set_cons_succ]
                refine anyT_tail (by kernel_rfl) ?_
                (try clear hS)
                refine any_one (i := 8) (o := ⟨none, _, _, _, _, _⟩) (by kernel_rfl) rfl (by rfl) (fun K hK => ?_)
                have F4 := Lib.hid (F3.out.below (HC.out.to w3 (by simp)))
                have k7 := cell_of_one F4.out.2.1
                have f7 := frozen_of_row _ w.heap.size 0 _ _ F4.out.2.1
                go_simp
                refine hK.out _ _ ?_
                clear hK K
                try simp only [Act.put, List.setIfInBounds_toArray, List.set_cons_zero, List.set_cons_succ]
                refine wpAny_take (i := 9) (oi := ⟨some 8, _, _, _, _, _⟩) (v := ?_) rfl (by kernel_rfl) (by kernel_rfl) (by kernel_rfl) (fun _ _ _ h => h) (Or.inl ⟨by rfl, ?_⟩) ?_
                rotate_left 1
                · intro w'; (go_simp <;> with_reducible rfl)
                try simp only [Act.put, List.setIfInBounds_toArray, List.set_cons_zero, List.set_cons_succ]
                refine wpAny_done (by kernel_rfl) (NoPanic.normal ?_) _
                have hIt : items t' = del key (items t) := by
                  rcases P1.out with ⟨h1, rfl⟩ | ⟨_, h1⟩
                  · exact (del_none (seek_none HG.out.2.1 h1)).symm
                  · exact h1.items HG.out.2.1
                have F5 := Lib.hid (F4.out.set (A1.out.below (HC.out.to wP (by simp)) rfl) (by rw [hIt]; exact E1.out.below (HC.out.to wL (by simp))))
                have R5 := Lib.hid ((R3.out.below (HC.out.to w3 (by simp))).set (.pointer (pa t')))
                have T5 := Lib.hid (F4.out.1.setBox F4.out.2.1 (by decide) 0 (.pointer (pa t')))
                have Z13 := Lib.hid ((Below.heap_setCell _ ⟨w.heap.size, 0, none⟩ (.pointer (pa t')) (c12 + 1) (by simp; omega)).trans (boxStays Y13.out (HC.out.to w3 (by simp))))
                have hMk := take_made P1.out F3.out.1.lt
                have G5 : Hid (PlG (i + 1) t') := Lib.hid (by
                  rcases P1.out with ⟨_, rfl⟩ | ⟨_, h1⟩
                  · exact ⟨HG.out.1, HG.out.2.1, by have := HG.out.2.2; omega⟩
                  · refine ⟨(h1.bal HG.out.1).1, by rw [hIt]; exact del_srt HG.out.2.1, ?_⟩
                    have h4 : (del key (items t)).length ≤ (items t).length := by unfold del; exact List.length_filter_le _ _
                    rw [← hIt, sz_items, sz_items] at h4
                    have := HG.out.2.2
                    omega)
                have HPP : Hid (th = false → pa t' = pa t) := Lib.hid (fun h0 => by
                  rcases P1.out with ⟨_, rfl⟩ | ⟨h1, _⟩
                  · rfl
                  · exfalso
                    have h2 := isL_seek HG.out.2.1 key
                    rw [HTH.out, h0] at h2
                    cases h3 : seek key t with
                    | nil => exact h1 h3
                    | node b l k v r => rw [h3] at h2; cases h2)
                clear k7 f7 F4 A1 E1 HC hIt
                generalize wL.setCell ⟨w.heap.size, 0, none⟩ (.pointer (pa t')) = w5 at *
                obtain ⟨mk, hmk⟩ : ∃ m : Int, (sz t' : Int) - (sharedNI t' t : Int) = m := ⟨_, rfl⟩
                obtain ⟨h, hh⟩ : ∃ h, ht t = h := ⟨_, rfl⟩
                have hh60 : h ≤ 60 := by rw [← hh]; have := ht_le t; have := HG.out.2.2; omega
                rw [hmk, hh] at hMk
                have HLE := Lib.hid hMk
                clear hMk
                have hmd : ∀ W : World, Below w5.heap.size w5 W → Calls Try.prog 24 #[.agg #[.pointer (pa t)], .agg #[.pointer (pa t')]] W fun e w' => e = .returned (.int .i64 mk) ∧ Below W.heap.size W w' := fun W hb => by
                  have := lw_made t t' W (T5.out.below hb rfl) (F5.out.1.below hb rfl) (nodup_blocksI t (T5.out.below hb rfl) HG.out.2.1) (by have := G5.out.2.2; omega)
                  rw [hmk] at this
                  exact this
                have hhd : ∀ W : World, Below w5.heap.size w5 W → Calls Try.prog 11 #[.agg #[.pointer (pa t)]] W fun e w' => e = .returned (.int .i64 (h : Int)) ∧ Below W.heap.size W w' := fun W hb => by
                  have := pm_MHeightI t W (T5.out.below hb rfl)
                  rw [hh] at this
                  exact this
                have HMD := Lib.hid hmd
                have HHD := Lib.hid hhd
                clear hmd hhd hmk hh
                have HWR : Hid (IntKind.i64.wrap (3 * (h : Int)) = 3 * (h : Int)) := Lib.hid (IntWalk.i64_in _ (by omega))
                have hgt : ¬ 3 * (h : Int) < mk := by have := HLE.out; omega
                have hgtb : decide (3 * (h : Int) < mk) = false := decide_eq_false hgt
                go_wp2_with fail
                have HC : Hid (Chain [w5] w5) := Lib.hid (Chain.one w5)
                cases th
                case' true =>
                  refine wp_region_noPanic ?_
                  refine wp_region_held_drew (S := fun w' => Below w5.heap.size w5 w') (by kernel_rfl) (Below.refl _ _).drew (fun hS => ?_)
                  refine wpAnyH_take (i := 0) (oi := ⟨some 93, _, _, _, _, _⟩) (v := ?_) rfl (by kernel_rfl) (by kernel_rfl) (by kernel_rfl) (fun _ _ _ h => h) (Or.inl ⟨by rfl, ?_⟩) hS ?_
                  rotate_left 1
                  · intro w' hB; have hd := (HC.out.to w5 (by simp)).trans (hB.mono (HC.out.to w5 (by simp)).size); have k7 := cell_of_one (boxStays F5.out.2.1 hd); have k13 := cell_of_one (boxStays Z13.out hd); clear hd; have hwr := HWR.out; have hgt := hgt; have hgtb := hgtb; (go_simp <;> with_reducible rfl)
                  try simp only [Act.put, List.setIfInBounds_toArray, List.set_cons_zero, List.set_cons_succ]
                  refine wpAnyH_take (i := 1) (oi := ⟨some 94, _, _, _, _, _⟩) (v := ?_) rfl (by kernel_rfl) (by kernel_rfl) (by kernel_rfl) (fun _ _ _ h => h) (Or.inl ⟨by rfl, ?_⟩) hS ?_
                  rotate_left 1
                  · intro w' hB; have hd := (HC.out.to w5 (by simp)).trans (hB.mono (HC.out.to w5 (by simp)).size); have k7 := cell_of_one (boxStays F5.out.2.1 hd); have k13 := cell_of_one (boxStays Z13.out hd); clear hd; have hwr := HWR.out; have hgt := hgt; have hgtb := hgtb; (go_simp <;> with_reducible rfl)
                  try simp only [Act.put, List.setIfInBounds_toArray, List.set_cons_zero, List.set_cons_succ]
                  refine wpAnyH_take (i := 3) (oi := ⟨some 96, _, _, _, _, _⟩) (v := ?_) rfl (by kernel_rfl) (by kernel_rfl) (by kernel_rfl) (fun _ _ _ h => h) (Or.inl ⟨by rfl, ?_⟩) hS ?_
                  rotate_left 1
                  · intro w' hB; have hd := (HC.out.to w5 (by simp)).trans (hB.mono (HC.out.to w5 (by simp)).size); have k7 := cell_of_one (boxStays F5.out.2.1 hd); have k13 := cell_of_one (boxStays Z13.out hd); clear hd; have hwr := HWR.out; have hgt := hgt; have hgtb := hgtb; (go_simp <;> with_reducible rfl)
                  try simp only [Act.put, List.setIfInBounds_toArray, List.set_cons_zero, List.set_cons_succ]
                  refine wpAnyH_ready (rs := [2]) (by kernel_rfl) (by simp) (AllReadyH.cons (o := ⟨some 95, _, _, _, _, _⟩) rfl (fun K hK => ?_) AllReadyH.nil)
                  go_simp
                  refine (HMD.out _ ((HC.out.to w5 (by simp)).trans (hS.mono (HC.out.to w5 (by simp)).size))).mono ?_
                  rintro e w6 ⟨rfl, hb⟩
                  refine hK.out _ _ (hS.trans (hb.mono hS.size)) (fun _ => ?_)
                  clear hK K
                  have hB := hS.trans (hb.mono hS.size)
                  refine wpAnyH_now hB ?_
                  clear hS
                  have hS := Below.refl w6.heap.size w6
                  replace HC := Lib.hid (HC.out.push hB)
                  clear hB hb
                  try simp only [Act.put, List.setIfInBounds_toArray, List.set_cons_zero, List.set_cons_succ]
                  refine wpAnyH_ready (rs := [4]) (by kernel_rfl) (by simp) (AllReadyH.cons (o := ⟨some 97, _, _, _, _, _⟩) rfl (fun K hK => ?_) AllReadyH.nil)
                  go_simp
                  refine (HHD.out _ ((HC.out.to w5 (by simp)).trans (hS.mono (HC.out.to w5 (by simp)).size))).mono ?_
                  rintro e w7 ⟨rfl, hb⟩
                  refine hK.out _ _ (hS.trans (hb.mono hS.size)) (fun _ => ?_)
                  clear hK K
                  have hB := hS.trans (hb.mono hS.size)
                  refine wpAnyH_now hB ?_
                  clear hS
                  have hS := Below.refl w7.heap.size w7
                  replace HC := Lib.hid (HC.out.push hB)
                  clear hB hb
                  try simp only [Act.put, List.setIfInBounds_toArray, List.set_cons_zero, List.set_cons_succ]
                  refine wpAnyH_take (i := 5) (oi := ⟨some 98, _, _, _, _, _⟩) (v := ?_) rfl (by kernel_rfl) (by kernel_rfl) (by kernel_rfl) (fun _ _ _ h => h) (Or.inl ⟨by rfl, ?_⟩) hS ?_
                  rotate_left 1
                  · intro w' hB; have hd := (HC.out.to w5 (by simp)).trans (hB.mono (HC.out.to w5 (by simp)).size); have k7 := cell_of_one (boxStays F5.out.2.1 hd); have k13 := cell_of_one (boxStays Z13.out hd); clear hd; have hwr := HWR.out; have hgt := hgt; have hgtb := hgtb; (go_simp <;> with_reducible rfl)
                  try simp only [Act.put, List.setIfInBounds_toArray, List.set_cons_zero, List.set_cons_succ]
                  refine wpAnyH_take (i := 6) (oi := ⟨some 99, _, _, _, _, _⟩) (v := ?_) rfl (by kernel_rfl) (by kernel_rfl) (by kernel_rfl) (fun _ _ _ h => h) (Or.inl ⟨by rfl, ?_⟩) hS ?_
                  rotate_left 1
                  · intro w' hB; have hd := (HC.out.to w5 (by simp)).trans (hB.mono (HC.out.to w5 (by simp)).size); have k7 := cell_of_one (boxStays F5.out.2.1 hd); have k13 := cell_of_one (boxStays Z13.out hd); clear hd; have hwr := HWR.out; have hgt := hgt; have hgtb := hgtb; (go_simp <;> with_reducible rfl)
                  try simp only [Act.put, List.setIfInBounds_toArray, List.set_cons_zero, List.set_cons_succ]
                  refine wpAnyH_take (i := 7) (oi := ⟨some 100, _, _, _, _, _⟩) (v := ?_) rfl (by kernel_rfl) (by kernel_rfl) (by kernel_rfl) (fun _ _ _ h => h) (Or.inl ⟨by rfl, ?_⟩) hS ?_
                  rotate_left 1
                  · intro w' hB; have hd := (HC.out.to w5 (by simp)).trans (hB.mono (HC.out.to w5 (by simp)).size); have k7 := cell_of_one (boxStays F5.out.2.1 hd); have k13 := cell_of_one (boxStays Z13.out hd); clear hd; have hwr := HWR.out; have hgt := hgt; have hgtb := hgtb; (go_simp <;> with_reducible rfl)
                  try simp only [Act.put, List.setIfInBounds_toArray, List.set_cons_zero, List.set_cons_succ]
                  refine wpAnyH_take (i := 8) (oi := ⟨some 101, _, _, _, _, _⟩) (v := ?_) rfl (by kernel_rfl) (by kernel_rfl) (by kernel_rfl) (fun _ _ _ h => h) (Or.inl ⟨by rfl, ?_⟩) hS ?_
                  rotate_left 1
                  · intro w' hB; have hd := (HC.out.to w5 (by simp)).trans (hB.mono (HC.out.to w5 (by simp)).size); have k7 := cell_of_one (boxStays F5.out.2.1 hd); have k13 := cell_of_one (boxStays Z13.out hd); clear hd; have hwr := HWR.out; have hgt := hgt; have hgtb := hgtb; (go_simp <;> with_reducible rfl)
                  try simp only [Act.put, List.setIfInBounds_toArray, List.set_cons_zero, List.set_cons_succ]
                  refine wpAnyH_take (i := 9) (oi := ⟨some 102, _, _, _, _, _⟩) (v := ?_) rfl (by kernel_rfl) (by kernel_rfl) (by kernel_rfl) (fun _ _ _ h => h) (Or.inl ⟨by rfl, ?_⟩) hS ?_
                  rotate_left 1
                  · intro w' hB; have hd := (HC.out.to w5 (by simp)).trans (hB.mono (HC.out.to w5 (by simp)).size); have k7 := cell_of_one (boxStays F5.out.2.1 hd); have k13 := cell_of_one (boxStays Z13.out hd); clear hd; have hwr := HWR.out; have hgt := hgt; have hgtb := hgtb; (go_simp <;> with_reducible rfl)
                  try simp only [Act.put, List.setIfInBounds_toArray, List.set_cons_zero, List.set_cons_succ]
                  refine wpAnyH_take (i := 10) (oi := ⟨some 103, _, _, _, _, _⟩) (v := ?_) rfl (by kernel_rfl) (by kernel_rfl) (by kernel_rfl) (fun _ _ _ h => h) (Or.inl ⟨by rfl, ?_⟩) hS ?_
                  rotate_left 1
                  · intro w' hB; have hd := (HC.out.to w5 (by simp)).trans (hB.mono (HC.out.to w5 (by simp)).size); have k7 := cell_of_one (boxStays F5.out.2.1 hd); have k13 := cell_of_one (boxStays Z13.out hd); clear hd; have hwr := HWR.out; have hgt := hgt; have hgtb := hgtb; (go_simp <;> with_reducible rfl)
                  try simp only [Act.put, List.setIfInBounds_toArray, List.set_cons_zero, List.set_cons_succ]
                  refine wpAnyH_take (i := 11) (oi := ⟨some 104, _, _, _, _, _⟩) rfl (by kernel_rfl) (by kernel_rfl) (by kernel_rfl) (fun _ _ _ h => h) (Or.inr ⟨by rfl, rfl⟩) hS ?_
                  try simp only [Act.put, List.setIfInBounds_toArray, List.set_cons_zero, List.set_cons_succ]
                  refine wpAnyH_take (i := 12) (oi := ⟨some 105, _, _, _, _, _⟩) rfl (by kernel_rfl) (by kernel_rfl) (by kernel_rfl) (fun _ _ _ h => h) (Or.inr ⟨by rfl, rfl⟩) hS ?_
                  try simp only [Act.put, List.setIfInBounds_toArray, List.set_cons_zero, List.set_cons_succ]
                  refine wpAnyH_take (i := 13) (oi := ⟨some 106, _, _, _, _, _⟩) rfl (by kernel_rfl) (by kernel_rfl) (by kernel_rfl) (fun _ _ _ h => h) (Or.inr ⟨by rfl, rfl⟩) hS ?_
                  try simp only [Act.put, List.setIfInBounds_toArray, List.set_cons_zero, List.set_cons_succ]
                  refine wpAnyH_take (i := 14) (oi := ⟨some 107, _, _, _, _, _⟩) rfl (by kernel_rfl) (by kernel_rfl) (by kernel_rfl) (fun _ _ _ h => h) (Or.inr ⟨by rfl, rfl⟩) hS ?_
                  try simp only [Act.put, List.setIfInBounds_toArray, List.set_cons_zero, List.set_cons_succ]
                  refine wpAnyH_take (i := 15) (oi := ⟨some 108, _, _, _, _, _⟩) (v := ?_) rfl (by kernel_rfl) (by kernel_rfl) (by kernel_rfl) (fun _ _ _ h => h) (Or.inl ⟨by rfl, ?_⟩) hS ?_
                  rotate_left 1
                  · intro w' hB; have hd := (HC.out.to w5 (by simp)).trans (hB.mono (HC.out.to w5 (by simp)).size); have k7 := cell_of_one (boxStays F5.out.2.1 hd); have k13 := cell_of_one (boxStays Z13.out hd); clear hd; have hwr := HWR.out; have hgt := hgt; have hgtb := hgtb; (go_simp <;> with_reducible rfl)
                  try simp only [Act.put, List.setIfInBounds_toArray, List.set_cons_zero, List.set_cons_succ]
                  refine wpAnyH_take (i := 16) (oi := ⟨some 109, _, _, _, _, _⟩) (v := ?_) rfl (by kernel_rfl) (by kernel_rfl) (by kernel_rfl) (fun _ _ _ h => h) (Or.inl ⟨by rfl, ?_⟩) hS ?_
                  rotate_left 1
                  · intro w' hB; have hd := (HC.out.to w5 (by simp)).trans (hB.mono (HC.out.to w5 (by simp)).size); have k7 := cell_of_one (boxStays F5.out.2.1 hd); have k13 := cell_of_one (boxStays Z13.out hd); clear hd; have hwr := HWR.out; have hgt := hgt; have hgtb := hgtb; (go_simp <;> with_reducible rfl)
                  try simp only [Act.put, List.setIfInBounds_toArray, List.set_cons_zero, List.set_cons_succ]
                  refine wpAnyH_done (by kernel_rfl) (NoPanic.normal ?_) _
                case' false =>
                  refine wp_region_noPanic ?_
                  refine wp_region_held_drew (S := fun w' => Below w5.heap.size w5 w') (by kernel_rfl) (Below.refl _ _).drew (fun hS => ?_)
                  refine wpAnyH_take (i := 0) (oi := ⟨some 93, _, _, _, _, _⟩) (v := ?_) rfl (by kernel_rfl) (by kernel_rfl) (by kernel_rfl) (fun _ _ _ h => h) (Or.inl ⟨by rfl, ?_⟩) hS ?_
                  rotate_left 1
                  · intro w' hB; have hd := (HC.out.to w5 (by simp)).trans (hB.mono (HC.out.to w5 (by simp)).size); have k7 := cell_of_one (boxStays F5.out.2.1 hd); have k13 := cell_of_one (boxStays Z13.out hd); clear hd; have hwr := HWR.out; have hgt := hgt; have hgtb := hgtb; (go_simp <;> with_reducible rfl)
                  try simp only [Act.put, List.setIfInBounds_toArray, List.set_cons_zero, List.set_cons_succ]
                  refine wpAnyH_take (i := 1) (oi := ⟨some 94, _, _, _, _, _⟩) (v := ?_) rfl (by kernel_rfl) (by kernel_rfl) (by kernel_rfl) (fun _ _ _ h => h) (Or.inl ⟨by rfl, ?_⟩) hS ?_
                  rotate_left 1
                  · intro w' hB; have hd := (HC.out.to w5 (by simp)).trans (hB.mono (HC.out.to w5 (by simp)).size); have k7 := cell_of_one (boxStays F5.out.2.1 hd); have k13 := cell_of_one (boxStays Z13.out hd); clear hd; have hwr := HWR.out; have hgt := hgt; have hgtb := hgtb; (go_simp <;> with_reducible rfl)
                  try simp only [Act.put, List.setIfInBounds_toArray, List.set_cons_zero, List.set_cons_succ]
                  refine wpAnyH_take (i := 3) (oi := ⟨some 96, _, _, _, _, _⟩) (v := ?_) rfl (by kernel_rfl) (by kernel_rfl) (by kernel_rfl) (fun _ _ _ h => h) (Or.inl ⟨by rfl, ?_⟩) hS ?_
                  rotate_left 1
                  · intro w' hB; have hd := (HC.out.to w5 (by simp)).trans (hB.mono (HC.out.to w5 (by simp)).size); have k7 := cell_of_one (boxStays F5.out.2.1 hd); have k13 := cell_of_one (boxStays Z13.out hd); clear hd; have hwr := HWR.out; have hgt := hgt; have hgtb := hgtb; (go_simp <;> with_reducible rfl)
                  try simp only [Act.put, List.setIfInBounds_toArray, List.set_cons_zero, List.set_cons_succ]
                  refine wpAnyH_ready (rs := [2]) (by kernel_rfl) (by simp) (AllReadyH.cons (o := ⟨some 95, _, _, _, _, _⟩) rfl (fun K hK => ?_) AllReadyH.nil)
                  go_simp
                  refine (HMD.out _ ((HC.out.to w5 (by simp)).trans (hS.mono (HC.out.to w5 (by simp)).size))).mono ?_
                  rintro e w6 ⟨rfl, hb⟩
                  refine hK.out _ _ (hS.trans (hb.mono hS.size)) (fun _ => ?_)
                  clear hK K
                  have hB := hS.trans (hb.mono hS.size)
                  refine wpAnyH_now hB ?_
                  clear hS
                  have hS := Below.refl w6.heap.size w6
                  replace HC := Lib.hid (HC.out.push hB)
                  clear hB hb
                  try simp only [Act.put, List.setIfInBounds_toArray, List.set_cons_zero, List.set_cons_succ]
                  refine wpAnyH_ready (rs := [4]) (by kernel_rfl) (by simp) (AllReadyH.cons (o := ⟨some 97, _, _, _, _, _⟩) rfl (fun K hK => ?_) AllReadyH.nil)
                  go_simp
                  refine (HHD.out _ ((HC.out.to w5 (by simp)).trans (hS.mono (HC.out.to w5 (by simp)).size))).mono ?_
                  rintro e w7 ⟨rfl, hb⟩
                  refine hK.out _ _ (hS.trans (hb.mono hS.size)) (fun _ => ?_)
                  clear hK K
                  have hB := hS.trans (hb.mono hS.size)
                  refine wpAnyH_now hB ?_
                  clear hS
                  have hS := Below.refl w7.heap.size w7
                  replace HC := Lib.hid (HC.out.push hB)
                  clear hB hb
                  try simp only [Act.put, List.setIfInBounds_toArray, List.set_cons_zero, List.set_cons_succ]
                  refine wpAnyH_take (i := 5) (oi := ⟨some 98, _, _, _, _, _⟩) (v := ?_) rfl (by kernel_rfl) (by kernel_rfl) (by kernel_rfl) (fun _ _ _ h => h) (Or.inl ⟨by rfl, ?_⟩) hS ?_
                  rotate_left 1
                  · intro w' hB; have hd := (HC.out.to w5 (by simp)).trans (hB.mono (HC.out.to w5 (by simp)).size); have k7 := cell_of_one (boxStays F5.out.2.1 hd); have k13 := cell_of_one (boxStays Z13.out hd); clear hd; have hwr := HWR.out; have hgt := hgt; have hgtb := hgtb; (go_simp <;> with_reducible rfl)
                  try simp only [Act.put, List.setIfInBounds_toArray, List.set_cons_zero, List.set_cons_succ]
                  refine wpAnyH_take (i := 6) (oi := ⟨some 99, _, _, _, _, _⟩) (v := ?_) rfl (by kernel_rfl) (by kernel_rfl) (by kernel_rfl) (fun _ _ _ h => h) (Or.inl ⟨by rfl, ?_⟩) hS ?_
                  rotate_left 1
                  · intro w' hB; have hd := (HC.out.to w5 (by simp)).trans (hB.mono (HC.out.to w5 (by simp)).size); have k7 := cell_of_one (boxStays F5.out.2.1 hd); have k13 := cell_of_one (boxStays Z13.out hd); clear hd; have hwr := HWR.out; have hgt := hgt; have hgtb := hgtb; (go_simp <;> with_reducible rfl)
                  try simp only [Act.put, List.setIfInBounds_toArray, List.set_cons_zero, List.set_cons_succ]
                  refine wpAnyH_take (i := 7) (oi := ⟨some 100, _, _, _, _, _⟩) (v := ?_) rfl (by kernel_rfl) (by kernel_rfl) (by kernel_rfl) (fun _ _ _ h => h) (Or.inl ⟨by rfl, ?_⟩) hS ?_
                  rotate_left 1
                  · intro w' hB; have hd := (HC.out.to w5 (by simp)).trans (hB.mono (HC.out.to w5 (by simp)).size); have k7 := cell_of_one (boxStays F5.out.2.1 hd); have k13 := cell_of_one (boxStays Z13.out hd); clear hd; have hwr := HWR.out; have hgt := hgt; have hgtb := hgtb; (go_simp <;> with_reducible rfl)
                  try simp only [Act.put, List.setIfInBounds_toArray, List.set_cons_zero, List.set_cons_succ]
                  refine wpAnyH_take (i := 8) (oi := ⟨some 101, _, _, _, _, _⟩) (v := ?_) rfl (by kernel_rfl) (by kernel_rfl) (by kernel_rfl) (fun _ _ _ h => h) (Or.inl ⟨by rfl, ?_⟩) hS ?_
                  rotate_left 1
                  · intro w' hB; have hd := (HC.out.to w5 (by simp)).trans (hB.mono (HC.out.to w5 (by simp)).size); have k7 := cell_of_one (boxStays F5.out.2.1 hd); have k13 := cell_of_one (boxStays Z13.out hd); clear hd; have hwr := HWR.out; have hgt := hgt; have hgtb := hgtb; (go_simp <;> with_reducible rfl)
                  try simp only [Act.put, List.setIfInBounds_toArray, List.set_cons_zero, List.set_cons_succ]
                  refine wpAnyH_take (i := 9) (oi := ⟨some 102, _, _, _, _, _⟩) (v := ?_) rfl (by kernel_rfl) (by kernel_rfl) (by kernel_rfl) (fun _ _ _ h => h) (Or.inl ⟨by rfl, ?_⟩) hS ?_
                  rotate_left 1
                  · intro w' hB; have hd := (HC.out.to w5 (by simp)).trans (hB.mono (HC.out.to w5 (by simp)).size); have k7 := cell_of_one (boxStays F5.out.2.1 hd); have k13 := cell_of_one (boxStays Z13.out hd); clear hd; have hwr := HWR.out; have hgt := hgt; have hgtb := hgtb; (go_simp <;> with_reducible rfl)
                  try simp only [Act.put, List.setIfInBounds_toArray, List.set_cons_zero, List.set_cons_succ]
                  refine wpAnyH_take (i := 10) (oi := ⟨some 103, _, _, _, _, _⟩) (v := ?_) rfl (by kernel_rfl) (by kernel_rfl) (by kernel_rfl) (fun _ _ _ h => h) (Or.inl ⟨by rfl, ?_⟩) hS ?_
                  rotate_left 1
                  · intro w' hB; have hd := (HC.out.to w5 (by simp)).trans (hB.mono (HC.out.to w5 (by simp)).size); have k7 := cell_of_one (boxStays F5.out.2.1 hd); have k13 := cell_of_one (boxStays Z13.out hd); clear hd; have hwr := HWR.out; have hgt := hgt; have hgtb := hgtb; (go_simp <;> with_reducible rfl)
                  try simp only [Act.put, List.setIfInBounds_toArray, List.set_cons_zero, List.set_cons_succ]
                  refine wpAnyH_take (i := 11) (oi := ⟨some 104, _, _, _, _, _⟩) (v := ?_) rfl (by kernel_rfl) (by kernel_rfl) (by kernel_rfl) (fun _ _ _ h => h) (Or.inl ⟨by rfl, ?_⟩) hS ?_
                  rotate_left 1
                  · intro w' hB; have hd := (HC.out.to w5 (by simp)).trans (hB.mono (HC.out.to w5 (by simp)).size); have k7 := cell_of_one (boxStays F5.out.2.1 hd); have k13 := cell_of_one (boxStays Z13.out hd); clear hd; have hwr := HWR.out; have hgt := hgt; have hgtb := hgtb; (go_simp <;> with_reducible rfl)
                  try simp only [Act.put, List.setIfInBounds_toArray, List.set_cons_zero, List.set_cons_succ]
                  refine wpAnyH_take (i := 12) (oi := ⟨some 105, _, _, _, _, _⟩) (v := ?_) rfl (by kernel_rfl) (by kernel_rfl) (by kernel_rfl) (fun _ _ _ h => h) (Or.inl ⟨by rfl, ?_⟩) hS ?_
                  rotate_left 1
                  · intro w' hB; have hd := (HC.out.to w5 (by simp)).trans (hB.mono (HC.out.to w5 (by simp)).size); have k7 := cell_of_one (boxStays F5.out.2.1 hd); have k13 := cell_of_one (boxStays Z13.out hd); clear hd; have hwr := HWR.out; have hgt := hgt; have hgtb := hgtb; (go_simp <;> with_reducible rfl)
                  try simp only [Act.put, List.setIfInBounds_toArray, List.set_cons_zero, List.set_cons_succ]
                  refine wpAnyH_ready (rs := [13]) (by kernel_rfl) (by simp) (AllReadyH.cons (o := ⟨some 106, _, _, _, _, _⟩) rfl (fun K hK => ?_) AllReadyH.nil)
                  go_simp
                  refine (pm_MSameI t' t _ (F5.out.1.chain HC.out hS (by simp)) (T5.out.chain HC.out hS (by simp))).mono ?_
                  rintro e w8 ⟨rfl, hb⟩
                  refine hK.out _ _ (hS.trans (hb.mono hS.size)) (fun _ => ?_)
                  clear hK K
                  have hB := hS.trans (hb.mono hS.size)
                  refine wpAnyH_now hB ?_
                  clear hS
                  have hS := Below.refl w8.heap.size w8
                  replace HC := Lib.hid (HC.out.push hB)
                  rw [show decide (pa t' = pa t) = true from decide_eq_true (HPP.out rfl)]
                  clear hB hb
                  try simp only [Act.put, List.setIfInBounds_toArray, List.set_cons_zero, List.set_cons_succ]
                  refine wpAnyH_take (i := 14) (oi := ⟨some 107, _, _, _, _, _⟩) (v := ?_) rfl (by kernel_rfl) (by kernel_rfl) (by kernel_rfl) (fun _ _ _ h => h) (Or.inl ⟨by rfl, ?_⟩) hS ?_
                  rotate_left 1
                  · intro w' hB; have hd := (HC.out.to w5 (by simp)).trans (hB.mono (HC.out.to w5 (by simp)).size); have k7 := cell_of_one (boxStays F5.out.2.1 hd); have k13 := cell_of_one (boxStays Z13.out hd); clear hd; have hwr := HWR.out; have hgt := hgt; have hgtb := hgtb; (go_simp <;> with_reducible rfl)
                  try simp only [Act.put, List.setIfInBounds_toArray, List.set_cons_zero, List.set_cons_succ]
                  refine wpAnyH_take (i := 15) (oi := ⟨some 108, _, _, _, _, _⟩) (v := ?_) rfl (by kernel_rfl) (by kernel_rfl) (by kernel_rfl) (fun _ _ _ h => h) (Or.inl ⟨by rfl, ?_⟩) hS ?_
                  rotate_left 1
                  · intro w' hB; have hd := (HC.out.to w5 (by simp)).trans (hB.mono (HC.out.to w5 (by simp)).size); have k7 := cell_of_one (boxStays F5.out.2.1 hd); have k13 := cell_of_one (boxStays Z13.out hd); clear hd; have hwr := HWR.out; have hgt := hgt; have hgtb := hgtb; (go_simp <;> with_reducible rfl)
                  try simp only [Act.put, List.setIfInBounds_toArray, List.set_cons_zero, List.set_cons_succ]
                  refine wpAnyH_take (i := 16) (oi := ⟨some 109, _, _, _, _, _⟩) (v := ?_) rfl (by kernel_rfl) (by kernel_rfl) (by kernel_rfl) (fun _ _ _ h => h) (Or.inl ⟨by rfl, ?_⟩) hS ?_
                  rotate_left 1
                  · intro w' hB; have hd := (HC.out.to w5 (by simp)).trans (hB.mono (HC.out.to w5 (by simp)).size); have k7 := cell_of_one (boxStays F5.out.2.1 hd); have k13 := cell_of_one (boxStays Z13.out hd); clear hd; have hwr := HWR.out; have hgt := hgt; have hgtb := hgtb; (go_simp <;> with_reducible rfl)
                  try simp only [Act.put, List.setIfInBounds_toArray, List.set_cons_zero, List.set_cons_succ]
                  refine wpAnyH_done (by kernel_rfl) (NoPanic.normal ?_) _
                all_goals
                  have F6 := Lib.hid (F5.out.below (HC.out.to w5 (by simp)))
                  have R6 := Lib.hid (R5.out.below (HC.out.to w5 (by simp)))
                  clear hS HC
                  go_wp2_with fail
                  go_meet
                  exact ⟨t', F6, R6, G5⟩
            · by_cases hk3 : kd = 3
              · subst hk3
                as_aux_lemma =>
                  have k7 := cell_of_one F3.out.2.1
                  have k12 := box3 Y12.out
                  go_wp2_with fail
                  refine (pm_MSplitI t key w3.heap.size w3 (Nat.le_refl _) F3.out.1 (by rw [HZ.out]; omega)).mono ?_
                  rintro e w4 ⟨a, x, c, hP, rfl, hA, hC, hb⟩
                  obtain ⟨hspl, hix, hp0z, hupz⟩ := splF hP HG.out.1 HG.out.2.1 HP0.out HTH.out
                  obtain ⟨vx, hvx⟩ : ∃ v, valOr x = v := ⟨_, rfl⟩
                  rw [HZ.out] at hp0z hupz
                  rw [hvx] at hspl
                  rw [hvx, hix]
                  have HSP := Lib.hid hspl
                  obtain ⟨up, hup⟩ : ∃ u, (if th then p0 + 1 else p0) = u := ⟨_, rfl⟩
                  rw [hup] at hupz
                  have HUP := Lib.hid hup
                  clear hP hspl hix hvx hup k7 k12
                  have D4 := Lib.hid hb
                  have A4 := Lib.hid hA
                  have C4 := Lib.hid hC
                  clear hb hA hC
                  have k12 := box3 (boxStays Y12.out D4.out)
                  have hl12 : c12 < w4.heap.size := (Array.getElem?_eq_some_iff.1 (boxStays Y12.out D4.out)).1
                  have hn12 : c12 ≠ w4.heap.size := by omega
                  have hm12 : c12 ≠ w4.heap.size + 1 := by omega
                  go_wp2_with fail
                  clear k12 hl12 hn12 hm12
                  obtain ⟨c16, hc16⟩ : ∃ q, w4.heap.size = q := ⟨_, rfl⟩
                  obtain ⟨w5, hw5⟩ : ∃ W, (w4.alloc (.cells #[.pointer (pa a)] 26)).alloc (.cells #[.pointer (pa c)] 26) = W := ⟨_, rfl⟩
                  have hb5 : Below w4.heap.size w4 w5 := by rw [← hw5]; exact ((Below.refl _ w4).alloc (Nat.le_refl _) _).alloc (by simp) _
                  have X16 : Hid (w5.heap[c16]? = some (.cells #[.pointer (pa a)] 26 (0, 0))) := Lib.hid (by rw [← hw5, ← hc16]; exact boxStays (heap_alloc_new w4 _) (below_new _ _))
                  have X19 : Hid (w5.heap[c16 + 1]? = some (.cells #[.pointer (pa c)] 26 (0, 0))) := Lib.hid (by rw [← hw5, ← hc16]; have := heap_alloc_new (w4.alloc (.cells #[.pointer (pa a)] 26)) (.cells #[.pointer (pa c)] 26); simpa using this)
                  have D5 := Lib.hid (D4.out.trans (hb5.mono D4.out.size))
                  have A5 := Lib.hid (A4.out.below hb5 rfl)
                  have C5 := Lib.hid (C4.out.below hb5 rfl)
                  have HW5 := Lib.hid hw5
                  have HC16 := Lib.hid hc16
                  clear hb5 hw5 hc16 A4 C4 D4
                  rw [HW5.out, HC16.out]
                  clear HW5 HC16
                  refine (HAT3.out _ D5.out).mono ?_
                  rintro e w6 ⟨rfl, hb⟩
                  have D6 := Lib.hid (D5.out.trans (hb.mono D5.out.size))
                  have X6 : Hid (w6.heap[c16]? = some (.cells #[.pointer (pa a)] 26 (0, 0)) ∧ w6.heap[c16 + 1]? = some (.cells #[.pointer (pa c)] 26 (0, 0)) ∧ AtI w6 a ∧ AtI w6 c) := Lib.hid ⟨boxStays X16.out hb, boxStays X19.out hb, A5.out.below hb rfl, C5.out.below hb rfl⟩
                  have F6 := Lib.hid (F3.out.below D6.out)
                  have R6 := Lib.hid (R3.out.below D6.out)
                  have Z12 := Lib.hid (boxStays Y12.out D6.out)
                  clear hb X16 X19 A5 C5 D5 D6 HAT3
                  go_upto_if 129 with (fail)
                  go_cut [22] (fun s22 wx => s22 = .int .i64 (up : Int) ∧ w6 = wx)
                  case first =>
                    cases th
                    · go_wp2_with fail
                      go_meet
                      first | exact ⟨rfl, rfl⟩ | exact ⟨by rw [← HUP.out]; rfl, rfl⟩
                    · go_wp2_with fail
                      go_meet
                      first | exact ⟨rfl, rfl⟩ | exact ⟨by rw [← HUP.out]; simp, rfl⟩
                  case rest =>
                    obtain ⟨rfl, rfl⟩ := hcut
                    go_wp2_with fail
                    have hta : ∀ W : World, Below w6.heap.size w6 W → Calls Try.prog 13 #[.agg #[.pointer (pa a)], .slice al p0 capl, .int .i64 leave, .string fr] W fun e w' => e = .returned (.bool true) ∧ Below W.heap.size W w' := fun W hb => lw_tellsA (items t) a al z capl p0 leave fr W (F6.out.2.2.1.below hb) (X6.out.2.2.1.below hb rfl) HSP.out.2.2.2.2.2.2.1 HSP.out.2.2.2.2.1 HSP.out.2.1 HSP.out.1 (by omega) hp0z
                    have htc : ∀ W : World, Below w6.heap.size w6 W → Calls Try.prog 13 #[.agg #[.pointer (pa c)], .slice (subN al capl up 2) (z - up) (capl - up), .int .i64 leave, .string fr] W fun e w' => e = .returned (.bool true) ∧ Below W.heap.size W w' := fun W hb => lw_tellsC (items t) c al z capl up leave fr W (F6.out.2.2.1.below hb) (X6.out.2.2.2.below hb rfl) HSP.out.2.2.2.2.2.2.2.1 HSP.out.2.2.2.2.2.1 (by rw [HSP.out.2.2.1, HUP.out]) (by omega) hupz
                    have hs1 := fun W : World => run_upto (P := Try.prog) W 27 47 Try.underlying27 2 (fun w => by kernel_rfl) al z capl p0 (by have := HCP.out.1; omega)
                    have hs2 := fun W : World => run_from (P := Try.prog) W 27 47 Try.underlying27 2 (fun w => by kernel_rfl) al z capl up (up : Int) rfl hupz
                    obtain ⟨ac, hac⟩ : ∃ q, subN al capl up 2 = q := ⟨_, rfl⟩
                    obtain ⟨zc, hzc⟩ : ∃ q, z - up = q := ⟨_, rfl⟩
                    obtain ⟨cc, hcc⟩ : ∃ q, capl - up = q := ⟨_, rfl⟩
                    rw [hac, hzc, hcc] at htc
                    rw [hac, hzc, hcc] at hs2
                    have HTA := Lib.hid hta
                    have HTC := Lib.hid htc
                    have HS1 := Lib.hid hs1
                    have HS2 := Lib.hid hs2
                    clear hta htc hs1 hs2 hac hzc hcc
                    go_cut [174] (fun s174 wx => s174 = .bool false ∧ Hid (Below w6.heap.size w6 wx))
                    case first =>
                      as_aux_lemma =>
                        have HC : Hid (Chain [w6] w6) := Lib.hid (Chain.one w6)
                        cases th
                        case' false =>
                          have hv0 : vx = 0 := HSP.out.2.2.2.2.2.2.2.2.2 rfl
                          subst hv0
                          refine wp_region_noPanic ?_
                          refine wp_region_held_drew (S := fun w' => Below w6.heap.size w6 w') (by kernel_rfl) (Below.refl _ _).drew (fun hS => ?_)
                          refine wpAnyH_take (i := 0) (oi := ⟨some 132, _, _, _, _, _⟩) (v := ?_) rfl (by kernel_rfl) (by kernel_rfl) (by kernel_rfl) (fun _ _ _ h => h) (Or.inl ⟨by rfl, ?_⟩) hS ?_
                          rotate_left 1
                          · intro w' hB; have hd := (HC.out.to w6 (by simp)).trans (hB.mono (HC.out.to w6 (by simp)).size); have k16 := cell_of_one (boxStays X6.out.1 hd); have k19 := cell_of_one (boxStays X6.out.2.1 hd); clear hd; have hs1 := HS1.out; have hs2 := HS2.out; (go_simp <;> with_reducible rfl)
                          try simp only [Act.put, List.setIfInBounds_toArray, List.set_cons_zero, List.set_cons_succ]
                          refine wpAnyH_take (i := 1) (oi := ⟨some 133, _, _, _, _, _⟩) (v := ?_) rfl (by kernel_rfl) (by kernel_rfl) (by kernel_rfl) (fun _ _ _ h => h) (Or.inl ⟨by rfl, ?_⟩) hS ?_
                          rotate_left 1
                          · intro w' hB; have hd := (HC.out.to w6 (by simp)).trans (hB.mono (HC.out.to w6 (by simp)).size); have k16 := cell_of_one (boxStays X6.out.1 hd); have k19 := cell_of_one (boxStays X6.out.2.1 hd); clear hd; have hs1 := HS1.out; have hs2 := HS2.out; (go_simp <;> with_reducible rfl)
                          try simp only [Act.put, List.setIfInBounds_toArray, List.set_cons_zero, List.set_cons_succ]
                          refine wpAnyH_take (i := 2) (oi := ⟨some 134, _, _, _, _, _⟩) (v := ?_) rfl (by kernel_rfl) (by kernel_rfl) (by kernel_rfl) (fun _ _ _ h => h) (Or.inl ⟨by rfl, ?_⟩) hS ?_
                          rotate_left 1
                          · intro w' hB; have hd := (HC.out.to w6 (by simp)).trans (hB.mono (HC.out.to w6 (by simp)).size); have k16 := cell_of_one (boxStays X6.out.1 hd); have k19 := cell_of_one (boxStays X6.out.2.1 hd); clear hd; have hs1 := HS1.out; have hs2 := HS2.out; (go_simp <;> with_reducible rfl)
                          try simp only [Act.put, List.setIfInBounds_toArray, List.set_cons_zero, List.set_cons_succ]
                          refine wpAnyH_take (i := 3) (oi := ⟨some 135, _, _, _, _, _⟩) (v := ?_) rfl (by kernel_rfl) (by kernel_rfl) (by kernel_rfl) (fun _ _ _ h => h) (Or.inl ⟨by rfl, ?_⟩) hS ?_
                          rotate_left 1
                          · intro w' hB; have hd := (HC.out.to w6 (by simp)).trans (hB.mono (HC.out.to w6 (by simp)).size); have k16 := cell_of_one (boxStays X6.out.1 hd); have k19 := cell_of_one (boxStays X6.out.2.1 hd); clear hd; have hs1 := HS1.out; have hs2 := HS2.out; (go_simp <;> with_reducible rfl)
                          try simp only [Act.put, List.setIfInBounds_toArray, List.set_cons_zero, List.set_cons_succ]
                          refine wpAnyH_take (i := 4) (oi := ⟨some 136, _, _, _, _, _⟩) (v := ?_) rfl (by kernel_rfl) (by kernel_rfl) (by kernel_rfl) (fun _ _ _ h => h) (Or.inl ⟨by rfl, ?_⟩) hS ?_
                          rotate_left 1
                          · intro w' hB; have hd := (HC.out.to w6 (by simp)).trans (hB.mono (HC.out.to w6 (by simp)).size); have k16 := cell_of_one (boxStays X6.out.1 hd); have k19 := cell_of_one (boxStays X6.out.2.1 hd); clear hd; have hs1 := HS1.out; have hs2 := HS2.out; (go_simp <;> with_reducible rfl)
                          try simp only [Act.put, List.setIfInBounds_toArray, List.set_cons_zero, List.set_cons_succ]
                          refine wpAnyH_take (i := 5) (oi := ⟨some 137, _, _, _, _, _⟩) (v := ?_) rfl (by kernel_rfl) (by kernel_rfl) (by kernel_rfl) (fun _ _ _ h => h) (Or.inl ⟨by rfl, ?_⟩) hS ?_
                          rotate_left 1
                          · intro w' hB; have hd := (HC.out.to w6 (by simp)).trans (hB.mono (HC.out.to w6 (by simp)).size); have k16 := cell_of_one (boxStays X6.out.1 hd); have k19 := cell_of_one (boxStays X6.out.2.1 hd); clear hd; have hs1 := HS1.out; have hs2 := HS2.out; (go_simp <;> with_reducible rfl)
                          try simp only [Act.put, List.setIfInBounds_toArray, List.set_cons_zero, List.set_cons_succ]
                          refine wpAnyH_take (i := 6) (oi := ⟨some 138, _, _, _, _, _⟩) rfl (by kernel_rfl) (by kernel_rfl) (by kernel_rfl) (fun _ _ _ h => h) (Or.inr ⟨by rfl, rfl⟩) hS ?_
                          try simp only [Act.put, List.setIfInBounds_toArray, List.set_cons_zero, List.set_cons_succ]
                          refine wpAnyH_take (i := 7) (oi := ⟨some 139, _, _, _, _, _⟩) rfl (by kernel_rfl) (by kernel_rfl) (by kernel_rfl) (fun _ _ _ h => h) (Or.inr ⟨by rfl, rfl⟩) hS ?_
                          try simp only [Act.put, List.setIfInBounds_toArray, List.set_cons_zero, List.set_cons_succ]
                          refine wpAnyH_take (i := 8) (oi := ⟨some 140, _, _, _, _, _⟩) rfl (by kernel_rfl) (by kernel_rfl) (by kernel_rfl) (fun _ _ _ h => h) (Or.inr ⟨by rfl, rfl⟩) hS ?_
                          try simp only [Act.put, List.setIfInBounds_toArray, List.set_cons_zero, List.set_cons_succ]
                          refine wpAnyH_take (i := 9) (oi := ⟨some 141, _, _, _, _, _⟩) rfl (by kernel_rfl) (by kernel_rfl) (by kernel_rfl) (fun _ _ _ h => h) (Or.inr ⟨by rfl, rfl⟩) hS ?_
                          try simp only [Act.put, List.setIfInBounds_toArray, List.set_cons_zero, List.set_cons_succ]
                          refine wpAnyH_take (i := 10) (oi := ⟨some 142, _, _, _, _, _⟩) rfl (by kernel_rfl) (by kernel_rfl) (by kernel_rfl) (fun _ _ _ h => h) (Or.inr ⟨by rfl, rfl⟩) hS ?_
                          try simp only [Act.put, List.setIfInBounds_toArray, List.set_cons_zero, List.set_cons_succ]
                          refine wpAnyH_take (i := 11) (oi := ⟨some 143, _, _, _, _, _⟩) rfl (by kernel_rfl) (by kernel_rfl) (by kernel_rfl) (fun _ _ _ h => h) (Or.inr ⟨by rfl, rfl⟩) hS ?_
                          try simp only [Act.put, List.setIfInBounds_toArray, List.set_cons_zero, List.set_cons_succ]
                          refine wpAnyH_take (i := 12) (oi := ⟨some 144, _, _, _, _, _⟩) rfl (by kernel_rfl) (by kernel_rfl) (by kernel_rfl) (fun _ _ _ h => h) (Or.inr ⟨by rfl, rfl⟩) hS ?_
                          try simp only [Act.put, List.setIfInBounds_toArray, List.set_cons_zero, List.set_cons_succ]
                          refine wpAnyH_take (i := 13) (oi := ⟨some 145, _, _, _, _, _⟩) (v := ?_) rfl (by kernel_rfl) (by kernel_rfl) (by kernel_rfl) (fun _ _ _ h => h) (Or.inl ⟨by rfl, ?_⟩) hS ?_
                          rotate_left 1
                          · intro w' hB; have hd := (HC.out.to w6 (by simp)).trans (hB.mono (HC.out.to w6 (by simp)).size); have k16 := cell_of_one (boxStays X6.out.1 hd); have k19 := cell_of_one (boxStays X6.out.2.1 hd); clear hd; have hs1 := HS1.out; have hs2 := HS2.out; (go_simp <;> with_reducible rfl)
                          try simp only [Act.put, List.setIfInBounds_toArray, List.set_cons_zero, List.set_cons_succ]
                          refine wpAnyH_take (i := 14) (oi := ⟨some 146, _, _, _, _, _⟩) (v := ?_) rfl (by kernel_rfl) (by kernel_rfl) (by kernel_rfl) (fun _ _ _ h => h) (Or.inl ⟨by rfl, ?_⟩) hS ?_
                          rotate_left 1
                          · intro w' hB; have hd := (HC.out.to w6 (by simp)).trans (hB.mono (HC.out.to w6 (by simp)).size); have k16 := cell_of_one (boxStays X6.out.1 hd); have k19 := cell_of_one (boxStays X6.out.2.1 hd); clear hd; have hs1 := HS1.out; have hs2 := HS2.out; (go_simp <;> with_reducible rfl)
                          try simp only [Act.put, List.setIfInBounds_toArray, List.set_cons_zero, List.set_cons_succ]
                          refine wpAnyH_take (i := 15) (oi := ⟨some 147, _, _, _, _, _⟩) (v := ?_) rfl (by kernel_rfl) (by kernel_rfl) (by kernel_rfl) (fun _ _ _ h => h) (Or.inl ⟨by rfl, ?_⟩) hS ?_
                          rotate_left 1
                          · intro w' hB; have hd := (HC.out.to w6 (by simp)).trans (hB.mono (HC.out.to w6 (by simp)).size); have k16 := cell_of_one (boxStays X6.out.1 hd); have k19 := cell_of_one (boxStays X6.out.2.1 hd); clear hd; have hs1 := HS1.out; have hs2 := HS2.out; (go_simp <;> with_reducible rfl)
                          try simp only [Act.put, List.setIfInBounds_toArray, List.set_cons_zero, List.set_cons_succ]
                          refine wpAnyH_take (i := 16) (oi := ⟨some 148, _, _, _, _, _⟩) (v := ?_) rfl (by kernel_rfl) (by kernel_rfl) (by kernel_rfl) (fun _ _ _ h => h) (Or.inl ⟨by rfl, ?_⟩) hS ?_
                          rotate_left 1
                          · intro w' hB; have hd := (HC.out.to w6 (by simp)).trans (hB.mono (HC.out.to w6 (by simp)).size); have k16 := cell_of_one (boxStays X6.out.1 hd); have k19 := cell_of_one (boxStays X6.out.2.1 hd); clear hd; have hs1 := HS1.out; have hs2 := HS2.out; (go_simp <;> with_reducible rfl)
                          try simp only [Act.put, List.setIfInBounds_toArray, List.set_cons_zero, List.set_cons_succ]
                          refine wpAnyH_take (i := 17) (oi := ⟨some 149, _, _, _, _, _⟩) (v := ?_) rfl (by kernel_rfl) (by kernel_rfl) (by kernel_rfl) (fun _ _ _ h => h) (Or.inl ⟨by rfl, ?_⟩) hS ?_
                          rotate_left 1
                          · intro w' hB; have hd := (HC.out.to w6 (by simp)).trans (hB.mono (HC.out.to w6 (by simp)).size); have k16 := cell_of_one (boxStays X6.out.1 hd); have k19 := cell_of_one (boxStays X6.out.2.1 hd); clear hd; have hs1 := HS1.out; have hs2 := HS2.out; (go_simp <;> with_reducible rfl)
                          try simp only [Act.put, List.setIfInBounds_toArray, List.set_cons_zero, List.set_cons_succ]
                          refine wpAnyH_take (i := 18) (oi := ⟨some 150, _, _, _, _, _⟩) (v := ?_) rfl (by kernel_rfl) (by kernel_rfl) (by kernel_rfl) (fun _ _ _ h => h) (Or.inl ⟨by rfl, ?_⟩) hS ?_
                          rotate_left 1
                          · intro w' hB; have hd := (HC.out.to w6 (by simp)).trans (hB.mono (HC.out.to w6 (by simp)).size); have k16 := cell_of_one (boxStays X6.out.1 hd); have k19 := cell_of_one (boxStays X6.out.2.1 hd); clear hd; have hs1 := HS1.out; have hs2 := HS2.out; (go_simp <;> with_reducible rfl)
                          try simp only [Act.put, List.setIfInBounds_toArray, List.set_cons_zero, List.set_cons_succ]
                          refine wpAnyH_take (i := 19) (oi := ⟨some 151, _, _, _, _, _⟩) (v := ?_) rfl (by kernel_rfl) (by kernel_rfl) (by kernel_rfl) (fun _ _ _ h => h) (Or.inl ⟨by rfl, ?_⟩) hS ?_
                          rotate_left 1
                          · intro w' hB; have hd := (HC.out.to w6 (by simp)).trans (hB.mono (HC.out.to w6 (by simp)).size); have k16 := cell_of_one (boxStays X6.out.1 hd); have k19 := cell_of_one (boxStays X6.out.2.1 hd); clear hd; have hs1 := HS1.out; have hs2 := HS2.out; (go_simp <;> with_reducible rfl)
                          try simp only [Act.put, List.setIfInBounds_toArray, List.set_cons_zero, List.set_cons_succ]
                          refine wpAnyH_take (i := 20) (oi := ⟨some 152, _, _, _, _, _⟩) (v := ?_) rfl (by kernel_rfl) (by kernel_rfl) (by kernel_rfl) (fun _ _ _ h => h) (Or.inl ⟨by rfl, ?_⟩) hS ?_
                          rotate_left 1
                          · intro w' hB; have hd := (HC.out.to w6 (by simp)).trans (hB.mono (HC.out.to w6 (by simp)).size); have k16 := cell_of_one (boxStays X6.out.1 hd); have k19 := cell_of_one (boxStays X6.out.2.1 hd); clear hd; have hs1 := HS1.out; have hs2 := HS2.out; (go_simp <;> with_reducible rfl)
                          try simp only [Act.put, List.setIfInBounds_toArray, List.set_cons_zero, List.set_cons_succ]
                          refine wpAnyH_take (i := 21) (oi := ⟨some 153, _, _, _, _, _⟩) (v := ?_) rfl (by kernel_rfl) (by kernel_rfl) (by kernel_rfl) (fun _ _ _ h => h) (Or.inl ⟨by rfl, ?_⟩) hS ?_
                          rotate_left 1
                          · intro w' hB; have hd := (HC.out.to w6 (by simp)).trans (hB.mono (HC.out.to w6 (by simp)).size); have k16 := cell_of_one (boxStays X6.out.1 hd); have k19 := cell_of_one (boxStays X6.out.2.1 hd); clear hd; have hs1 := HS1.out; have hs2 := HS2.out; (go_simp <;> with_reducible rfl)
                          try simp only [Act.put, List.setIfInBounds_toArray, List.set_cons_zero, List.set_cons_succ]
                          refine wpAnyH_take (i := 22) (oi := ⟨some 154, _, _, _, _, _⟩) (v := ?_) rfl (by kernel_rfl) (by kernel_rfl) (by kernel_rfl) (fun _ _ _ h => h) (Or.inl ⟨by rfl, ?_⟩) hS ?_
                          rotate_left 1
                          · intro w' hB; have hd := (HC.out.to w6 (by simp)).trans (hB.mono (HC.out.to w6 (by simp)).size); have k16 := cell_of_one (boxStays X6.out.1 hd); have k19 := cell_of_one (boxStays X6.out.2.1 hd); clear hd; have hs1 := HS1.out; have hs2 := HS2.out; (go_simp <;> with_reducible rfl)
                          try simp only [Act.put, List.setIfInBounds_toArray, List.set_cons_zero, List.set_cons_succ]
                          refine wpAnyH_take (i := 23) (oi := ⟨some 155, _, _, _, _, _⟩) (v := ?_) rfl (by kernel_rfl) (by kernel_rfl) (by kernel_rfl) (fun _ _ _ h => h) (Or.inl ⟨by rfl, ?_⟩) hS ?_
                          rotate_left 1
                          · intro w' hB; have hd := (HC.out.to w6 (by simp)).trans (hB.mono (HC.out.to w6 (by simp)).size); have k16 := cell_of_one (boxStays X6.out.1 hd); have k19 := cell_of_one (boxStays X6.out.2.1 hd); clear hd; have hs1 := HS1.out; have hs2 := HS2.out; (go_simp <;> with_reducible rfl)
                          try simp only [Act.put, List.setIfInBounds_toArray, List.set_cons_zero, List.set_cons_succ]
                          refine wpAnyH_take (i := 24) (oi := ⟨some 156, _, _, _, _, _⟩) (v := ?_) rfl (by kernel_rfl) (by kernel_rfl) (by kernel_rfl) (fun _ _ _ h => h) (Or.inl ⟨by rfl, ?_⟩) hS ?_
                          rotate_left 1
                          · intro w' hB; have hd := (HC.out.to w6 (by simp)).trans (hB.mono (HC.out.to w6 (by simp)).size); have k16 := cell_of_one (boxStays X6.out.1 hd); have k19 := cell_of_one (boxStays X6.out.2.1 hd); clear hd; have hs1 := HS1.out; have hs2 := HS2.out; (go_simp <;> with_reducible rfl)
                          try simp only [Act.put, List.setIfInBounds_toArray, List.set_cons_zero, List.set_cons_succ]
                          refine wpAnyH_take (i := 25) (oi := ⟨some 157, _, _, _, _, _⟩) (v := ?_) rfl (by kernel_rfl) (by kernel_rfl) (by kernel_rfl) (fun _ _ _ h => h) (Or.inl ⟨by rfl, ?_⟩) hS ?_
                          rotate_left 1
                          · intro w' hB; have hd := (HC.out.to w6 (by simp)).trans (hB.mono (HC.out.to w6 (by simp)).size); have k16 := cell_of_one (boxStays X6.out.1 hd); have k19 := cell_of_one (boxStays X6.out.2.1 hd); clear hd; have hs1 := HS1.out; have hs2 := HS2.out; (go_simp <;> with_reducible rfl)
                          try simp only [Act.put, List.setIfInBounds_toArray, List.set_cons_zero, List.set_cons_succ]
                          refine wpAnyH_take (i := 26) (oi := ⟨some 158, _, _, _, _, _⟩) (v := ?_) rfl (by kernel_rfl) (by kernel_rfl) (by kernel_rfl) (fun _ _ _ h => h) (Or.inl ⟨by rfl, ?_⟩) hS ?_
                          rotate_left 1
                          · intro w' hB; have hd := (HC.out.to w6 (by simp)).trans (hB.mono (HC.out.to w6 (by simp)).size); have k16 := cell_of_one (boxStays X6.out.1 hd); have k19 := cell_of_one (boxStays X6.out.2.1 hd); clear hd; have hs1 := HS1.out; have hs2 := HS2.out; (go_simp <;> with_reducible rfl)
                          try simp only [Act.put, List.setIfInBounds_toArray, List.set_cons_zero, List.set_cons_succ]
                          refine wpAnyH_take (i := 27) (oi := ⟨some 159, _, _, _, _, _⟩) (v := ?_) rfl (by kernel_rfl) (by kernel_rfl) (by kernel_rfl) (fun _ _ _ h => h) (Or.inl ⟨by rfl, ?_⟩) hS ?_
                          rotate_left 1
                          · intro w' hB; have hd := (HC.out.to w6 (by simp)).trans (hB.mono (HC.out.to w6 (by simp)).size); have k16 := cell_of_one (boxStays X6.out.1 hd); have k19 := cell_of_one (boxStays X6.out.2.1 hd); clear hd; have hs1 := HS1.out; have hs2 := HS2.out; (go_simp <;> with_reducible rfl)
                          try simp only [Act.put, List.setIfInBounds_toArray, List.set_cons_zero, List.set_cons_succ]
                          refine wpAnyH_take (i := 28) (oi := ⟨some 160, _, _, _, _, _⟩) (v := ?_) rfl (by kernel_rfl) (by kernel_rfl) (by kernel_rfl) (fun _ _ _ h => h) (Or.inl ⟨by rfl, ?_⟩) hS ?_
                          rotate_left 1
                          · intro w' hB; have hd := (HC.out.to w6 (by simp)).trans (hB.mono (HC.out.to w6 (by simp)).size); have k16 := cell_of_one (boxStays X6.out.1 hd); have k19 := cell_of_one (boxStays X6.out.2.1 hd); clear hd; have hs1 := HS1.out; have hs2 := HS2.out; (go_simp <;> with_reducible rfl)
                          try simp only [Act.put, List.setIfInBounds_toArray, List.set_cons_zero, List.set_cons_succ]
                          refine wpAnyH_take (i := 29) (oi := ⟨some 161, _, _, _, _, _⟩) (v := ?_) rfl (by kernel_rfl) (by kernel_rfl) (by kernel_rfl) (fun _ _ _ h => h) (Or.inl ⟨by rfl, ?_⟩) hS ?_
                          rotate_left 1
                          · intro w' hB; have hd := (HC.out.to w6 (by simp)).trans (hB.mono (HC.out.to w6 (by simp)).size); have k16 := cell_of_one (boxStays X6.out.1 hd); have k19 := cell_of_one (boxStays X6.out.2.1 hd); clear hd; have hs1 := HS1.out; have hs2 := HS2.out; (go_simp <;> with_reducible rfl)
                          try simp only [Act.put, List.setIfInBounds_toArray, List.set_cons_zero, List.set_cons_succ]
                          refine wpAnyH_ready (rs := [30]) (by kernel_rfl) (by simp) (AllReadyH.cons (o := ⟨some 162, _, _, _, _, _⟩) rfl (fun K hK => ?_) AllReadyH.nil)
                          go_simp
                          refine (HTA.out _ ((HC.out.to w6 (by simp)).trans (hS.mono (HC.out.to w6 (by simp)).size))).mono ?_
                          rintro e w7 ⟨rfl, hb⟩
                          refine hK.out _ _ (hS.trans (hb.mono hS.size)) (fun _ => ?_)
                          clear hK K
                          have hB := hS.trans (hb.mono hS.size)
                          refine wpAnyH_now hB ?_
                          clear hS
                          have hS := Below.refl w7.heap.size w7
                          replace HC := Lib.hid (HC.out.push hB)
                          clear hB hb
                          try simp only [Act.put, List.setIfInBounds_toArray, List.set_cons_zero, List.set_cons_succ]
                          refine wpAnyH_take (i := 31) (oi := ⟨some 163, _, _, _, _, _⟩) (v := ?_) rfl (by kernel_rfl) (by kernel_rfl) (by kernel_rfl) (fun _ _ _ h => h) (Or.inl ⟨by rfl, ?_⟩) hS ?_
                          rotate_left 1
                          · intro w' hB; have hd := (HC.out.to w6 (by simp)).trans (hB.mono (HC.out.to w6 (by simp)).size); have k16 := cell_of_one (boxStays X6.out.1 hd); have k19 := cell_of_one (boxStays X6.out.2.1 hd); clear hd; have hs1 := HS1.out; have hs2 := HS2.out; (go_simp <;> with_reducible rfl)
                          try simp only [Act.put, List.setIfInBounds_toArray, List.set_cons_zero, List.set_cons_succ]
                          refine wpAnyH_take (i := 32) (oi := ⟨some 164, _, _, _, _, _⟩) (v := ?_) rfl (by kernel_rfl) (by kernel_rfl) (by kernel_rfl) (fun _ _ _ h => h) (Or.inl ⟨by rfl, ?_⟩) hS ?_
                          rotate_left 1
                          · intro w' hB; have hd := (HC.out.to w6 (by simp)).trans (hB.mono (HC.out.to w6 (by simp)).size); have k16 := cell_of_one (boxStays X6.out.1 hd); have k19 := cell_of_one (boxStays X6.out.2.1 hd); clear hd; have hs1 := HS1.out; have hs2 := HS2.out; (go_simp <;> with_reducible rfl)
                          try simp only [Act.put, List.setIfInBounds_toArray, List.set_cons_zero, List.set_cons_succ]
                          refine wpAnyH_take (i := 33) (oi := ⟨some 165, _, _, _, _, _⟩) (v := ?_) rfl (by kernel_rfl) (by kernel_rfl) (by kernel_rfl) (fun _ _ _ h => h) (Or.inl ⟨by rfl, ?_⟩) hS ?_
                          rotate_left 1
                          · intro w' hB; have hd := (HC.out.to w6 (by simp)).trans (hB.mono (HC.out.to w6 (by simp)).size); have k16 := cell_of_one (boxStays X6.out.1 hd); have k19 := cell_of_one (boxStays X6.out.2.1 hd); clear hd; have hs1 := HS1.out; have hs2 := HS2.out; (go_simp <;> with_reducible rfl)
                          try simp only [Act.put, List.setIfInBounds_toArray, List.set_cons_zero, List.set_cons_succ]
                          refine wpAnyH_take (i := 34) (oi := ⟨some 166, _, _, _, _, _⟩) (v := ?_) rfl (by kernel_rfl) (by kernel_rfl) (by kernel_rfl) (fun _ _ _ h => h) (Or.inl ⟨by rfl, ?_⟩) hS ?_
                          rotate_left 1
                          · intro w' hB; have hd := (HC.out.to w6 (by simp)).trans (hB.mono (HC.out.to w6 (by simp)).size); have k16 := cell_of_one (boxStays X6.out.1 hd); have k19 := cell_of_one (boxStays X6.out.2.1 hd); clear hd; have hs1 := HS1.out; have hs2 := HS2.out; (go_simp <;> with_reducible rfl)
                          try simp only [Act.put, List.setIfInBounds_toArray, List.set_cons_zero, List.set_cons_succ]
                          refine wpAnyH_take (i := 35) (oi := ⟨some 167, _, _, _, _, _⟩) (v := ?_) rfl (by kernel_rfl) (by kernel_rfl) (by kernel_rfl) (fun _ _ _ h => h) (Or.inl ⟨by rfl, ?_⟩) hS ?_
                          rotate_left 1
                          · intro w' hB; have hd := (HC.out.to w6 (by simp)).trans (hB.mono (HC.out.to w6 (by simp)).size); have k16 := cell_of_one (boxStays X6.out.1 hd); have k19 := cell_of_one (boxStays X6.out.2.1 hd); clear hd; have hs1 := HS1.out; have hs2 := HS2.out; (go_simp <;> with_reducible rfl)
                          try simp only [Act.put, List.setIfInBounds_toArray, List.set_cons_zero, List.set_cons_succ]
                          refine wpAnyH_take (i := 36) (oi := ⟨some 168, _, _, _, _, _⟩) (v := ?_) rfl (by kernel_rfl) (by kernel_rfl) (by kernel_rfl) (fun _ _ _ h => h) (Or.inl ⟨by rfl, ?_⟩) hS ?_
                          rotate_left 1
                          · intro w' hB; have hd := (HC.out.to w6 (by simp)).trans (hB.mono (HC.out.to w6 (by simp)).size); have k16 := cell_of_one (boxStays X6.out.1 hd); have k19 := cell_of_one (boxStays X6.out.2.1 hd); clear hd; have hs1 := HS1.out; have hs2 := HS2.out; (go_simp <;> with_reducible rfl)
                          try simp only [Act.put, List.setIfInBounds_toArray, List.set_cons_zero, List.set_cons_succ]
                          refine wpAnyH_take (i := 37) (oi := ⟨some 169, _, _, _, _, _⟩) (v := ?_) rfl (by kernel_rfl) (by kernel_rfl) (by kernel_rfl) (fun _ _ _ h => h) (Or.inl ⟨by rfl, ?_⟩) hS ?_
                          rotate_left 1
                          · intro w' hB; have hd := (HC.out.to w6 (by simp)).trans (hB.mono (HC.out.to w6 (by simp)).size); have k16 := cell_of_one (boxStays X6.out.1 hd); have k19 := cell_of_one (boxStays X6.out.2.1 hd); clear hd; have hs1 := HS1.out; have hs2 := HS2.out; (go_simp <;> with_reducible rfl)
                          try simp only [Act.put, List.setIfInBounds_toArray, List.set_cons_zero, List.set_cons_succ]
                          refine wpAnyH_take (i := 38) (oi := ⟨some 170, _, _, _, _, _⟩) (v := ?_) rfl (by kernel_rfl) (by kernel_rfl) (by kernel_rfl) (fun _ _ _ h => h) (Or.inl ⟨by rfl, ?_⟩) hS ?_
                          rotate_left 1
                          · intro w' hB; have hd := (HC.out.to w6 (by simp)).trans (hB.mono (HC.out.to w6 (by simp)).size); have k16 := cell_of_one (boxStays X6.out.1 hd); have k19 := cell_of_one (boxStays X6.out.2.1 hd); clear hd; have hs1 := HS1.out; have hs2 := HS2.out; (go_simp <;> with_reducible rfl)
                          try simp only [Act.put, List.setIfInBounds_toArray, List.set_cons_zero, List.set_cons_succ]
                          refine wpAnyH_take (i := 39) (oi := ⟨some 171, _, _, _, _, _⟩) (v := ?_) rfl (by kernel_rfl) (by kernel_rfl) (by kernel_rfl) (fun _ _ _ h => h) (Or.inl ⟨by rfl, ?_⟩) hS ?_
                          rotate_left 1
                          · intro w' hB; have hd := (HC.out.to w6 (by simp)).trans (hB.mono (HC.out.to w6 (by simp)).size); have k16 := cell_of_one (boxStays X6.out.1 hd); have k19 := cell_of_one (boxStays X6.out.2.1 hd); clear hd; have hs1 := HS1.out; have hs2 := HS2.out; (go_simp <;> with_reducible rfl)
                          try simp only [Act.put, List.setIfInBounds_toArray, List.set_cons_zero, List.set_cons_succ]
                          refine wpAnyH_ready (rs := [40]) (by kernel_rfl) (by simp) (AllReadyH.cons (o := ⟨some 172, _, _, _, _, _⟩) rfl (fun K hK => ?_) AllReadyH.nil)
                          go_simp
                          refine (HTC.out _ ((HC.out.to w6 (by simp)).trans (hS.mono (HC.out.to w6 (by simp)).size))).mono ?_
                          rintro e w8 ⟨rfl, hb⟩
                          refine hK.out _ _ (hS.trans (hb.mono hS.size)) (fun _ => ?_)
                          clear hK K
                          have hB := hS.trans (hb.mono hS.size)
                          refine wpAnyH_now hB ?_
                          clear hS
                          have hS := Below.refl w8.heap.size w8
                          replace HC := Lib.hid (HC.out.push hB)
                          clear hB hb
                          try simp only [Act.put, List.setIfInBounds_toArray, List.set_cons_zero, List.set_cons_succ]
                          refine wpAnyH_take (i := 41) (oi := ⟨some 173, _, _, _, _, _⟩) (v := ?_) rfl (by kernel_rfl) (by kernel_rfl) (by kernel_rfl) (fun _ _ _ h => h) (Or.inl ⟨by rfl, ?_⟩) hS ?_
                          rotate_left 1
                          · intro w' hB; have hd := (HC.out.to w6 (by simp)).trans (hB.mono (HC.out.to w6 (by simp)).size); have k16 := cell_of_one (boxStays X6.out.1 hd); have k19 := cell_of_one (boxStays X6.out.2.1 hd); clear hd; have hs1 := HS1.out; have hs2 := HS2.out; (go_simp <;> with_reducible rfl)
                          try simp only [Act.put, List.setIfInBounds_toArray, List.set_cons_zero, List.set_cons_succ]
                          refine wpAnyH_take (i := 42) (oi := ⟨some 174, _, _, _, _, _⟩) (v := ?_) rfl (by kernel_rfl) (by kernel_rfl) (by kernel_rfl) (fun _ _ _ h => h) (Or.inl ⟨by rfl, ?_⟩) hS ?_
                          rotate_left 1
                          · intro w' hB; have hd := (HC.out.to w6 (by simp)).trans (hB.mono (HC.out.to w6 (by simp)).size); have k16 := cell_of_one (boxStays X6.out.1 hd); have k19 := cell_of_one (boxStays X6.out.2.1 hd); clear hd; have hs1 := HS1.out; have hs2 := HS2.out; (go_simp <;> with_reducible rfl)
                          try simp only [Act.put, List.setIfInBounds_toArray, List.set_cons_zero, List.set_cons_succ]
                          refine wpAnyH_done (by kernel_rfl) (NoPanic.normal ?_) _
                        case' true =>
                          have hv1 := HSP.out.2.2.2.2.2.2.2.2.1 rfl
                          obtain ⟨hi1, he1⟩ := List.getElem?_eq_some_iff.1 hv1
                          obtain ⟨_, e1⟩ := entV_get (items t) p0 hi1
                          rw [he1] at e1
                          obtain ⟨bl, ol, hal, hcl⟩ := F6.out.2.2.1.cells.1.get _ _ e1
                          rw [sz_items, HZ.out] at hi1
                          have QV : Hid (w6.cell? ⟨bl, ol + p0 * 2 + 1, none⟩ = some (.int .i64 vx)) := Lib.hid hcl
                          have hli3 : (p0 : Int) < (z : Int) := by omega
                          have hnle3 : ¬ z ≤ p0 := by omega
                          have hdle3 : decide (z ≤ p0) = false := by simp; omega
                          have hvv : (vx != vx) = false := by simp
                          clear hv1 he1 e1 hcl hi1
                          subst hal
                          refine wp_region_noPanic ?_
                          refine wp_region_held_drew (S := fun w' => Below w6.heap.size w6 w') (by kernel_rfl) (Below.refl _ _).drew (fun hS => ?_)
                          refine wpAnyH_take (i := 0) (oi := ⟨some 132, _, _, _, _, _⟩) (v := ?_) rfl (by kernel_rfl) (by kernel_rfl) (by kernel_rfl) (fun _ _ _ h => h) (Or.inl ⟨by rfl, ?_⟩) hS ?_
                          rotate_left 1
                          · intro w' hB; have hd := (HC.out.to w6 (by simp)).trans (hB.mono (HC.out.to w6 (by simp)).size); have k16 := cell_of_one (boxStays X6.out.1 hd); have k19 := cell_of_one (boxStays X6.out.2.1 hd); have qv := (hd.cell (p := ⟨bl, ol + p0 * 2 + 1, none⟩) (block_lt_of_cell QV.out)).trans QV.out; clear hd; have hs1 := HS1.out; have hs2 := HS2.out; have hli3 := hli3; have hnle3 := hnle3; have hdle3 := hdle3; have hvv := hvv; (go_simp <;> with_reducible rfl)
                          try simp only [Act.put, List.setIfInBounds_toArray, List.set_cons_zero, List.set_cons_succ]
                          refine wpAnyH_take (i := 1) (oi := ⟨some 133, _, _, _, _, _⟩) (v := ?_) rfl (by kernel_rfl) (by kernel_rfl) (by kernel_rfl) (fun _ _ _ h => h) (Or.inl ⟨by rfl, ?_⟩) hS ?_
                          rotate_left 1
                          · intro w' hB; have hd := (HC.out.to w6 (by simp)).trans (hB.mono (HC.out.to w6 (by simp)).size); have k16 := cell_of_one (boxStays X6.out.1 hd); have k19 := cell_of_one (boxStays X6.out.2.1 hd); have qv := (hd.cell (p := ⟨bl, ol + p0 * 2 + 1, none⟩) (block_lt_of_cell QV.out)).trans QV.out; clear hd; have hs1 := HS1.out; have hs2 := HS2.out; have hli3 := hli3; have hnle3 := hnle3; have hdle3 := hdle3; have hvv := hvv; (go_simp <;> with_reducible rfl)
                          try simp only [Act.put, List.setIfInBounds_toArray, List.set_cons_zero, List.set_cons_succ]
                          refine wpAnyH_take (i := 2) (oi := ⟨some 134, _, _, _, _, _⟩) (v := ?_) rfl (by kernel_rfl) (by kernel_rfl) (by kernel_rfl) (fun _ _ _ h => h) (Or.inl ⟨by rfl, ?_⟩) hS ?_
                          rotate_left 1
                          · intro w' hB; have hd := (HC.out.to w6 (by simp)).trans (hB.mono (HC.out.to w6 (by simp)).size); have k16 := cell_of_one (boxStays X6.out.1 hd); have k19 := cell_of_one (boxStays X6.out.2.1 hd); have qv := (hd.cell (p := ⟨bl, ol + p0 * 2 + 1, none⟩) (block_lt_of_cell QV.out)).trans QV.out; clear hd; have hs1 := HS1.out; have hs2 := HS2.out; have hli3 := hli3; have hnle3 := hnle3; have hdle3 := hdle3; have hvv := hvv; (go_simp <;> with_reducible rfl)
                          try simp only [Act.put, List.setIfInBounds_toArray, List.set_cons_zero, List.set_cons_succ]
                          refine wpAnyH_take (i := 3) (oi := ⟨some 135, _, _, _, _, _⟩) (v := ?_) rfl (by kernel_rfl) (by kernel_rfl) (by kernel_rfl) (fun _ _ _ h => h) (Or.inl ⟨by rfl, ?_⟩) hS ?_
                          rotate_left 1
                          · intro w' hB; have hd := (HC.out.to w6 (by simp)).trans (hB.mono (HC.out.to w6 (by simp)).size); have k16 := cell_of_one (boxStays X6.out.1 hd); have k19 := cell_of_one (boxStays X6.out.2.1 hd); have qv := (hd.cell (p := ⟨bl, ol + p0 * 2 + 1, none⟩) (block_lt_of_cell QV.out)).trans QV.out; clear hd; have hs1 := HS1.out; have hs2 := HS2.out; have hli3 := hli3; have hnle3 := hnle3; have hdle3 := hdle3; have hvv := hvv; (go_simp <;> with_reducible rfl)
                          try simp only [Act.put, List.setIfInBounds_toArray, List.set_cons_zero, List.set_cons_succ]
                          refine wpAnyH_take (i := 4) (oi := ⟨some 136, _, _, _, _, _⟩) (v := ?_) rfl (by kernel_rfl) (by kernel_rfl) (by kernel_rfl) (fun _ _ _ h => h) (Or.inl ⟨by rfl, ?_⟩) hS ?_
                          rotate_left 1
                          · intro w' hB; have hd := (HC.out.to w6 (by simp)).trans (hB.mono (HC.out.to w6 (by simp)).size); have k16 := cell_of_one (boxStays X6.out.1 hd); have k19 := cell_of_one (boxStays X6.out.2.1 hd); have qv := (hd.cell (p := ⟨bl, ol + p0 * 2 + 1, none⟩) (block_lt_of_cell QV.out)).trans QV.out; clear hd; have hs1 := HS1.out; have hs2 := HS2.out; have hli3 := hli3; have hnle3 := hnle3; have hdle3 := hdle3; have hvv := hvv; (go_simp <;> with_reducible rfl)
                          try simp only [Act.put, List.setIfInBounds_toArray, List.set_cons_zero, List.set_cons_succ]
                          refine wpAnyH_take (i := 5) (oi := ⟨some 137, _, _, _, _, _⟩) (v := ?_) rfl (by kernel_rfl) (by kernel_rfl) (by kernel_rfl) (fun _ _ _ h => h) (Or.inl ⟨by rfl, ?_⟩) hS ?_
                          rotate_left 1
                          · intro w' hB; have hd := (HC.out.to w6 (by simp)).trans (hB.mono (HC.out.to w6 (by simp)).size); have k16 := cell_of_one (boxStays X6.out.1 hd); have k19 := cell_of_one (boxStays X6.out.2.1 hd); have qv := (hd.cell (p := ⟨bl, ol + p0 * 2 + 1, none⟩) (block_lt_of_cell QV.out)).trans QV.out; clear hd; have hs1 := HS1.out; have hs2 := HS2.out; have hli3 := hli3; have hnle3 := hnle3; have hdle3 := hdle3; have hvv := hvv; (go_simp <;> with_reducible rfl)
                          try simp only [Act.put, List.setIfInBounds_toArray, List.set_cons_zero, List.set_cons_succ]
                          refine wpAnyH_take (i := 6) (oi := ⟨some 138, _, _, _, _, _⟩) (v := ?_) rfl (by kernel_rfl) (by kernel_rfl) (by kernel_rfl) (fun _ _ _ h => h) (Or.inl ⟨by rfl, ?_⟩) hS ?_
                          rotate_left 1
                          · intro w' hB; have hd := (HC.out.to w6 (by simp)).trans (hB.mono (HC.out.to w6 (by simp)).size); have k16 := cell_of_one (boxStays X6.out.1 hd); have k19 := cell_of_one (boxStays X6.out.2.1 hd); have qv := (hd.cell (p := ⟨bl, ol + p0 * 2 + 1, none⟩) (block_lt_of_cell QV.out)).trans QV.out; clear hd; have hs1 := HS1.out; have hs2 := HS2.out; have hli3 := hli3; have hnle3 := hnle3; have hdle3 := hdle3; have hvv := hvv; (go_simp <;> with_reducible rfl)
                          try simp only [Act.put, List.setIfInBounds_toArray, List.set_cons_zero, List.set_cons_succ]
                          refine wpAnyH_take (i := 7) (oi := ⟨some 139, _, _, _, _, _⟩) (v := ?_) rfl (by kernel_rfl) (by kernel_rfl) (by kernel_rfl) (fun _ _ _ h => h) (Or.inl ⟨by rfl, ?_⟩) hS ?_
                          rotate_left 1
                          · intro w' hB; have hd := (HC.out.to w6 (by simp)).trans (hB.mono (HC.out.to w6 (by simp)).size); have k16 := cell_of_one (boxStays X6.out.1 hd); have k19 := cell_of_one (boxStays X6.out.2.1 hd); have qv := (hd.cell (p := ⟨bl, ol + p0 * 2 + 1, none⟩) (block_lt_of_cell QV.out)).trans QV.out; clear hd; have hs1 := HS1.out; have hs2 := HS2.out; have hli3 := hli3; have hnle3 := hnle3; have hdle3 := hdle3; have hvv := hvv; (go_simp <;> with_reducible rfl)
                          try simp only [Act.put, List.setIfInBounds_toArray, List.set_cons_zero, List.set_cons_succ]
                          refine wpAnyH_take (i := 8) (oi := ⟨some 140, _, _, _, _, _⟩) (v := ?_) rfl (by kernel_rfl) (by kernel_rfl) (by kernel_rfl) (fun _ _ _ h => h) (Or.inl ⟨by rfl, ?_⟩) hS ?_
                          rotate_left 1
                          · intro w' hB; have hd := (HC.out.to w6 (by simp)).trans (hB.mono (HC.out.to w6 (by simp)).size); have k16 := cell_of_one (boxStays X6.out.1 hd); have k19 := cell_of_one (boxStays X6.out.2.1 hd); have qv := (hd.cell (p := ⟨bl, ol + p0 * 2 + 1, none⟩) (block_lt_of_cell QV.out)).trans QV.out; clear hd; have hs1 := HS1.out; have hs2 := HS2.out; have hli3 := hli3; have hnle3 := hnle3; have hdle3 := hdle3; have hvv := hvv; (go_simp <;> with_reducible rfl)
                          try simp only [Act.put, List.setIfInBounds_toArray, List.set_cons_zero, List.set_cons_succ]
                          refine wpAnyH_take (i := 9) (oi := ⟨some 141, _, _, _, _, _⟩) (v := ?_) rfl (by kernel_rfl) (by kernel_rfl) (by kernel_rfl) (fun _ _ _ h => h) (Or.inl ⟨by rfl, ?_⟩) hS ?_
                          rotate_left 1
                          · intro w' hB; have hd := (HC.out.to w6 (by simp)).trans (hB.mono (HC.out.to w6 (by simp)).size); have k16 := cell_of_one (boxStays X6.out.1 hd); have k19 := cell_of_one (boxStays X6.out.2.1 hd); have qv := (hd.cell (p := ⟨bl, ol + p0 * 2 + 1, none⟩) (block_lt_of_cell QV.out)).trans QV.out; clear hd; have hs1 := HS1.out; have hs2 := HS2.out; have hli3 := hli3; have hnle3 := hnle3; have hdle3 := hdle3; have hvv := hvv; (go_simp <;> with_reducible rfl)
                          try simp only [Act.put, List.setIfInBounds_toArray, List.set_cons_zero, List.set_cons_succ]
                          refine wpAnyH_take (i := 10) (oi := ⟨some 142, _, _, _, _, _⟩) (v := ?_) rfl (by kernel_rfl) (by kernel_rfl) (by kernel_rfl) (fun _ _ _ h => h) (Or.inl ⟨by rfl, ?_⟩) hS ?_
                          rotate_left 1
                          · intro w' hB; have hd := (HC.out.to w6 (by simp)).trans (hB.mono (HC.out.to w6 (by simp)).size); have k16 := cell_of_one (boxStays X6.out.1 hd); have k19 := cell_of_one (boxStays X6.out.2.1 hd); have qv := (hd.cell (p := ⟨bl, ol + p0 * 2 + 1, none⟩) (block_lt_of_cell QV.out)).trans QV.out; clear hd; have hs1 := HS1.out; have hs2 := HS2.out; have hli3 := hli3; have hnle3 := hnle3; have hdle3 := hdle3; have hvv := hvv; (go_simp <;> with_reducible rfl)
                          try simp only [Act.put, List.setIfInBounds_toArray, List.set_cons_zero, List.set_cons_succ]
                          refine wpAnyH_take (i := 11) (oi := ⟨some 143, _, _, _, _, _⟩) (v := ?_) rfl (by kernel_rfl) (by kernel_rfl) (by kernel_rfl) (fun _ _ _ h => h) (Or.inl ⟨by rfl, ?_⟩) hS ?_
                          rotate_left 1
                          · intro w' hB; have hd := (HC.out.to w6 (by simp)).trans (hB.mono (HC.out.to w6 (by simp)).size); have k16 := cell_of_one (boxStays X6.out.1 hd); have k19 := cell_of_one (boxStays X6.out.2.1 hd); have qv := (hd.cell (p := ⟨bl, ol + p0 * 2 + 1, none⟩) (block_lt_of_cell QV.out)).trans QV.out; clear hd; have hs1 := HS1.out; have hs2 := HS2.out; have hli3 := hli3; have hnle3 := hnle3; have hdle3 := hdle3; have hvv := hvv; (go_simp <;> with_reducible rfl)
                          try simp only [Act.put, List.setIfInBounds_toArray, List.set_cons_zero, List.set_cons_succ]
                          refine wpAnyH_take (i := 12) (oi := ⟨some 144, _, _, _, _, _⟩) (v := ?_) rfl (by kernel_rfl) (by kernel_rfl) (by kernel_rfl) (fun _ _ _ h => h) (Or.inl ⟨by rfl, ?_⟩) hS ?_
                          rotate_left 1
                          · intro w' hB; have hd := (HC.out.to w6 (by simp)).trans (hB.mono (HC.out.to w6 (by simp)).size); have k16 := cell_of_one (boxStays X6.out.1 hd); have k19 := cell_of_one (boxStays X6.out.2.1 hd); have qv := (hd.cell (p := ⟨bl, ol + p0 * 2 + 1, none⟩) (block_lt_of_cell QV.out)).trans QV.out; clear hd; have hs1 := HS1.out; have hs2 := HS2.out; have hli3 := hli3; have hnle3 := hnle3; have hdle3 := hdle3; have hvv := hvv; (go_simp <;> with_reducible rfl)
                          try simp only [Act.put, List.setIfInBounds_toArray, List.set_cons_zero, List.set_cons_succ]
                          refine wpAnyH_take (i := 13) (oi := ⟨some 145, _, _, _, _, _⟩) (v := ?_) rfl (by kernel_rfl) (by kernel_rfl) (by kernel_rfl) (fun _ _ _ h => h) (Or.inl ⟨by rfl, ?_⟩) hS ?_
                          rotate_left 1
                          · intro w' hB; have hd := (HC.out.to w6 (by simp)).trans (hB.mono (HC.out.to w6 (by simp)).size); have k16 := cell_of_one (boxStays X6.out.1 hd); have k19 := cell_of_one (boxStays X6.out.2.1 hd); have qv := (hd.cell (p := ⟨bl, ol + p0 * 2 + 1, none⟩) (block_lt_of_cell QV.out)).trans QV.out; clear hd; have hs1 := HS1.out; have hs2 := HS2.out; have hli3 := hli3; have hnle3 := hnle3; have hdle3 := hdle3; have hvv := hvv; (go_simp <;> with_reducible rfl)
                          try simp only [Act.put, List.setIfInBounds_toArray, List.set_cons_zero, List.set_cons_succ]
                          refine wpAnyH_take (i := 14) (oi := ⟨some 146, _, _, _, _, _⟩) (v := ?_) rfl (by kernel_rfl) (by kernel_rfl) (by kernel_rfl) (fun _ _ _ h => h) (Or.inl ⟨by rfl, ?_⟩) hS ?_
                          rotate_left 1
                          · intro w' hB; have hd := (HC.out.to w6 (by simp)).trans (hB.mono (HC.out.to w6 (by simp)).size); have k16 := cell_of_one (boxStays X6.out.1 hd); have k19 := cell_of_one (boxStays X6.out.2.1 hd); have qv := (hd.cell (p := ⟨bl, ol + p0 * 2 + 1, none⟩) (block_lt_of_cell QV.out)).trans QV.out; clear hd; have hs1 := HS1.out; have hs2 := HS2.out; have hli3 := hli3; have hnle3 := hnle3; have hdle3 := hdle3; have hvv := hvv; (go_simp <;> with_reducible rfl)
                          try simp only [Act.put, List.setIfInBounds_toArray, List.set_cons_zero, List.set_cons_succ]
                          refine wpAnyH_take (i := 15) (oi := ⟨some 147, _, _, _, _, _⟩) (v := ?_) rfl (by kernel_rfl) (by kernel_rfl) (by kernel_rfl) (fun _ _ _ h => h) (Or.inl ⟨by rfl, ?_⟩) hS ?_
                          rotate_left 1
                          · intro w' hB; have hd := (HC.out.to w6 (by simp)).trans (hB.mono (HC.out.to w6 (by simp)).size); have k16 := cell_of_one (boxStays X6.out.1 hd); have k19 := cell_of_one (boxStays X6.out.2.1 hd); have qv := (hd.cell (p := ⟨bl, ol + p0 * 2 + 1, none⟩) (block_lt_of_cell QV.out)).trans QV.out; clear hd; have hs1 := HS1.out; have hs2 := HS2.out; have hli3 := hli3; have hnle3 := hnle3; have hdle3 := hdle3; have hvv := hvv; (go_simp <;> with_reducible rfl)
                          try simp only [Act.put, List.setIfInBounds_toArray, List.set_cons_zero, List.set_cons_succ]
                          refine wpAnyH_take (i := 16) (oi := ⟨some 148, _, _, _, _, _⟩) (v := ?_) rfl (by kernel_rfl) (by kernel_rfl) (by kernel_rfl) (fun _ _ _ h => h) (Or.inl ⟨by rfl, ?_⟩) hS ?_
                          rotate_left 1
                          · intro w' hB; have hd := (HC.out.to w6 (by simp)).trans (hB.mono (HC.out.to w6 (by simp)).size); have k16 := cell_of_one (boxStays X6.out.1 hd); have k19 := cell_of_one (boxStays X6.out.2.1 hd); have qv := (hd.cell (p := ⟨bl, ol + p0 * 2 + 1, none⟩) (block_lt_of_cell QV.out)).trans QV.out; clear hd; have hs1 := HS1.out; have hs2 := HS2.out; have hli3 := hli3; have hnle3 := hnle3; have hdle3 := hdle3; have hvv := hvv; (go_simp <;> with_reducible rfl)
                          try simp only [Act.put, List.setIfInBounds_toArray, List.set_cons_zero, List.set_cons_succ]
                          refine wpAnyH_take (i := 17) (oi := ⟨some 149, _, _, _, _, _⟩) (v := ?_) rfl (by kernel_rfl) (by kernel_rfl) (by kernel_rfl) (fun _ _ _ h => h) (Or.inl ⟨by rfl, ?_⟩) hS ?_
                          rotate_left 1
                          · intro w' hB; have hd := (HC.out.to w6 (by simp)).trans (hB.mono (HC.out.to w6 (by simp)).size); have k16 := cell_of_one (boxStays X6.out.1 hd); have k19 := cell_of_one (boxStays X6.out.2.1 hd); have qv := (hd.cell (p := ⟨bl, ol + p0 * 2 + 1, none⟩) (block_lt_of_cell QV.out)).trans QV.out; clear hd; have hs1 := HS1.out; have hs2 := HS2.out; have hli3 := hli3; have hnle3 := hnle3; have hdle3 := hdle3; have hvv := hvv; (go_simp <;> with_reducible rfl)
                          try simp only [Act.put, List.setIfInBounds_toArray, List.set_cons_zero, List.set_cons_succ]
                          refine wpAnyH_take (i := 18) (oi := ⟨some 150, _, _, _, _, _⟩) (v := ?_) rfl (by kernel_rfl) (by kernel_rfl) (by kernel_rfl) (fun _ _ _ h => h) (Or.inl ⟨by rfl, ?_⟩) hS ?_
                          rotate_left 1
                          · intro w' hB; have hd := (HC.out.to w6 (by simp)).trans (hB.mono (HC.out.to w6 (by simp)).size); have k16 := cell_of_one (boxStays X6.out.1 hd); have k19 := cell_of_one (boxStays X6.out.2.1 hd); have qv := (hd.cell (p := ⟨bl, ol + p0 * 2 + 1, none⟩) (block_lt_of_cell QV.out)).trans QV.out; clear hd; have hs1 := HS1.out; have hs2 := HS2.out; have hli3 := hli3; have hnle3 := hnle3; have hdle3 := hdle3; have hvv := hvv; (go_simp <;> with_reducible rfl)
                          try simp only [Act.put, List.setIfInBounds_toArray, List.set_cons_zero, List.set_cons_succ]
                          refine wpAnyH_take (i := 19) (oi := ⟨some 151, _, _, _, _, _⟩) rfl (by kernel_rfl) (by kernel_rfl) (by kernel_rfl) (fun _ _ _ h => h) (Or.inr ⟨by rfl, rfl⟩) hS ?_
                          try simp only [Act.put, List.setIfInBounds_toArray, List.set_cons_zero, List.set_cons_succ]
                          refine wpAnyH_take (i := 20) (oi := ⟨some 152, _, _, _, _, _⟩) rfl (by kernel_rfl) (by kernel_rfl) (by kernel_rfl) (fun _ _ _ h => h) (Or.inr ⟨by rfl, rfl⟩) hS ?_
                          try simp only [Act.put, List.setIfInBounds_toArray, List.set_cons_zero, List.set_cons_succ]
                          refine wpAnyH_take (i := 21) (oi := ⟨some 153, _, _, _, _, _⟩) (v := ?_) rfl (by kernel_rfl) (by kernel_rfl) (by kernel_rfl) (fun _ _ _ h => h) (Or.inl ⟨by rfl, ?_⟩) hS ?_
                          rotate_left 1
                          · intro w' hB; have hd := (HC.out.to w6 (by simp)).trans (hB.mono (HC.out.to w6 (by simp)).size); have k16 := cell_of_one (boxStays X6.out.1 hd); have k19 := cell_of_one (boxStays X6.out.2.1 hd); have qv := (hd.cell (p := ⟨bl, ol + p0 * 2 + 1, none⟩) (block_lt_of_cell QV.out)).trans QV.out; clear hd; have hs1 := HS1.out; have hs2 := HS2.out; have hli3 := hli3; have hnle3 := hnle3; have hdle3 := hdle3; have hvv := hvv; (go_simp <;> with_reducible rfl)
                          try simp only [Act.put, List.setIfInBounds_toArray, List.set_cons_zero, List.set_cons_succ]
                          refine wpAnyH_take (i := 22) (oi := ⟨some 154, _, _, _, _, _⟩) (v := ?_) rfl (by kernel_rfl) (by kernel_rfl) (by kernel_rfl) (fun _ _ _ h => h) (Or.inl ⟨by rfl, ?_⟩) hS ?_
                          rotate_left 1
                          · intro w' hB; have hd := (HC.out.to w6 (by simp)).trans (hB.mono (HC.out.to w6 (by simp)).size); have k16 := cell_of_one (boxStays X6.out.1 hd); have k19 := cell_of_one (boxStays X6.out.2.1 hd); have qv := (hd.cell (p := ⟨bl, ol + p0 * 2 + 1, none⟩) (block_lt_of_cell QV.out)).trans QV.out; clear hd; have hs1 := HS1.out; have hs2 := HS2.out; have hli3 := hli3; have hnle3 := hnle3; have hdle3 := hdle3; have hvv := hvv; (go_simp <;> with_reducible rfl)
                          try simp only [Act.put, List.setIfInBounds_toArray, List.set_cons_zero, List.set_cons_succ]
                          refine wpAnyH_take (i := 23) (oi := ⟨some 155, _, _, _, _, _⟩) (v := ?_) rfl (by kernel_rfl) (by kernel_rfl) (by kernel_rfl) (fun _ _ _ h => h) (Or.inl ⟨by rfl, ?_⟩) hS ?_
                          rotate_left 1
                          · intro w' hB; have hd := (HC.out.to w6 (by simp)).trans (hB.mono (HC.out.to w6 (by simp)).size); have k16 := cell_of_one (boxStays X6.out.1 hd); have k19 := cell_of_one (boxStays X6.out.2.1 hd); have qv := (hd.cell (p := ⟨bl, ol + p0 * 2 + 1, none⟩) (block_lt_of_cell QV.out)).trans QV.out; clear hd; have hs1 := HS1.out; have hs2 := HS2.out; have hli3 := hli3; have hnle3 := hnle3; have hdle3 := hdle3; have hvv := hvv; (go_simp <;> with_reducible rfl)
                          try simp only [Act.put, List.setIfInBounds_toArray, List.set_cons_zero, List.set_cons_succ]
                          refine wpAnyH_take (i := 24) (oi := ⟨some 156, _, _, _, _, _⟩) (v := ?_) rfl (by kernel_rfl) (by kernel_rfl) (by kernel_rfl) (fun _ _ _ h => h) (Or.inl ⟨by rfl, ?_⟩) hS ?_
                          rotate_left 1
                          · intro w' hB; have hd := (HC.out.to w6 (by simp)).trans (hB.mono (HC.out.to w6 (by simp)).size); have k16 := cell_of_one (boxStays X6.out.1 hd); have k19 := cell_of_one (boxStays X6.out.2.1 hd); have qv := (hd.cell (p := ⟨bl, ol + p0 * 2 + 1, none⟩) (block_lt_of_cell QV.out)).trans QV.out; clear hd; have hs1 := HS1.out; have hs2 := HS2.out; have hli3 := hli3; have hnle3 := hnle3; have hdle3 := hdle3; have hvv := hvv; (go_simp <;> with_reducible rfl)
                          try simp only [Act.put, List.setIfInBounds_toArray, List.set_cons_zero, List.set_cons_succ]
                          refine wpAnyH_take (i := 25) (oi := ⟨some 157, _, _, _, _, _⟩) (v := ?_) rfl (by kernel_rfl) (by kernel_rfl) (by kernel_rfl) (fun _ _ _ h => h) (Or.inl ⟨by rfl, ?_⟩) hS ?_
                          rotate_left 1
                          · intro w' hB; have hd := (HC.out.to w6 (by simp)).trans (hB.mono (HC.out.to w6 (by simp)).size); have k16 := cell_of_one (boxStays X6.out.1 hd); have k19 := cell_of_one (boxStays X6.out.2.1 hd); have qv := (hd.cell (p := ⟨bl, ol + p0 * 2 + 1, none⟩) (block_lt_of_cell QV.out)).trans QV.out; clear hd; have hs1 := HS1.out; have hs2 := HS2.out; have hli3 := hli3; have hnle3 := hnle3; have hdle3 := hdle3; have hvv := hvv; (go_simp <;> with_reducible rfl)
                          try simp only [Act.put, List.setIfInBounds_toArray, List.set_cons_zero, List.set_cons_succ]
                          refine wpAnyH_take (i := 26) (oi := ⟨some 158, _, _, _, _, _⟩) (v := ?_) rfl (by kernel_rfl) (by kernel_rfl) (by kernel_rfl) (fun _ _ _ h => h) (Or.inl ⟨by rfl, ?_⟩) hS ?_
                          rotate_left 1
                          · intro w' hB; have hd := (HC.out.to w6 (by simp)).trans (hB.mono (HC.out.to w6 (by simp)).size); have k16 := cell_of_one (boxStays X6.out.1 hd); have k19 := cell_of_one (boxStays X6.out.2.1 hd); have qv := (hd.cell (p := ⟨bl, ol + p0 * 2 + 1, none⟩) (block_lt_of_cell QV.out)).trans QV.out; clear hd; have hs1 := HS1.out; have hs2 := HS2.out; have hli3 := hli3; have hnle3 := hnle3; have hdle3 := hdle3; have hvv := hvv; (go_simp <;> with_reducible rfl)
                          try simp only [Act.put, List.setIfInBounds_toArray, List.set_cons_zero, List.set_cons_succ]
                          refine wpAnyH_take (i := 27) (oi := ⟨some 159, _, _, _, _, _⟩) (v := ?_) rfl (by kernel_rfl) (by kernel_rfl) (by kernel_rfl) (fun _ _ _ h => h) (Or.inl ⟨by rfl, ?_⟩) hS ?_
                          rotate_left 1
                          · intro w' hB; have hd := (HC.out.to w6 (by simp)).trans (hB.mono (HC.out.to w6 (by simp)).size); have k16 := cell_of_one (boxStays X6.out.1 hd); have k19 := cell_of_one (boxStays X6.out.2.1 hd); have qv := (hd.cell (p := ⟨bl, ol + p0 * 2 + 1, none⟩) (block_lt_of_cell QV.out)).trans QV.out; clear hd; have hs1 := HS1.out; have hs2 := HS2.out; have hli3 := hli3; have hnle3 := hnle3; have hdle3 := hdle3; have hvv := hvv; (go_simp <;> with_reducible rfl)
                          try simp only [Act.put, List.setIfInBounds_toArray, List.set_cons_zero, List.set_cons_succ]
                          refine wpAnyH_take (i := 28) (oi := ⟨some 160, _, _, _, _, _⟩) (v := ?_) rfl (by kernel_rfl) (by kernel_rfl) (by kernel_rfl) (fun _ _ _ h => h) (Or.inl ⟨by rfl, ?_⟩) hS ?_
                          rotate_left 1
                          · intro w' hB; have hd := (HC.out.to w6 (by simp)).trans (hB.mono (HC.out.to w6 (by simp)).size); have k16 := cell_of_one (boxStays X6.out.1 hd); have k19 := cell_of_one (boxStays X6.out.2.1 hd); have qv := (hd.cell (p := ⟨bl, ol + p0 * 2 + 1, none⟩) (block_lt_of_cell QV.out)).trans QV.out; clear hd; have hs1 := HS1.out; have hs2 := HS2.out; have hli3 := hli3; have hnle3 := hnle3; have hdle3 := hdle3; have hvv := hvv; (go_simp <;> with_reducible rfl)
                          try simp only [Act.put, List.setIfInBounds_toArray, List.set_cons_zero, List.set_cons_succ]
                          refine wpAnyH_take (i := 29) (oi := ⟨some 161, _, _, _, _, _⟩) (v := ?_) rfl (by kernel_rfl) (by kernel_rfl) (by kernel_rfl) (fun _ _ _ h => h) (Or.inl ⟨by rfl, ?_⟩) hS ?_
                          rotate_left 1
                          · intro w' hB; have hd := (HC.out.to w6 (by simp)).trans (hB.mono (HC.out.to w6 (by simp)).size); have k16 := cell_of_one (boxStays X6.out.1 hd); have k19 := cell_of_one (boxStays X6.out.2.1 hd); have qv := (hd.cell (p := ⟨bl, ol + p0 * 2 + 1, none⟩) (block_lt_of_cell QV.out)).trans QV.out; clear hd; have hs1 := HS1.out; have hs2 := HS2.out; have hli3 := hli3; have hnle3 := hnle3; have hdle3 := hdle3; have hvv := hvv; (go_simp <;> with_reducible rfl)
                          try simp only [Act.put, List.setIfInBounds_toArray, List.set_cons_zero, List.set_cons_succ]
                          refine wpAnyH_ready (rs := [30]) (by kernel_rfl) (by simp) (AllReadyH.cons (o := ⟨some 162, _, _, _, _, _⟩) rfl (fun K hK => ?_) AllReadyH.nil)
                          go_simp
                          refine (HTA.out _ ((HC.out.to w6 (by simp)).trans (hS.mono (HC.out.to w6 (by simp)).size))).mono ?_
                          rintro e w7 ⟨rfl, hb⟩
                          refine hK.out _ _ (hS.trans (hb.mono hS.size)) (fun _ => ?_)
                          clear hK K
                          have hB := hS.trans (hb.mono hS.size)
                          refine wpAnyH_now hB ?_
                          clear hS
                          have hS := Below.refl w7.heap.size w7
                          replace HC := Lib.hid (HC.out.push hB)
                          clear hB hb
                          try simp only [Act.put, List.setIfInBounds_toArray, List.set_cons_zero, List.set_cons_succ]
                          refine wpAnyH_take (i := 31) (oi := ⟨some 163, _, _, _, _, _⟩) (v := ?_) rfl (by kernel_rfl) (by kernel_rfl) (by kernel_rfl) (fun _ _ _ h => h) (Or.inl ⟨by rfl, ?_⟩) hS ?_
                          rotate_left 1
                          · intro w' hB; have hd := (HC.out.to w6 (by simp)).trans (hB.mono (HC.out.to w6 (by simp)).size); have k16 := cell_of_one (boxStays X6.out.1 hd); have k19 := cell_of_one (boxStays X6.out.2.1 hd); have qv := (hd.cell (p := ⟨bl, ol + p0 * 2 + 1, none⟩) (block_lt_of_cell QV.out)).trans QV.out; clear hd; have hs1 := HS1.out; have hs2 := HS2.out; have hli3 := hli3; have hnle3 := hnle3; have hdle3 := hdle3; have hvv := hvv; (go_simp <;> with_reducible rfl)
                          try simp only [Act.put, List.setIfInBounds_toArray, List.set_cons_zero, List.set_cons_succ]
                          refine wpAnyH_take (i := 32) (oi := ⟨some 164, _, _, _, _, _⟩) (v := ?_) rfl (by kernel_rfl) (by kernel_rfl) (by kernel_rfl) (fun _ _ _ h => h) (Or.inl ⟨by rfl, ?_⟩) hS ?_
                          rotate_left 1
                          · intro w' hB; have hd := (HC.out.to w6 (by simp)).trans (hB.mono (HC.out.to w6 (by simp)).size); have k16 := cell_of_one (boxStays X6.out.1 hd); have k19 := cell_of_one (boxStays X6.out.2.1 hd); have qv := (hd.cell (p := ⟨bl, ol + p0 * 2 + 1, none⟩) (block_lt_of_cell QV.out)).trans QV.out; clear hd; have hs1 := HS1.out; have hs2 := HS2.out; have hli3 := hli3; have hnle3 := hnle3; have hdle3 := hdle3; have hvv := hvv; (go_simp <;> with_reducible rfl)
                          try simp only [Act.put, List.setIfInBounds_toArray, List.set_cons_zero, List.set_cons_succ]
                          refine wpAnyH_take (i := 33) (oi := ⟨some 165, _, _, _, _, _⟩) (v := ?_) rfl (by kernel_rfl) (by kernel_rfl) (by kernel_rfl) (fun _ _ _ h => h) (Or.inl ⟨by rfl, ?_⟩) hS ?_
                          rotate_left 1
                          · intro w' hB; have hd := (HC.out.to w6 (by simp)).trans (hB.mono (HC.out.to w6 (by simp)).size); have k16 := cell_of_one (boxStays X6.out.1 hd); have k19 := cell_of_one (boxStays X6.out.2.1 hd); have qv := (hd.cell (p := ⟨bl, ol + p0 * 2 + 1, none⟩) (block_lt_of_cell QV.out)).trans QV.out; clear hd; have hs1 := HS1.out; have hs2 := HS2.out; have hli3 := hli3; have hnle3 := hnle3; have hdle3 := hdle3; have hvv := hvv; (go_simp <;> with_reducible rfl)
                          try simp only [Act.put, List.setIfInBounds_toArray, List.set_cons_zero, List.set_cons_succ]
                          refine wpAnyH_take (i := 34) (oi := ⟨some 166, _, _, _, _, _⟩) (v := ?_) rfl (by kernel_rfl) (by kernel_rfl) (by kernel_rfl) (fun _ _ _ h => h) (Or.inl ⟨by rfl, ?_⟩) hS ?_
                          rotate_left 1
                          · intro w' hB; have hd := (HC.out.to w6 (by simp)).trans (hB.mono (HC.out.to w6 (by simp)).size); have k16 := cell_of_one (boxStays X6.out.1 hd); have k19 := cell_of_one (boxStays X6.out.2.1 hd); have qv := (hd.cell (p := ⟨bl, ol + p0 * 2 + 1, none⟩) (block_lt_of_cell QV.out)).trans QV.out; clear hd; have hs1 := HS1.out; have hs2 := HS2.out; have hli3 := hli3; have hnle3 := hnle3; have hdle3 := hdle3; have hvv := hvv; (go_simp <;> with_reducible rfl)
                          try simp only [Act.put, List.setIfInBounds_toArray, List.set_cons_zero, List.set_cons_succ]
                          refine wpAnyH_take (i := 35) (oi := ⟨some 167, _, _, _, _, _⟩) (v := ?_) rfl (by kernel_rfl) (by kernel_rfl) (by kernel_rfl) (fun _ _ _ h => h) (Or.inl ⟨by rfl, ?_⟩) hS ?_
                          rotate_left 1
                          · intro w' hB; have hd := (HC.out.to w6 (by simp)).trans (hB.mono (HC.out.to w6 (by simp)).size); have k16 := cell_of_one (boxStays X6.out.1 hd); have k19 := cell_of_one (boxStays X6.out.2.1 hd); have qv := (hd.cell (p := ⟨bl, ol + p0 * 2 + 1, none⟩) (block_lt_of_cell QV.out)).trans QV.out; clear hd; have hs1 := HS1.out; have hs2 := HS2.out; have hli3 := hli3; have hnle3 := hnle3; have hdle3 := hdle3; have hvv := hvv; (go_simp <;> with_reducible rfl)
                          try simp only [Act.put, List.setIfInBounds_toArray, List.set_cons_zero, List.set_cons_succ]
                          refine wpAnyH_take (i := 36) (oi := ⟨some 168, _, _, _, _, _⟩) (v := ?_) rfl (by kernel_rfl) (by kernel_rfl) (by kernel_rfl) (fun _ _ _ h => h) (Or.inl ⟨by rfl, ?_⟩) hS ?_
                          rotate_left 1
                          · intro w' hB; have hd := (HC.out.to w6 (by simp)).trans (hB.mono (HC.out.to w6 (by simp)).size); have k16 := cell_of_one (boxStays X6.out.1 hd); have k19 := cell_of_one (boxStays X6.out.2.1 hd); have qv := (hd.cell (p := ⟨bl, ol + p0 * 2 + 1, none⟩) (block_lt_of_cell QV.out)).trans QV.out; clear hd; have hs1 := HS1.out; have hs2 := HS2.out; have hli3 := hli3; have hnle3 := hnle3; have hdle3 := hdle3; have hvv := hvv; (go_simp <;> with_reducible rfl)
                          try simp only [Act.put, List.setIfInBounds_toArray, List.set_cons_zero, List.set_cons_succ]
                          refine wpAnyH_take (i := 37) (oi := ⟨some 169, _, _, _, _, _⟩) (v := ?_) rfl (by kernel_rfl) (by kernel_rfl) (by kernel_rfl) (fun _ _ _ h => h) (Or.inl ⟨by rfl, ?_⟩) hS ?_
                          rotate_left 1
                          · intro w' hB; have hd := (HC.out.to w6 (by simp)).trans (hB.mono (HC.out.to w6 (by simp)).size); have k16 := cell_of_one (boxStays X6.out.1 hd); have k19 := cell_of_one (boxStays X6.out.2.1 hd); have qv := (hd.cell (p := ⟨bl, ol + p0 * 2 + 1, none⟩) (block_lt_of_cell QV.out)).trans QV.out; clear hd; have hs1 := HS1.out; have hs2 := HS2.out; have hli3 := hli3; have hnle3 := hnle3; have hdle3 := hdle3; have hvv := hvv; (go_simp <;> with_reducible rfl)
                          try simp only [Act.put, List.setIfInBounds_toArray, List.set_cons_zero, List.set_cons_succ]
                          refine wpAnyH_take (i := 38) (oi := ⟨some 170, _, _, _, _, _⟩) (v := ?_) rfl (by kernel_rfl) (by kernel_rfl) (by kernel_rfl) (fun _ _ _ h => h) (Or.inl ⟨by rfl, ?_⟩) hS ?_
                          rotate_left 1
                          · intro w' hB; have hd := (HC.out.to w6 (by simp)).trans (hB.mono (HC.out.to w6 (by simp)).size); have k16 := cell_of_one (boxStays X6.out.1 hd); have k19 := cell_of_one (boxStays X6.out.2.1 hd); have qv := (hd.cell (p := ⟨bl, ol + p0 * 2 + 1, none⟩) (block_lt_of_cell QV.out)).trans QV.out; clear hd; have hs1 := HS1.out; have hs2 := HS2.out; have hli3 := hli3; have hnle3 := hnle3; have hdle3 := hdle3; have hvv := hvv; (go_simp <;> with_reducible rfl)
                          try simp only [Act.put, List.setIfInBounds_toArray, List.set_cons_zero, List.set_cons_succ]
                          refine wpAnyH_take (i := 39) (oi := ⟨some 171, _, _, _, _, _⟩) (v := ?_) rfl (by kernel_rfl) (by kernel_rfl) (by kernel_rfl) (fun _ _ _ h => h) (Or.inl ⟨by rfl, ?_⟩) hS ?_
                          rotate_left 1
                          · intro w' hB; have hd := (HC.out.to w6 (by simp)).trans (hB.mono (HC.out.to w6 (by simp)).size); have k16 := cell_of_one (boxStays X6.out.1 hd); have k19 := cell_of_one (boxStays X6.out.2.1 hd); have qv := (hd.cell (p := ⟨bl, ol + p0 * 2 + 1, none⟩) (block_lt_of_cell QV.out)).trans QV.out; clear hd; have hs1 := HS1.out; have hs2 := HS2.out; have hli3 := hli3; have hnle3 := hnle3; have hdle3 := hdle3; have hvv := hvv; (go_simp <;> with_reducible rfl)
                          try simp only [Act.put, List.setIfInBounds_toArray, List.set_cons_zero, List.set_cons_succ]
                          refine wpAnyH_ready (rs := [40]) (by kernel_rfl) (by simp) (AllReadyH.cons (o := ⟨some 172, _, _, _, _, _⟩) rfl (fun K hK => ?_) AllReadyH.nil)
                          go_simp
                          refine (HTC.out _ ((HC.out.to w6 (by simp)).trans (hS.mono (HC.out.to w6 (by simp)).size))).mono ?_
                          rintro e w8 ⟨rfl, hb⟩
                          refine hK.out _ _ (hS.trans (hb.mono hS.size)) (fun _ => ?_)
                          clear hK K
                          have hB := hS.trans (hb.mono hS.size)
                          refine wpAnyH_now hB ?_
                          clear hS
                          have hS := Below.refl w8.heap.size w8
                          replace HC := Lib.hid (HC.out.push hB)
                          clear hB hb
                          try simp only [Act.put, List.setIfInBounds_toArray, List.set_cons_zero, List.set_cons_succ]
                          refine wpAnyH_take (i := 41) (oi := ⟨some 173, _, _, _, _, _⟩) (v := ?_) rfl (by kernel_rfl) (by kernel_rfl) (by kernel_rfl) (fun _ _ _ h => h) (Or.inl ⟨by rfl, ?_⟩) hS ?_
                          rotate_left 1
                          · intro w' hB; have hd := (HC.out.to w6 (by simp)).trans (hB.mono (HC.out.to w6 (by simp)).size); have k16 := cell_of_one (boxStays X6.out.1 hd); have k19 := cell_of_one (boxStays X6.out.2.1 hd); have qv := (hd.cell (p := ⟨bl, ol + p0 * 2 + 1, none⟩) (block_lt_of_cell QV.out)).trans QV.out; clear hd; have hs1 := HS1.out; have hs2 := HS2.out; have hli3 := hli3; have hnle3 := hnle3; have hdle3 := hdle3; have hvv := hvv; (go_simp <;> with_reducible rfl)
                          try simp only [Act.put, List.setIfInBounds_toArray, List.set_cons_zero, List.set_cons_succ]
                          refine wpAnyH_take (i := 42) (oi := ⟨some 174, _, _, _, _, _⟩) (v := ?_) rfl (by kernel_rfl) (by kernel_rfl) (by kernel_rfl) (fun _ _ _ h => h) (Or.inl ⟨by rfl, ?_⟩) hS ?_
                          rotate_left 1
                          · intro w' hB; have hd := (HC.out.to w6 (by simp)).trans (hB.mono (HC.out.to w6 (by simp)).size); have k16 := cell_of_one (boxStays X6.out.1 hd); have k19 := cell_of_one (boxStays X6.out.2.1 hd); have qv := (hd.cell (p := ⟨bl, ol + p0 * 2 + 1, none⟩) (block_lt_of_cell QV.out)).trans QV.out; clear hd; have hs1 := HS1.out; have hs2 := HS2.out; have hli3 := hli3; have hnle3 := hnle3; have hdle3 := hdle3; have hvv := hvv; (go_simp <;> with_reducible rfl)
                          try simp only [Act.put, List.setIfInBounds_toArray, List.set_cons_zero, List.set_cons_succ]
                          refine wpAnyH_done (by kernel_rfl) (NoPanic.normal ?_) _
                        all_goals
                          have D8 := Lib.hid (HC.out.to w6 (by simp))
                          clear hS HC
                          go_wp2_with fail
                          go_meet
                          exact ⟨rfl, D8⟩
                    case rest =>
                      as_aux_lemma =>
                        obtain ⟨rfl, D7⟩ := hcut
                        have F7 := Lib.hid (F6.out.below D7.out)
                        have R7 := Lib.hid (R6.out.below D7.out)
                        have X7 : Hid (wc.heap[c16]? = some (.cells #[.pointer (pa a)] 26 (0, 0)) ∧ wc.heap[c16 + 1]? = some (.cells #[.pointer (pa c)] 26 (0, 0)) ∧ AtI wc a ∧ AtI wc c) := Lib.hid ⟨boxStays X6.out.1 D7.out, boxStays X6.out.2.1 D7.out, X6.out.2.2.1.below D7.out rfl, X6.out.2.2.2.below D7.out rfl⟩
                        have Z7 := Lib.hid (boxStays Z12.out D7.out)
                        clear F6 R6 X6 Z12 D7 HTA HTC HS1 HS2
                        have k16 := cell_of_one X7.out.1
                        have k19 := cell_of_one X7.out.2.1
                        have k12 := box3 Z7.out
                        have hzc2 : sz c ≤ z := by
                          have h1 := HSP.out.2.2.1
                          have h2 : (items c).length = ((items t).drop (if th then p0 + 1 else p0)).length := by rw [h1]
                          rw [sz_items, List.length_drop, sz_items, HZ.out] at h2
                          omega
                        go_wp2_with fail
                        refine (pm_JoinI a c key vl wc.heap.size wc (Nat.le_refl _) X7.out.2.2.1 X7.out.2.2.2 (by rw [HSP.out.1]; omega)).mono ?_
                        rintro e w8 ⟨x', nn, hJ, rfl, hA, hb⟩
                        have hJ2 : JoinR wc.heap.size key vl a c x' ∧ nn = 0 := by
                          rcases hJ with ⟨_, h, h'⟩ | ⟨h, _⟩
                          · exact ⟨h, h'⟩
                          · exact absurd HSP.out.2.2.2.1 h
                        rw [hJ2.2, show ((0 : Nat) : Int) = 0 from rfl]
                        have hmj := join_made hJ2.1 HSP.out.2.2.2.2.2.2.1 HSP.out.2.2.2.2.2.2.2.1 X7.out.2.2.1.lt X7.out.2.2.2.lt
                        have hIx : items x' = ins key vl (items t) := by rw [hJ2.1.items]; exact spl_ins HSP.out HP0.out HTH.out vl
                        have GX : Hid (PlG (i + 1) x') := Lib.hid ⟨(hJ2.1.bal HSP.out.2.2.2.2.2.2.1 HSP.out.2.2.2.2.2.2.2.1).1, by rw [hIx]; exact ins_srt HG.out.2.1, by
                          have h1 := ins_length (k := key) (v := vl) (items t)
                          rw [← hIx, sz_items, sz_items, HZ.out] at h1
                          omega⟩
                        have HIX := Lib.hid hIx
                        have AX := Lib.hid (hA.below (below_new w8 (.cells #[.pointer (pa x')] 26)) rfl)
                        have D8 : Hid (Below wc.heap.size wc (w8.alloc (.cells #[.pointer (pa x')] 26))) := Lib.hid (hb.trans ((below_new w8 _).mono hb.size))
                        obtain ⟨c23, hc23⟩ : ∃ q, w8.heap.size = q := ⟨_, rfl⟩
                        have X23 : Hid ((w8.alloc (.cells #[.pointer (pa x')] 26)).heap[c23]? = some (.cells #[.pointer (pa x')] 26 (0, 0))) := Lib.hid (by rw [← hc23]; exact heap_alloc_new w8 _)
                        have HC23 := Lib.hid hc23
                        clear hJ hA hb hJ2 hIx k16 k19 k12 hc23
                        go_wp2_with fail
                        rw [HC23.out]
                        generalize w8.alloc (.cells #[.pointer (pa x')] 26) = w9 at *
                        clear HC23
                        obtain ⟨ha, hha⟩ : ∃ h, ht a = h := ⟨_, rfl⟩
                        obtain ⟨hc, hhc⟩ : ∃ h, ht c = h := ⟨_, rfl⟩
                        obtain ⟨n1, hn1⟩ : ∃ h, sz x' = h := ⟨_, rfl⟩
                        obtain ⟨s1, hs1⟩ : ∃ h, sharedNI x' a = h := ⟨_, rfl⟩
                        obtain ⟨s2, hs2⟩ : ∃ h, sharedNI x' c = h := ⟨_, rfl⟩
                        have hb1 : s1 ≤ n1 := by rw [← hs1, ← hn1]; exact shared_le _ _
                        have hb2 : s2 ≤ n1 := by rw [← hs2, ← hn1]; exact shared_le _ _
                        have hb3 : n1 ≤ 61 := by rw [← hn1]; have := GX.out.2.2; omega
                        have hb4 : ha ≤ 60 := by rw [← hha]; have := ht_le a; rw [HSP.out.1] at this; omega
                        have hb5 : hc ≤ 60 := by rw [← hhc]; have := ht_le c; omega
                        rw [hha, hhc, hn1, hs1, hs2] at hmj
                        have ch1 : ∀ W : World, Below wc.heap.size wc W → Calls Try.prog 11 #[.agg #[.pointer (pa a)]] W fun e w' => e = .returned (.int .i64 (ha : Int)) ∧ Below W.heap.size W w' := fun W hb => by
                          have := pm_MHeightI a W (X7.out.2.2.1.below hb rfl)
                          rw [hha] at this
                          exact this
                        have ch2 : ∀ W : World, Below wc.heap.size wc W → Calls Try.prog 11 #[.agg #[.pointer (pa c)]] W fun e w' => e = .returned (.int .i64 (hc : Int)) ∧ Below W.heap.size W w' := fun W hb => by
                          have := pm_MHeightI c W (X7.out.2.2.2.below hb rfl)
                          rw [hhc] at this
                          exact this
                        have ch3 : ∀ W : World, Below w9.heap.size w9 W → Calls Try.prog 12 #[.agg #[.pointer (pa x')]] W fun e w' => e = .returned (.int .i64 (n1 : Int)) ∧ Below W.heap.size W w' := fun W hb => by
                          have := pm_MLenI x' W (AX.out.below hb rfl)
                          rw [hn1] at this
                          exact this
                        have ch4 : ∀ W : World, Below w9.heap.size w9 W → Calls Try.prog 27 #[.agg #[.pointer (pa x')], .agg #[.pointer (pa a)]] W fun e w' => e = .returned (.int .i64 (s1 : Int)) ∧ Below W.heap.size W w' := fun W hb => by
                          have h2 := X7.out.2.2.1.below (D8.out.trans (hb.mono D8.out.size)) rfl
                          have := pm_SharedI x' a W (AX.out.below hb rfl) h2 (nodup_blocksI a h2 HSP.out.2.2.2.2.1) (by rw [hn1]; omega)
                          rw [hs1] at this
                          exact this
                        have ch5 : ∀ W : World, Below w9.heap.size w9 W → Calls Try.prog 27 #[.agg #[.pointer (pa x')], .agg #[.pointer (pa c)]] W fun e w' => e = .returned (.int .i64 (s2 : Int)) ∧ Below W.heap.size W w' := fun W hb => by
                          have h2 := X7.out.2.2.2.below (D8.out.trans (hb.mono D8.out.size)) rfl
                          have := pm_SharedI x' c W (AX.out.below hb rfl) h2 (nodup_blocksI c h2 HSP.out.2.2.2.2.2.1) (by rw [hn1]; omega)
                          rw [hs2] at this
                          exact this
                        have CH1 := Lib.hid ch1
                        have CH2 := Lib.hid ch2
                        have CH3 := Lib.hid ch3
                        have CH4 := Lib.hid ch4
                        have CH5 := Lib.hid ch5
                        have W1 : Hid (IntKind.i64.wrap ((ha : Int) - (hc : Int)) = (ha : Int) - (hc : Int)) := Lib.hid (IntWalk.i64_in _ (by omega))
                        obtain ⟨dd, hdd⟩ : ∃ d : Int, (ha : Int) - (hc : Int) = d := ⟨_, rfl⟩
                        have hdb : -60 ≤ dd ∧ dd ≤ 60 := by omega
                        rw [hdd] at hmj
                        obtain ⟨mx, hmx⟩ : ∃ m : Int, max dd (-dd) = m := ⟨_, rfl⟩
                        have hmxb : 0 ≤ mx ∧ mx ≤ 60 := by omega
                        rw [hmx] at hmj
                        have hgtb : decide (mx + 4 < (n1 : Int) - (s1 : Int) - (s2 : Int)) = false := decide_eq_false (by omega)
                        have W2 : Hid (IntKind.i64.wrap ((n1 : Int) - (s1 : Int)) = (n1 : Int) - (s1 : Int) ∧ IntKind.i64.wrap ((n1 : Int) - (s1 : Int) - (s2 : Int)) = (n1 : Int) - (s1 : Int) - (s2 : Int) ∧ IntKind.i64.wrap (-dd) = -dd ∧ IntKind.i64.wrap (mx + 4) = mx + 4 ∧ max dd (-dd) = mx ∧ decide (mx + 4 < (n1 : Int) - (s1 : Int) - (s2 : Int)) = false) := Lib.hid ⟨IntWalk.i64_in _ (by omega), IntWalk.i64_in _ (by omega), IntWalk.i64_in _ (by omega), IntWalk.i64_in _ (by omega), hmx, hgtb⟩
                        have HDD := Lib.hid hdd
                        clear hha hhc hn1 hs1 hs2 hb1 hb2 hb3 hb4 hb5 ch1 ch2 ch3 ch4 ch5 hmj hmx hdd hdb hmxb hgtb hzc2
                        go_wp2_with fail
                        have HC : Hid (Chain [w9] w9) := Lib.hid (Chain.one w9)
                        refine wp_region_noPanic ?_
                        refine wp_region_held_drew (S := fun w' => Below w9.heap.size w9 w') (by kernel_rfl) (Below.refl _ _).drew (fun hS => ?_)
                        refine wpAnyH_take (i := 0) (oi := ⟨some 185, _, _, _, _, _⟩) (v := ?_) rfl (by kernel_rfl) (by kernel_rfl) (by kernel_rfl) (fun _ _ _ h => h) (Or.inl ⟨by rfl, ?_⟩) hS ?_
                        rotate_left 1
                        · intro w' hB; have hd := (HC.out.to w9 (by simp)).trans (hB.mono (HC.out.to w9 (by simp)).size); have hr := D8.out.trans (hd.mono D8.out.size); have k16 := cell_of_one (boxStays X7.out.1 hr); have k19 := cell_of_one (boxStays X7.out.2.1 hr); clear hd hr; have w1' := W1.out; (go_simp <;> with_reducible rfl)
                        try simp only [Act.put, List.setIfInBounds_toArray, List.set_cons_zero, List.set_cons_succ]
                        refine wpAnyH_take (i := 2) (oi := ⟨some 187, _, _, _, _, _⟩) (v := ?_) rfl (by kernel_rfl) (by kernel_rfl) (by kernel_rfl) (fun _ _ _ h => h) (Or.inl ⟨by rfl, ?_⟩) hS ?_
                        rotate_left 1
                        · intro w' hB; have hd := (HC.out.to w9 (by simp)).trans (hB.mono (HC.out.to w9 (by simp)).size); have hr := D8.out.trans (hd.mono D8.out.size); have k16 := cell_of_one (boxStays X7.out.1 hr); have k19 := cell_of_one (boxStays X7.out.2.1 hr); clear hd hr; have w1' := W1.out; (go_simp <;> with_reducible rfl)
                        try simp only [Act.put, List.setIfInBounds_toArray, List.set_cons_zero, List.set_cons_succ]
                        refine wpAnyH_ready (rs := [1]) (by kernel_rfl) (by simp) (AllReadyH.cons (o := ⟨some 186, _, _, _, _, _⟩) rfl (fun K hK => ?_) AllReadyH.nil)
                        go_simp
                        refine (CH1.out _ (D8.out.trans (((HC.out.to w9 (by simp)).trans (hS.mono (HC.out.to w9 (by simp)).size)).mono D8.out.size))).mono ?_
                        rintro e w10 ⟨rfl, hb⟩
                        refine hK.out _ _ (hS.trans (hb.mono hS.size)) (fun _ => ?_)
                        clear hK K
                        have hB := hS.trans (hb.mono hS.size)
                        refine wpAnyH_now hB ?_
                        clear hS
                        have hS := Below.refl w10.heap.size w10
                        replace HC := Lib.hid (HC.out.push hB)
                        clear hB hb
                        try simp only [Act.put, List.setIfInBounds_toArray, List.set_cons_zero, List.set_cons_succ]
                        refine wpAnyH_ready (rs := [3]) (by kernel_rfl) (by simp) (AllReadyH.cons (o := ⟨some 188, _, _, _, _, _⟩) rfl (fun K hK => ?_) AllReadyH.nil)
                        go_simp
                        refine (CH2.out _ (D8.out.trans (((HC.out.to w9 (by simp)).trans (hS.mono (HC.out.to w9 (by simp)).size)).mono D8.out.size))).mono ?_
                        rintro e w11 ⟨rfl, hb⟩
                        refine hK.out _ _ (hS.trans (hb.mono hS.size)) (fun _ => ?_)
                        clear hK K
                        have hB := hS.trans (hb.mono hS.size)
                        refine wpAnyH_now hB ?_
                        clear hS
                        have hS := Below.refl w11.heap.size w11
                        replace HC := Lib.hid (HC.out.push hB)
                        clear hB hb
                        try simp only [Act.put, List.setIfInBounds_toArray, List.set_cons_zero, List.set_cons_succ]
                        refine wpAnyH_take (i := 4) (oi := ⟨some 189, _, _, _, _, _⟩) (v := ?_) rfl (by kernel_rfl) (by kernel_rfl) (by kernel_rfl) (fun _ _ _ h => h) (Or.inl ⟨by rfl, ?_⟩) hS ?_
                        rotate_left 1
                        · intro w' hB; have hd := (HC.out.to w9 (by simp)).trans (hB.mono (HC.out.to w9 (by simp)).size); have hr := D8.out.trans (hd.mono D8.out.size); have k16 := cell_of_one (boxStays X7.out.1 hr); have k19 := cell_of_one (boxStays X7.out.2.1 hr); clear hd hr; have w1' := W1.out; (go_simp <;> with_reducible rfl)
                        try simp only [Act.put, List.setIfInBounds_toArray, List.set_cons_zero, List.set_cons_succ]
                        refine wpAnyH_take (i := 5) (oi := ⟨some 25, _, _, _, _, _⟩) (v := ?_) rfl (by kernel_rfl) (by kernel_rfl) (by kernel_rfl) (fun _ _ _ h => h) (Or.inl ⟨by rfl, ?_⟩) hS ?_
                        rotate_left 1
                        · intro w' hB; have hd := (HC.out.to w9 (by simp)).trans (hB.mono (HC.out.to w9 (by simp)).size); have hr := D8.out.trans (hd.mono D8.out.size); have k16 := cell_of_one (boxStays X7.out.1 hr); have k19 := cell_of_one (boxStays X7.out.2.1 hr); clear hd hr; have w1' := W1.out; (go_simp <;> with_reducible rfl)
                        try simp only [Act.put, List.setIfInBounds_toArray, List.set_cons_zero, List.set_cons_succ]
                        refine wpAnyH_done (by kernel_rfl) (NoPanic.normal ?_) _
                        clear hS
                        rw [HDD.out]
                        go_wp2_with fail
                        refine wp_region_noPanic ?_
                        refine wp_region_held_drew (S := fun w' => Below w11.heap.size w11 w') (by kernel_rfl) (Below.refl _ _).drew (fun hS => ?_)
                        refine wpAnyH_take (i := 0) (oi := ⟨some 190, _, _, _, _, _⟩) (v := ?_) rfl (by kernel_rfl) (by kernel_rfl) (by kernel_rfl) (fun _ _ _ h => h) (Or.inl ⟨by rfl, ?_⟩) hS ?_
                        rotate_left 1
                        · intro w' hB; have hd := (HC.out.to w9 (by simp)).trans (hB.mono (HC.out.to w9 (by simp)).size); have h9 := hd; have hr := D8.out.trans (h9.mono D8.out.size); have k16 := cell_of_one (boxStays X7.out.1 hr); have k19 := cell_of_one (boxStays X7.out.2.1 hr); have k23 := cell_of_one (boxStays X23.out h9); clear hd hr h9; obtain ⟨g1, g2, g3, g4, g5, g6⟩ := W2.out; (go_simp <;> with_reducible rfl)
                        try simp only [Act.put, List.setIfInBounds_toArray, List.set_cons_zero, List.set_cons_succ]
                        refine wpAnyH_take (i := 1) (oi := ⟨some 191, _, _, _, _, _⟩) (v := ?_) rfl (by kernel_rfl) (by kernel_rfl) (by kernel_rfl) (fun _ _ _ h => h) (Or.inl ⟨by rfl, ?_⟩) hS ?_
                        rotate_left 1
                        · intro w' hB; have hd := (HC.out.to w9 (by simp)).trans (hB.mono (HC.out.to w9 (by simp)).size); have h9 := hd; have hr := D8.out.trans (h9.mono D8.out.size); have k16 := cell_of_one (boxStays X7.out.1 hr); have k19 := cell_of_one (boxStays X7.out.2.1 hr); have k23 := cell_of_one (boxStays X23.out h9); clear hd hr h9; obtain ⟨g1, g2, g3, g4, g5, g6⟩ := W2.out; (go_simp <;> with_reducible rfl)
                        try simp only [Act.put, List.setIfInBounds_toArray, List.set_cons_zero, List.set_cons_succ]
                        refine wpAnyH_take (i := 2) (oi := ⟨some 192, _, _, _, _, _⟩) (v := ?_) rfl (by kernel_rfl) (by kernel_rfl) (by kernel_rfl) (fun _ _ _ h => h) (Or.inl ⟨by rfl, ?_⟩) hS ?_
                        rotate_left 1
                        · intro w' hB; have hd := (HC.out.to w9 (by simp)).trans (hB.mono (HC.out.to w9 (by simp)).size); have h9 := hd; have hr := D8.out.trans (h9.mono D8.out.size); have k16 := cell_of_one (boxStays X7.out.1 hr); have k19 := cell_of_one (boxStays X7.out.2.1 hr); have k23 := cell_of_one (boxStays X23.out h9); clear hd hr h9; obtain ⟨g1, g2, g3, g4, g5, g6⟩ := W2.out; (go_simp <;> with_reducible rfl)
                        try simp only [Act.put, List.setIfInBounds_toArray, List.set_cons_zero, List.set_cons_succ]
                        refine wpAnyH_take (i := 3) (oi := ⟨some 193, _, _, _, _, _⟩) (v := ?_) rfl (by kernel_rfl) (by kernel_rfl) (by kernel_rfl) (fun _ _ _ h => h) (Or.inl ⟨by rfl, ?_⟩) hS ?_
                        rotate_left 1
                        · intro w' hB; have hd := (HC.out.to w9 (by simp)).trans (hB.mono (HC.out.to w9 (by simp)).size); have h9 := hd; have hr := D8.out.trans (h9.mono D8.out.size); have k16 := cell_of_one (boxStays X7.out.1 hr); have k19 := cell_of_one (boxStays X7.out.2.1 hr); have k23 := cell_of_one (boxStays X23.out h9); clear hd hr h9; obtain ⟨g1, g2, g3, g4, g5, g6⟩ := W2.out; (go_simp <;> with_reducible rfl)
                        try simp only [Act.put, List.setIfInBounds_toArray, List.set_cons_zero, List.set_cons_succ]
                        refine wpAnyH_take (i := 5) (oi := ⟨some 195, _, _, _, _, _⟩) (v := ?_) rfl (by kernel_rfl) (by kernel_rfl) (by kernel_rfl) (fun _ _ _ h => h) (Or.inl ⟨by rfl, ?_⟩) hS ?_
                        rotate_left 1
                        · intro w' hB; have hd := (HC.out.to w9 (by simp)).trans (hB.mono (HC.out.to w9 (by simp)).size); have h9 := hd; have hr := D8.out.trans (h9.mono D8.out.size); have k16 := cell_of_one (boxStays X7.out.1 hr); have k19 := cell_of_one (boxStays X7.out.2.1 hr); have k23 := cell_of_one (boxStays X23.out h9); clear hd hr h9; obtain ⟨g1, g2, g3, g4, g5, g6⟩ := W2.out; (go_simp <;> with_reducible rfl)
                        try simp only [Act.put, List.setIfInBounds_toArray, List.set_cons_zero, List.set_cons_succ]
                        refine wpAnyH_take (i := 6) (oi := ⟨some 196, _, _, _, _, _⟩) (v := ?_) rfl (by kernel_rfl) (by kernel_rfl) (by kernel_rfl) (fun _ _ _ h => h) (Or.inl ⟨by rfl, ?_⟩) hS ?_
                        rotate_left 1
                        · intro w' hB; have hd := (HC.out.to w9 (by simp)).trans (hB.mono (HC.out.to w9 (by simp)).size); have h9 := hd; have hr := D8.out.trans (h9.mono D8.out.size); have k16 := cell_of_one (boxStays X7.out.1 hr); have k19 := cell_of_one (boxStays X7.out.2.1 hr); have k23 := cell_of_one (boxStays X23.out h9); clear hd hr h9; obtain ⟨g1, g2, g3, g4, g5, g6⟩ := W2.out; (go_simp <;> with_reducible rfl)
                        try simp only [Act.put, List.setIfInBounds_toArray, List.set_cons_zero, List.set_cons_succ]
                        refine wpAnyH_take (i := 9) (oi := ⟨some 199, _, _, _, _, _⟩) (v := ?_) rfl (by kernel_rfl) (by kernel_rfl) (by kernel_rfl) (fun _ _ _ h => h) (Or.inl ⟨by rfl, ?_⟩) hS ?_
                        rotate_left 1
                        · intro w' hB; have hd := (HC.out.to w9 (by simp)).trans (hB.mono (HC.out.to w9 (by simp)).size); have h9 := hd; have hr := D8.out.trans (h9.mono D8.out.size); have k16 := cell_of_one (boxStays X7.out.1 hr); have k19 := cell_of_one (boxStays X7.out.2.1 hr); have k23 := cell_of_one (boxStays X23.out h9); clear hd hr h9; obtain ⟨g1, g2, g3, g4, g5, g6⟩ := W2.out; (go_simp <;> with_reducible rfl)
                        try simp only [Act.put, List.setIfInBounds_toArray, List.set_cons_zero, List.set_cons_succ]
                        refine wpAnyH_take (i := 10) (oi := ⟨some 200, _, _, _, _, _⟩) (v := ?_) rfl (by kernel_rfl) (by kernel_rfl) (by kernel_rfl) (fun _ _ _ h => h) (Or.inl ⟨by rfl, ?_⟩) hS ?_
                        rotate_left 1
                        · intro w' hB; have hd := (HC.out.to w9 (by simp)).trans (hB.mono (HC.out.to w9 (by simp)).size); have h9 := hd; have hr := D8.out.trans (h9.mono D8.out.size); have k16 := cell_of_one (boxStays X7.out.1 hr); have k19 := cell_of_one (boxStays X7.out.2.1 hr); have k23 := cell_of_one (boxStays X23.out h9); clear hd hr h9; obtain ⟨g1, g2, g3, g4, g5, g6⟩ := W2.out; (go_simp <;> with_reducible rfl)
                        try simp only [Act.put, List.setIfInBounds_toArray, List.set_cons_zero, List.set_cons_succ]
                        refine wpAnyH_take (i := 13) (oi := ⟨some 203, _, _, _, _, _⟩) (v := ?_) rfl (by kernel_rfl) (by kernel_rfl) (by kernel_rfl) (fun _ _ _ h => h) (Or.inl ⟨by rfl, ?_⟩) hS ?_
                        rotate_left 1
                        · intro w' hB; have hd := (HC.out.to w9 (by simp)).trans (hB.mono (HC.out.to w9 (by simp)).size); have h9 := hd; have hr := D8.out.trans (h9.mono D8.out.size); have k16 := cell_of_one (boxStays X7.out.1 hr); have k19 := cell_of_one (boxStays X7.out.2.1 hr); have k23 := cell_of_one (boxStays X23.out h9); clear hd hr h9; obtain ⟨g1, g2, g3, g4, g5, g6⟩ := W2.out; (go_simp <;> with_reducible rfl)
                        try simp only [Act.put, List.setIfInBounds_toArray, List.set_cons_zero, List.set_cons_succ]
                        refine wpAnyH_take (i := 14) (oi := ⟨some 204, _, _, _, _, _⟩) (v := ?_) rfl (by kernel_rfl) (by kernel_rfl) (by kernel_rfl) (fun _ _ _ h => h) (Or.inl ⟨by rfl, ?_⟩) hS ?_
                        rotate_left 1
                        · intro w' hB; have hd := (HC.out.to w9 (by simp)).trans (hB.mono (HC.out.to w9 (by simp)).size); have h9 := hd; have hr := D8.out.trans (h9.mono D8.out.size); have k16 := cell_of_one (boxStays X7.out.1 hr); have k19 := cell_of_one (boxStays X7.out.2.1 hr); have k23 := cell_of_one (boxStays X23.out h9); clear hd hr h9; obtain ⟨g1, g2, g3, g4, g5, g6⟩ := W2.out; (go_simp <;> with_reducible rfl)
                        try simp only [Act.put, List.setIfInBounds_toArray, List.set_cons_zero, List.set_cons_succ]
                        refine wpAnyH_take (i := 15) (oi := ⟨some 205, _, _, _, _, _⟩) (v := ?_) rfl (by kernel_rfl) (by kernel_rfl) (by kernel_rfl) (fun _ _ _ h => h) (Or.inl ⟨by rfl, ?_⟩) hS ?_
                        rotate_left 1
                        · intro w' hB; have hd := (HC.out.to w9 (by simp)).trans (hB.mono (HC.out.to w9 (by simp)).size); have h9 := hd; have hr := D8.out.trans (h9.mono D8.out.size); have k16 := cell_of_one (boxStays X7.out.1 hr); have k19 := cell_of_one (boxStays X7.out.2.1 hr); have k23 := cell_of_one (boxStays X23.out h9); clear hd hr h9; obtain ⟨g1, g2, g3, g4, g5, g6⟩ := W2.out; (go_simp <;> with_reducible rfl)
                        try simp only [Act.put, List.setIfInBounds_toArray, List.set_cons_zero, List.set_cons_succ]
                        refine wpAnyH_take (i := 16) (oi := ⟨some 206, _, _, _, _, _⟩) (v := ?_) rfl (by kernel_rfl) (by kernel_rfl) (by kernel_rfl) (fun _ _ _ h => h) (Or.inl ⟨by rfl, ?_⟩) hS ?_
                        rotate_left 1
                        · intro w' hB; have hd := (HC.out.to w9 (by simp)).trans (hB.mono (HC.out.to w9 (by simp)).size); have h9 := hd; have hr := D8.out.trans (h9.mono D8.out.size); have k16 := cell_of_one (boxStays X7.out.1 hr); have k19 := cell_of_one (boxStays X7.out.2.1 hr); have k23 := cell_of_one (boxStays X23.out h9); clear hd hr h9; obtain ⟨g1, g2, g3, g4, g5, g6⟩ := W2.out; (go_simp <;> with_reducible rfl)
                        try simp only [Act.put, List.setIfInBounds_toArray, List.set_cons_zero, List.set_cons_succ]
                        refine wpAnyH_take (i := 17) (oi := ⟨some 207, _, _, _, _, _⟩) (v := ?_) rfl (by kernel_rfl) (by kernel_rfl) (by kernel_rfl) (fun _ _ _ h => h) (Or.inl ⟨by rfl, ?_⟩) hS ?_
                        rotate_left 1
                        · intro w' hB; have hd := (HC.out.to w9 (by simp)).trans (hB.mono (HC.out.to w9 (by simp)).size); have h9 := hd; have hr := D8.out.trans (h9.mono D8.out.size); have k16 := cell_of_one (boxStays X7.out.1 hr); have k19 := cell_of_one (boxStays X7.out.2.1 hr); have k23 := cell_of_one (boxStays X23.out h9); clear hd hr h9; obtain ⟨g1, g2, g3, g4, g5, g6⟩ := W2.out; (go_simp <;> with_reducible rfl)
                        try simp only [Act.put, List.setIfInBounds_toArray, List.set_cons_zero, List.set_cons_succ]
                        refine wpAnyH_ready (rs := [4]) (by kernel_rfl) (by simp) (AllReadyH.cons (o := ⟨some 194, _, _, _, _, _⟩) rfl (fun K hK => ?_) AllReadyH.nil)
                        go_simp
                        refine (CH3.out _ ((HC.out.to w9 (by simp)).trans (hS.mono (HC.out.to w9 (by simp)).size))).mono ?_
                        rintro e w12 ⟨rfl, hb⟩
                        refine hK.out _ _ (hS.trans (hb.mono hS.size)) (fun _ => ?_)
                        clear hK K
                        have hB := hS.trans (hb.mono hS.size)
                        refine wpAnyH_now hB ?_
                        clear hS
                        have hS := Below.refl w12.heap.size w12
                        replace HC := Lib.hid (HC.out.push hB)
                        clear hB hb
                        try simp only [Act.put, List.setIfInBounds_toArray, List.set_cons_zero, List.set_cons_succ]
                        refine wpAnyH_ready (rs := [7]) (by kernel_rfl) (by simp) (AllReadyH.cons (o := ⟨some 197, _, _, _, _, _⟩) rfl (fun K hK => ?_) AllReadyH.nil)
                        go_simp
                        refine (CH4.out _ ((HC.out.to w9 (by simp)).trans (hS.mono (HC.out.to w9 (by simp)).size))).mono ?_
                        rintro e w13 ⟨rfl, hb⟩
                        refine hK.out _ _ (hS.trans (hb.mono hS.size)) (fun _ => ?_)
                        clear hK K
                        have hB := hS.trans (hb.mono hS.size)
                        refine wpAnyH_now hB ?_
                        clear hS
                        have hS := Below.refl w13.heap.size w13
                        replace HC := Lib.hid (HC.out.push hB)
                        clear hB hb
                        try simp only [Act.put, List.setIfInBounds_toArray, List.set_cons_zero, List.set_cons_succ]
                        refine wpAnyH_take (i := 8) (oi := ⟨some 198, _, _, _, _, _⟩) (v := ?_) rfl (by kernel_rfl) (by kernel_rfl) (by kernel_rfl) (fun _ _ _ h => h) (Or.inl ⟨by rfl, ?_⟩) hS ?_
                        rotate_left 1
                        · intro w' hB; have hd := (HC.out.to w9 (by simp)).trans (hB.mono (HC.out.to w9 (by simp)).size); have h9 := hd; have hr := D8.out.trans (h9.mono D8.out.size); have k16 := cell_of_one (boxStays X7.out.1 hr); have k19 := cell_of_one (boxStays X7.out.2.1 hr); have k23 := cell_of_one (boxStays X23.out h9); clear hd hr h9; obtain ⟨g1, g2, g3, g4, g5, g6⟩ := W2.out; (go_simp <;> with_reducible rfl)
                        try simp only [Act.put, List.setIfInBounds_toArray, List.set_cons_zero, List.set_cons_succ]
                        refine wpAnyH_ready (rs := [11]) (by kernel_rfl) (by simp) (AllReadyH.cons (o := ⟨some 201, _, _, _, _, _⟩) rfl (fun K hK => ?_) AllReadyH.nil)
                        go_simp
                        refine (CH5.out _ ((HC.out.to w9 (by simp)).trans (hS.mono (HC.out.to w9 (by simp)).size))).mono ?_
                        rintro e w14 ⟨rfl, hb⟩
                        refine hK.out _ _ (hS.trans (hb.mono hS.size)) (fun _ => ?_)
                        clear hK K
                        have hB := hS.trans (hb.mono hS.size)
                        refine wpAnyH_now hB ?_
                        clear hS
                        have hS := Below.refl w14.heap.size w14
                        replace HC := Lib.hid (HC.out.push hB)
                        clear hB hb
                        try simp only [Act.put, List.setIfInBounds_toArray, List.set_cons_zero, List.set_cons_succ]
                        refine wpAnyH_take (i := 12) (oi := ⟨some 202, _, _, _, _, _⟩) (v := ?_) rfl (by kernel_rfl) (by kernel_rfl) (by kernel_rfl) (fun _ _ _ h => h) (Or.inl ⟨by rfl, ?_⟩) hS ?_
                        rotate_left 1
                        · intro w' hB; have hd := (HC.out.to w9 (by simp)).trans (hB.mono (HC.out.to w9 (by simp)).size); have h9 := hd; have hr := D8.out.trans (h9.mono D8.out.size); have k16 := cell_of_one (boxStays X7.out.1 hr); have k19 := cell_of_one (boxStays X7.out.2.1 hr); have k23 := cell_of_one (boxStays X23.out h9); clear hd hr h9; obtain ⟨g1, g2, g3, g4, g5, g6⟩ := W2.out; (go_simp <;> with_reducible rfl)
                        try simp only [Act.put, List.setIfInBounds_toArray, List.set_cons_zero, List.set_cons_succ]
                        refine wpAnyH_take (i := 18) (oi := ⟨some 208, _, _, _, _, _⟩) (v := ?_) rfl (by kernel_rfl) (by kernel_rfl) (by kernel_rfl) (fun _ _ _ h => h) (Or.inl ⟨by rfl, ?_⟩) hS ?_
                        rotate_left 1
                        · intro w' hB; have hd := (HC.out.to w9 (by simp)).trans (hB.mono (HC.out.to w9 (by simp)).size); have h9 := hd; have hr := D8.out.trans (h9.mono D8.out.size); have k16 := cell_of_one (boxStays X7.out.1 hr); have k19 := cell_of_one (boxStays X7.out.2.1 hr); have k23 := cell_of_one (boxStays X23.out h9); clear hd hr h9; obtain ⟨g1, g2, g3, g4, g5, g6⟩ := W2.out; (go_simp <;> with_reducible rfl)
                        try simp only [Act.put, List.setIfInBounds_toArray, List.set_cons_zero, List.set_cons_succ]
                        refine wpAnyH_take (i := 19) (oi := ⟨some 209, _, _, _, _, _⟩) (v := ?_) rfl (by kernel_rfl) (by kernel_rfl) (by kernel_rfl) (fun _ _ _ h => h) (Or.inl ⟨by rfl, ?_⟩) hS ?_
                        rotate_left 1
                        · intro w' hB; have hd := (HC.out.to w9 (by simp)).trans (hB.mono (HC.out.to w9 (by simp)).size); have h9 := hd; have hr := D8.out.trans (h9.mono D8.out.size); have k16 := cell_of_one (boxStays X7.out.1 hr); have k19 := cell_of_one (boxStays X7.out.2.1 hr); have k23 := cell_of_one (boxStays X23.out h9); clear hd hr h9; obtain ⟨g1, g2, g3, g4, g5, g6⟩ := W2.out; (go_simp <;> with_reducible rfl)
                        try simp only [Act.put, List.setIfInBounds_toArray, List.set_cons_zero, List.set_cons_succ]
                        refine wpAnyH_done (by kernel_rfl) (NoPanic.normal ?_) _
                        have h9 := HC.out.to w9 (by simp)
                        have h7 := D8.out.trans (h9.mono D8.out.size)
                        have F9 := Lib.hid (F7.out.below h7)
                        have R9 := Lib.hid (R7.out.below h7)
                        have X9 := Lib.hid (boxStays X23.out h9)
                        have A9 := Lib.hid (AX.out.below h9 rfl)
                        have Z9 := Lib.hid (boxStays Z7.out h7)
                        clear h9 h7 hS HC F7 R7 X23 AX Z7 CH1 CH2 CH3 CH4 CH5 W1 W2 D8 X7 HDD
                        go_wp2_with fail
                        have HC : Hid (Chain [w14] w14) := Lib.hid (Chain.one w14)
                        refine wp_region_noPanic ?_
                        refine region_tail (S := fun w' => Below w14.heap.size w14 w') [7, 8] (by kernel_rfl) (Below.refl _ _).drew (fun hS => ?_)
                        refine anyT_take2 (i := 0) (oi := ⟨some 210, _, _, _, _, _⟩) (v := ?_) rfl (by kernel_rfl) (by kernel_rfl) (by rfl) (fun _ _ _ h => h) (by kernel_rfl) (by kernel_rfl) (by kernel_rfl) (Or.inl ⟨by rfl, ?_⟩) hS ?_
                        rotate_left 1
                        · intro w' hB; have hd := (HC.out.to w14 (by simp)).trans (hB.mono (HC.out.to w14 (by simp)).size); have k23 := cell_of_one (boxStays X9.out hd); have k12 := box3 (boxStays Z9.out hd); clear hd; (go_simp <;> with_reducible rfl)
                        try simp only [Act.put, List.setIfInBounds_toArray, List.set_cons_zero, List.set_cons_succ]
                        refine anyT_take2 (i := 1) (oi := ⟨some 211, _, _, _, _, _⟩) (v := ?_) rfl (by kernel_rfl) (by kernel_rfl) (by rfl) (fun _ _ _ h => h) (by kernel_rfl) (by kernel_rfl) (by kernel_rfl) (Or.inl ⟨by rfl, ?_⟩) hS ?_
                        rotate_left 1
                        · intro w' hB; have hd := (HC.out.to w14 (by simp)).trans (hB.mono (HC.out.to w14 (by simp)).size); have k23 := cell_of_one (boxStays X9.out hd); have k12 := box3 (boxStays Z9.out hd); clear hd; (go_simp <;> with_reducible rfl)
                        try simp only [Act.put, List.setIfInBounds_toArray, List.set_cons_zero, List.set_cons_succ]
                        refine anyT_take2 (i := 2) (oi := ⟨some 212, _, _, _, _, _⟩) (v := ?_) rfl (by kernel_rfl) (by kernel_rfl) (by rfl) (fun _ _ _ h => h) (by kernel_rfl) (by kernel_rfl) (by kernel_rfl) (Or.inl ⟨by rfl, ?_⟩) hS ?_
                        rotate_left 1
                        · intro w' hB; have hd := (HC.out.to w14 (by simp)).trans (hB.mono (HC.out.to w14 (by simp)).size); have k23 := cell_of_one (boxStays X9.out hd); have k12 := box3 (boxStays Z9.out hd); clear hd; (go_simp <;> with_reducible rfl)
                        try simp only [Act.put, List.setIfInBounds_toArray, List.set_cons_zero, List.set_cons_succ]
                        refine anyT_take2 (i := 3) (oi := ⟨some 213, _, _, _, _, _⟩) (v := ?_) rfl (by kernel_rfl) (by kernel_rfl) (by rfl) (fun _ _ _ h => h) (by kernel_rfl) (by kernel_rfl) (by kernel_rfl) (Or.inl ⟨by rfl, ?_⟩) hS ?_
                        rotate_left 1
                        · intro w' hB; have hd := (HC.out.to w14 (by simp)).trans (hB.mono (HC.out.to w14 (by simp)).size); have k23 := cell_of_one (boxStays X9.out hd); have k12 := box3 (boxStays Z9.out hd); clear hd; (go_simp <;> with_reducible rfl)
                        try simp only [Act.put, List.setIfInBounds_toArray, List.set_cons_zero, List.set_cons_succ]
                        refine anyT_take2 (i := 4) (oi := ⟨some 214, _, _, _, _, _⟩) (v := ?_) rfl (by kernel_rfl) (by kernel_rfl) (by rfl) (fun _ _ _ h => h) (by kernel_rfl) (by kernel_rfl) (by kernel_rfl) (Or.inl ⟨by rfl, ?_⟩) hS ?_
                        rotate_left 1
                        · intro w' hB; have hd := (HC.out.to w14 (by simp)).trans (hB.mono (HC.out.to w14 (by simp)).size); have k23 := cell_of_one (boxStays X9.out hd); have k12 := box3 (boxStays Z9.out hd); clear hd; (go_simp <;> with_reducible rfl)
                        try simp only [Act.put, List.setIfInBounds_toArray, List.set_cons_zero, List.set_cons_succ]
                        refine anyT_take2 (i := 5) (oi := ⟨some 215, _, _, _, _, _⟩) (v := ?_) rfl (by kernel_rfl) (by kernel_rfl) (by rfl) (fun _ _ _ h => h) (by kernel_rfl) (by kernel_rfl) (by kernel_rfl) (Or.inl ⟨by rfl, ?_⟩) hS ?_
                        rotate_left 1
                        · intro w' hB; have hd := (HC.out.to w14 (by simp)).trans (hB.mono (HC.out.to w14 (by simp)).size); have k23 := cell_of_one (boxStays X9.out hd); have k12 := box3 (boxStays Z9.out hd); clear hd; (go_simp <;> with_reducible rfl)
                        try simp only [Act.put, List.setIfInBounds_toArray, List.set_cons_zero, List.set_cons_succ]
                        refine anyT_ready (rs := [6]) (by kernel_rfl) (by kernel_rfl) (by simp) (AllReadyT.cons (o := ⟨some 216, _, _, _, _, _⟩) rfl (by rfl) (fun K hK => ?_) AllReadyT.nil)
                        go_simp
                        refine (lw_put2 (items t) key vl (.slice al z capl) _ ((F9.out.below ((HC.out.to w14 (by simp)).trans (hS.mono (HC.out.to w14 (by simp)).size))).2.2.1.at) (by rw [sz_items, HZ.out]; omega)).mono ?_
                        rintro e wL ⟨v8', rfl, hE, hb⟩
                        refine hK.out _ _ (hS.trans (hb.mono hS.size)) (fun _ => ?_)
                        clear hK K
                        have hB := hS.trans (hb.mono hS.size)
                        refine anyT_now hB ?_
                        clear hS
                        have hS := Below.refl wL.heap.size wL
                        replace HC := Lib.hid (HC.out.push hB)
                        have E1 := Lib.hid hE
                        clear hE
                        clear hB hb
                        try simp only [Act.put, List.setIfInBounds_toArray, List.set_cons_zero, List.set_cons_succ]
                        refine anyT_tail (by kernel_rfl) ?_
                        (try clear hS)
                        refine any_one (i := 7) (o := ⟨none, _, _, _, _, _⟩) (by kernel_rfl) rfl (by rfl) (fun K hK => ?_)
                        have F10 := Lib.hid (F9.out.below (HC.out.to w14 (by simp)))
                        have k7 := cell_of_one F10.out.2.1
                        have f7 := frozen_of_row _ w.heap.size 0 _ _ F10.out.2.1
                        go_simp
                        refine hK.out _ _ ?_
                        clear hK K
                        try simp only [Act.put, List.setIfInBounds_toArray, List.set_cons_zero, List.set_cons_succ]
                        refine wpAny_take (i := 8) (oi := ⟨some 8, _, _, _, _, _⟩) (v := ?_) rfl (by kernel_rfl) (by kernel_rfl) (by kernel_rfl) (fun _ _ _ h => h) (Or.inl ⟨by rfl, ?_⟩) ?_
                        rotate_left 1
                        · intro w'; (go_simp <;> with_reducible rfl)
                        try simp only [Act.put, List.setIfInBounds_toArray, List.set_cons_zero, List.set_cons_succ]
                        refine wpAny_done (by kernel_rfl) (NoPanic.normal ?_) _
                        have F11 := Lib.hid (F10.out.set (A9.out.below (HC.out.to w14 (by simp)) rfl) (by rw [HIX.out]; exact E1.out))
                        have R11 := Lib.hid ((R9.out.below (HC.out.to w14 (by simp))).set (.pointer (pa x')))
                        clear k7 f7 F10 E1 HC F9 R9 X9 A9 Z9
                        go_wp2_with fail
                        go_meet
                        exact ⟨x', F11, R11, GX⟩
              · have hb1 : (kd == 1) = false := beq_eq_false_iff_ne.2 hk1
                have hb2 : (kd == 2) = false := beq_eq_false_iff_ne.2 hk2
                have hb3 : (kd == 3) = false := beq_eq_false_iff_ne.2 hk3
                clear hk1 hk2 hk3
                have G5 : Hid (PlG (i + 1) t) := Lib.hid ⟨HG.out.1, HG.out.2.1, by have := HG.out.2.2; omega⟩
                go_wp2_with fail
                go_meet
                exact ⟨t, F3, R3, G5⟩
        case rest =>
          obtain ⟨t', F4, R4, G4⟩ := hcut
          clear F3 R3 Y12 Y13 HAT3 HP0 HTH
          have hx0 : True := trivial
          as_aux_lemma =>
            have k7 := cell_of_one F4.out.2.1
            obtain ⟨a8, cap8, hu8, _⟩ := F4.out.2.2.1.at
            subst hu8
            obtain ⟨m8, hm8⟩ : ∃ m, (items t').length = m := ⟨_, rfl⟩
            rw [hm8] at F4
            rw [hm8]
            clear hm8
            go_wp2_with fail
            refine (lw_tellsT t' (.slice a8 m8 cap8) leave fr wc F4.out.2.2.1 F4.out.1 G4.out.1 G4.out.2.1 (by have := G4.out.2.2; omega)).mono ?_
            rintro e wd ⟨rfl, hb⟩
            have F5 := Lib.hid (F4.out.below hb)
            have R5 := Lib.hid (R4.out.below hb)
            have EM := Lib.hid mapT
            have EE := Lib.hid entsT
            have htl := HTS.out.1
            have htv := R5.out.2.2
            have hws : w.heap.size < wd.heap.size := (Array.getElem?_eq_some_iff.1 F5.out.2.1).1
            have hlv : vs.length ≤ 60 := by omega
            have hlt2 : ts.length ≤ 60 := by omega
            have HLV : Hid (vs.length = ts.length ∧ ts.length = i) := Lib.hid ⟨htv, htl⟩
            clear hb k7 F4 R4 htl htv
            have k7 := cell_of_one F5.out.2.1
            go_wp2_with (first
              | (at_builtin; refine wpList_app rfl _ _ 55 55 rfl (w.heap.size + 1) 27 (.slice none 0 0) 1 24 EE.out u10 vs.length vs rfl (Q10.out.alloc _) _ 1 [.slice a8 m8 cap8] rfl ((CellsAt.new w5 27 (0, 0) [.slice a8 m8 cap8]).src rfl (by simp [Value.oneCell']) Try.underlying55 1 (Or.inl rfl)) (by omega) (by omega) (by have := D5.out.size; simp at this ⊢; omega) ?_; intro v10 w7 hown hgr hb _; have O10 := Lib.hid hown; have GR10 := Lib.hid hgr; have BR10 := Lib.hid hb; clear hown hgr hb)
              | (at_builtin; refine wpList_app rfl _ _ 54 54 rfl (w.heap.size + 1) 26 (.agg #[.pointer none]) 1 8 EM.out u9 ts.length (ts.map fun x => .pointer (pa x)) rfl (R5.out.1.alloc _) _ 1 [.pointer (pa t')] rfl ((CellsAt.new wd 26 (0, 0) [.pointer (pa t')]).src rfl (by simp [Value.oneCell']) Try.underlying54 1 (Or.inl rfl)) (by omega) (by omega) (by simp; omega) ?_; intro v9 w5 hown hgr hb _; have O9 := Lib.hid hown; have D5 : Hid (Below (w.heap.size + 1) (wd.alloc (.cells #[.pointer (pa t')] 26)) w5) := Lib.hid hb; have F6 := Lib.hid ((F5.out.below (below_new wd (.cells #[.pointer (pa t')] 26))).grown (R5.out.1.alloc _) hgr (by decide) (by decide) ((F5.out.2.2.2.1.trans ((below_new wd _).mono F5.out.2.2.2.1.size)).trans (hb.mono (by omega)))); have Q10 := Lib.hid (own_grown (R5.out.2.1.alloc (.cells #[.pointer (pa t')] 26)) hgr (fun k hk => own_apart R5.out.2.1 R5.out.1 (by decide) k hk)); clear hown hgr hb)
              | fail)
            have F8 := Lib.hid ((F6.out.below (below_new w5 (.cells #[.slice a8 m8 cap8] 27))).grown (Q10.out.alloc _) GR10.out (by decide) (by decide) ((F6.out.2.2.2.1.trans ((below_new w5 _).mono F6.out.2.2.2.1.size)).trans (BR10.out.mono (by omega))))
            have O9' := Lib.hid (own_grown (O9.out.alloc (.cells #[.slice a8 m8 cap8] 27)) GR10.out (fun k hk => own_apart O9.out Q10.out (by decide) k hk))
            clear k7 hws D5 Q10 O9 GR10 BR10 F6 F5 R5 EM EE
            have p1 : (intOf (Value.int .i64 ((i : Int) + 1))).toNat = i + 1 := by simp [intOf]
            have p2 : (intOf (Value.int .i64 (i : Int))).toNat = i := by simp [intOf]
            refine ⟨⟨i + 1, t', ts ++ [t'], vs ++ [.slice a8 m8 cap8], by simp, by omega, Lib.hid (F8.out.push HLV.out.1), Lib.hid ⟨?_, ?_, by simp [HLV.out.1]⟩, G4, Lib.hid ⟨by simp [HLV.out.2], fun x hx => ?_⟩⟩, ?_⟩
            · have := O9'.out
              rw [List.length_append, List.map_append]
              exact this
            · rw [List.length_append]
              exact O10.out
            · rcases List.mem_append.1 hx with hx | hx
              · exact HTS.out.2 x hx
              · obtain rfl := List.mem_singleton.1 hx
                exact ⟨G4.out.1, G4.out.2.1, by have := G4.out.2.2; omega⟩
            · first | (rw [p1, p2]; omega) | (simp [intOf]; omega)
      · have hin : i = n := by omega
        subst hin
        clear hlt
        have hli : ¬ (i : Int) < (i : Int) := by omega
        obtain ⟨a9, cap9, hu9, hc9, hm9⟩ := own_slice HR.out.1
        obtain ⟨a10, cap10, hu10, hc10, hm10⟩ := own_slice HR.out.2.1
        subst hu9
        subst hu10
        have HLV : Hid (vs.length = i ∧ ts.length = i) := Lib.hid ⟨by rw [HR.out.2.2, HTS.out.1], HTS.out.1⟩
        have C9 : Hid (CellsAt wr a9 (ts.map fun x => Value.pointer (pa x))) := Lib.hid (CellsAt.own HR.out.1)
        have C10 : Hid (CellsAt wr a10 vs) := Lib.hid (CellsAt.own HR.out.2.1)
        rw [HLV.out.1, HLV.out.2]
        clear HR hc9 hm9 hc10 hm10 HG hi
        go_wp2_with fail
        obtain ⟨wo, rfl⟩ : ∃ wo : World, wo = wr := ⟨_, rfl⟩
        go_loopw [26] (fun sj wr => ∃ j : Nat, sj = .int .i64 (j : Int) ∧ j ≤ i ∧ Hid (Below wo.heap.size wo wr)) (fun sj _ => i - (intOf sj).toNat)
        case atStart => exact ⟨0, rfl, Nat.zero_le _, Lib.hid (Below.refl _ _)⟩
        case round =>
          obtain ⟨j, rfl, hj, DB⟩ := hrel
          by_cases hji : j < i
          · have hx0 : True := trivial
            as_aux_lemma =>
              have hli2 : (j : Int) < (i : Int) := by omega
              have hnle2 : ¬ i ≤ j := by omega
              have hdle2 : decide (i ≤ j) = false := by simp; omega
              have hjt : j < ts.length := by rw [HLV.out.2]; exact hji
              obtain ⟨x, hx⟩ : ∃ x, ts[j]? = some x := ⟨_, List.getElem?_eq_getElem hjt⟩
              obtain ⟨v, hv, hAx, hEx⟩ := HF.out.2.2.2.2 j x hx
              have hGx := HTS.out.2 x (List.mem_of_getElem? hx)
              obtain ⟨b9, o9, ha9, hq9⟩ := C9.out.get j (.pointer (pa x)) (by rw [List.getElem?_map, hx]; rfl)
              obtain ⟨b10, o10, ha10, hq10⟩ := C10.out.get j v hv
              subst ha9
              subst ha10
              have GX := Lib.hid hGx
              have AX := Lib.hid hAx
              have EX := Lib.hid hEx
              have Q9 := Lib.hid hq9
              have Q10 := Lib.hid hq10
              clear hjt hx hv hAx hEx hGx hq9 hq10
              go_wp2_with fail
              have HC : Hid (Chain [wr] wr) := Lib.hid (Chain.one wr)
              refine wp_region_noPanic ?_
              refine wp_region_held_drew (S := fun w' => Below wr.heap.size wr w') (by kernel_rfl) (Below.refl _ _).drew (fun hS => ?_)
              refine wpAnyH_take (i := 0) (oi := ⟨some 237, _, _, _, _, _⟩) (v := ?_) rfl (by kernel_rfl) (by kernel_rfl) (by kernel_rfl) (fun _ _ _ h => h) (Or.inl ⟨by rfl, ?_⟩) hS ?_
              rotate_left 1
              · intro w' hB; have hd := (HC.out.to wr (by simp)).trans (hB.mono (HC.out.to wr (by simp)).size); have hr := DB.out.trans (hd.mono DB.out.size); have q9 := (hr.cell (p := ⟨b9, o9 + j, none⟩) (block_lt_of_cell Q9.out)).trans Q9.out; have q10 := (hr.cell (p := ⟨b10, o10 + j, none⟩) (block_lt_of_cell Q10.out)).trans Q10.out; clear hd hr; have hnle2 := hnle2; have hdle2 := hdle2; have hli2 := hli2; (go_simp <;> with_reducible rfl)
              try simp only [Act.put, List.setIfInBounds_toArray, List.set_cons_zero, List.set_cons_succ]
              refine wpAnyH_take (i := 1) (oi := ⟨some 238, _, _, _, _, _⟩) (v := ?_) rfl (by kernel_rfl) (by kernel_rfl) (by kernel_rfl) (fun _ _ _ h => h) (Or.inl ⟨by rfl, ?_⟩) hS ?_
              rotate_left 1
              · intro w' hB; have hd := (HC.out.to wr (by simp)).trans (hB.mono (HC.out.to wr (by simp)).size); have hr := DB.out.trans (hd.mono DB.out.size); have q9 := (hr.cell (p := ⟨b9, o9 + j, none⟩) (block_lt_of_cell Q9.out)).trans Q9.out; have q10 := (hr.cell (p := ⟨b10, o10 + j, none⟩) (block_lt_of_cell Q10.out)).trans Q10.out; clear hd hr; have hnle2 := hnle2; have hdle2 := hdle2; have hli2 := hli2; (go_simp <;> with_reducible rfl)
              try simp only [Act.put, List.setIfInBounds_toArray, List.set_cons_zero, List.set_cons_succ]
              refine wpAnyH_take (i := 2) (oi := ⟨some 239, _, _, _, _, _⟩) (v := ?_) rfl (by kernel_rfl) (by kernel_rfl) (by kernel_rfl) (fun _ _ _ h => h) (Or.inl ⟨by rfl, ?_⟩) hS ?_
              rotate_left 1
              · intro w' hB; have hd := (HC.out.to wr (by simp)).trans (hB.mono (HC.out.to wr (by simp)).size); have hr := DB.out.trans (hd.mono DB.out.size); have q9 := (hr.cell (p := ⟨b9, o9 + j, none⟩) (block_lt_of_cell Q9.out)).trans Q9.out; have q10 := (hr.cell (p := ⟨b10, o10 + j, none⟩) (block_lt_of_cell Q10.out)).trans Q10.out; clear hd hr; have hnle2 := hnle2; have hdle2 := hdle2; have hli2 := hli2; (go_simp <;> with_reducible rfl)
              try simp only [Act.put, List.setIfInBounds_toArray, List.set_cons_zero, List.set_cons_succ]
              refine wpAnyH_take (i := 3) (oi := ⟨some 240, _, _, _, _, _⟩) (v := ?_) rfl (by kernel_rfl) (by kernel_rfl) (by kernel_rfl) (fun _ _ _ h => h) (Or.inl ⟨by rfl, ?_⟩) hS ?_
              rotate_left 1
              · intro w' hB; have hd := (HC.out.to wr (by simp)).trans (hB.mono (HC.out.to wr (by simp)).size); have hr := DB.out.trans (hd.mono DB.out.size); have q9 := (hr.cell (p := ⟨b9, o9 + j, none⟩) (block_lt_of_cell Q9.out)).trans Q9.out; have q10 := (hr.cell (p := ⟨b10, o10 + j, none⟩) (block_lt_of_cell Q10.out)).trans Q10.out; clear hd hr; have hnle2 := hnle2; have hdle2 := hdle2; have hli2 := hli2; (go_simp <;> with_reducible rfl)
              try simp only [Act.put, List.setIfInBounds_toArray, List.set_cons_zero, List.set_cons_succ]
              refine wpAnyH_take (i := 4) (oi := ⟨some 241, _, _, _, _, _⟩) (v := ?_) rfl (by kernel_rfl) (by kernel_rfl) (by kernel_rfl) (fun _ _ _ h => h) (Or.inl ⟨by rfl, ?_⟩) hS ?_
              rotate_left 1
              · intro w' hB; have hd := (HC.out.to wr (by simp)).trans (hB.mono (HC.out.to wr (by simp)).size); have hr := DB.out.trans (hd.mono DB.out.size); have q9 := (hr.cell (p := ⟨b9, o9 + j, none⟩) (block_lt_of_cell Q9.out)).trans Q9.out; have q10 := (hr.cell (p := ⟨b10, o10 + j, none⟩) (block_lt_of_cell Q10.out)).trans Q10.out; clear hd hr; have hnle2 := hnle2; have hdle2 := hdle2; have hli2 := hli2; (go_simp <;> with_reducible rfl)
              try simp only [Act.put, List.setIfInBounds_toArray, List.set_cons_zero, List.set_cons_succ]
              refine wpAnyH_take (i := 5) (oi := ⟨some 242, _, _, _, _, _⟩) (v := ?_) rfl (by kernel_rfl) (by kernel_rfl) (by kernel_rfl) (fun _ _ _ h => h) (Or.inl ⟨by rfl, ?_⟩) hS ?_
              rotate_left 1
              · intro w' hB; have hd := (HC.out.to wr (by simp)).trans (hB.mono (HC.out.to wr (by simp)).size); have hr := DB.out.trans (hd.mono DB.out.size); have q9 := (hr.cell (p := ⟨b9, o9 + j, none⟩) (block_lt_of_cell Q9.out)).trans Q9.out; have q10 := (hr.cell (p := ⟨b10, o10 + j, none⟩) (block_lt_of_cell Q10.out)).trans Q10.out; clear hd hr; have hnle2 := hnle2; have hdle2 := hdle2; have hli2 := hli2; (go_simp <;> with_reducible rfl)
              try simp only [Act.put, List.setIfInBounds_toArray, List.set_cons_zero, List.set_cons_succ]
              refine wpAnyH_take (i := 6) (oi := ⟨some 243, _, _, _, _, _⟩) (v := ?_) rfl (by kernel_rfl) (by kernel_rfl) (by kernel_rfl) (fun _ _ _ h => h) (Or.inl ⟨by rfl, ?_⟩) hS ?_
              rotate_left 1
              · intro w' hB; have hd := (HC.out.to wr (by simp)).trans (hB.mono (HC.out.to wr (by simp)).size); have hr := DB.out.trans (hd.mono DB.out.size); have q9 := (hr.cell (p := ⟨b9, o9 + j, none⟩) (block_lt_of_cell Q9.out)).trans Q9.out; have q10 := (hr.cell (p := ⟨b10, o10 + j, none⟩) (block_lt_of_cell Q10.out)).trans Q10.out; clear hd hr; have hnle2 := hnle2; have hdle2 := hdle2; have hli2 := hli2; (go_simp <;> with_reducible rfl)
              try simp only [Act.put, List.setIfInBounds_toArray, List.set_cons_zero, List.set_cons_succ]
              refine wpAnyH_take (i := 7) (oi := ⟨some 244, _, _, _, _, _⟩) (v := ?_) rfl (by kernel_rfl) (by kernel_rfl) (by kernel_rfl) (fun _ _ _ h => h) (Or.inl ⟨by rfl, ?_⟩) hS ?_
              rotate_left 1
              · intro w' hB; have hd := (HC.out.to wr (by simp)).trans (hB.mono (HC.out.to wr (by simp)).size); have hr := DB.out.trans (hd.mono DB.out.size); have q9 := (hr.cell (p := ⟨b9, o9 + j, none⟩) (block_lt_of_cell Q9.out)).trans Q9.out; have q10 := (hr.cell (p := ⟨b10, o10 + j, none⟩) (block_lt_of_cell Q10.out)).trans Q10.out; clear hd hr; have hnle2 := hnle2; have hdle2 := hdle2; have hli2 := hli2; (go_simp <;> with_reducible rfl)
              try simp only [Act.put, List.setIfInBounds_toArray, List.set_cons_zero, List.set_cons_succ]
              refine wpAnyH_take (i := 8) (oi := ⟨some 245, _, _, _, _, _⟩) (v := ?_) rfl (by kernel_rfl) (by kernel_rfl) (by kernel_rfl) (fun _ _ _ h => h) (Or.inl ⟨by rfl, ?_⟩) hS ?_
              rotate_left 1
              · intro w' hB; have hd := (HC.out.to wr (by simp)).trans (hB.mono (HC.out.to wr (by simp)).size); have hr := DB.out.trans (hd.mono DB.out.size); have q9 := (hr.cell (p := ⟨b9, o9 + j, none⟩) (block_lt_of_cell Q9.out)).trans Q9.out; have q10 := (hr.cell (p := ⟨b10, o10 + j, none⟩) (block_lt_of_cell Q10.out)).trans Q10.out; clear hd hr; have hnle2 := hnle2; have hdle2 := hdle2; have hli2 := hli2; (go_simp <;> with_reducible rfl)
              try simp only [Act.put, List.setIfInBounds_toArray, List.set_cons_zero, List.set_cons_succ]
              refine wpAnyH_take (i := 9) (oi := ⟨some 246, _, _, _, _, _⟩) (v := ?_) rfl (by kernel_rfl) (by kernel_rfl) (by kernel_rfl) (fun _ _ _ h => h) (Or.inl ⟨by rfl, ?_⟩) hS ?_
              rotate_left 1
              · intro w' hB; have hd := (HC.out.to wr (by simp)).trans (hB.mono (HC.out.to wr (by simp)).size); have hr := DB.out.trans (hd.mono DB.out.size); have q9 := (hr.cell (p := ⟨b9, o9 + j, none⟩) (block_lt_of_cell Q9.out)).trans Q9.out; have q10 := (hr.cell (p := ⟨b10, o10 + j, none⟩) (block_lt_of_cell Q10.out)).trans Q10.out; clear hd hr; have hnle2 := hnle2; have hdle2 := hdle2; have hli2 := hli2; (go_simp <;> with_reducible rfl)
              try simp only [Act.put, List.setIfInBounds_toArray, List.set_cons_zero, List.set_cons_succ]
              refine wpAnyH_ready (rs := [10]) (by kernel_rfl) (by simp) (AllReadyH.cons (o := ⟨some 247, _, _, _, _, _⟩) rfl (fun K hK => ?_) AllReadyH.nil)
              go_simp
              refine (lw_tellsT x v leave fr _ (EX.out.below (DB.out.trans (((HC.out.to wr (by simp)).trans (hS.mono (HC.out.to wr (by simp)).size)).mono DB.out.size))) (AX.out.below (DB.out.trans (((HC.out.to wr (by simp)).trans (hS.mono (HC.out.to wr (by simp)).size)).mono DB.out.size)) rfl) GX.out.1 GX.out.2.1 (by have := GX.out.2.2; omega)).mono ?_
              rintro e w2 ⟨rfl, hb⟩
              refine hK.out _ _ (hS.trans (hb.mono hS.size)) (fun _ => ?_)
              clear hK K
              have hB := hS.trans (hb.mono hS.size)
              refine wpAnyH_now hB ?_
              clear hS
              have hS := Below.refl w2.heap.size w2
              replace HC := Lib.hid (HC.out.push hB)
              clear hB hb
              try simp only [Act.put, List.setIfInBounds_toArray, List.set_cons_zero, List.set_cons_succ]
              refine wpAnyH_take (i := 11) (oi := ⟨some 248, _, _, _, _, _⟩) (v := ?_) rfl (by kernel_rfl) (by kernel_rfl) (by kernel_rfl) (fun _ _ _ h => h) (Or.inl ⟨by rfl, ?_⟩) hS ?_
              rotate_left 1
              · intro w' hB; have hd := (HC.out.to wr (by simp)).trans (hB.mono (HC.out.to wr (by simp)).size); have hr := DB.out.trans (hd.mono DB.out.size); have q9 := (hr.cell (p := ⟨b9, o9 + j, none⟩) (block_lt_of_cell Q9.out)).trans Q9.out; have q10 := (hr.cell (p := ⟨b10, o10 + j, none⟩) (block_lt_of_cell Q10.out)).trans Q10.out; clear hd hr; have hnle2 := hnle2; have hdle2 := hdle2; have hli2 := hli2; (go_simp <;> with_reducible rfl)
              try simp only [Act.put, List.setIfInBounds_toArray, List.set_cons_zero, List.set_cons_succ]
              refine wpAnyH_done (by kernel_rfl) (NoPanic.normal ?_) _
              have D2 := Lib.hid (DB.out.trans ((HC.out.to wr (by simp)).mono DB.out.size))
              clear hS HC DB
              go_wp2_with fail
              have p1 : (intOf (Value.int .i64 ((j : Int) + 1))).toNat = j + 1 := by simp [intOf]
              have p2 : (intOf (Value.int .i64 (j : Int))).toNat = j := by simp [intOf]
              refine ⟨⟨j + 1, by simp, by omega, D2⟩, ?_⟩
              first | (rw [p1, p2]; omega) | (simp [intOf]; omega)
          · go_wp2_with fail
            refine (lw_known wr).mono ?_
            rintro e w3 ⟨rfl, hb⟩
            have DD : Hid (Below w.heap.size w w3) := Lib.hid ((HF.out.2.2.2.1.trans (DB.out.mono HF.out.2.2.2.1.size)).trans (hb.mono (Nat.le_trans HF.out.2.2.2.1.size DB.out.size)))
            clear hb
            go_wp2_with fail
            go_ret
            exact ⟨rfl, DD.out⟩
end Go.Proofs.Ytikdlhbamdefaaa

