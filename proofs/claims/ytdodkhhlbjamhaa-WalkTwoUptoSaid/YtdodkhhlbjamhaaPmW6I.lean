
/- Walks: a map's methods. -/
import Derived.Test.YtdodkhhlbjamhaaPmW5I
import Derived.WalkKit
import Derived.LaidEqlPtr
import Derived.OneCell
import Derived.Test.YtdodkhhlbjamhaaTr2
namespace Go.Proofs.Ytdodkhhlbjamhaa
open Go.RowKit Pm
def Pm.isNI : Tr Int → Bool
  | .nil => false
  | .node _ _ _ _ _ => true
/-- The height that a pointer's node bears. -/
def hOfI (w : World) (v : Value) : Nat := match v with
  | .pointer (some a) => match w.cell? ⟨a.block, 4, none⟩ with
    | some (.int _ n) => n.toNat
    | _ => 0
  | _ => 0
theorem hOf_atI {w : World} {t : Tr Int} (h : AtI w t) : hOfI w (.pointer (pa t)) = ht t := by
  cases t with
  | nil => rfl
  | node b l k v r =>
    obtain ⟨_, _, _, _, c4, _⟩ := h.cells
    simp [hOfI, pa, c4]
theorem pm_MRootI (t : Tr Int) (w : World) : Calls Try.prog 28 #[.agg #[.pointer (pa t)]] w fun e w' => e = .returned (.pointer (pa t)) ∧ Below w.heap.size w w' := by
  go_enter Try.func28, Try.ntmps28
  go_wp2_with fail
  go_ret
  exact ⟨rfl, below_new _ _⟩
theorem pm_MLenI (t : Tr Int) (w : World) (h : AtI w t) : Calls Try.prog 19 #[.agg #[.pointer (pa t)]] w fun e w' => e = .returned (.int .i64 (sz t : Int)) ∧ Below w.heap.size w w' := by
  have H := Lib.hid h; clear h
  go_enter Try.func19, Try.ntmps19
  go_wp2_with fail
  refine (pm_LenI t _ (H.out.below (below_new _ _) rfl)).mono ?_
  rintro e w' ⟨rfl, rfl⟩
  go_wp2_with fail
  go_ret
  exact ⟨rfl, below_new _ _⟩
theorem infoNodeI : (Try.prog.info? 77).map (fun i => i.size) = some 6 := by kernel_rfl
theorem ptr_eqlI (w : World) (t o : Tr Int) (h1 : AtI w t) (h2 : AtI w o) : (binOp .eql 27 (.pointer (pa t)) (.pointer (pa o))).run Try.prog w = .ok (.bool (decide (pa t = pa o))) w := by
  have hp := Try.underlying27
  obtain ⟨j, hj, hs⟩ : ∃ j, Try.prog.info? 77 = some j ∧ j.size = 6 := by
    have h := infoNodeI
    cases hi : Try.prog.info? 77 with
    | none => rw [hi] at h; cases h
    | some j => rw [hi] at h; exact ⟨j, rfl, by simpa using h⟩
  cases o with
  | nil =>
    cases t with
    | nil =>
      have h : ∀ d : Nat, (Op.equalIn (d + 1) 27 (.pointer none) (.pointer none)).run Try.prog w = .ok true w := fun d => by simp [Op.equalIn, run_underlying hp]
      simp only [binOp, pa]
      simp [Op.equal, Op.maxDepth, h 9999]
    | node b l k v r =>
      have h : ∀ d : Nat, (Op.equalIn (d + 1) 27 (.pointer (some ⟨b, 0, none⟩)) (.pointer none)).run Try.prog w = .ok false w := fun d => by simp [Op.equalIn, run_underlying hp]
      simp only [binOp, pa]
      simp [Op.equal, Op.maxDepth, h 9999]
  | node b' l' k' v' r' =>
    cases t with
    | nil =>
      have h : ∀ d : Nat, (Op.equalIn (d + 1) 27 (.pointer none) (.pointer (some ⟨b', 0, none⟩))).run Try.prog w = .ok false w := fun d => by simp [Op.equalIn, run_underlying hp]
      simp only [binOp, pa]
      simp [Op.equal, Op.maxDepth, h 9999]
    | node b l k v r =>
      by_cases hb : b = b'
      · subst hb
        have h := run_eql_ptr_same w ⟨b, 0, none⟩ hp hj
        simp only [pa, decide_true]
        exact h
      · have h := run_eql_ptr_other w hp hj (by omega) (a := ⟨b, 0, none⟩) (b := ⟨b', 0, none⟩) (by simp [hb]) h1.1 h2.1
        simp only [pa]
        rw [h]
        simp [hb]
theorem pm_MSameI (t o : Tr Int) (w : World) (h1 : AtI w t) (h2 : AtI w o) : Calls Try.prog 12 #[.agg #[.pointer (pa t)], .agg #[.pointer (pa o)]] w fun e w' => e = .returned (.bool (decide (pa t = pa o))) ∧ Below w.heap.size w w' := by
  have hb : Below w.heap.size w ((w.alloc (.cells #[.pointer (pa t)] 29)).alloc (.cells #[.pointer (pa o)] 29)) := (below_new w _).trans ((below_new _ _).mono (by simp))
  have he := ptr_eqlI _ t o (h1.below hb rfl) (h2.below hb rfl)
  clear h1 h2
  have HB := Lib.hid hb
  clear hb
  obtain ⟨q, hq⟩ : ∃ q, decide (pa t = pa o) = q := ⟨_, rfl⟩
  rw [hq] at he
  have HQ := Lib.hid hq
  clear hq
  go_enter Try.func12, Try.ntmps12
  go_wp2_with fail
  go_ret
  rw [HQ.out]
  exact ⟨rfl, HB.out⟩
theorem pm_toldI (t : Tr Int) (w : World) (h : AtI w t) : Calls Try.prog 48 #[.pointer (pa t)] w fun e w' => e = .returned (.tuple #[.string (keyOr t), .int .i64 (valOr t), .bool (isNI t)]) ∧ w = w' := by
  have H := Lib.hid h; clear h
  obtain ⟨q, hq⟩ : ∃ q, isNI t = q := ⟨_, rfl⟩
  have hn : (!(pa t).isNone) = q := by rw [← hq]; cases t <;> rfl
  rw [hq]
  have HQ := Lib.hid hq
  clear hq
  go_enter Try.func48, Try.ntmps48
  go_wp2_with fail
  refine (pm_KeyI t _ H.out).mono ?_
  rintro e w' ⟨rfl, rfl⟩
  go_wp2_with fail
  refine (pm_ValueI t _ H.out).mono ?_
  rintro e w' ⟨rfl, rfl⟩
  go_wp2_with fail
  go_ret3
  exact ⟨rfl, rfl⟩
set_option maxHeartbeats 1000000 in
theorem pm_endLI (t : Tr Int) (w : World) (h : AtI w t) : Calls Try.prog 53 #[.pointer (pa t), .func (.func 54) #[] #[]] w fun e w' => e = .returned (.pointer (pa (endL t))) ∧ AtI w' (endL t) ∧ w = w' := by
  have H := Lib.hid h; clear h
  go_enter Try.func53, Try.ntmps53
  go_wp2_with fail
  go_loopw [0] (fun u wr => ∃ s : Tr Int, u = .pointer (pa s) ∧ Hid (AtI wr s) ∧ Hid (endL s = endL t) ∧ Hid (w = wr)) (fun u wr => hOfI wr u)
  case atStart => exact ⟨t, rfl, H, Lib.hid rfl, Lib.hid rfl⟩
  case round =>
    obtain ⟨s, rfl, HA, HE, HW⟩ := hrel
    cases s with
    | nil =>
      go_wp2_with fail
      refine (pm_LeftI .nil _ HA.out).mono ?_
      rintro e w' ⟨rfl, rfl⟩
      have hpn : pa (leftOr (.nil : Tr Int)) = none := rfl
      go_wp2_with fail
      go_ret
      rw [← HE.out]
      exact ⟨rfl, trivial, HW.out⟩
    | node b l k v r =>
      cases l with
      | nil =>
        go_wp2_with fail
        refine (pm_LeftI (.node b .nil k v r) _ HA.out).mono ?_
        rintro e w' ⟨rfl, rfl⟩
        have hpn : pa (leftOr (.node b .nil k v r : Tr Int)) = none := rfl
        go_wp2_with fail
        go_ret
        rw [← HE.out]
        exact ⟨rfl, HA.out, HW.out⟩
      | node b' l' k' v' r' =>
        go_wp2_with fail
        refine (pm_LeftI (.node b (.node b' l' k' v' r') k v r) _ HA.out).mono ?_
        rintro e w' ⟨rfl, rfl⟩
        have hpn : pa (leftOr (.node b (.node b' l' k' v' r') k v r : Tr Int)) = some ⟨b', 0, none⟩ := rfl
        go_wp2_with fail
        refine (pm_LeftI (.node b (.node b' l' k' v' r') k v r) _ HA.out).mono ?_
        rintro e w' ⟨rfl, rfl⟩
        go_wp2_with fail
        refine ⟨⟨.node b' l' k' v' r', rfl, Lib.hid HA.out.2.1, Lib.hid HE.out, HW⟩, ?_⟩
        rw [hOf_atI HA.out]
        have e : hOfI wr (.pointer (some ⟨b', 0, none⟩)) = ht (.node b' l' k' v' r' : Tr Int) := hOf_atI HA.out.2.1
        rw [e]
        simp only [ht]; omega
set_option maxHeartbeats 1000000 in
theorem pm_endRI (t : Tr Int) (w : World) (h : AtI w t) : Calls Try.prog 53 #[.pointer (pa t), .func (.func 55) #[] #[]] w fun e w' => e = .returned (.pointer (pa (endR t))) ∧ AtI w' (endR t) ∧ w = w' := by
  have H := Lib.hid h; clear h
  go_enter Try.func53, Try.ntmps53
  go_wp2_with fail
  go_loopw [0] (fun u wr => ∃ s : Tr Int, u = .pointer (pa s) ∧ Hid (AtI wr s) ∧ Hid (endR s = endR t) ∧ Hid (w = wr)) (fun u wr => hOfI wr u)
  case atStart => exact ⟨t, rfl, H, Lib.hid rfl, Lib.hid rfl⟩
  case round =>
    obtain ⟨s, rfl, HA, HE, HW⟩ := hrel
    cases s with
    | nil =>
      go_wp2_with fail
      refine (pm_RightI .nil _ HA.out).mono ?_
      rintro e w' ⟨rfl, rfl⟩
      have hpn : pa (rightOr (.nil : Tr Int)) = none := rfl
      go_wp2_with fail
      go_ret
      rw [← HE.out]
      exact ⟨rfl, trivial, HW.out⟩
    | node b l k v r =>
      cases r with
      | nil =>
        go_wp2_with fail
        refine (pm_RightI (.node b l k v .nil) _ HA.out).mono ?_
        rintro e w' ⟨rfl, rfl⟩
        have hpn : pa (rightOr (.node b l k v .nil : Tr Int)) = none := rfl
        go_wp2_with fail
        go_ret
        rw [← HE.out]
        exact ⟨rfl, HA.out, HW.out⟩
      | node b' l' k' v' r' =>
        go_wp2_with fail
        refine (pm_RightI (.node b l k v (.node b' l' k' v' r')) _ HA.out).mono ?_
        rintro e w' ⟨rfl, rfl⟩
        have hpn : pa (rightOr (.node b l k v (.node b' l' k' v' r') : Tr Int)) = some ⟨b', 0, none⟩ := rfl
        go_wp2_with fail
        refine (pm_RightI (.node b l k v (.node b' l' k' v' r')) _ HA.out).mono ?_
        rintro e w' ⟨rfl, rfl⟩
        go_wp2_with fail
        refine ⟨⟨.node b' l' k' v' r', rfl, Lib.hid HA.out.2.2, Lib.hid HE.out, HW⟩, ?_⟩
        rw [hOf_atI HA.out]
        have e : hOfI wr (.pointer (some ⟨b', 0, none⟩)) = ht (.node b' l' k' v' r' : Tr Int) := hOf_atI HA.out.2.2
        rw [e]
        simp only [ht]; omega
theorem AtI.endL {w : World} : ∀ {t : Tr Int}, AtI w t → AtI w (endL t)
  | .nil, _ => trivial
  | .node _ .nil _ _ _, h => h
  | .node _ (.node b l k v r) _ _ _, h => AtI.endL (t := .node b l k v r) h.2.1
theorem AtI.endR {w : World} : ∀ {t : Tr Int}, AtI w t → AtI w (endR t)
  | .nil, _ => trivial
  | .node _ _ _ _ .nil, h => h
  | .node _ _ _ _ (.node b l k v r), h => AtI.endR (t := .node b l k v r) h.2.2
theorem AtI.seek {w : World} {k : ByteArray} : ∀ {t : Tr Int}, AtI w t → AtI w (seek k t)
  | .nil, _ => trivial
  | .node b l k0 v0 r, h => by
    simp only [Pm.seek]
    split
    · exact AtI.seek h.2.1
    · split
      · exact AtI.seek h.2.2
      · exact h
theorem pm_MFirstI (t : Tr Int) (w : World) (h : AtI w t) : Calls Try.prog 43 #[.agg #[.pointer (pa t)]] w fun e w' => e = .returned (.tuple #[.string (keyOr (endL t)), .int .i64 (valOr (endL t)), .bool (isNI (endL t))]) ∧ Below w.heap.size w w' := by
  have H := Lib.hid (h.below (below_new w (.cells #[.pointer (pa t)] 29)) rfl); clear h
  go_enter Try.func43, Try.ntmps43
  go_wp2_with fail
  refine (pm_endLI t _ H.out).mono ?_
  rintro e w' ⟨rfl, HE, rfl⟩
  have HE := Lib.hid HE
  go_wp2_with fail
  refine (pm_toldI (endL t) _ HE.out).mono ?_
  rintro e w' ⟨rfl, rfl⟩
  go_wp2_with fail
  go_ret3
  exact ⟨rfl, below_new _ _⟩
theorem pm_MLastI (t : Tr Int) (w : World) (h : AtI w t) : Calls Try.prog 44 #[.agg #[.pointer (pa t)]] w fun e w' => e = .returned (.tuple #[.string (keyOr (endR t)), .int .i64 (valOr (endR t)), .bool (isNI (endR t))]) ∧ Below w.heap.size w w' := by
  have H := Lib.hid (h.below (below_new w (.cells #[.pointer (pa t)] 29)) rfl); clear h
  go_enter Try.func44, Try.ntmps44
  go_wp2_with fail
  refine (pm_endRI t _ H.out).mono ?_
  rintro e w' ⟨rfl, HE, rfl⟩
  have HE := Lib.hid HE
  go_wp2_with fail
  refine (pm_toldI (endR t) _ HE.out).mono ?_
  rintro e w' ⟨rfl, rfl⟩
  go_wp2_with fail
  go_ret3
  exact ⟨rfl, below_new _ _⟩
set_option maxHeartbeats 1000000 in
theorem pm_MGetI (t : Tr Int) (k : ByteArray) (w : World) (h : AtI w t) : Calls Try.prog 16 #[.agg #[.pointer (pa t)], .string k] w fun e w' => e = .returned (.tuple #[.int .i64 (valOr (seek k t)), .bool (isNI (seek k t))]) ∧ Below w.heap.size w w' := by
  have HB := Lib.hid (below_new w (.cells #[.pointer (pa t)] 29))
  have H := Lib.hid (h.below HB.out rfl); clear h
  go_enter Try.func16, Try.ntmps16
  go_wp2_with fail
  generalize w.alloc (.cells #[.pointer (pa t)] 29) = w1 at *
  go_loopw [6] (fun u wr => ∃ s : Tr Int, u = .pointer (pa s) ∧ Hid (AtI wr s) ∧ Hid (seek k s = seek k t) ∧ Hid (w1 = wr)) (fun u wr => hOfI wr u)
  case atStart => exact ⟨t, rfl, H, Lib.hid rfl, Lib.hid rfl⟩
  case round =>
    obtain ⟨s, rfl, HA, HE, HW⟩ := hrel
    have fin : s = seek k t → Hid (s = seek k t) := Lib.hid
    cases s with
    | nil =>
      have HQ := fin HE.out
      clear fin
      have hpn : pa (.nil : Tr Int) = none := rfl
      go_wp2_with fail
      refine (pm_ValueI .nil _ HA.out).mono ?_
      rintro e w' ⟨rfl, rfl⟩
      go_wp2_with fail
      go_ret2
      rw [← HQ.out, ← HW.out]
      exact ⟨rfl, HB.out⟩
    | node b l k0 v0 r =>
      have hpn : pa (.node b l k0 v0 r : Tr Int) = some ⟨b, 0, none⟩ := rfl
      obtain ⟨x0, x1, x2, x3⟩ := HA.out.cellsP (pa l) (pa r) rfl rfl
      by_cases h0 : k0 = k
      · subst h0
        have HQ := fin (by rw [← HE.out]; simp only [Pm.seek]; rw [klt_irrefl]; simp)
        clear fin
        go_wp2_with fail
        refine (pm_ValueI (.node b l k0 v0 r) _ HA.out).mono ?_
        rintro e w' ⟨rfl, rfl⟩
        go_wp2_with fail
        go_ret2
        rw [← HQ.out, ← HW.out]
        exact ⟨rfl, HB.out⟩
      · have hke : (k0.toList == k.toList) = false := by rw [eq_iff]; simp [h0]
        by_cases h1 : klt k k0 = true
        · have hk : Op.bytesLess k.toList k0.toList = true := h1
          go_wp2_with fail
          refine ⟨⟨l, rfl, Lib.hid HA.out.2.1, Lib.hid ?_, HW⟩, ?_⟩
          · rw [← HE.out]; simp only [Pm.seek]; rw [if_pos h1]
          · rw [hOf_atI HA.out, hOf_atI HA.out.2.1]; simp only [ht]; omega
        · have hk : Op.bytesLess k.toList k0.toList = false := by simpa [klt] using h1
          have h2 : klt k0 k = true := by
            cases h2 : klt k0 k with
            | true => rfl
            | false => exact absurd (klt_tri h2 (by simpa using h1)) h0
          go_wp2_with fail
          refine ⟨⟨r, rfl, Lib.hid HA.out.2.2, Lib.hid ?_, HW⟩, ?_⟩
          · rw [← HE.out]; simp only [Pm.seek]; rw [if_neg h1, if_pos h2]
          · rw [hOf_atI HA.out, hOf_atI HA.out.2.2]; simp only [ht]; omega
theorem pm_MPutI (t : Tr Int) (k : ByteArray) (v : Int) (N : Nat) (w : World) (hN : N ≤ w.heap.size) (h : AtI w t) (hs : sz t + 2 ≤ 1099511627776) : Calls Try.prog 25 #[.agg #[.pointer (pa t)], .string k, .int .i64 v] w fun e w' =>
    ∃ t', PutR N k v t t' ∧ e = .returned (.agg #[.pointer (pa t')]) ∧ AtI w' t' ∧ Below w.heap.size w w' := by
  obtain ⟨w1, hw1⟩ : ∃ w1, (w.alloc (.cells #[.pointer (pa t)] 29)).alloc (.cells #[.pointer none] 29) = w1 := ⟨_, rfl⟩
  have hb : Below w.heap.size w w1 := by rw [← hw1]; exact ((Below.refl _ w).alloc (Nat.le_refl _) _).alloc (by simp) _
  have h1 : w1.heap[w.heap.size + 1]? = some (.cells #[.pointer none] 29 (0, 0)) := by rw [← hw1]; have := heap_alloc_new (w.alloc (.cells #[.pointer (pa t)] 29)) (.cells #[.pointer none] 29); simpa using this
  have HX := Lib.hid h1
  have H := Lib.hid (h.below hb rfl)
  have HB := Lib.hid hb
  have HW := Lib.hid hw1
  clear h hb hw1 h1
  go_enter Try.func25, Try.ntmps25
  go_wp2_with fail
  rw [HW.out]
  refine (pm_putI k v t N w1 (Nat.le_trans hN HB.out.size) H.out hs).mono ?_
  rintro e w2 ⟨t', hP, rfl, hA, hb⟩
  have P1 := Lib.hid hP
  have A1 := Lib.hid hA
  have D1 : Hid (Below w.heap.size w w2) := Lib.hid (HB.out.trans (hb.mono HB.out.size))
  have X2 : Hid (w2.heap[w.heap.size + 1]? = some (.cells #[.pointer none] 29 (0, 0))) := Lib.hid (boxStays HX.out hb)
  clear hP hA hb
  have f0 := frozen_of_row _ (w.heap.size + 1) 0 _ _ X2.out
  have k0 := cell_of_one X2.out
  go_wp2_with fail
  have k1 := cell_of_one (heap_setCell_same w2 (w.heap.size + 1) 0 _ _ (.pointer (pa t')) X2.out)
  clear k0 f0
  refine bodyPost_ret (v := .agg #[.pointer (pa t')]) (by simp [results, Try.results25, go_sem, k1]) rfl ?_
  exact ⟨_, P1.out, rfl, A1.out.setBox X2.out (by decide) 0 _, D1.out.setCell (p := ⟨w.heap.size + 1, 0, none⟩) (by simp) _⟩
theorem pm_MTakeI (t : Tr Int) (k : ByteArray) (N : Nat) (w : World) (hN : N ≤ w.heap.size) (h : AtI w t) (hs : sz t + 2 ≤ 1099511627776) : Calls Try.prog 24 #[.agg #[.pointer (pa t)], .string k] w fun e w' =>
    ∃ t', ((seek k t = .nil ∧ t' = t) ∨ (seek k t ≠ .nil ∧ TakeR N k t t')) ∧ e = .returned (.agg #[.pointer (pa t')]) ∧ AtI w' t' ∧ Below w.heap.size w w' := by
  obtain ⟨w1, hw1⟩ : ∃ w1, (w.alloc (.cells #[.pointer (pa t)] 29)).alloc (.cells #[.pointer none] 29) = w1 := ⟨_, rfl⟩
  have hb : Below w.heap.size w w1 := by rw [← hw1]; exact ((Below.refl _ w).alloc (Nat.le_refl _) _).alloc (by simp) _
  have h0 : w1.heap[w.heap.size]? = some (.cells #[.pointer (pa t)] 29 (0, 0)) := by rw [← hw1]; exact boxStays (heap_alloc_new w _) (below_new _ _)
  have h1 : w1.heap[w.heap.size + 1]? = some (.cells #[.pointer none] 29 (0, 0)) := by rw [← hw1]; have := heap_alloc_new (w.alloc (.cells #[.pointer (pa t)] 29)) (.cells #[.pointer none] 29); simpa using this
  have HX0 := Lib.hid h0
  have HX := Lib.hid h1
  have H := Lib.hid (h.below hb rfl)
  have HB := Lib.hid hb
  have HW := Lib.hid hw1
  clear h hb hw1 h1 h0
  go_enter Try.func24, Try.ntmps24
  go_wp2_with fail
  rw [HW.out]
  refine (pm_MGetI t k w1 H.out).mono ?_
  rintro e w2 ⟨rfl, hb⟩
  have D1 : Hid (Below w.heap.size w w2) := Lib.hid (HB.out.trans (hb.mono HB.out.size))
  have A1 := Lib.hid (H.out.below hb rfl)
  have X0 := Lib.hid (boxStays HX0.out hb)
  have X2 := Lib.hid (boxStays HX.out hb)
  clear hb H HX0 HX HB HW
  have f0 := frozen_of_row _ (w.heap.size + 1) 0 _ _ X2.out
  have k0 := cell_of_one X2.out
  have k2 := cell_of_one X0.out
  cases hsk : seek k t with
  | nil =>
    have HSK := Lib.hid hsk
    clear hsk
    have hi : isNI (.nil : Tr Int) = false := rfl
    go_wp2_with fail
    have k1 := cell_of_one (heap_setCell_same w2 (w.heap.size + 1) 0 _ _ (.pointer (pa t)) X2.out)
    clear k0 f0 k2
    refine bodyPost_ret (v := .agg #[.pointer (pa t)]) (by simp [results, Try.results24, go_sem, k1]) rfl ?_
    exact ⟨_, .inl ⟨HSK.out, rfl⟩, rfl, A1.out.setBox X2.out (by decide) 0 _, D1.out.setCell (p := ⟨w.heap.size + 1, 0, none⟩) (by simp) _⟩
  | node b l k1 v1 r =>
    have HSK : Hid (seek k t ≠ .nil) := Lib.hid (by rw [hsk]; simp)
    clear hsk
    have hi : isNI (.node b l k1 v1 r : Tr Int) = true := rfl
    go_wp2_with fail
    refine (pm_takeI k t N w2 HSK.out (Nat.le_trans hN D1.out.size) A1.out hs).mono ?_
    rintro e w3 ⟨t', hP, rfl, hA, hb⟩
    have P1 := Lib.hid hP
    have A2 := Lib.hid hA
    have D2 : Hid (Below w.heap.size w w3) := Lib.hid (D1.out.trans (hb.mono D1.out.size))
    have X3 := Lib.hid (boxStays X2.out hb)
    clear hP hA hb k0 f0 k2
    have f0 := frozen_of_row _ (w.heap.size + 1) 0 _ _ X3.out
    have k0 := cell_of_one X3.out
    go_wp2_with fail
    have k1 := cell_of_one (heap_setCell_same w3 (w.heap.size + 1) 0 _ _ (.pointer (pa t')) X3.out)
    clear k0 f0
    refine bodyPost_ret (v := .agg #[.pointer (pa t')]) (by simp [results, Try.results24, go_sem, k1]) rfl ?_
    exact ⟨_, .inr ⟨HSK.out, P1.out⟩, rfl, A2.out.setBox X3.out (by decide) 0 _, D2.out.setCell (p := ⟨w.heap.size + 1, 0, none⟩) (by simp) _⟩
end Go.Proofs.Ytdodkhhlbjamhaa

