
/- Walks: At, Of. -/
import Derived.Test.YtdodkhhlbjamhaaPmLI
namespace Go.Proofs.Ytdodkhhlbjamhaa
open Go.RowKit Pm
theorem AtI.atI {w : World} : ∀ {t : Tr Int} {i : Int}, AtI w t → AtI w (Pm.atI t i)
  | .nil, _, _ => trivial
  | .node b l k0 v0 r, i, h => by
    simp only [Pm.atI]
    split
    · exact AtI.atI h.2.1
    · split
      · exact h
      · exact AtI.atI h.2.2
/-- What At tells. -/
def Pm.atOI (t : Tr Int) (i : Int) : Tr Int := if i < 0 then .nil else atI t i
set_option maxRecDepth 100000 in
set_option maxHeartbeats 4000000 in
theorem pm_MAtI (t : Tr Int) (i : Int) (w : World) (h : AtI w t) (hi : i ≤ 9223372036854775807) (hi0 : -9223372036854775808 ≤ i) (hs : sz t ≤ 1099511627776) : Calls Try.prog 34 #[.agg #[.pointer (pa t)], .int .i64 i] w fun e w' =>
    e = .returned (.tuple #[.string (keyOr (atOI t i)), .int .i64 (valOr (atOI t i)), .bool (isNI (atOI t i))]) ∧ Below w.heap.size w w' := by
  have HB := Lib.hid (below_new w (.cells #[.pointer (pa t)] 29))
  have H := Lib.hid (h.below HB.out rfl); clear h
  have HI := Lib.hid (And.intro hi hi0)
  clear hi hi0
  obtain ⟨r0, hr0⟩ : ∃ r0 : Tr Int, (if i < 0 then .nil else t) = r0 := ⟨_, rfl⟩
  have hO : atOI t i = atI r0 i := by unfold atOI; rw [← hr0]; split <;> rfl
  have HO := Lib.hid hO
  have HA0 : Hid (AtI (w.alloc (.cells #[.pointer (pa t)] 29)) r0) := Lib.hid (by rw [← hr0]; split; trivial; exact H.out)
  have hz0 : Hid (r0 = .nil ∨ 0 ≤ i) := Lib.hid (by rw [← hr0]; split; exact .inl rfl; exact .inr (by omega))
  have hs0 : Hid (sz r0 ≤ 1099511627776) := Lib.hid (by rw [← hr0]; split; simp [sz]; exact hs)
  clear hO H
  by_cases hneg : i < 0
  case' pos =>
    have hr : .nil = r0 := by rw [← hr0, if_pos hneg]
    clear hr0
    subst hr
  case' neg =>
    have hr : t = r0 := by rw [← hr0, if_neg hneg]
    clear hr0
    subst hr
    have hnn : 0 ≤ i := by omega
    have hnd : decide (i < 0) = false := by simpa using hnn
  all_goals
    go_enter Try.func34, Try.ntmps34
    go_wp2_with fail
    go_step3
    go_wp2_with fail
    go_step3
    go_wp2_with fail
  all_goals
    generalize w.alloc (.cells #[.pointer (pa t)] 29) = w1 at *
    go_loopw [1, 7] (fun u1 u7 wr => ∃ (s : Tr Int) (j : Int), u1 = .int .i64 j ∧ u7 = .pointer (pa s) ∧ Hid (AtI wr s) ∧ Hid (atI s j = atOI t i) ∧ Hid (s = .nil ∨ 0 ≤ j) ∧ Hid (j ≤ 9223372036854775807) ∧ Hid (sz s ≤ 1099511627776) ∧ Hid (w1 = wr)) (fun _ u wr => hOfI wr u)
    case atStart => first | exact ⟨.nil, i, rfl, rfl, HA0, Lib.hid HO.out.symm, Lib.hid (.inl rfl), Lib.hid HI.out.1, hs0, Lib.hid rfl⟩ | exact ⟨t, i, rfl, rfl, HA0, Lib.hid HO.out.symm, hz0, Lib.hid HI.out.1, hs0, Lib.hid rfl⟩
    case round =>
      obtain ⟨s, j, rfl, rfl, HA, HE, HP, HJ, HZ, HW⟩ := hrel
      (try clear hnd)
      (try clear hnn)
      clear hneg
      cases s with
      | nil =>
        have hpn : pa (.nil : Tr Int) = none := rfl
        go_wp2_with fail
        refine (pm_toldI .nil _ trivial).mono ?_
        rintro e w' ⟨rfl, rfl⟩
        go_wp2_with fail
        (try rw [Exit.noGoto_ret])
        go_ret3
        rw [← HE.out, ← HW.out]
        exact ⟨rfl, HB.out⟩
      | node b l k0 v0 r =>
        have hj0 : 0 ≤ j := by rcases HP.out with h | h; cases h; exact h
        have hj1 := HJ.out
        have hz1 : sz l ≤ 1099511627776 := by have := HZ.out; simp only [sz] at this; omega
        have hpn : pa (.node b l k0 v0 r : Tr Int) = some ⟨b, 0, none⟩ := rfl
        obtain ⟨x0, x1, x2, x3⟩ := HA.out.cellsP (pa l) (pa r) rfl rfl
        obtain ⟨m, hm⟩ : ∃ m, sz l = m := ⟨_, rfl⟩
        have HM := Lib.hid hm
        rw [hm] at hz1
        clear hm
        by_cases hlt : j < (m : Int)
        · go_wp2_with fail
          refine (pm_LenI l _ HA.out.2.1).mono ?_
          rintro e w' ⟨rfl, rfl⟩
          rw [HM.out]
          go_wp2_with fail
          refine ⟨⟨l, j, rfl, rfl, Lib.hid HA.out.2.1, Lib.hid ?_, Lib.hid (.inr hj0), HJ, Lib.hid (by rw [HM.out]; exact hz1), HW⟩, ?_⟩
          · rw [← HE.out]; simp only [Pm.atI]; rw [if_pos (by rw [HM.out]; omega)]
          · rw [hOf_atI HA.out, hOf_atI HA.out.2.1]; simp only [ht]; omega
        · by_cases heq : j = (m : Int)
          · go_wp2_with fail
            refine (pm_LenI l _ HA.out.2.1).mono ?_
            rintro e w' ⟨rfl, rfl⟩
            rw [HM.out]
            go_wp2_with fail
            refine (pm_toldI (.node b l k0 v0 r) _ HA.out).mono ?_
            rintro e w' ⟨rfl, rfl⟩
            go_wp2_with fail
            (try rw [Exit.noGoto_ret])
            go_ret3
            rw [← HE.out, ← HW.out]
            simp only [Pm.atI]
            rw [if_neg (by rw [HM.out]; omega), if_pos (by rw [HM.out]; omega)]
            exact ⟨rfl, HB.out⟩
          · have hle : ¬ j < (m : Int) := hlt
            go_wp2_with fail
            refine (pm_LenI l _ HA.out.2.1).mono ?_
            rintro e w' ⟨rfl, rfl⟩
            rw [HM.out]
            go_wp2_with fail
            refine ⟨⟨r, j - m - 1, rfl, rfl, Lib.hid HA.out.2.2, Lib.hid ?_, Lib.hid (.inr (by omega)), Lib.hid (by omega), Lib.hid (by have := HZ.out; simp only [sz] at this; omega), HW⟩, ?_⟩
            · rw [← HE.out]; simp only [Pm.atI]; rw [if_neg (by rw [HM.out]; omega), if_neg (by rw [HM.out]; omega), HM.out]
            · rw [hOf_atI HA.out, hOf_atI HA.out.2.2]; simp only [ht]; omega
end Go.Proofs.Ytdodkhhlbjamhaa

