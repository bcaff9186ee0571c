
/- A region that draws its order and ends in stores, where the last ones wait for the others by way of others. -/
import Derived.Test.YtdodkhhlbjamhaaTail
namespace Go.Proofs.Ytdodkhhlbjamhaa
open Go.RowKit
section
variable {P : Program} {md : Region.Mode} {ops : Array Oper} {Q : Exit → Act → World → Prop} {S : World → Prop} {T : List Nat}
/-- Does an operation wait for another one, by way of others too? -/
def needs (md : Region.Mode) (ops : Array Oper) : Nat → Nat → Nat → Bool
  | 0, _, _ => false
  | f + 1, j, k => match ops[j]? with
    | none => false
    | some o => (o.after.any fun e => Region.binds md e && e.on == k) || (o.after.any fun e => Region.binds md e && needs md ops f e.on k)
def lastB2 (md : Region.Mode) (ops : Array Oper) (T : List Nat) : Bool := T.all fun j => (List.range ops.size).all fun k => T.contains k || needs md ops 5 j k
/-- What has come up has waited. -/
def Closed (md : Region.Mode) (ops : Array Oper) (listed : Array Bool) : Prop :=
  ∀ j oj, ops[j]? = some oj → listed.getD j false = true → ∀ e ∈ oj.after, Region.binds md e = true → listed.getD e.on false = true
def closedB (md : Region.Mode) (ops : Array Oper) (listed : Array Bool) : Bool := (List.range ops.size).all fun j => !listed.getD j false || match ops[j]? with
  | none => true
  | some o => o.after.all fun e => !Region.binds md e || listed.getD e.on false
theorem closedB_spec {listed : Array Bool} (h : closedB md ops listed = true) : Closed md ops listed := by
  intro j oj ho hl e he hb
  have hj : j < ops.size := (Array.getElem?_eq_some_iff.1 ho).1
  have h1 := List.all_eq_true.1 h j (List.mem_range.2 hj)
  simp only [hl, ho, Bool.not_true, Bool.false_or, Array.all_eq_true, Bool.or_eq_true] at h1
  obtain ⟨q, hq, rfl⟩ := Array.getElem_of_mem he
  rcases h1 q hq with h2 | h2
  · rw [hb] at h2; cases h2
  · exact h2
theorem Closed.step {listed : Array Bool} (h : Closed md ops listed) {j : Nat} {oj : Oper} (hoj : ops[j]? = some oj) (hall : ∀ e ∈ oj.after, Region.binds md e = true → listed.getD e.on false = true) : Closed md ops (listed.setIfInBounds j true) := by
  intro k ok hok hk e he hb
  have h0 : listed.getD e.on false = true := by
    by_cases hjk : j = k
    · subst hjk; rw [hoj] at hok; cases hok; exact hall e he hb
    · rw [getD_set_ne false hjk] at hk; exact h k ok hok hk e he hb
  by_cases hje : j = e.on
  · rw [← hje] at h0 ⊢
    rcases Nat.lt_or_ge j listed.size with hlt | hge
    · simp [Array.getD, hlt]
    · simp [Array.getD, Nat.not_lt.2 hge] at h0
  · rw [getD_set_ne false hje]; exact h0
theorem needs_listed {listed : Array Bool} (hc : Closed md ops listed) : ∀ (f j k : Nat) (oj : Oper), ops[j]? = some oj → (∀ e ∈ oj.after, Region.binds md e = true → listed.getD e.on false = true) → needs md ops f j k = true → listed.getD k false = true
  | 0, _, _, _, _, _, h => by cases h
  | f + 1, j, k, oj, hoj, hall, h => by
    unfold needs at h
    simp only [hoj, Bool.or_eq_true, Array.any_eq_true, Bool.and_eq_true, beq_iff_eq] at h
    rcases h with ⟨q, hq, hb, he⟩ | ⟨q, hq, hb, he⟩
    · rw [← he]; exact hall _ (Array.getElem_mem hq) hb
    · have h1 := hall _ (Array.getElem_mem hq) hb
      cases ho : ops[(oj.after[q]'hq).on]? with
      | none => cases f <;> simp [needs, ho] at he
      | some o2 =>
        refine needs_listed hc f _ k o2 ho ?_ he
        exact hc _ o2 ho h1
theorem anyT_take2 {i : Nat} {oi : Oper} {v : Value} (hi : ops[i]? = some oi) (hs : Region.noSelect ops = true) (hL : lastB2 md ops T = true) (hT : T.contains i = false)
    (hQ : ∀ c a w, Q (.panic c) (a.put oi.dst v) w → Q (.panic c) a w) :
    ∀ {fuel : Nat} {listed : Array Bool} {a : Act} {w : World}, closedB md ops listed = true → Region.free md ops listed i = true → (Region.ready md ops listed).contains i = true → YieldsIf P ops S oi v a → S w →
      anyT P md ops Q T S fuel (listed.setIfInBounds i true) (a.put oi.dst v) w → anyT P md ops Q T S (fuel + 1) listed a w := by
  have hsel := Region.noSelect_spec hs
  have hib : i < ops.size := (Array.getElem?_eq_some_iff.1 hi).1
  have main : ∀ (fuel : Nat) (listed : Array Bool) (a : Act) (w : World), Closed md ops listed → (∀ j oj, ops[j]? = some oj → j ≠ i → listed.getD j true = false → (∀ e ∈ oj.after, Region.binds md e = true → e.on ≠ i) → oi.apart ops oj = true) →
      i ∈ Region.ready md ops listed → YieldsIf P ops S oi v a → S w → anyT P md ops Q T S fuel (listed.setIfInBounds i true) (a.put oi.dst v) w → anyT P md ops Q T S (fuel + 1) listed a w := by
    intro fuel
    induction fuel with
    | zero =>
      intro listed a w _ _ hr hy hS H
      have hun := (mem_ready.1 hr).1
      have hund : ¬ doneB ops T listed = true := fun h => by
        have h1 := doneB_get h hib hT
        rcases Nat.lt_or_ge i listed.size with hlt | hge
        · simp [hlt] at hun h1; rw [hun] at h1; cases h1
        · simp [Array.getElem?_eq_none hge] at h1
      unfold anyT
      rw [if_neg hund]
      refine ⟨fun h => absurd hr (by rw [h]; exact List.not_mem_nil), fun j hj => ?_⟩
      by_cases e : j = i
      · subst e; exact YieldsIf.wpOp hi hy hS ⟨hS, H⟩
      · have := ready_mono hj e
        rw [H.1] at this
        exact absurd this List.not_mem_nil
    | succ fuel ih =>
      intro listed a w hcl hf hr hy hS H
      have hun0 := (mem_ready.1 hr).1
      have hili : i < listed.size := by
        rcases Nat.lt_or_ge i listed.size with h | h
        · exact h
        · simp [Array.getElem?_eq_none h] at hun0
      have hund : ¬ doneB ops T listed = true := fun h => by
        have h1 := doneB_get h hib hT
        simp [hili] at hun0 h1; rw [hun0] at h1; cases h1
      rw [show anyT P md ops Q T S (fuel + 1 + 1) listed a w = (if doneB ops T listed = true then wpAny P md ops Q (fuel + 1 + 1) listed a w
        else (Region.ready md ops listed = [] → Q .normal a w) ∧ ∀ i ∈ Region.ready md ops listed, wpOp P ops Q i (fun a' w' => S w' ∧ anyT P md ops Q T S (fuel + 1) (listed.setIfInBounds i true) a' w') a w) from rfl, if_neg hund]
      refine ⟨fun h => absurd hr (by rw [h]; exact List.not_mem_nil), fun j hj => ?_⟩
      by_cases e : j = i
      · subst e; exact YieldsIf.wpOp hi hy hS ⟨hS, H⟩
      · obtain ⟨hun, oj, hoj, hall⟩ := mem_ready.1 hj
        have hjb : j < ops.size := (Array.getElem?_eq_some_iff.1 hoj).1
        have hno : ∀ e ∈ oj.after, Region.binds md e = true → e.on ≠ i := by
          intro e he hb hei
          have h1 := hall e he hb
          rw [hei] at h1
          simp [hili] at hun0 h1; rw [hun0] at h1; cases h1
        -- the last ones wait for i: j is none of them
        have hjT : T.contains j = false := by
          cases hc : T.contains j with
          | false => rfl
          | true =>
            exfalso
            have h1 := List.all_eq_true.1 hL j (by simpa using hc)
            have h2 := List.all_eq_true.1 h1 i (List.mem_range.2 hib)
            simp only [hT, Bool.false_or] at h2
            have h3 := needs_listed hcl 5 j i oj hoj hall h2
            simp [hili] at hun0 h3; rw [hun0] at h3; cases h3
        have hundi : ¬ doneB ops T (listed.setIfInBounds i true) = true := fun h => by
          have h1 := doneB_get h hjb hjT
          rw [getD_set_ne false (Ne.symm e)] at h1
          rcases Nat.lt_or_ge j listed.size with hlt | hge
          · simp [hlt] at hun h1; rw [hun] at h1; cases h1
          · simp [Array.getElem?_eq_none hge] at h1
        unfold anyT at H
        rw [if_neg hundi] at H
        have hstep := wpOp_putIf hoj (hf j oj hoj e hun hno) (fun cs b => hsel i oi cs b hi) (fun cs b => hsel j oj cs b hoj) hQ hy (H.2 j (ready_mono hj e))
        refine wpOp_mono (fun a' w' h3 => ⟨h3.2.1, ih (listed.setIfInBounds j true) a' w' (hcl.step hoj hall) ?_ (ready_mono hr (Ne.symm e)) h3.1 h3.2.1 ?_⟩) hstep
        · intro k ok hk hki hunk hnok
          refine hf k ok hk hki ?_ hnok
          by_cases hjk : j = k
          · subst hjk; exact hun
          · rw [getD_set_ne true hjk] at hunk; exact hunk
        · rw [Array.setIfInBounds_comm _ _ e]
          exact h3.2.2
  intro fuel listed a w hcb hf hr
  exact main fuel listed a w (closedB_spec hcb) (Region.free_spec hi hf) (by simpa using hr)
end
end Go.Proofs.Ytdodkhhlbjamhaa
