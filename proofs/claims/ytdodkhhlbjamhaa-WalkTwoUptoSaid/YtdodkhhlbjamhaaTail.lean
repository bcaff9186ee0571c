
/- A region that draws its order and ends in stores: one condition on the worlds, up to its last operations. -/
import Derived.Deep.RegionHeld3
import Derived.Test.YtdodkhhlbjamhaaOver
namespace Go.Proofs.Ytdodkhhlbjamhaa
open Go.RowKit
section
variable {P : Program} {md : Region.Mode} {ops : Array Oper} {Q : Exit → Act → World → Prop} {S : World → Prop} {T : List Nat}
/-- All but the last ones have come up. -/
def doneB (ops : Array Oper) (T : List Nat) (listed : Array Bool) : Bool := (List.range ops.size).all fun k => T.contains k || listed.getD k false
/-- Each of the last ones waits for all others. -/
def lastB (md : Region.Mode) (ops : Array Oper) (T : List Nat) : Bool := T.all fun j => match ops[j]? with
  | none => true
  | some o => (List.range ops.size).all fun k => T.contains k || o.after.any fun e => Region.binds md e && e.on == k
def anyT (P : Program) (md : Region.Mode) (ops : Array Oper) (Q : Exit → Act → World → Prop) (T : List Nat) (S : World → Prop) : Nat → Array Bool → Act → World → Prop
  | 0, listed, a, w => wpAny P md ops Q 0 listed a w
  | fuel + 1, listed, a, w => if doneB ops T listed = true then wpAny P md ops Q (fuel + 1) listed a w
    else (Region.ready md ops listed = [] → Q .normal a w) ∧ ∀ i ∈ Region.ready md ops listed, wpOp P ops Q i (fun a' w' => S w' ∧ anyT P md ops Q T S fuel (listed.setIfInBounds i true) a' w') a w
theorem anyT_plain : ∀ (fuel : Nat) (listed : Array Bool) (a : Act) (w : World), anyT P md ops Q T S fuel listed a w → wpAny P md ops Q fuel listed a w
  | 0, _, _, _, h => h
  | fuel + 1, listed, a, w, h => by
    unfold anyT at h
    split at h
    · exact h
    · exact ⟨h.1, fun i hi => wpOp_mono (fun a' w' h' => anyT_plain fuel _ a' w' h'.2) (h.2 i hi)⟩
theorem anyT_stronger {S' : World → Prop} (h : ∀ w, S' w → S w) : ∀ (fuel : Nat) (listed : Array Bool) (a : Act) (w : World), anyT P md ops Q T S' fuel listed a w → anyT P md ops Q T S fuel listed a w
  | 0, _, _, _, H => H
  | fuel + 1, listed, a, w, H => by
    unfold anyT at H ⊢
    split at H
    · rename_i hd; rw [if_pos hd]; exact H
    · rename_i hd; rw [if_neg hd]; exact ⟨H.1, fun i hi => wpOp_mono (fun a' w' h' => ⟨h _ h'.1, anyT_stronger h fuel _ a' w' h'.2⟩) (H.2 i hi)⟩
theorem region_tail {id : Nat} {a : Act} {w : World} (T : List Nat) (hm : P.follows .mixedOrders = true) (hS : S w.drew)
    (h : S w.drew → anyT P .any ops Q T S ops.size (Array.replicate ops.size false) a w.drew) : (Code.region id ops true).wp P Q a w :=
  wp_region_any hm (anyT_plain _ _ _ _ (h hS))
theorem doneB_get {listed : Array Bool} (h : doneB ops T listed = true) {k : Nat} (hk : k < ops.size) (hT : T.contains k = false) : listed.getD k false = true := by
  have := List.all_eq_true.1 h k (List.mem_range.2 hk)
  simpa only [hT, Bool.false_or] using this
theorem anyT_take {i : Nat} {oi : Oper} {v : Value} (hi : ops[i]? = some oi) (hs : Region.noSelect ops = true) (hL : lastB md ops T = true) (hT : T.contains i = false)
    (hQ : ∀ c a w, Q (.panic c) (a.put oi.dst v) w → Q (.panic c) a w) :
    ∀ {fuel : Nat} {listed : Array Bool} {a : Act} {w : World}, Region.free md ops listed i = true → (Region.ready md ops listed).contains i = true → YieldsIf P ops S oi v a → S w →
      anyT P md ops Q T S fuel (listed.setIfInBounds i true) (a.put oi.dst v) w → anyT P md ops Q T S (fuel + 1) listed a w := by
  have hsel := Region.noSelect_spec hs
  have hib : i < ops.size := (Array.getElem?_eq_some_iff.1 hi).1
  have main : ∀ (fuel : Nat) (listed : Array Bool) (a : Act) (w : World), (∀ j oj, ops[j]? = some oj → j ≠ i → listed.getD j true = false → (∀ e ∈ oj.after, Region.binds md e = true → e.on ≠ i) → oi.apart ops oj = true) →
      i ∈ Region.ready md ops listed → YieldsIf P ops S oi v a → S w → anyT P md ops Q T S fuel (listed.setIfInBounds i true) (a.put oi.dst v) w → anyT P md ops Q T S (fuel + 1) listed a w := by
    intro fuel
    induction fuel with
    | zero =>
      intro listed a w _ hr hy hS H
      have hun := (mem_ready.1 hr).1
      have hund : ¬ doneB ops T listed = true := fun h => by
        have h1 := doneB_get h hib hT
        rcases Nat.lt_or_ge i listed.size with hlt | hge
        · simp [hlt] at hun h1; rw [hun] at h1; cases h1
        · simp [Array.getElem?_eq_none hge] at h1
      unfold anyT
      rw [if_neg hund]
      refine ⟨fun h => absurd hr (by rw [h]; exact List.not_mem_nil), fun j hj => ?_⟩
      by_cases e : j = i
      · subst e; exact YieldsIf.wpOp hi hy hS ⟨hS, H⟩
      · have := ready_mono hj e
        rw [H.1] at this
        exact absurd this List.not_mem_nil
    | succ fuel ih =>
      intro listed a w hf hr hy hS H
      have hun0 := (mem_ready.1 hr).1
      have hili : i < listed.size := by
        rcases Nat.lt_or_ge i listed.size with h | h
        · exact h
        · simp [Array.getElem?_eq_none h] at hun0
      have hund : ¬ doneB ops T listed = true := fun h => by
        have h1 := doneB_get h hib hT
        simp [hili] at hun0 h1; rw [hun0] at h1; cases h1
      rw [show anyT P md ops Q T S (fuel + 1 + 1) listed a w = (if doneB ops T listed = true then wpAny P md ops Q (fuel + 1 + 1) listed a w
        else (Region.ready md ops listed = [] → Q .normal a w) ∧ ∀ i ∈ Region.ready md ops listed, wpOp P ops Q i (fun a' w' => S w' ∧ anyT P md ops Q T S (fuel + 1) (listed.setIfInBounds i true) a' w') a w) from rfl, if_neg hund]
      refine ⟨fun h => absurd hr (by rw [h]; exact List.not_mem_nil), fun j hj => ?_⟩
      by_cases e : j = i
      · subst e; exact YieldsIf.wpOp hi hy hS ⟨hS, H⟩
      · obtain ⟨hun, oj, hoj, hall⟩ := mem_ready.1 hj
        have hjb : j < ops.size := (Array.getElem?_eq_some_iff.1 hoj).1
        have hno : ∀ e ∈ oj.after, Region.binds md e = true → e.on ≠ i := by
          intro e he hb hei
          have h1 := hall e he hb
          rw [hei] at h1
          simp [hili] at hun0 h1; rw [hun0] at h1; cases h1
        -- the last ones wait for i: j is none of them
        have hjT : T.contains j = false := by
          cases hc : T.contains j with
          | false => rfl
          | true =>
            exfalso
            have h1 := List.all_eq_true.1 hL j (by simpa using hc)
            simp only [hoj] at h1
            have h2 := List.all_eq_true.1 h1 i (List.mem_range.2 hib)
            simp only [hT, Bool.false_or, Array.any_eq_true, Bool.and_eq_true, beq_iff_eq] at h2
            obtain ⟨q, hq, hb, he⟩ := h2
            exact hno _ (Array.getElem_mem hq) hb he
        have hundi : ¬ doneB ops T (listed.setIfInBounds i true) = true := fun h => by
          have h1 := doneB_get h hjb hjT
          rw [getD_set_ne false (Ne.symm e)] at h1
          rcases Nat.lt_or_ge j listed.size with hlt | hge
          · simp [hlt] at hun h1; rw [hun] at h1; cases h1
          · simp [Array.getElem?_eq_none hge] at h1
        unfold anyT at H
        rw [if_neg hundi] at H
        have hstep := wpOp_putIf hoj (hf j oj hoj e hun hno) (fun cs b => hsel i oi cs b hi) (fun cs b => hsel j oj cs b hoj) hQ hy (H.2 j (ready_mono hj e))
        refine wpOp_mono (fun a' w' h3 => ⟨h3.2.1, ih (listed.setIfInBounds j true) a' w' ?_ (ready_mono hr (Ne.symm e)) h3.1 h3.2.1 ?_⟩) hstep
        · intro k ok hk hki hunk hnok
          refine hf k ok hk hki ?_ hnok
          by_cases hjk : j = k
          · subst hjk; exact hun
          · rw [getD_set_ne true hjk] at hunk; exact hunk
        · rw [Array.setIfInBounds_comm _ _ e]
          exact h3.2.2
  intro fuel listed a w hf hr
  exact main fuel listed a w (Region.free_spec hi hf) (by simpa using hr)
/-- Each of the operations 'rs' comes up next. -/
def AllReadyT (P : Program) (md : Region.Mode) (ops : Array Oper) (Q : Exit → Act → World → Prop) (T : List Nat) (S : World → Prop) (fuel : Nat) (listed : Array Bool) (a : Act) (w : World) (rs : List Nat) : Prop :=
  ∀ i ∈ rs, wpOp P ops Q i (fun a' w' => S w' ∧ anyT P md ops Q T S fuel (listed.setIfInBounds i true) a' w') a w
theorem AllReadyT.nil {fuel : Nat} {listed : Array Bool} {a : Act} {w : World} : AllReadyT P md ops Q T S fuel listed a w [] := fun _ h => by cases h
theorem AllReadyT.cons {fuel : Nat} {listed : Array Bool} {a : Act} {w : World} {i : Nat} {o : Oper} {rs : List Nat} (ho : ops[i]? = some o) (hw : Region.wanted o (yielded ops a.tmps) = true)
    (h : ∀ K' : Act → World → Prop, Shut (∀ a w, S w → (S w → anyT P md ops Q T S fuel (listed.setIfInBounds i true) a w) → K' a w) → Oper.wp P o a w K' Q)
    (hs : AllReadyT P md ops Q T S fuel listed a w rs) : AllReadyT P md ops Q T S fuel listed a w (i :: rs) := fun j hj => by
  rcases List.mem_cons.1 hj with rfl | hj
  · unfold wpOp
    simp only [ho]
    rw [if_pos hw]
    exact .inl (h _ (fun a w hS hW => ⟨hS, hW hS⟩))
  · exact hs j hj
theorem anyT_ready {rs : List Nat} {fuel : Nat} {listed : Array Bool} {a : Act} {w : World} (hd : doneB ops T listed = false) (hr : Region.ready md ops listed = rs) (hne : rs ≠ [])
    (h : AllReadyT P md ops Q T S fuel listed a w rs) : anyT P md ops Q T S (fuel + 1) listed a w := by
  unfold anyT
  rw [if_neg (by rw [hd]; exact Bool.false_ne_true)]
  exact ⟨fun h0 => absurd (hr ▸ h0) hne, hr ▸ h⟩
theorem anyT_tail {fuel : Nat} {listed : Array Bool} {a : Act} {w : World} (hd : doneB ops T listed = true) (h : wpAny P md ops Q (fuel + 1) listed a w) : anyT P md ops Q T S (fuel + 1) listed a w := by
  unfold anyT
  rw [if_pos hd]
  exact h
/-- One operation alone comes up, of the last ones. -/
theorem any_one {i : Nat} {o : Oper} {fuel : Nat} {listed : Array Bool} {a : Act} {w : World} (hr : Region.ready md ops listed = [i]) (ho : ops[i]? = some o) (hw : Region.wanted o (yielded ops a.tmps) = true)
    (h : ∀ K : Act → World → Prop, Shut (∀ a w, wpAny P md ops Q fuel (listed.setIfInBounds i true) a w → K a w) → Oper.wp P o a w K Q) : wpAny P md ops Q (fuel + 1) listed a w := by
  refine ⟨fun h0 => (by rw [hr] at h0; cases h0), fun j hj => ?_⟩
  rw [hr] at hj
  obtain rfl := List.mem_singleton.1 hj
  unfold wpOp
  simp only [ho]
  rw [if_pos hw]
  exact .inl (h _ (fun a w hW => hW))
theorem anyT_now {W w1 : World} (hb : Below W.heap.size W w1) {fuel : Nat} {listed : Array Bool} {a : Act}
    (h : anyT P md ops Q T (fun w' => Below w1.heap.size w1 w') fuel listed a w1) : anyT P md ops Q T (fun w' => Below W.heap.size W w') fuel listed a w1 :=
  anyT_stronger (fun _ h' => hb.trans (h'.mono hb.size)) _ _ _ _ h
theorem anyT_made {W w1 : World} {o : Obj} (hS : Below W.heap.size W w1) {fuel : Nat} {listed : Array Bool} {a : Act}
    (h : ∀ w2, w2 = w1.alloc o → Below W.heap.size W w2 → anyT P md ops Q T (fun w' => Below w2.heap.size w2 w') fuel listed a w2) : anyT P md ops Q T (fun w' => Below W.heap.size W w') fuel listed a (w1.alloc o) :=
  have hb : Below W.heap.size W (w1.alloc o) := hS.alloc hS.size o
  anyT_stronger (fun _ h' => hb.trans (h'.mono hb.size)) _ _ _ _ (h _ rfl hb)
end
end Go.Proofs.Ytdodkhhlbjamhaa
