
/- A region that draws its order, in a function that calls yield: one condition on the worlds, what is read under it taken first. -/
import Derived.RangeFuncCalls
import Derived.RangeFuncLeaves
import Derived.Shelf.RegionOpen
import Derived.Deep.RegionHeld3
import Derived.Test.YtdodkhhlbjamhaaOver
namespace Go.Proofs.Ytdodkhhlbjamhaa
open Go.RowKit
section
variable {P : Program} {n : Nat} {md : Region.Mode} {ops : Array Oper} {Q : Exit → Act → World → Prop} {S : World → Prop}
/-- An operation, where calls of yield are let. -/
def stepW (n : Nat) (P : Program) (ops : Array Oper) (Q : Exit → Act → World → Prop) (i : Nat) (K : Act → World → Prop) (a : Act) (w : World) : Prop := wpOpIn Fence.wide n P ops Q i K a w
def anyW (n : Nat) (P : Program) (md : Region.Mode) (ops : Array Oper) (Q : Exit → Act → World → Prop) (S : World → Prop) : Nat → Array Bool → Act → World → Prop
  | 0, listed, a, w => Region.ready md ops listed = [] ∧ Q .normal a w
  | fuel + 1, listed, a, w => (Region.ready md ops listed = [] → Q .normal a w) ∧ ∀ i ∈ Region.ready md ops listed, stepW n P ops Q i (fun a' w' => S w' ∧ anyW n P md ops Q S fuel (listed.setIfInBounds i true) a' w') a w
theorem anyW_in : ∀ (fuel : Nat) (listed : Array Bool) (a : Act) (w : World), anyW n P md ops Q S fuel listed a w → wpAnyIn Fence.wide n P md ops Q fuel listed a w
  | 0, _, _, _, h => h
  | fuel + 1, _, _, _, h => ⟨h.1, fun i hi => wpOpIn_mono (fun a' w' h' => anyW_in fuel _ a' w' h'.2) (h.2 i hi)⟩
theorem anyW_stronger {S' : World → Prop} (h : ∀ w, S' w → S w) : ∀ (fuel : Nat) (listed : Array Bool) (a : Act) (w : World), anyW n P md ops Q S' fuel listed a w → anyW n P md ops Q S fuel listed a w
  | 0, _, _, _, H => H
  | fuel + 1, _, _, _, H => ⟨H.1, fun i hi => wpOpIn_mono (fun a' w' h' => ⟨h _ h'.1, anyW_stronger h fuel _ a' w' h'.2⟩) (H.2 i hi)⟩
/-- Just the end as usual. -/
def OnlyE (Q : Exit → Act → World → Prop) : Exit → Act → World → Prop
  | .normal, a, w => Q .normal a w
  | _, _, _ => False
theorem OnlyE.normal {a : Act} {w : World} (h : Q .normal a w) : OnlyE Q .normal a w := h
theorem region_wide {id : Nat} {a : Act} {w : World} (hm : P.follows .mixedOrders = true) (hS : S w.drew)
    (h : S w.drew → anyW n P .any ops (OnlyE Q) S ops.size (Array.replicate ops.size false) a w.drew) : (Code.region id ops true).wpIn Fence.wide n P Q a w :=
  wpIn_mono (Q := OnlyE Q) (wpIn_region_any hm (anyW_in _ _ _ _ (h hS))) (fun e a w h => by cases e <;> first | exact h | exact h.elim)
theorem stepW_yields {i : Nat} {o : Oper} {v : Value} {a : Act} {K : Act → World → Prop} {w : World} (hi : ops[i]? = some o) (hy : YieldsIf P ops S o v a) (hS : S w) (h : K (a.put o.dst v) w) : stepW n P ops Q i K a w := by
  unfold stepW wpOpIn
  simp only [hi]
  rcases hy with ⟨hw, hv⟩ | ⟨hw, rfl⟩
  · rw [if_pos hw]
    refine ⟨fun f _ => trivial, ?_⟩
    rw [show Fence.wide.round = none from rfl, Oper.semAt_none, hv w hS]
    exact h
  · rw [if_neg (by rw [hw]; exact Bool.false_ne_true)]
    exact ⟨fun f _ => trivial, h⟩
/-- Another operation runs as it would behind the reading, and leaves the reading what it is. -/
theorem stepW_other {j : Nat} {oi oj : Oper} {v : Value} {K : Act → World → Prop} {a : Act} {w : World} (hj : ops[j]? = some oj) (hap : oi.apart ops oj = true)
    (hsi : ∀ cs b, oi.op ≠ .select cs b) (hsj : ∀ cs b, oj.op ≠ .select cs b) (hQ : ∀ c a w, Q (.panic c) (a.put oi.dst v) w → Q (.panic c) a w)
    (hy : YieldsIf P ops S oi v a) (h : stepW n P ops Q j K (a.put oi.dst v) w) : stepW n P ops Q j (fun a' w' => YieldsIf P ops S oi v a' ∧ K (a'.put oi.dst v) w') a w := by
  obtain ⟨d1, d2, d3⟩ := Oper.apart_spec hap
  have put : ∀ (b : Act) (u : Value), YieldsIf P ops S oi v b → YieldsIf P ops S oi v (b.put oj.dst u) := fun b u hb => hb.of_same (execOp_put oi hsi b oj.dst u d3) (wanted_put oi b oj.dst u d3)
  have def' : ∀ d, YieldsIf P ops S oi v { a with defers := d :: a.defers } := fun d => hy.of_same rfl rfl
  have both : ∀ (b : Act) (u : Value) (w' : World), YieldsIf P ops S oi v b → K ((b.put oi.dst v).put oj.dst u) w' → YieldsIf P ops S oi v (b.put oj.dst u) ∧ K ((b.put oj.dst u).put oi.dst v) w' := fun b u w' hb hk => ⟨put b u hb, by rw [← Act.put_comm b v u d2]; exact hk⟩
  unfold stepW wpOpIn at h ⊢
  simp only [hj] at h ⊢
  rw [wanted_put oj a oi.dst v d1] at h
  by_cases hw : Region.wanted oj (yielded ops a.tmps) = true
  · rw [if_pos hw] at h ⊢
    refine ⟨fun f _ => trivial, ?_⟩
    have h2 := h.2
    rw [show Fence.wide.round = none from rfl, Oper.semAt_none, execOp_put oj hsj a oi.dst v d1] at h2
    rw [show Fence.wide.round = none from rfl, Oper.semAt_none]
    generalize (execOp a.eval oj).run P w = r at h2 ⊢
    match r, h2 with
    | .ok (.value u) w', h2 => exact both a u w' hy h2
    | .ok .skip w', h2 => exact both a undef w' hy h2
    | .ok (.defer d) w', h2 =>
      refine both { a with defers := d :: a.defers } undef w' (def' d) ?_
      rw [← Act.put_defers]
      exact h2
    | .ok (.enter f args) w', h2 =>
      refine ⟨h2.1, CallsIn.mono h2.2 fun e w'' he => ?_⟩
      match e, he with
      | .returned u, he => exact both a u w'' hy he
      | .panicked c, he => exact hQ _ _ _ he
      | .outgrown, he => exact he
    | .ok (.row row args) w', h2 => exact ⟨h2.1, RowsIn.mono h2.2 fun u w'' he => both a u w'' hy he⟩
    | .ok (.round l f tmps assign body) w', h2 =>
      refine ⟨h2.1, RoundIn.mono h2.2 fun e w'' he => ?_⟩
      match e, he with
      | .returned u, he => exact both a u w'' hy he
      | .panicked c, he => exact hQ _ _ _ he
      | .outgrown, he => exact he
    | .halt (.panic u) w', h2 => exact hQ _ _ _ h2
  · rw [if_neg hw] at h ⊢
    exact ⟨fun f _ => trivial, both a undef w hy h.2⟩
theorem anyW_take {i : Nat} {oi : Oper} {v : Value} (hi : ops[i]? = some oi) (hs : Region.noSelect ops = true) (hQ : ∀ c a w, Q (.panic c) (a.put oi.dst v) w → Q (.panic c) a w) :
    ∀ {fuel : Nat} {listed : Array Bool} {a : Act} {w : World}, Region.free md ops listed i = true → (Region.ready md ops listed).contains i = true → YieldsIf P ops S oi v a → S w →
      anyW n P md ops Q S fuel (listed.setIfInBounds i true) (a.put oi.dst v) w → anyW n P md ops Q S (fuel + 1) listed a w := by
  have hsel := Region.noSelect_spec hs
  have main : ∀ (fuel : Nat) (listed : Array Bool) (a : Act) (w : World), (∀ j oj, ops[j]? = some oj → j ≠ i → listed.getD j true = false → (∀ e ∈ oj.after, Region.binds md e = true → e.on ≠ i) → oi.apart ops oj = true) →
      i ∈ Region.ready md ops listed → YieldsIf P ops S oi v a → S w → anyW n P md ops Q S fuel (listed.setIfInBounds i true) (a.put oi.dst v) w → anyW n P md ops Q S (fuel + 1) listed a w := by
    intro fuel
    induction fuel with
    | zero =>
      intro listed a w _ hr hy hS H
      refine ⟨fun h => absurd hr (by rw [h]; exact List.not_mem_nil), fun j hj => ?_⟩
      by_cases e : j = i
      · subst e; exact stepW_yields hi hy hS ⟨hS, H⟩
      · have := ready_mono hj e
        rw [H.1] at this
        exact absurd this List.not_mem_nil
    | succ fuel ih =>
      intro listed a w hf hr hy hS H
      refine ⟨fun h => absurd hr (by rw [h]; exact List.not_mem_nil), fun j hj => ?_⟩
      by_cases e : j = i
      · subst e; exact stepW_yields hi hy hS ⟨hS, H⟩
      · obtain ⟨hun, oj, hoj, hall⟩ := mem_ready.1 hj
        have hun0 := (mem_ready.1 hr).1
        have hno : ∀ e ∈ oj.after, Region.binds md e = true → e.on ≠ i := by
          intro e he hb hei
          have h1 := hall e he hb
          rw [hei] at h1
          rcases Nat.lt_or_ge i listed.size with hlt | hge
          · simp [hlt] at hun0 h1; rw [hun0] at h1; cases h1
          · simp [Array.getElem?_eq_none hge] at h1
        have hstep := stepW_other hoj (hf j oj hoj e hun hno) (fun cs b => hsel i oi cs b hi) (fun cs b => hsel j oj cs b hoj) hQ hy (H.2 j (ready_mono hj e))
        refine wpOpIn_mono (fun a' w' h3 => ⟨h3.2.1, ih (listed.setIfInBounds j true) a' w' ?_ (ready_mono hr (Ne.symm e)) h3.1 h3.2.1 ?_⟩) hstep
        · intro k ok hk hki hunk hnok
          refine hf k ok hk hki ?_ hnok
          by_cases hjk : j = k
          · subst hjk; exact hun
          · rw [getD_set_ne true hjk] at hunk; exact hunk
        · rw [Array.setIfInBounds_comm _ _ e]
          exact h3.2.2
  intro fuel listed a w hf hr
  exact main fuel listed a w (Region.free_spec hi hf) (by simpa using hr)
theorem anyW_done {listed : Array Bool} {a : Act} {w : World} (hr : Region.ready md ops listed = []) (h : Q .normal a w) : ∀ fuel, anyW n P md ops Q S fuel listed a w
  | 0 => ⟨hr, h⟩
  | _ + 1 => ⟨fun _ => h, by rw [hr]; simp⟩
/-- One operation alone comes up. -/
theorem anyW_one {i : Nat} {o : Oper} {fuel : Nat} {listed : Array Bool} {a : Act} {w : World} (hr : Region.ready md ops listed = [i]) (ho : ops[i]? = some o) (hw : Region.wanted o (yielded ops a.tmps) = true)
    (h : ∀ K : Act → World → Prop, Shut (∀ a w, S w → anyW n P md ops Q S fuel (listed.setIfInBounds i true) a w → K a w) → Oper.wpIn Fence.wide n P o a w K Q) : anyW n P md ops Q S (fuel + 1) listed a w := by
  refine ⟨fun h0 => (by rw [hr] at h0; cases h0), fun j hj => ?_⟩
  rw [hr] at hj
  obtain rfl := List.mem_singleton.1 hj
  unfold stepW wpOpIn
  simp only [ho]
  rw [if_pos hw]
  exact h _ (fun a w hS hW => ⟨hS, hW⟩)
/-- A plain operation, as it runs elsewhere. -/
theorem op_wide {o : Oper} {a : Act} {w : World} {K : Act → World → Prop} (h : o.wp P a w K Q) : o.wpIn Fence.wide n P a w K Q := by
  unfold Oper.wpIn
  refine ⟨fun f _ => trivial, ?_⟩
  rw [show Fence.wide.round = none from rfl, Oper.semAt_none]
  unfold Oper.wp at h
  generalize (execOp a.eval o).run P w = r at *
  have hdep : Fence.wide.depth.isSome = true → 1 ≤ n := fun hh => by cases (show false = true from hh)
  match r, h with
  | .ok (.value v) w', h => exact h
  | .ok .skip w', h => exact h
  | .ok (.defer d) w', h => exact h
  | .ok (.enter f args) w', h => exact ⟨hdep, callsIn_wide.2 h⟩
  | .ok (.row row args) w', h => exact ⟨hdep, fun c cs _ => let ⟨v, w', r, s⟩ := h c cs; ⟨v, w', r, stepsIn_wide.2 s⟩⟩
  | .halt (.panic v) w', h => exact h
end
end Go.Proofs.Ytdodkhhlbjamhaa
