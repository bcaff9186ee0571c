
/- A region that draws its order, by what holds between its operations: one proof for each operation, whatever the order. -/
import Derived.Test.YtdodkhhlbjamhaaOver
namespace Go.Proofs.Ytdodkhhlbjamhaa
open Go.RowKit
/-- What an operation waits for. -/
def preOf (ops : Array Oper) (i : Nat) : List Nat := match ops[i]? with
  | some o => (o.after.toList.filter fun e => Region.binds .any e).map fun e => e.on
  | none => []
def upB (ops : Array Oper) : Bool := (List.range ops.size).all fun i => (preOf ops i).all fun j => decide (j < i)
section
variable {P : Program} {ops : Array Oper} {Q : Exit → Act → World → Prop}
theorem pre_mem {i : Nat} {o : Oper} (ho : ops[i]? = some o) {j : Nat} : j ∈ preOf ops i ↔ ∃ e ∈ o.after, Region.binds .any e = true ∧ e.on = j := by
  unfold preOf
  rw [ho]
  simp only [List.mem_map, List.mem_filter, Array.mem_toList_iff]
  constructor
  · rintro ⟨e, ⟨h1, h2⟩, h3⟩; exact ⟨e, h1, h2, h3⟩
  · rintro ⟨e, h1, h2, h3⟩; exact ⟨e, ⟨h1, h2⟩, h3⟩
theorem ready_nil (hup : upB ops = true) {listed : Array Bool} (hs : listed.size = ops.size) (h : Region.ready .any ops listed = []) : ∀ i, i < ops.size → listed.getD i false = true := by
  intro i
  induction i using Nat.strongRecOn with
  | _ i ih =>
    intro hi
    cases e : listed.getD i false with
    | true => rfl
    | false =>
      have : i ∈ Region.ready .any ops listed := by
        rw [mem_ready]
        refine ⟨by simp [hs, hi] at e ⊢; exact e, _, Array.getElem?_eq_getElem hi, fun ed hed hb => ?_⟩
        have hm : ed.on ∈ preOf ops i := (pre_mem (Array.getElem?_eq_getElem hi)).2 ⟨ed, hed, hb, rfl⟩
        have h1 := List.all_eq_true.1 hup i (List.mem_range.2 hi)
        have h2 := List.all_eq_true.1 h1 _ hm
        have h3 : ed.on < i := of_decide_eq_true h2
        exact ih _ h3 (by omega)
      rw [h] at this
      cases this
theorem getD_set (listed : Array Bool) (i : Nat) (hi : i < listed.size) : (fun j => (listed.setIfInBounds i true).getD j false) = fun j => j == i || listed.getD j false := by
  funext j
  by_cases h : j = i
  · subst h; simp [hi]
  · have : (listed.setIfInBounds i true)[j]? = listed[j]? := Array.getElem?_setIfInBounds_ne (Ne.symm h)
    simp [Array.getD_eq_getD_getElem?, this, h]
theorem wpAnyH_inv (J : (Nat → Bool) → Act → World → Prop) (hup : upB ops = true)
    (step : ∀ i, i < ops.size → ∀ L a w, J L a w → L i = false → (∀ j ∈ preOf ops i, L j = true) → wpOp P ops Q i (fun a' w' => J (fun j => j == i || L j) a' w') a w)
    (fin : ∀ L a w, J L a w → (∀ i, i < ops.size → L i = true) → Q .normal a w) :
    ∀ (fuel : Nat) (listed : Array Bool) (a : Act) (w : World), listed.size = ops.size → (List.range ops.size).countP (fun i => !listed.getD i false) ≤ fuel → J (fun j => listed.getD j false) a w → wpAnyH P .any ops Q (fun _ => True) fuel listed a w := by
  intro fuel
  induction fuel with
  | zero =>
    intro listed a w hs hc hJ
    have hall : ∀ i, i < ops.size → listed.getD i false = true := by
      intro i hi
      have h0 := List.countP_eq_zero.1 (Nat.le_zero.1 hc) i (List.mem_range.2 hi)
      simpa using h0
    refine ⟨?_, fin _ _ _ hJ hall⟩
    rw [List.eq_nil_iff_forall_not_mem]
    intro i hi
    obtain ⟨h1, o, h2, _⟩ := mem_ready.1 hi
    have hlt := (Array.getElem?_eq_some_iff.1 h2).1
    have := hall i hlt
    simp [hs, hlt] at h1 this
    rw [h1] at this; cases this
  | succ fuel ih =>
    intro listed a w hs hc hJ
    refine ⟨fun h => fin _ _ _ hJ (ready_nil hup hs h), fun i hi => ?_⟩
    obtain ⟨h1, o, h2, h3⟩ := mem_ready.1 hi
    have hlt := (Array.getElem?_eq_some_iff.1 h2).1
    have hL : listed.getD i false = false := by simp [hs, hlt] at h1 ⊢; exact h1
    refine wpOp_mono (fun a' w' hJ' => ⟨trivial, ih _ a' w' (by simp [hs]) ?_ ?_⟩) (step i hlt _ a w hJ hL (fun j hj => by
      obtain ⟨e, he, hb, rfl⟩ := (pre_mem h2).1 hj
      exact h3 e he hb))
    · have e := getD_set listed i (by omega)
      have hlt2 : (List.range ops.size).countP (fun j => !(listed.setIfInBounds i true).getD j false) < (List.range ops.size).countP (fun j => !listed.getD j false) := by
        have e2 : (fun j => !(listed.setIfInBounds i true).getD j false) = fun j => (!(j == i)) && !listed.getD j false := by
          funext j
          have := congrFun e j
          rw [this]; simp
        rw [e2]
        have hp : (fun j => !listed.getD j false) i = true := by simp only [hL]; rfl
        have key : ∀ l : List Nat, i ∈ l → l.countP (fun j => (!(j == i)) && !listed.getD j false) < l.countP (fun j => !listed.getD j false) := by
          intro l
          induction l with
          | nil => intro h; cases h
          | cons x l ihl =>
            intro hm
            have hle : l.countP (fun j => (!(j == i)) && !listed.getD j false) ≤ l.countP (fun j => !listed.getD j false) :=
              List.countP_mono_left fun y _ hy => by simp only [Bool.and_eq_true] at hy; exact hy.2
            rw [List.countP_cons, List.countP_cons]
            by_cases hx : x = i
            · subst hx
              rw [if_neg (by simp), if_pos hp]
              omega
            · have := ihl ((List.mem_cons.1 hm).resolve_left (Ne.symm hx))
              have e3 : ((!(x == i)) && !listed.getD x false) = !listed.getD x false := by simp [hx]
              rw [e3]
              omega
        exact key _ (List.mem_range.2 hlt)
      omega
    · rw [getD_set listed i (by omega)]
      exact hJ'
/-- The region. -/
theorem region_inv {id : Nat} {a : Act} {w : World} (J : (Nat → Bool) → Act → World → Prop) (hm : P.follows .mixedOrders = true) (hup : upB ops = true)
    (h0 : J (fun _ => false) a w.drew)
    (step : ∀ i, i < ops.size → ∀ L a w, J L a w → L i = false → (∀ j ∈ preOf ops i, L j = true) → wpOp P ops Q i (fun a' w' => J (fun j => j == i || L j) a' w') a w)
    (fin : ∀ L a w, J L a w → (∀ i, i < ops.size → L i = true) → Q .normal a w) : (Code.region id ops true).wp P Q a w := by
  refine wp_region_held_drew (S := fun _ => True) hm trivial fun _ => ?_
  refine wpAnyH_inv J hup step fin _ _ a w.drew (by simp) ?_ ?_
  · refine Nat.le_trans List.countP_le_length ?_
    simp
  · have e : (fun j => (Array.replicate ops.size false).getD j false) = fun _ => false := by
      funext j
      simp [Array.getD_eq_getD_getElem?, Array.getElem?_replicate]
      split <;> rfl
    rw [e]; exact h0
/-- An operation that is wanted. -/
theorem wpOp_wanted {i : Nat} {o : Oper} (ho : ops[i]? = some o) (hg : o.guard = none) {K : Act → World → Prop} {a : Act} {w : World} (h : ∀ K' : Act → World → Prop, Shut (∀ a w, K a w → K' a w) → o.wp P a w K' Q) : wpOp P ops Q i K a w := by
  unfold wpOp
  rw [ho]
  simp only [Region.wanted, hg, if_true]
  exact .inl (h K (fun _ _ h => h))
end
/-! ### The slots that a region writes, by a function -/
def regT (base : Array Value) (slots : List Nat) (f : Nat → Value) : Array Value := slots.foldl (fun t k => t.setIfInBounds k (f k)) base
def updF (f : Nat → Value) (d : Nat) (v : Value) (k : Nat) : Value := if k = d then v else f k
theorem regT_get (f : Nat → Value) : ∀ (slots : List Nat) (base : Array Value) (k : Nat), (regT base slots f)[k]? = if k ∈ slots ∧ k < base.size then some (f k) else base[k]?
  | [], base, k => by simp [regT]
  | d :: slots, base, k => by
    have h := regT_get f slots (base.setIfInBounds d (f d)) k
    unfold regT at h ⊢
    rw [List.foldl_cons, h]
    by_cases h1 : k ∈ slots ∧ k < base.size
    · rw [if_pos (by simpa using h1), if_pos ⟨List.mem_cons_of_mem _ h1.1, h1.2⟩]
    · rw [if_neg (by simpa using h1)]
      by_cases h2 : k = d
      · subst h2
        by_cases h3 : k < base.size
        · rw [if_pos ⟨List.mem_cons_self, h3⟩]; simp [h3]
        · rw [if_neg (fun h => h3 h.2)]; simp [h3]
      · rw [if_neg (by
          rintro ⟨h3, h4⟩
          exact h1 ⟨(List.mem_cons.1 h3).resolve_left h2, h4⟩)]
        exact Array.getElem?_setIfInBounds_ne (Ne.symm h2)
theorem regT_id (base : Array Value) (slots : List Nat) : regT base slots (fun k => base.getD k undef) = base := by
  apply Array.ext_getElem?
  intro k
  rw [regT_get]
  split
  · rename_i h; simp [Array.getD_eq_getD_getElem?, h.2]
  · rfl
theorem regT_put (base : Array Value) (slots : List Nat) (f : Nat → Value) (d : Nat) (v : Value) (hd : d ∈ slots) : (regT base slots f).setIfInBounds d v = regT base slots (updF f d v) := by
  apply Array.ext_getElem?
  intro k
  have hsz : ∀ g, (regT base slots g).size = base.size := fun g => by
    unfold regT
    clear hd
    induction slots generalizing base with
    | nil => rfl
    | cons x l ih => rw [List.foldl_cons, ih]; simp
  rw [regT_get]
  by_cases h : k = d
  · subst h
    by_cases h2 : k < base.size
    · rw [if_pos ⟨hd, h2⟩]; simp [hsz, h2, updF]
    · rw [if_neg (fun h => h2 h.2)]; simp [hsz, h2]
  · rw [Array.getElem?_setIfInBounds_ne (Ne.symm h), regT_get]
    simp [updF, h]
theorem regT_in {base : Array Value} {slots : List Nat} {f : Nat → Value} {k : Nat} (h : k ∈ slots) (h2 : k < base.size) : (regT base slots f).getD k undef = f k := by
  rw [Array.getD_eq_getD_getElem?, regT_get, if_pos ⟨h, h2⟩]; rfl
theorem regT_out {base : Array Value} {slots : List Nat} {f : Nat → Value} {k : Nat} (h : k ∉ slots) : (regT base slots f).getD k undef = base.getD k undef := by
  rw [Array.getD_eq_getD_getElem?, regT_get, if_neg (fun hh => h hh.1), Array.getD_eq_getD_getElem?]
section
variable {P : Program} {ops : Array Oper} {Q : Exit → Act → World → Prop}
/-- Between two operations: those of V that came up yield their values; M: of the memory. -/
def RegJ (base : Array Value) (df : List Deferred) (slots : List Nat) (V : List (Nat × Nat × Value)) (M : (Nat → Bool) → (Nat → Value) → World → Prop) (L : Nat → Bool) (a : Act) (w : World) : Prop :=
  ∃ f, a = { tmps := regT base slots f, defers := df } ∧ (∀ p ∈ V, L p.1 = true → f p.2.1 = p.2.2) ∧ M L f w
variable {base : Array Value} {df : List Deferred} {slots : List Nat} {V : List (Nat × Nat × Value)} {M : (Nat → Bool) → (Nat → Value) → World → Prop}
/-- An operation that yields its value, whatever it does to the world. -/
theorem regJ_fixed {i d : Nat} {v : Value} {o : Oper} (ho : ops[i]? = some o) (hg : o.guard = none) (hd : o.dst = some d) (hs : slots.contains d = true) (hV : ∀ p ∈ V, (p.1 = i ↔ p.2.1 = d) ∧ (p.1 = i → p.2.2 = v)) (R : World → World → Prop)
    (hM : ∀ L f w w', M L f w → R w w' → M (fun j => j == i || L j) (updF f d v) w')
    (hrun : ∀ (L : Nat → Bool) (f : Nat → Value) (w : World), (∀ p ∈ V, L p.1 = true → f p.2.1 = p.2.2) → M L f w → (∀ j ∈ preOf ops i, L j = true) →
      ∀ K' : Act → World → Prop, Shut (∀ w', R w w' → K' ({ tmps := regT base slots f, defers := df : Act }.put (some d) v) w') → o.wp P { tmps := regT base slots f, defers := df } w K' Q) :
    ∀ L a w, RegJ base df slots V M L a w → L i = false → (∀ j ∈ preOf ops i, L j = true) → wpOp P ops Q i (fun a' w' => RegJ base df slots V M (fun j => j == i || L j) a' w') a w := by
  rintro L a w ⟨f, rfl, h1, h2⟩ _ hp
  refine wpOp_wanted ho hg fun K' hK => hrun L f w h1 h2 hp K' (fun w' hR => hK _ w' ⟨updF f d v, ?_, fun p hp' hL => ?_, hM L f w w' h2 hR⟩)
  · show ({ tmps := (regT base slots f).setIfInBounds d v, defers := df } : Act) = _
    rw [regT_put _ _ _ _ _ (by simpa using hs)]
  · obtain ⟨e1, e2⟩ := hV p hp'
    unfold updF
    by_cases h : p.2.1 = d
    · rw [if_pos h, e2 (e1.2 h)]
    · rw [if_neg h]
      refine h1 p hp' ?_
      have : p.1 ≠ i := fun e => h (e1.1 e)
      simpa [this] using hL
/-- An operation of another kind. -/
theorem regJ_other {i : Nat} {o : Oper} (ho : ops[i]? = some o) (hg : o.guard = none)
    (hrun : ∀ (L : Nat → Bool) (f : Nat → Value) (w : World), (∀ p ∈ V, L p.1 = true → f p.2.1 = p.2.2) → M L f w → L i = false → (∀ j ∈ preOf ops i, L j = true) →
      ∀ K' : Act → World → Prop, Shut (∀ a' w', RegJ base df slots V M (fun j => j == i || L j) a' w' → K' a' w') → o.wp P { tmps := regT base slots f, defers := df } w K' Q) :
    ∀ L a w, RegJ base df slots V M L a w → L i = false → (∀ j ∈ preOf ops i, L j = true) → wpOp P ops Q i (fun a' w' => RegJ base df slots V M (fun j => j == i || L j) a' w') a w := by
  rintro L a w ⟨f, rfl, h1, h2⟩ hL hp
  exact wpOp_wanted ho hg fun K' hK => hrun L f w h1 h2 hL hp K' (fun a' w' h => hK _ w' h)
end
theorem wp_named {P : Program} {c : Code} {Q : Exit → Act → World → Prop} {t : Array Value} {d : List Deferred} {w : World} (h : ∀ base : Array Value, base = t → c.wp P Q { tmps := base, defers := d } w) : c.wp P Q { tmps := t, defers := d } w := h t rfl
theorem regJ_start {base : Array Value} {df : List Deferred} {slots : List Nat} {V : List (Nat × Nat × Value)} {M : (Nat → Bool) → (Nat → Value) → World → Prop} {w : World} (h : M (fun _ => false) (fun k => base.getD k undef) w) : RegJ base df slots V M (fun _ => false) { tmps := base, defers := df } w :=
  ⟨_, by rw [regT_id], fun _ _ hh => (by cases hh), h⟩
/-- Blocks that operations make, in slots, and other operations fill: (who makes, who fills, slot). -/
structure Als (T : TypeId) (B : Nat) (rows : List (Nat × Nat × Nat)) (z : Array Value) (vv : Nat → Array Value) (X : Nat → Bool) (f : Nat → Value) (w : World) : Prop where
  a : ∀ r ∈ rows, X r.1 = false → X r.2.1 = false
  b : ∀ r ∈ rows, X r.1 = true → ∃ cc, f r.2.2 = .pointer (some ⟨cc, 0, none⟩) ∧ B ≤ cc ∧ w.heap[cc]? = some (.cells (if X r.2.1 = true then vv r.2.2 else z) T (0, 0))
  n : ∀ r ∈ rows, ∀ r' ∈ rows, r.2.2 ≠ r'.2.2 → X r.1 = true → X r'.1 = true → f r.2.2 ≠ f r'.2.2
def rowsOK (rows : List (Nat × Nat × Nat)) : Bool := rows.all fun r => rows.all fun r' => (decide (r.1 = r'.1) == decide (r.2.2 = r'.2.2)) && (decide (r.2.1 = r'.2.1) == decide (r.2.2 = r'.2.2)) && !decide (r.1 = r'.2.1)
theorem rowsOK_out {rows : List (Nat × Nat × Nat)} (h : rowsOK rows = true) {r r' : Nat × Nat × Nat} (hr : r ∈ rows) (hr' : r' ∈ rows) : (r.1 = r'.1 ↔ r.2.2 = r'.2.2) ∧ (r.2.1 = r'.2.1 ↔ r.2.2 = r'.2.2) ∧ r.1 ≠ r'.2.1 := by
  have h1 := List.all_eq_true.1 (List.all_eq_true.1 h r hr) r' hr'
  simp only [Bool.and_eq_true, beq_iff_eq, decide_eq_decide, Bool.not_eq_true', decide_eq_false_iff_not] at h1
  exact ⟨h1.1.1, h1.1.2, h1.2⟩
section
variable {T : TypeId} {B : Nat} {rows : List (Nat × Nat × Nat)} {z : Array Value} {vv : Nat → Array Value} {X X' : Nat → Bool} {f f' : Nat → Value} {w w' : World}
theorem Als.start (hX : ∀ k, X k = false) : Als T B rows z vv X f w :=
  ⟨fun _ _ _ => hX _, fun r _ h => (by rw [hX] at h; cases h), fun r _ r' _ _ h => (by rw [hX] at h; cases h)⟩
theorem Als.keep (h : Als T B rows z vv X f w) (hb : Below w.heap.size w w') (he : ∀ r ∈ rows, X' r.1 = X r.1 ∧ X' r.2.1 = X r.2.1 ∧ f' r.2.2 = f r.2.2) : Als T B rows z vv X' f' w' := by
  refine ⟨fun r hr hx => ?_, fun r hr hx => ?_, fun r hr r' hr' hn hx hx' => ?_⟩
  · rw [(he r hr).2.1]; exact h.a r hr ((he r hr).1 ▸ hx)
  · obtain ⟨cc, e1, e2, e3⟩ := h.b r hr ((he r hr).1 ▸ hx)
    exact ⟨cc, (he r hr).2.2.trans e1, e2, by rw [(he r hr).2.1]; exact (hb.block cc (Array.getElem?_eq_some_iff.1 e3).1).trans e3⟩
  · rw [(he r hr).2.2, (he r' hr').2.2]; exact h.n r hr r' hr' hn ((he r hr).1 ▸ hx) ((he r' hr').1 ▸ hx')
theorem Als.alloc (h : Als T B rows z vv X f w) (hok : rowsOK rows = true) (hB : B ≤ w.heap.size) {r : Nat × Nat × Nat} (hr : r ∈ rows) (hx : X r.1 = false) :
    Als T B rows z vv (fun j => j == r.1 || X j) (updF f r.2.2 (.pointer (some ⟨w.heap.size, 0, none⟩))) (w.alloc (.cells z T)) := by
  have hnew : ∀ r' ∈ rows, X r'.1 = true → f r'.2.2 ≠ .pointer (some ⟨w.heap.size, 0, none⟩) := fun r' hr' hx' e => by
    obtain ⟨cc, e1, e2, e3⟩ := h.b r' hr' hx'
    rw [e1] at e
    have : cc = w.heap.size := by simpa using e
    have h2 := (Array.getElem?_eq_some_iff.1 e3).1
    omega
  have hs : ∀ r' ∈ rows, (r'.2.1 == r.1 || X r'.2.1) = X r'.2.1 := fun r' hr' => by
    have := (rowsOK_out hok hr hr').2.2
    have e : (r'.2.1 == r.1) = false := by simp; exact fun e => this e.symm
    rw [e]; rfl
  refine ⟨fun r' hr' hx' => ?_, fun r' hr' hx' => ?_, fun r1 hr1 r2 hr2 hn hx1 hx2 => ?_⟩
  · simp only [hs r' hr']
    refine h.a r' hr' ?_
    simp only [Bool.or_eq_false_iff] at hx'
    exact hx'.2
  · simp only [hs r' hr']
    by_cases e : r'.2.2 = r.2.2
    · have e1 := (rowsOK_out hok hr' hr).1.2 e
      have e2 := (rowsOK_out hok hr' hr).2.1.2 e
      refine ⟨w.heap.size, by unfold updF; rw [if_pos e], hB, ?_⟩
      rw [if_neg (by rw [h.a r' hr' (by rw [e1]; exact hx)]; decide)]
      exact heap_alloc_new w _
    · have e1 : r'.1 ≠ r.1 := fun e1 => e ((rowsOK_out hok hr' hr).1.1 e1)
      have hx2 : X r'.1 = true := by simpa [e1] using hx'
      obtain ⟨cc, h1, h2, h3⟩ := h.b r' hr' hx2
      exact ⟨cc, by unfold updF; rw [if_neg e]; exact h1, h2, ((below_new w _).block cc (Array.getElem?_eq_some_iff.1 h3).1).trans h3⟩
  · unfold updF
    have ha : ∀ r' ∈ rows, r'.2.2 ≠ r.2.2 → (r'.1 == r.1 || X r'.1) = true → X r'.1 = true := fun r' hr' hn' hx' => by
      have e1 : r'.1 ≠ r.1 := fun e1 => hn' ((rowsOK_out hok hr' hr).1.1 e1)
      simpa [e1] using hx'
    by_cases e1 : r1.2.2 = r.2.2
    · have e2 : r2.2.2 ≠ r.2.2 := fun e2 => hn (e1.trans e2.symm)
      rw [if_pos e1, if_neg e2]
      exact (hnew r2 hr2 (ha r2 hr2 e2 hx2)).symm
    · rw [if_neg e1]
      by_cases e2 : r2.2.2 = r.2.2
      · rw [if_pos e2]
        exact hnew r1 hr1 (ha r1 hr1 e1 hx1)
      · rw [if_neg e2]
        exact h.n r1 hr1 r2 hr2 hn (ha r1 hr1 e1 hx1) (ha r2 hr2 e2 hx2)
theorem Als.store (h : Als T B rows z vv X f w) (hok : rowsOK rows = true) {r : Nat × Nat × Nat} (hr : r ∈ rows) (hx : X r.1 = true) {cc : Nat} (hf : f r.2.2 = .pointer (some ⟨cc, 0, none⟩)) :
    Als T B rows z vv (fun j => j == r.2.1 || X j) f (w.setRow cc (vv r.2.2)) := by
  have hs : ∀ r' ∈ rows, (r'.1 == r.2.1 || X r'.1) = X r'.1 := fun r' hr' => by
    have := (rowsOK_out hok hr' hr).2.2
    have e : (r'.1 == r.2.1) = false := by simp; exact this
    rw [e]; rfl
  refine ⟨fun r' hr' hx' => ?_, fun r' hr' hx' => ?_, fun r1 hr1 r2 hr2 hn hx1 hx2 => ?_⟩
  · simp only [hs r' hr'] at hx'
    by_cases e : r'.2.1 = r.2.1
    · have e1 := (rowsOK_out hok hr' hr).1.2 ((rowsOK_out hok hr' hr).2.1.1 e)
      rw [e1, hx] at hx'; cases hx'
    · have := h.a r' hr' hx'
      simp [e, this]
  · simp only [hs r' hr'] at hx'
    obtain ⟨c', h1, h2, h3⟩ := h.b r' hr' hx'
    by_cases e : r'.2.2 = r.2.2
    · have e2 := (rowsOK_out hok hr' hr).2.1.2 e
      have ec : c' = cc := by
        have := h1.symm.trans ((congrArg f e).trans hf)
        simpa using this
      subst ec
      refine ⟨c', h1, h2, ?_⟩
      rw [if_pos (by simp [e2]), e]
      exact setRow_heap w c' _ _ _ _ h3
    · have e2 : r'.2.1 ≠ r.2.1 := fun e2 => e ((rowsOK_out hok hr' hr).2.1.1 e2)
      have hn := h.n r' hr' r hr e hx' hx
      have ec : c' ≠ cc := fun ec => hn (by rw [h1, hf, ec])
      refine ⟨c', h1, h2, ?_⟩
      have e3 : (r'.2.1 == r.2.1 || X r'.2.1) = X r'.2.1 := by
        have : (r'.2.1 == r.2.1) = false := by simpa using e2
        rw [this]; rfl
      simp only [e3]
      rw [setRow_other w cc c' _ ec]
      exact h3
  · simp only [hs r1 hr1] at hx1
    simp only [hs r2 hr2] at hx2
    exact h.n r1 hr1 r2 hr2 hn hx1 hx2
end
theorem store_row {P : Program} {w : World} {g : Nat} {cur : Array Value} {t : TypeId} (vs : List Value) (hg : w.heap[g]? = some (.cells cur t (0, 0))) (hl : vs.length = cur.size) (h1 : ∀ v ∈ vs, v.oneCell' = true) : (storeCells ⟨g, 0, none⟩ vs).run P w = .ok () (w.setRow g vs.toArray) := by
  have := run_storeCells_from (P := P) g t vs 0 cur w hg (by omega) h1
  simpa using this
theorem store_two {w : World} {g : Nat} {x y v0 v1 : Value} {t : TypeId} (hg : w.heap[g]? = some (.cells #[x, y] t (0, 0))) :
    w.cell? ⟨g, 0, none⟩ = some x ∧ w.frozen? ⟨g, 0, none⟩ = false ∧ (w.setCell ⟨g, 0, none⟩ v0).cell? ⟨g, 1, none⟩ = some y ∧ (w.setCell ⟨g, 0, none⟩ v0).frozen? ⟨g, 1, none⟩ = false ∧ (w.setCell ⟨g, 0, none⟩ v0).setCell ⟨g, 1, none⟩ v1 = w.setRow g #[v0, v1] := by
  have h1 := setCell_eq_setRow w g 0 _ _ _ v0 hg
  have h2 : (w.setCell ⟨g, 0, none⟩ v0).heap[g]? = some (.cells #[v0, y] t (0, 0)) := by
    rw [h1]; exact setRow_heap w g _ _ _ _ hg
  refine ⟨cell_of_row _ _ 0 _ _ _ hg, frozen_of_row _ _ 0 _ _ hg, cell_of_row _ _ 1 _ _ _ h2, frozen_of_row _ _ 1 _ _ h2, ?_⟩
  rw [setCell_eq_setRow _ g 1 _ _ _ v1 h2, h1, setRow_setRow]
  rfl
end Go.Proofs.Ytdodkhhlbjamhaa
