/- Words, contracts and walks that the proof stands on (Inv Rel KyY KyZ). -/
import Derived.Test.YtjlliohjeiclaaaGreatDoorKC1
namespace Go.Proofs.YtjlliohjeiclaaaGreatDoor
open Go.RowKit
def preOf (ops : Array Oper) (i : Nat) : List Nat := match ops[i]? with
 | some o => (o.after.toList.filter fun e => Region.binds .any e).map fun e => e.on
 | none => []
def upB (ops : Array Oper) : Bool := (List.range ops.size).all fun i => (preOf ops i).all fun j => decide (j < i)
section
variable {P : Program} {ops : Array Oper} {Q : Exit → Act → World → Prop}
theorem pre_mem {i : Nat} {o : Oper} (ho : ops[i]? = some o) {j : Nat} : j ∈ preOf ops i ↔ ∃ e ∈ o.after, Region.binds .any e = true ∧ e.on = j := by
 unfold preOf
 rw [ho]
 simp only [List.mem_map, List.mem_filter, Array.mem_toList_iff]
 constructor
 · rintro ⟨e, ⟨h1, h2⟩, h3⟩; exact ⟨e, h1, h2, h3⟩
 · rintro ⟨e, h1, h2, h3⟩; exact ⟨e, ⟨h1, h2⟩, h3⟩
theorem ready_nil (hup : upB ops = true) {listed : Array Bool} (hs : listed.size = ops.size) (h : Region.ready .any ops listed = []) : ∀ i, i < ops.size → listed.getD i false = true := by
 intro i
 induction i using Nat.strongRecOn with
 | _ i ih =>
  intro hi
  cases e : listed.getD i false with
  | true => rfl
  | false =>
   have : i ∈ Region.ready .any ops listed := by
    rw [mem_ready]
    refine ⟨by simp [hs, hi] at e ⊢; exact e, _, Array.getElem?_eq_getElem hi, fun ed hed hb => ?_⟩
    have hm : ed.on ∈ preOf ops i := (pre_mem (Array.getElem?_eq_getElem hi)).2 ⟨ed, hed, hb, rfl⟩
    have h1 := List.all_eq_true.1 hup i (List.mem_range.2 hi)
    have h2 := List.all_eq_true.1 h1 _ hm
    have h3 : ed.on < i := of_decide_eq_true h2
    exact ih _ h3 (by omega)
   rw [h] at this
   cases this
theorem getD_set (listed : Array Bool) (i : Nat) (hi : i < listed.size) : (fun j => (listed.setIfInBounds i true).getD j false) = fun j => j == i || listed.getD j false := by
 funext j
 by_cases h : j = i
 · subst h; simp [hi]
 · have : (listed.setIfInBounds i true)[j]? = listed[j]? := Array.getElem?_setIfInBounds_ne (Ne.symm h)
   simp [Array.getD_eq_getD_getElem?, this, h]
theorem wpAnyH_inv (J : (Nat → Bool) → Act → World → Prop) (hup : upB ops = true)
 (step : ∀ i, i < ops.size → ∀ L a w, J L a w → L i = false → (∀ j ∈ preOf ops i, L j = true) → wpOp P ops Q i (fun a' w' => J (fun j => j == i || L j) a' w') a w)
 (fin : ∀ L a w, J L a w → (∀ i, i < ops.size → L i = true) → Q .normal a w) :
 ∀ (fuel : Nat) (listed : Array Bool) (a : Act) (w : World), listed.size = ops.size → (List.range ops.size).countP (fun i => !listed.getD i false) ≤ fuel → J (fun j => listed.getD j false) a w → wpAnyH P .any ops Q (fun _ => True) fuel listed a w := by
 intro fuel
 induction fuel with
 | zero =>
  intro listed a w hs hc hJ
  have hall : ∀ i, i < ops.size → listed.getD i false = true := by
   intro i hi
   have h0 := List.countP_eq_zero.1 (Nat.le_zero.1 hc) i (List.mem_range.2 hi)
   simpa using h0
  refine ⟨?_, fin _ _ _ hJ hall⟩
  rw [List.eq_nil_iff_forall_not_mem]
  intro i hi
  obtain ⟨h1, o, h2, _⟩ := mem_ready.1 hi
  have hlt := (Array.getElem?_eq_some_iff.1 h2).1
  have := hall i hlt
  simp [hs, hlt] at h1 this
  rw [h1] at this; cases this
 | succ fuel ih =>
  intro listed a w hs hc hJ
  refine ⟨fun h => fin _ _ _ hJ (ready_nil hup hs h), fun i hi => ?_⟩
  obtain ⟨h1, o, h2, h3⟩ := mem_ready.1 hi
  have hlt := (Array.getElem?_eq_some_iff.1 h2).1
  have hL : listed.getD i false = false := by simp [hs, hlt] at h1 ⊢; exact h1
  refine wpOp_mono (fun a' w' hJ' => ⟨trivial, ih _ a' w' (by simp [hs]) ?_ ?_⟩) (step i hlt _ a w hJ hL (fun j hj => by
   obtain ⟨e, he, hb, rfl⟩ := (pre_mem h2).1 hj
   exact h3 e he hb))
  · have e := getD_set listed i (by omega)
    have hlt2 : (List.range ops.size).countP (fun j => !(listed.setIfInBounds i true).getD j false) < (List.range ops.size).countP (fun j => !listed.getD j false) := by
     have e2 : (fun j => !(listed.setIfInBounds i true).getD j false) = fun j => (!(j == i)) && !listed.getD j false := by
      funext j
      have := congrFun e j
      rw [this]; simp
     rw [e2]
     have hp : (fun j => !listed.getD j false) i = true := by simp only [hL]; rfl
     have key : ∀ l : List Nat, i ∈ l → l.countP (fun j => (!(j == i)) && !listed.getD j false) < l.countP (fun j => !listed.getD j false) := by
      intro l
      induction l with
      | nil => intro h; cases h
      | cons x l ihl =>
       intro hm
       have hle : l.countP (fun j => (!(j == i)) && !listed.getD j false) ≤ l.countP (fun j => !listed.getD j false) :=
        List.countP_mono_left fun y _ hy => by simp only [Bool.and_eq_true] at hy; exact hy.2
       rw [List.countP_cons, List.countP_cons]
       by_cases hx : x = i
       · subst hx
         rw [if_neg (by simp), if_pos hp]
         omega
       · have := ihl ((List.mem_cons.1 hm).resolve_left (Ne.symm hx))
         have e3 : ((!(x == i)) && !listed.getD x false) = !listed.getD x false := by simp [hx]
         rw [e3]
         omega
     exact key _ (List.mem_range.2 hlt)
    omega
  · rw [getD_set listed i (by omega)]
    exact hJ'
theorem region_inv {id : Nat} {a : Act} {w : World} (J : (Nat → Bool) → Act → World → Prop) (hm : P.follows .mixedOrders = true) (hup : upB ops = true)
 (h0 : J (fun _ => false) a w.drew)
 (step : ∀ i, i < ops.size → ∀ L a w, J L a w → L i = false → (∀ j ∈ preOf ops i, L j = true) → wpOp P ops Q i (fun a' w' => J (fun j => j == i || L j) a' w') a w)
 (fin : ∀ L a w, J L a w → (∀ i, i < ops.size → L i = true) → Q .normal a w) : (Code.region id ops true).wp P Q a w := by
 refine wp_region_held_drew (S := fun _ => True) hm trivial fun _ => ?_
 refine wpAnyH_inv J hup step fin _ _ a w.drew (by simp) ?_ ?_
 · refine Nat.le_trans List.countP_le_length ?_
   simp
 · have e : (fun j => (Array.replicate ops.size false).getD j false) = fun _ => false := by
    funext j
    simp [Array.getD_eq_getD_getElem?, Array.getElem?_replicate]
    split <;> rfl
   rw [e]; exact h0
end
def regT (base : Array Value) (slots : List Nat) (f : Nat → Value) : Array Value := slots.foldl (fun t k => t.setIfInBounds k (f k)) base
def updF (f : Nat → Value) (d : Nat) (v : Value) (k : Nat) : Value := if k = d then v else f k
theorem regT_get (f : Nat → Value) : ∀ (slots : List Nat) (base : Array Value) (k : Nat), (regT base slots f)[k]? = if k ∈ slots ∧ k < base.size then some (f k) else base[k]?
 | [], base, k => by simp [regT]
 | d :: slots, base, k => by
  have h := regT_get f slots (base.setIfInBounds d (f d)) k
  unfold regT at h ⊢
  rw [List.foldl_cons, h]
  by_cases h1 : k ∈ slots ∧ k < base.size
  · rw [if_pos (by simpa using h1), if_pos ⟨List.mem_cons_of_mem _ h1.1, h1.2⟩]
  · rw [if_neg (by simpa using h1)]
    by_cases h2 : k = d
    · subst h2
      by_cases h3 : k < base.size
      · rw [if_pos ⟨List.mem_cons_self, h3⟩]; simp [h3]
      · rw [if_neg (fun h => h3 h.2)]; simp [h3]
    · rw [if_neg (by
       rintro ⟨h3, h4⟩
       exact h1 ⟨(List.mem_cons.1 h3).resolve_left h2, h4⟩)]
      exact Array.getElem?_setIfInBounds_ne (Ne.symm h2)
theorem regT_id (base : Array Value) (slots : List Nat) : regT base slots (fun k => base.getD k undef) = base := by
 apply Array.ext_getElem?
 intro k
 rw [regT_get]
 split
 · rename_i h; simp [Array.getD_eq_getD_getElem?, h.2]
 · rfl
theorem regT_put (base : Array Value) (slots : List Nat) (f : Nat → Value) (d : Nat) (v : Value) (hd : d ∈ slots) : (regT base slots f).setIfInBounds d v = regT base slots (updF f d v) := by
 apply Array.ext_getElem?
 intro k
 have hsz : ∀ g, (regT base slots g).size = base.size := fun g => by
  unfold regT
  clear hd
  induction slots generalizing base with
  | nil => rfl
  | cons x l ih => rw [List.foldl_cons, ih]; simp
 rw [regT_get]
 by_cases h : k = d
 · subst h
   by_cases h2 : k < base.size
   · rw [if_pos ⟨hd, h2⟩]; simp [hsz, h2, updF]
   · rw [if_neg (fun h => h2 h.2)]; simp [hsz, h2]
 · rw [Array.getElem?_setIfInBounds_ne (Ne.symm h), regT_get]
   simp [updF, h]
theorem regT_in {base : Array Value} {slots : List Nat} {f : Nat → Value} {k : Nat} (h : k ∈ slots) (h2 : k < base.size) : (regT base slots f).getD k undef = f k := by
 rw [Array.getD_eq_getD_getElem?, regT_get, if_pos ⟨h, h2⟩]; rfl
theorem regT_out {base : Array Value} {slots : List Nat} {f : Nat → Value} {k : Nat} (h : k ∉ slots) : (regT base slots f).getD k undef = base.getD k undef := by
 rw [Array.getD_eq_getD_getElem?, regT_get, if_neg (fun hh => h hh.1), Array.getD_eq_getD_getElem?]
section
variable {P : Program} {ops : Array Oper} {Q : Exit → Act → World → Prop}
variable {base : Array Value} {df : List Deferred} {slots : List Nat} {V : List (Nat × Nat × Value)} {M : (Nat → Bool) → (Nat → Value) → World → Prop}
end
structure Als (T : TypeId) (B : Nat) (rows : List (Nat × Nat × Nat)) (z : Array Value) (vv : Nat → Array Value) (X : Nat → Bool) (f : Nat → Value) (w : World) : Prop where
 a : ∀ r ∈ rows, X r.1 = false → X r.2.1 = false
 b : ∀ r ∈ rows, X r.1 = true → ∃ cc, f r.2.2 = .pointer (some ⟨cc, 0, none⟩) ∧ B ≤ cc ∧ w.heap[cc]? = some (.cells (if X r.2.1 = true then vv r.2.2 else z) T (0, 0))
 n : ∀ r ∈ rows, ∀ r' ∈ rows, r.2.2 ≠ r'.2.2 → X r.1 = true → X r'.1 = true → f r.2.2 ≠ f r'.2.2
def rowsOK (rows : List (Nat × Nat × Nat)) : Bool := rows.all fun r => rows.all fun r' => (decide (r.1 = r'.1) == decide (r.2.2 = r'.2.2)) && (decide (r.2.1 = r'.2.1) == decide (r.2.2 = r'.2.2)) && !decide (r.1 = r'.2.1)
theorem rowsOK_out {rows : List (Nat × Nat × Nat)} (h : rowsOK rows = true) {r r' : Nat × Nat × Nat} (hr : r ∈ rows) (hr' : r' ∈ rows) : (r.1 = r'.1 ↔ r.2.2 = r'.2.2) ∧ (r.2.1 = r'.2.1 ↔ r.2.2 = r'.2.2) ∧ r.1 ≠ r'.2.1 := by
 have h1 := List.all_eq_true.1 (List.all_eq_true.1 h r hr) r' hr'
 simp only [Bool.and_eq_true, beq_iff_eq, decide_eq_decide, Bool.not_eq_true', decide_eq_false_iff_not] at h1
 exact ⟨h1.1.1, h1.1.2, h1.2⟩
section
variable {T : TypeId} {B : Nat} {rows : List (Nat × Nat × Nat)} {z : Array Value} {vv : Nat → Array Value} {X X' : Nat → Bool} {f f' : Nat → Value} {w w' : World}
theorem Als.keep (h : Als T B rows z vv X f w) (hb : Below w.heap.size w w') (he : ∀ r ∈ rows, X' r.1 = X r.1 ∧ X' r.2.1 = X r.2.1 ∧ f' r.2.2 = f r.2.2) : Als T B rows z vv X' f' w' := by
 refine ⟨fun r hr hx => ?_, fun r hr hx => ?_, fun r hr r' hr' hn hx hx' => ?_⟩
 · rw [(he r hr).2.1]; exact h.a r hr ((he r hr).1 ▸ hx)
 · obtain ⟨cc, e1, e2, e3⟩ := h.b r hr ((he r hr).1 ▸ hx)
   exact ⟨cc, (he r hr).2.2.trans e1, e2, by rw [(he r hr).2.1]; exact (hb.block cc (Array.getElem?_eq_some_iff.1 e3).1).trans e3⟩
 · rw [(he r hr).2.2, (he r' hr').2.2]; exact h.n r hr r' hr' hn ((he r hr).1 ▸ hx) ((he r' hr').1 ▸ hx')
theorem Als.alloc (h : Als T B rows z vv X f w) (hok : rowsOK rows = true) (hB : B ≤ w.heap.size) {r : Nat × Nat × Nat} (hr : r ∈ rows) (hx : X r.1 = false) :
 Als T B rows z vv (fun j => j == r.1 || X j) (updF f r.2.2 (.pointer (some ⟨w.heap.size, 0, none⟩))) (w.alloc (.cells z T)) := by
 have hnew : ∀ r' ∈ rows, X r'.1 = true → f r'.2.2 ≠ .pointer (some ⟨w.heap.size, 0, none⟩) := fun r' hr' hx' e => by
  obtain ⟨cc, e1, e2, e3⟩ := h.b r' hr' hx'
  rw [e1] at e
  have : cc = w.heap.size := by simpa using e
  have h2 := (Array.getElem?_eq_some_iff.1 e3).1
  omega
 have hs : ∀ r' ∈ rows, (r'.2.1 == r.1 || X r'.2.1) = X r'.2.1 := fun r' hr' => by
  have := (rowsOK_out hok hr hr').2.2
  have e : (r'.2.1 == r.1) = false := by simp; exact fun e => this e.symm
  rw [e]; rfl
 refine ⟨fun r' hr' hx' => ?_, fun r' hr' hx' => ?_, fun r1 hr1 r2 hr2 hn hx1 hx2 => ?_⟩
 · simp only [hs r' hr']
   refine h.a r' hr' ?_
   simp only [Bool.or_eq_false_iff] at hx'
   exact hx'.2
 · simp only [hs r' hr']
   by_cases e : r'.2.2 = r.2.2
   · have e1 := (rowsOK_out hok hr' hr).1.2 e
     have e2 := (rowsOK_out hok hr' hr).2.1.2 e
     refine ⟨w.heap.size, by unfold updF; rw [if_pos e], hB, ?_⟩
     rw [if_neg (by rw [h.a r' hr' (by rw [e1]; exact hx)]; decide)]
     exact heap_alloc_new w _
   · have e1 : r'.1 ≠ r.1 := fun e1 => e ((rowsOK_out hok hr' hr).1.1 e1)
     have hx2 : X r'.1 = true := by simpa [e1] using hx'
     obtain ⟨cc, h1, h2, h3⟩ := h.b r' hr' hx2
     exact ⟨cc, by unfold updF; rw [if_neg e]; exact h1, h2, ((below_new w _).block cc (Array.getElem?_eq_some_iff.1 h3).1).trans h3⟩
 · unfold updF
   have ha : ∀ r' ∈ rows, r'.2.2 ≠ r.2.2 → (r'.1 == r.1 || X r'.1) = true → X r'.1 = true := fun r' hr' hn' hx' => by
    have e1 : r'.1 ≠ r.1 := fun e1 => hn' ((rowsOK_out hok hr' hr).1.1 e1)
    simpa [e1] using hx'
   by_cases e1 : r1.2.2 = r.2.2
   · have e2 : r2.2.2 ≠ r.2.2 := fun e2 => hn (e1.trans e2.symm)
     rw [if_pos e1, if_neg e2]
     exact (hnew r2 hr2 (ha r2 hr2 e2 hx2)).symm
   · rw [if_neg e1]
     by_cases e2 : r2.2.2 = r.2.2
     · rw [if_pos e2]
       exact hnew r1 hr1 (ha r1 hr1 e1 hx1)
     · rw [if_neg e2]
       exact h.n r1 hr1 r2 hr2 hn (ha r1 hr1 e1 hx1) (ha r2 hr2 e2 hx2)
theorem Als.store (h : Als T B rows z vv X f w) (hok : rowsOK rows = true) {r : Nat × Nat × Nat} (hr : r ∈ rows) (hx : X r.1 = true) {cc : Nat} (hf : f r.2.2 = .pointer (some ⟨cc, 0, none⟩)) :
 Als T B rows z vv (fun j => j == r.2.1 || X j) f (w.setRow cc (vv r.2.2)) := by
 have hs : ∀ r' ∈ rows, (r'.1 == r.2.1 || X r'.1) = X r'.1 := fun r' hr' => by
  have := (rowsOK_out hok hr' hr).2.2
  have e : (r'.1 == r.2.1) = false := by simp; exact this
  rw [e]; rfl
 refine ⟨fun r' hr' hx' => ?_, fun r' hr' hx' => ?_, fun r1 hr1 r2 hr2 hn hx1 hx2 => ?_⟩
 · simp only [hs r' hr'] at hx'
   by_cases e : r'.2.1 = r.2.1
   · have e1 := (rowsOK_out hok hr' hr).1.2 ((rowsOK_out hok hr' hr).2.1.1 e)
     rw [e1, hx] at hx'; cases hx'
   · have := h.a r' hr' hx'
     simp [e, this]
 · simp only [hs r' hr'] at hx'
   obtain ⟨c', h1, h2, h3⟩ := h.b r' hr' hx'
   by_cases e : r'.2.2 = r.2.2
   · have e2 := (rowsOK_out hok hr' hr).2.1.2 e
     have ec : c' = cc := by
      have := h1.symm.trans ((congrArg f e).trans hf)
      simpa using this
     subst ec
     refine ⟨c', h1, h2, ?_⟩
     rw [if_pos (by simp [e2]), e]
     exact setRow_heap w c' _ _ _ _ h3
   · have e2 : r'.2.1 ≠ r.2.1 := fun e2 => e ((rowsOK_out hok hr' hr).2.1.1 e2)
     have hn := h.n r' hr' r hr e hx' hx
     have ec : c' ≠ cc := fun ec => hn (by rw [h1, hf, ec])
     refine ⟨c', h1, h2, ?_⟩
     have e3 : (r'.2.1 == r.2.1 || X r'.2.1) = X r'.2.1 := by
      have : (r'.2.1 == r.2.1) = false := by simpa using e2
      rw [this]; rfl
     simp only [e3]
     rw [setRow_other w cc c' _ ec]
     exact h3
 · simp only [hs r1 hr1] at hx1
   simp only [hs r2 hr2] at hx2
   exact h.n r1 hr1 r2 hr2 hn hx1 hx2
end
end Go.Proofs.YtjlliohjeiclaaaGreatDoor
namespace Go.Proofs.YtjlliohjeiclaaaGreatDoor
open Go.RowKit
abbrev Pr := Value → World → Prop
def anyV : Pr := fun _ _ => True
def Stay (g : Pr) : Prop := ∀ v w w', g v w → Below w.heap.size w w' → g v w'
def dstN (ops : Array Oper) (i : Nat) : Option Nat := (ops[i]?).bind (·.dst)
def dstsOK (ops : Array Oper) (slots : List Nat) : Bool := (List.range ops.size).all fun i => match dstN ops i with
 | none => true
 | some d => slots.contains d && (List.range ops.size).all fun j => j == i || dstN ops j != some d
def lkG (gs : List Pr) (j : Nat) : Pr := if j < gs.length then gs.getD (gs.length - 1 - j) anyV else anyV
theorem lkG_old (gs : List Pr) (g : Pr) (j : Nat) (h : j < gs.length) : lkG (g :: gs) j = lkG gs j := by
 unfold lkG
 rw [if_pos h, if_pos (by rw [List.length_cons]; omega), List.length_cons, show gs.length + 1 - 1 - j = (gs.length - 1 - j) + 1 by omega, List.getD_cons_succ]
theorem lkG_new (gs : List Pr) (g : Pr) : lkG (g :: gs) gs.length = g := by
 unfold lkG
 rw [if_pos (by rw [List.length_cons]; omega), List.length_cons, show gs.length + 1 - 1 - gs.length = 0 by omega, List.getD_cons_zero]
def depsOK (ops : Array Oper) (i : Nat) (ds : List (Nat × Nat × Nat)) : Bool := ds.all fun p => ((preOf ops i).contains p.1 && dstN ops p.1 == some p.2.1) && decide (p.1 + p.2.2 + 1 = i)
def finOK (ops : Array Oper) (ds : List (Nat × Nat × Nat)) : Bool := ds.all fun p => decide (p.1 + p.2.2 + 1 = ops.size) && dstN ops p.1 == some p.2.1
def DepF (gs : List Pr) (t : Array Value) (w : World) : List (Nat × Nat × Nat) → Prop
 | [] => True
 | p :: ds => (∃ x, (t.getD p.2.1 undef = x ∧ t[p.2.1]?.getD undef = x) ∧ gs.getD p.2.2 anyV x w) ∧ DepF gs t w ds
def FinF (gs : List Pr) (f : Nat → Value) (w : World) : List (Nat × Nat × Nat) → Prop
 | [] => True
 | p :: ds => (∃ x, f p.2.1 = x ∧ gs.getD p.2.2 anyV x w) ∧ FinF gs f w ds
def BasF (base t : Array Value) : List Nat → Prop
 | [] => True
 | k :: ks => (t.getD k undef = base.getD k undef ∧ t[k]?.getD undef = base.getD k undef) ∧ BasF base t ks
theorem wanted_none {o : Oper} {y : Nat → Option Bool} (h : o.guard = none) : Region.wanted o y = true := by simp [Region.wanted, h]
theorem getD_two {t : Array Value} {k : Nat} {v : Value} (h : t.getD k undef = v) : t[k]?.getD undef = v := by rwa [Array.getD_eq_getD_getElem?] at h
theorem basF_of {base : Array Value} {slots : List Nat} {f : Nat → Value} : ∀ {bs : List Nat}, (bs.all fun k => !slots.contains k) = true → BasF base (regT base slots f) bs
 | [], _ => trivial
 | k :: ks, h => by
  simp only [List.all_cons, Bool.and_eq_true] at h
  exact ⟨⟨regT_out (by simpa using h.1), getD_two (regT_out (by simpa using h.1))⟩, basF_of h.2⟩
theorem depF_of {ops : Array Oper} {gs : List Pr} {base : Array Value} {slots : List Nat} {f : Nat → Value} {w : World} {i : Nat} (hl : gs.length = i) (hsl : ∀ j d, dstN ops j = some d → d ∈ slots) (hsz : ∀ d ∈ slots, d < base.size)
 (hp : ∀ j ∈ preOf ops i, ∀ d, dstN ops j = some d → j < i → lkG gs j (f d) w) : ∀ {ds : List (Nat × Nat × Nat)}, depsOK ops i ds = true → DepF gs (regT base slots f) w ds
 | [], _ => trivial
 | p :: ds, h => by
  simp only [depsOK, List.all_cons, Bool.and_eq_true] at h
  obtain ⟨⟨⟨h1, h2⟩, h4⟩, h3⟩ := h
  have e : dstN ops p.1 = some p.2.1 := by simpa using h2
  have hd := hsl _ _ e
  have hj : p.1 + p.2.2 + 1 = i := by simpa using h4
  have e1 := regT_in (f := f) hd (hsz _ hd)
  have h5 := hp _ (by simpa using h1) _ e (by omega)
  unfold lkG at h5
  rw [if_pos (by omega), show gs.length - 1 - p.1 = p.2.2 by omega] at h5
  exact ⟨⟨f p.2.1, ⟨e1, getD_two e1⟩, h5⟩, depF_of hl hsl hsz hp h3⟩
theorem finF_of {ops : Array Oper} {gs : List Pr} {f : Nat → Value} {w : World} (hl : gs.length = ops.size) (hp : ∀ j, j < ops.size → ∀ d, dstN ops j = some d → lkG gs j (f d) w) : ∀ {ds : List (Nat × Nat × Nat)}, finOK ops ds = true → FinF gs f w ds
 | [], _ => trivial
 | p :: ds, h => by
  simp only [finOK, List.all_cons, Bool.and_eq_true] at h
  obtain ⟨⟨h1, h2⟩, h3⟩ := h
  have hj : p.1 + p.2.2 + 1 = ops.size := by simpa using h1
  have h5 := hp p.1 (by omega) _ (by simpa using h2)
  unfold lkG at h5
  rw [if_pos (by omega), show gs.length - 1 - p.1 = p.2.2 by omega] at h5
  exact ⟨⟨f p.2.1, rfl, h5⟩, finF_of hl hp h3⟩
section
variable {P : Program} {ops : Array Oper} {Q : Exit → Act → World → Prop} {id : Nat} {base : Array Value} {df : List Deferred} {slots : List Nat} {W0 : World}
def StepOK (P : Program) (ops : Array Oper) (Q : Exit → Act → World → Prop) (base : Array Value) (df : List Deferred) (slots : List Nat) (W0 : World) (gs : List Pr) (i : Nat) : Prop :=
 ∀ f w, Below W0.heap.size W0 w → (∀ j ∈ preOf ops i, ∀ d, dstN ops j = some d → lkG gs j (f d) w) → ∀ K : Act → World → Prop,
  (∀ v w', lkG gs i v w' → Below w.heap.size w w' → K ({ tmps := regT base slots f, defers := df : Act }.put (dstN ops i) v) w') → wpOp P ops Q i K { tmps := regT base slots f, defers := df } w
def RelG (P : Program) (ops : Array Oper) (Q : Exit → Act → World → Prop) (id : Nat) (base : Array Value) (df : List Deferred) (slots : List Nat) (W0 : World) (so : List Nat) (gs : List Pr) : Prop :=
 upB ops = true → (∀ j d, dstN ops j = some d → d ∈ slots) → (∀ i j d, dstN ops i = some d → dstN ops j = some d → i = j) → (∀ d ∈ slots, d < base.size) →
  (∀ i, i < gs.length → so.contains i = false → Stay (lkG gs i) ∧ StepOK P ops Q base df slots W0 gs i) → (Code.region id ops true).wp P Q { tmps := base, defers := df } W0
theorem dstN_lt {i d : Nat} (h : dstN ops i = some d) : i < ops.size := by
 unfold dstN at h
 rcases Nat.lt_or_ge i ops.size with hl | hl
 · exact hl
 · rw [Array.getElem?_eq_none hl] at h; cases h
theorem relG_start {so : List Nat} (hup : upB ops = true) (hd : dstsOK ops slots = true) (hz : (slots.all fun d => decide (d < base.size)) = true) (h : RelG P ops Q id base df slots W0 so []) : (Code.region id ops true).wp P Q { tmps := base, defers := df } W0 := by
 have hall : ∀ i d, dstN ops i = some d → slots.contains d = true ∧ ∀ j, j < ops.size → (j == i || dstN ops j != some d) = true := fun i d e => by
  have h1 := List.all_eq_true.1 hd i (List.mem_range.2 (dstN_lt e))
  rw [e] at h1
  simp only [Bool.and_eq_true] at h1
  exact ⟨h1.1, fun j hj => List.all_eq_true.1 h1.2 j (List.mem_range.2 hj)⟩
 have hsz : ∀ d ∈ slots, d < base.size := fun d hd => of_decide_eq_true (List.all_eq_true.1 hz d hd)
 refine h hup (fun j d e => by simpa using (hall j d e).1) (fun i j d e1 e2 => ?_) hsz (fun i hi => by simp at hi)
 have := (hall i d e1).2 j (dstN_lt e2)
 rw [e2] at this
 simp at this
 exact this.symm
theorem up_lt (hup : upB ops = true) {i j : Nat} (hi : i < ops.size) (hj : j ∈ preOf ops i) : j < i := by
 have h1 := List.all_eq_true.1 hup i (List.mem_range.2 hi)
 exact of_decide_eq_true (List.all_eq_true.1 h1 j hj)
theorem relG_step {so : List Nat} {gs : List Pr} (g : Pr) (hl : gs.length < ops.size) (hm : Stay g) (hs : (∀ j d, dstN ops j = some d → d ∈ slots) → (∀ d ∈ slots, d < base.size) → StepOK P ops Q base df slots W0 (g :: gs) gs.length) (h : RelG P ops Q id base df slots W0 so (g :: gs)) : RelG P ops Q id base df slots W0 so gs := by
 intro hup hsl hinj hsz hall
 refine h hup hsl hinj hsz fun i hi hso => ?_
 rw [List.length_cons] at hi
 by_cases e : i = gs.length
 · subst e
   exact ⟨by rw [lkG_new]; exact hm, hs hsl hsz⟩
 · have hi' : i < gs.length := by omega
   obtain ⟨h1, h2⟩ := hall i hi' hso
   rw [lkG_old _ _ _ hi']
   refine ⟨h1, fun f w hb hp K hK => ?_⟩
   rw [lkG_old _ _ _ hi'] at hK
   refine h2 f w hb (fun j hj d e => ?_) K hK
   have hlt := up_lt hup (by omega) hj
   have := hp j hj d e
   rwa [lkG_old _ _ _ (by omega)] at this
theorem relG_pure {so : List Nat} {gs : List Pr} {i : Nat} {o : Oper} {v : Value} (ds : List (Nat × Nat × Nat)) (bs : List Nat) (hl : gs.length = i) (ho : ops[i]? = some o) (hd : depsOK ops i ds = true) (hb : (bs.all fun k => !slots.contains k) = true)
 (hy : ∀ t w, Below W0.heap.size W0 w → DepF gs t w ds → BasF base t bs → YieldsIf P ops (fun w' => w' = w) o v { tmps := t, defers := df })
 (h : RelG P ops Q id base df slots W0 so ((fun x _ => x = v) :: gs)) : RelG P ops Q id base df slots W0 so gs := by
 subst hl
 refine relG_step _ (Array.getElem?_eq_some_iff.1 ho).1 (fun _ _ _ h _ => h) (fun hsl hsz => ?_) h
 intro f w hW hp K hK
 rw [lkG_new] at hK
 have hdp : DepF gs (regT base slots f) w ds := depF_of rfl hsl hsz (fun j hj d e hlt => by
  have := hp j hj d e
  rwa [lkG_old _ _ _ hlt] at this) hd
 have hY := hy (regT base slots f) w hW hdp (basF_of hb)
 have hdst : dstN ops gs.length = o.dst := by unfold dstN; rw [ho]; rfl
 rw [hdst] at hK
 exact hY.wpOp ho rfl (hK v w rfl (Below.refl _ _))
theorem relG_call {so : List Nat} {gs : List Pr} {i : Nat} {o : Oper} (g : Pr) (ds : List (Nat × Nat × Nat)) (bs : List Nat) (hl : gs.length = i) (ho : ops[i]? = some o) (hd : depsOK ops i ds = true) (hb : (bs.all fun k => !slots.contains k) = true) (hm : Stay g)
 (hw : ∀ t w, Below W0.heap.size W0 w → DepF gs t w ds → BasF base t bs → ∀ K : Act → World → Prop, Shut (∀ v w', g v w' → Below w.heap.size w w' → K ({ tmps := t, defers := df : Act }.put o.dst v) w') →
  Region.wanted o (yielded ops t) = true ∧ o.wp P { tmps := t, defers := df } w K Q)
 (h : RelG P ops Q id base df slots W0 so (g :: gs)) : RelG P ops Q id base df slots W0 so gs := by
 subst hl
 refine relG_step _ (Array.getElem?_eq_some_iff.1 ho).1 hm (fun hsl hsz => ?_) h
 intro f w hW hp K hK
 rw [lkG_new] at hK
 have hdp : DepF gs (regT base slots f) w ds := depF_of rfl hsl hsz (fun j hj d e hlt => by
  have := hp j hj d e
  rwa [lkG_old _ _ _ hlt] at this) hd
 have hdst : dstN ops gs.length = o.dst := by unfold dstN; rw [ho]; rfl
 rw [hdst] at hK
 obtain ⟨h1, h2⟩ := hw (regT base slots f) w hW hdp (basF_of hb) K hK
 unfold wpOp
 rw [ho]
 simp only [h1, if_true]
 exact .inl h2
theorem relG_done {gs : List Pr} (ps : List (Nat × Nat × Nat)) (hm : P.follows .mixedOrders = true) (hl : gs.length = ops.size) (hps : finOK ops ps = true)
 (h : ∀ f w, Below W0.heap.size W0 w → FinF gs f w ps → Q .normal { tmps := regT base slots f, defers := df } w) : RelG P ops Q id base df slots W0 [] gs := by
 intro hup hsl hinj hsz hall0
 have hall : ∀ i, i < gs.length → Stay (lkG gs i) ∧ StepOK P ops Q base df slots W0 gs i := fun i hi => hall0 i hi rfl
 refine region_inv (fun L a w => ∃ f, a = { tmps := regT base slots f, defers := df } ∧ Below W0.heap.size W0 w ∧ ∀ i d, dstN ops i = some d → L i = true → lkG gs i (f d) w) hm hup
  ⟨fun k => base.getD k undef, by rw [regT_id], (Below.refl _ _).drew, fun _ _ _ h => by cases h⟩ ?_ ?_
 · rintro i hi L a w ⟨f, rfl, hW, hL⟩ hLi hpre
   obtain ⟨h1, h2⟩ := hall i (by omega)
   refine h2 f w hW (fun j hj d e => hL j d e (hpre j hj)) _ fun v w' hg hb => ?_
   have hW' := hW.trans (hb.mono hW.size)
   cases hdi : dstN ops i with
   | none =>
    refine ⟨f, rfl, hW', fun j d e hj => ?_⟩
    have hne : j ≠ i := fun e' => by rw [e', hdi] at e; cases e
    have : L j = true := by simpa [hne] using hj
    exact (hall j (by have := dstN_lt e; omega)).1 _ _ _ (hL j d e this) hb
   | some di =>
    refine ⟨updF f di v, ?_, hW', fun j d e hj => ?_⟩
    · show ({ tmps := (regT base slots f).setIfInBounds di v, defers := df } : Act) = _
      rw [regT_put _ _ _ _ _ (hsl i di hdi)]
    · unfold updF
      by_cases hne : j = i
      · subst hne
        rw [hdi] at e
        cases e
        rw [if_pos rfl]
        exact hg
      · have h3 : d ≠ di := fun e' => hne (hinj j i d e (e' ▸ hdi))
        rw [if_neg h3]
        have : L j = true := by simpa [hne] using hj
        exact (hall j (by have := dstN_lt e; omega)).1 _ _ _ (hL j d e this) hb
 · rintro L a w ⟨f, rfl, hW, hL⟩ hLall
   exact h f w hW (finF_of hl (fun j hj d e => hL j d e (hLall j hj)) hps)
def needsN (ops : Array Oper) : Nat → Nat → Nat → Bool
 | 0, _, _ => false
 | f + 1, i, j => (preOf ops i).contains j || (preOf ops i).any fun k => needsN ops f k j
def tailB (ops : Array Oper) (m : Nat) : Bool := (List.range ops.size).all fun i => decide (i < m) || (List.range i).all fun j => needsN ops 6 i j
def ClosedL (ops : Array Oper) (L : Nat → Bool) : Prop := ∀ i, L i = true → ∀ j ∈ preOf ops i, L j = true
theorem needsN_out {L : Nat → Bool} (hc : ClosedL ops L) : ∀ (f i j : Nat), needsN ops f i j = true → (∀ k ∈ preOf ops i, L k = true) → L j = true
 | 0, _, _, h, _ => by cases h
 | f + 1, i, j, h, hp => by
  simp only [needsN, Bool.or_eq_true, List.any_eq_true] at h
  rcases h with h | ⟨k, hk, h⟩
  · exact hp j (by simpa using h)
  · exact needsN_out hc f k j h (hc k (hp k hk))
theorem wpList_wpOp {i : Nat} {a : Act} {w : World} (hi : i < ops.size) (h : wpList P ops Q (ops.toList.drop i) a w) : wpOp P ops Q i (wpList P ops Q (ops.toList.drop (i + 1))) a w := by
 rw [List.drop_eq_getElem_cons (by simpa using hi)] at h
 unfold wpOp
 rw [Array.getElem?_eq_getElem hi]
 exact h
theorem relG_tail {gs : List Pr} (m : Nat) (ps : List (Nat × Nat × Nat)) (hm : P.follows .mixedOrders = true) (hl : gs.length = m) (hps : (ps.all fun p => decide (p.1 + p.2.2 + 1 = m) && dstN ops p.1 == some p.2.1) = true) (ht : tailB ops m = true)
 (h : ∀ f w, Below W0.heap.size W0 w → FinF gs f w ps → wpList P ops Q (ops.toList.drop m) { tmps := regT base slots f, defers := df } w) (hmn0 : decide (m ≤ ops.size) = true) : RelG P ops Q id base df slots W0 [] gs := by
 have hmn : m ≤ ops.size := of_decide_eq_true hmn0
 intro hup hsl hinj hsz hall0
 have hall : ∀ i, i < gs.length → Stay (lkG gs i) ∧ StepOK P ops Q base df slots W0 gs i := fun i hi => hall0 i hi rfl
 have hreach : ∀ (L : Nat → Bool), ClosedL ops L → ∀ i, i < ops.size → m ≤ i → (∀ k ∈ preOf ops i, L k = true) → ∀ j, j < i → L j = true := by
  intro L hc i hi hmi hp j hj
  have h1 := List.all_eq_true.1 ht i (List.mem_range.2 hi)
  simp only [Bool.or_eq_true, decide_eq_true_eq] at h1
  have h2 := List.all_eq_true.1 (h1.resolve_left (by omega)) j (List.mem_range.2 hj)
  exact needsN_out hc 6 i j h2 hp
 have hclo : ∀ (L : Nat → Bool) i, ClosedL ops L → (∀ k ∈ preOf ops i, L k = true) → ClosedL ops (fun j => j == i || L j) := by
  intro L i hc hp k hk j hj
  have hk' : (k == i || L k) = true := hk
  have : L j = true := by
   by_cases e : k = i
   · subst e; exact hp j hj
   · exact hc k (by simpa [e] using hk') j hj
  show (j == i || L j) = true
  rw [this]; simp
 have hfin : ∀ (L : Nat → Bool) f w, (∀ i d, dstN ops i = some d → L i = true → lkG gs i (f d) w) → (∀ j, j < m → L j = true) → FinF gs f w ps := by
  intro L f w hL hj
  clear h
  induction ps with
  | nil => trivial
  | cons p ps ih =>
   simp only [List.all_cons, Bool.and_eq_true] at hps
   obtain ⟨⟨h1, h2⟩, h3⟩ := hps
   have hj' : p.1 + p.2.2 + 1 = m := by simpa using h1
   have h5 := hL p.1 p.2.1 (by simpa using h2) (hj _ (by omega))
   unfold lkG at h5
   rw [if_pos (by omega), show gs.length - 1 - p.1 = p.2.2 by omega] at h5
   exact ⟨⟨f p.2.1, rfl, h5⟩, ih h3⟩
 refine region_inv (fun L a w => ClosedL ops L ∧ ((∃ f, a = { tmps := regT base slots f, defers := df } ∧ Below W0.heap.size W0 w ∧ (∀ i d, dstN ops i = some d → L i = true → lkG gs i (f d) w) ∧ ∀ i, m ≤ i → L i = false) ∨
  ∃ i0, m < i0 ∧ (∀ j, j < i0 → L j = true) ∧ (∀ j, i0 ≤ j → L j = false) ∧ wpList P ops Q (ops.toList.drop i0) a w)) hm hup
  ⟨(fun _ h => by cases h), .inl ⟨fun k => base.getD k undef, by rw [regT_id], (Below.refl _ _).drew, fun _ _ _ h => (by cases h), fun _ _ => rfl⟩⟩ ?_ ?_
 · rintro i hi L a w ⟨hc, hAB⟩ hLi hpre
   have hc' := hclo L i hc hpre
   rcases hAB with ⟨f, rfl, hW, hL, hno⟩ | ⟨i0, hi0, hle, hge, hwl⟩
   · by_cases him : i < m
     · obtain ⟨h1, h2⟩ := hall i (by omega)
       refine h2 f w hW (fun j hj d e => hL j d e (hpre j hj)) _ fun v w' hg hb => ⟨hc', .inl ?_⟩
       have hW' := hW.trans (hb.mono hW.size)
       have hno' : ∀ k, m ≤ k → (k == i || L k) = false := fun k hk => by rw [hno k hk]; simp; omega
       cases hdi : dstN ops i with
       | none =>
        refine ⟨f, rfl, hW', fun j d e hj => ?_, hno'⟩
        have hne : j ≠ i := fun e' => by rw [e', hdi] at e; cases e
        have hLj : L j = true := by simpa [hne] using hj
        have hjm : j < m := by
         rcases Nat.lt_or_ge j m with hh | hh
         · exact hh
         · rw [hno j hh] at hLj; cases hLj
        exact (hall j (by omega)).1 _ _ _ (hL j d e hLj) hb
       | some di =>
        refine ⟨updF f di v, ?_, hW', fun j d e hj => ?_, hno'⟩
        · show ({ tmps := (regT base slots f).setIfInBounds di v, defers := df } : Act) = _
          rw [regT_put _ _ _ _ _ (hsl i di hdi)]
        · unfold updF
          by_cases hne : j = i
          · subst hne
            rw [hdi] at e
            cases e
            rw [if_pos rfl]
            exact hg
          · have h3 : d ≠ di := fun e' => hne (hinj j i d e (e' ▸ hdi))
            rw [if_neg h3]
            have hLj : L j = true := by simpa [hne] using hj
            have hjm : j < m := by
             rcases Nat.lt_or_ge j m with hh | hh
             · exact hh
             · rw [hno j hh] at hLj; cases hLj
            exact (hall j (by omega)).1 _ _ _ (hL j d e hLj) hb
     · have hr := hreach L hc i hi (by omega) hpre
       have him' : i = m := by
        rcases Nat.lt_or_ge m i with hh | hh
        · have := hr m hh; rw [hno m (Nat.le_refl _)] at this; cases this
        · omega
       subst him'
       refine wpOp_mono (fun a' w' hk => ⟨hc', .inr ⟨i + 1, by omega, fun j hj => ?_, fun j hj => ?_, hk⟩⟩) (wpList_wpOp hi (h f w hW (hfin L f w hL hr)))
       · by_cases e : j = i
         · subst e; simp
         · have := hr j (by omega); show (j == i || L j) = true; rw [this]; simp
       · show (j == i || L j) = false
         rw [hno j (by omega)]; simp; omega
   · have hi0' : i0 ≤ i := by
      rcases Nat.lt_or_ge i i0 with hh | hh
      · rw [hle i hh] at hLi; cases hLi
      · exact hh
     have hr := hreach L hc i hi (by omega) hpre
     have hii : i = i0 := by
      rcases Nat.lt_or_ge i0 i with hh | hh
      · have := hr i0 hh; rw [hge i0 (Nat.le_refl _)] at this; cases this
      · omega
     subst hii
     refine wpOp_mono (fun a' w' hk => ⟨hc', .inr ⟨i + 1, by omega, fun j hj => ?_, fun j hj => ?_, hk⟩⟩) (wpList_wpOp hi hwl)
     · by_cases e : j = i
       · subst e; simp
       · have := hle j (by omega); show (j == i || L j) = true; rw [this]; simp
     · show (j == i || L j) = false
       rw [hge j (by omega)]; simp; omega
 · rintro L a w ⟨hc, hAB⟩ hLall
   rcases hAB with ⟨f, rfl, hW, hL, hno⟩ | ⟨i0, hi0, hle, hge, hwl⟩
   · have hmn' : ops.size ≤ m := by
      rcases Nat.lt_or_ge m ops.size with hh | hh
      · have := hLall m hh; rw [hno m (Nat.le_refl _)] at this; cases this
      · exact hh
     have := h f w hW (hfin L f w hL (fun j hj => hLall j (by omega)))
     rw [List.drop_eq_nil_of_le (by simpa using hmn')] at this
     exact this
   · have hn : ops.size ≤ i0 := by
      rcases Nat.lt_or_ge i0 ops.size with hh | hh
      · have := hLall i0 hh; rw [hge i0 (Nat.le_refl _)] at this; cases this
      · exact hh
     rw [List.drop_eq_nil_of_le (by simpa using hn)] at hwl
     exact hwl
end
end Go.Proofs.YtjlliohjeiclaaaGreatDoor
namespace Go.Proofs.YtjlliohjeiclaaaGreatDoor
open Go.RowKit St
open Go.Op (bytesLess)
theorem u8T : ElemT Tryz.prog 113 5 (.int .u8 0) 1 1 := ElemT.mk Tryz.underlying113 (by kernel_rfl) (by simp [Value.cells])
theorem dig_get (j m i : Nat) (h : i < (dig j m).length) : (dig j m)[i] = UInt8.ofNat (m / 256 ^ (j - 1 - i) % 256) := by
 induction j generalizing i with
 | zero => simp [dig] at h
 | succ j ih =>
  simp only [dig]
  cases i with
  | zero => simp
  | succ i =>
   rw [List.getElem_cons_succ, ih]
   rw [show j + 1 - 1 - (i + 1) = j - 1 - i by omega]
theorem dig_val (n : Int) (k : Nat) (h0 : 0 ≤ n) (hk : k < 8) : n / 2 ^ (56 - 8 * k) % 256 = (((dig 8 n.toNat)[k]'(by rw [dig_length]; exact hk)).toNat : Int) := by
 rw [dig_get]
 obtain ⟨m, rfl⟩ : ∃ m : Nat, n = m := ⟨n.toNat, by omega⟩
 rw [Int.toNat_natCast]
 have e : 256 ^ (8 - 1 - k) = 2 ^ (56 - 8 * k) := by
  rw [show 56 - 8 * k = 8 * (8 - 1 - k) by omega, Nat.pow_mul]
 rw [e]
 have : m / 2 ^ (56 - 8 * k) % 256 < 256 := Nat.mod_lt _ (by omega)
 rw [UInt8.toNat_ofNat', Nat.mod_eq_of_lt (by simpa using this)]
 simp
theorem take_set (l : List UInt8) (n : Nat) (hn : l.length = n) (k : Nat) (hk : k < n) : (l.take k ++ List.replicate (n - k) (0 : UInt8)).set k (l[k]'(by omega)) = l.take (k + 1) ++ List.replicate (n - (k + 1)) 0 := by
 subst hn
 have e1 : (l.take k).length = k := by simp; omega
 rw [List.set_append_right _ _ (by omega), e1, Nat.sub_self]
 rw [show l.length - k = l.length - (k + 1) + 1 by omega, List.replicate_succ, List.set_cons_zero, List.take_succ_eq_append_getElem hk, List.append_assoc]
 rfl
set_option maxHeartbeats 1000000 in
theorem stp_eight (n : Int) (w : World) (h0 : 0 ≤ n) (h1 : n ≤ 4611686018427387904) : Calls Tryz.prog 132 #[.int .i64 n] w fun e w' => ∃ cap, e = .returned (.slice (some ⟨w.heap.size, 0, none⟩) 8 cap) ∧ BytesAt w' (some ⟨w.heap.size, 0, none⟩) (dig 8 n.toNat) ∧ Below w.heap.size w w' := by
 go_enter Tryz.func132, Tryz.ntmps132
 go_wp2_with (first | (refine wpList_mkn rfl _ _ _ rfl 5 (.int .u8 0) 1 1 u8T _ _ _ _ 8 rfl rfl rfl rfl (by decide) (by decide) ?_; intro w1 hown hb))
 have hz : (madeCells (Value.int IntKind.u8 0).cells (8 * 1)).toList = bvs ((dig 8 n.toNat).take 0 ++ List.replicate (8 - 0) 0) := by kernel_rfl
 rw [hz] at hown
 clear hz
 go_loopw [8] (fun i wr => ∃ k : Nat, k ≤ 8 ∧ i = .int .i64 (k : Int) ∧ Hid (wr.ownsRow w.heap.size 5 1 (.slice (some ⟨w.heap.size, 0, none⟩) 8 8) 8 (bvs ((dig 8 n.toNat).take k ++ List.replicate (8 - k) 0))) ∧ Hid (Below w.heap.size w wr)) (fun i _ => 8 - (intOf i).toNat)
 case atStart => exact ⟨0, Nat.zero_le _, rfl, Lib.hid hown, Lib.hid hb⟩
 clear hown hb
 case round =>
  obtain ⟨k, hk, rfl, HO, HB⟩ := hrel
  by_cases hlt : k < 8
  · have hlen : ((dig 8 n.toNat).take k ++ List.replicate (8 - k) (0 : UInt8)).length = 8 := by simp [dig_length]; omega
    obtain ⟨c0, f0⟩ := own_byte HO.out k (by omega)
    have V := Lib.hid (dig_val n k h0 hlt)
    have T := Lib.hid (take_set (dig 8 n.toNat) 8 (by simp [dig_length]) k hlt)
    go_wp2
    refine ⟨⟨k + 1, by omega, by go_num, Lib.hid ?_, Lib.hid (HB.out.setCell (p := ⟨w.heap.size, k, none⟩) (by simp) _)⟩, by simp [intOf]; omega⟩
    have := own_put HO.out k ((dig 8 n.toNat)[k]'(by rw [dig_length]; exact hlt)) _ V.out
    rw [T.out] at this
    exact this
  · obtain rfl : k = 8 := by omega
    go_wp2
    go_ret
    refine ⟨8, rfl, ?_, HB.out⟩
    have := own_bytes HO.out
    rw [List.take_of_length_le (by simp [dig_length])] at this
    simpa using this
theorem joinK_succ (ll : List (List UInt8)) (k : Nat) (h : k < ll.length) : (ll.take (k + 1)).flatten = (ll.take k).flatten ++ ll[k] := by
 rw [List.take_succ_eq_append_getElem h]; simp only [List.flatten_append, List.flatten_cons, List.flatten_nil, List.append_nil]
theorem joinK_le (ll : List (List UInt8)) (k : Nat) : (ll.take k).flatten.length ≤ ll.flatten.length := by
 conv => rhs; rw [← List.take_append_drop k ll]
 rw [List.flatten_append, List.length_append]; omega
set_option maxHeartbeats 400000 in
theorem kw_Join (ll : List (List UInt8)) (a : Option Addr) (len cap : Nat) (w : World) (hl : ListsAt w a ll) (hlen : len = ll.length) (hm : ll.length ≤ 9223372036854775807) (hsum : ll.flatten.length ≤ 70368744177664) :
 Calls Tryz.prog 131 #[.slice a len cap] w fun e w' => ∃ v, e = .returned v ∧ w'.ownsRow w.heap.size 5 1 v ll.flatten.length (bvs ll.flatten) ∧ Below w.heap.size w w' := by
 subst hlen
 have BT := Lib.hid u8T
 have HL := Lib.hid hl; clear hl
 go_enter Tryz.func131, Tryz.ntmps131
 go_wp2_with fail
 go_loopw [3, 9] (fun v i wr => ∃ k : Nat, k ≤ ll.length ∧ i = .int .i64 k ∧ wr.ownsRow w.heap.size 5 1 v (ll.take k).flatten.length (bvs (ll.take k).flatten) ∧ Below w.heap.size w wr) (fun _ i _ => ll.length - (intOf i).toNat)
 case atStart => exact ⟨0, by omega, rfl, own_new w _ 5 [] (Nat.le_refl _) (by simp), below_new _ _⟩
 case round =>
  obtain ⟨k, hk, rfl, hown, hb⟩ := hrel
  have HO := Lib.hid hown; clear hown
  have HB := Lib.hid hb; clear hb
  by_cases hlt : k < ll.length
  · obtain ⟨b, off, a', cap', rfl, hc, hla, hlm⟩ := (HL.out.below HB.out rfl) k hlt
    have HLA := Lib.hid hla; clear hla
    have HF := Lib.hid (joinK_succ ll k hlt)
    have h1 := joinK_le ll (k + 1)
    have h2 : (ll.take k).flatten.length + ll[k].length ≤ 70368744177664 := by rw [HF.out, List.length_append] at h1; omega
    clear h1
    have HBS := Lib.hid HB.out.size
    go_wp2_with (at_builtin; refine wpList_appb rfl _ _ 113 113 rfl w.heap.size 5 BT.out u3 (ll.take k).flatten rfl HO.out _ ll[k] rfl (HLA.out.src Tryz.underlying113 cap') h2 HBS.out ?_; intro v' w1 hown1 _ hbel1 _)
    rw [← HF.out] at hown1
    have HO1 := Lib.hid hown1; clear hown1
    have HB1 := Lib.hid (HB.out.trans hbel1); clear hbel1
    go_wp2_with fail
    go_roundw
    case rel => exact ⟨k + 1, by omega, by go_num, HO1.out, HB1.out⟩
    case measure => simp [intOf]; omega
  · obtain rfl : k = ll.length := by omega
    have HO1 : Hid (wr.ownsRow w.heap.size 5 1 u3 ll.flatten.length (bvs ll.flatten)) := Lib.hid (by have := HO.out; rwa [List.take_length] at this)
    clear HO
    go_wp2_with fail
    go_ret
    exact ⟨_, rfl, HO1.out, HB.out⟩
theorem step_conv {P : Program} {o : Oper} {a : Act} {w : World} {K : Act → World → Prop} {Q : Exit → Act → World → Prop} (src dst e : TypeId) (d : Nat) (s : ByteArray) (ho : o.op = .convert src dst (.tmp d)) (hx' : a.tmps.getD d undef = .string s)
 (hs : P.underlying src = some .string) (hd : P.underlying dst = some (.slice e)) (he : P.underlying e = some (.int .u8))
 (h : ∀ v w', (∃ cap, v = .slice (some ⟨w.heap.size, 0, none⟩) s.size cap) → BytesAt w' (some ⟨w.heap.size, 0, none⟩) s.data.toList → Below w.heap.size w w' → K (a.put o.dst v) w') : o.wp P a w K Q := by
 have hx : a.eval (.tmp d) = .string s := hx'
 obtain ⟨cap, w2, hcv, hby, hb, _⟩ := conv_to_bytes (P := P) w src dst e s hs hd he
 unfold Oper.wp execOp
 simp only [ho, hx, Sem.run_bind, hcv, Result.andThen_ok, Sem.run_pure]
 exact h _ w2 ⟨cap, rfl⟩ hby hb
def SlB (l : List UInt8) : Pr := fun v w => ∃ a cap, v = .slice a l.length cap ∧ BytesAt w a l
theorem SlB.stay (l : List UInt8) : Stay (SlB l) := fun _ _ _ ⟨a, cap, e, h⟩ hb => ⟨a, cap, e, h.below hb rfl⟩
theorem SlB.one (w : World) (t : TypeId) (c : UInt8) (u : Int) (hu : u = (c.toNat : Int)) : SlB [c] (.slice (some ⟨w.heap.size, 0, none⟩) 1 1) (w.alloc (.cells #[.int .u8 u] t)) := by
 subst hu
 exact ⟨_, _, rfl, BytesAt.fresh w t (0, 0) [c] [_] rfl⟩
def Sl6 (l1 l2 l3 l4 l5 l6 : List UInt8) : Pr := fun v w => ∃ a cap, v = .slice a 6 cap ∧ ListsAt w a [l1, l2, l3, l4, l5, l6]
theorem Sl6.stay (l1 l2 l3 l4 l5 l6 : List UInt8) : Stay (Sl6 l1 l2 l3 l4 l5 l6) := fun _ _ _ ⟨a, cap, e, h⟩ hb => ⟨a, cap, e, h.below hb rfl⟩
theorem Sl6.mk {w : World} {t : TypeId} {l1 l2 l3 l4 l5 l6 : List UInt8} {v1 v2 v3 v4 v5 v6 : Value} (h1 : SlB l1 v1 w) (h2 : SlB l2 v2 w) (h3 : SlB l3 v3 w) (h4 : SlB l4 v4 w) (h5 : SlB l5 v5 w) (h6 : SlB l6 v6 w)
 (n1 : l1.length ≤ 9223372036854775807) (n2 : l2.length ≤ 9223372036854775807) (n3 : l3.length ≤ 9223372036854775807) (n4 : l4.length ≤ 9223372036854775807) (n5 : l5.length ≤ 9223372036854775807) (n6 : l6.length ≤ 9223372036854775807) :
 Sl6 l1 l2 l3 l4 l5 l6 (.slice (some ⟨w.heap.size, 0, none⟩) 6 6) (w.alloc (.cells #[v1, v2, v3, v4, v5, v6] t)) := by
 have hc : ∀ i, (w.alloc (.cells #[v1, v2, v3, v4, v5, v6] t)).cell? ⟨w.heap.size, i, none⟩ = (#[v1, v2, v3, v4, v5, v6])[i]? := fun i => cell_new _ _ _ _ i
 have hb := below_new w (.cells #[v1, v2, v3, v4, v5, v6] t)
 obtain ⟨a1, c1, e1, b1⟩ := SlB.stay _ _ _ _ h1 hb
 obtain ⟨a2, c2, e2, b2⟩ := SlB.stay _ _ _ _ h2 hb
 obtain ⟨a3, c3, e3, b3⟩ := SlB.stay _ _ _ _ h3 hb
 obtain ⟨a4, c4, e4, b4⟩ := SlB.stay _ _ _ _ h4 hb
 obtain ⟨a5, c5, e5, b5⟩ := SlB.stay _ _ _ _ h5 hb
 obtain ⟨a6, c6, e6, b6⟩ := SlB.stay _ _ _ _ h6 hb
 refine ⟨_, _, rfl, fun i hi => ?_⟩
 match i, hi with
 | 0, _ => exact ⟨_, _, a1, c1, rfl, by rw [hc, e1]; rfl, b1, n1⟩
 | 1, _ => exact ⟨_, _, a2, c2, rfl, by rw [hc, e2]; rfl, b2, n2⟩
 | 2, _ => exact ⟨_, _, a3, c3, rfl, by rw [hc, e3]; rfl, b3, n3⟩
 | 3, _ => exact ⟨_, _, a4, c4, rfl, by rw [hc, e4]; rfl, b4, n4⟩
 | 4, _ => exact ⟨_, _, a5, c5, rfl, by rw [hc, e5]; rfl, b5, n5⟩
 | 5, _ => exact ⟨_, _, a6, c6, rfl, by rw [hc, e6]; rfl, b6, n6⟩
theorem okLabel_len {l : List UInt8} (h : okLabel l = true) : l.length ≤ 12 := by
 unfold okLabel at h
 simp only [Bool.and_eq_true, decide_eq_true_eq] at h
 exact h.2
def keyL (s : Sv) : List (List UInt8) := [dig 8 s.g.toNat, dig 1 s.r.toNat, s.l.data.toList, [0], dig 8 s.n.toNat, dig 1 s.i.toNat]
theorem keyL_flat (s : Sv) : (keyL s).flatten = s.st.key := by simp [keyL, Stp.key, Sv.st]
theorem dig1_val {n : Int} (h0 : 0 ≤ n) (h1 : n < 256) : dig 1 n.toNat = [UInt8.ofNat n.toNat] ∧ n = ((UInt8.ofNat n.toNat).toNat : Int) := by
 refine ⟨by simp only [dig, Nat.pow_zero, Nat.div_one]; rw [Nat.mod_eq_of_lt (by omega)], ?_⟩
 rw [UInt8.toNat_ofNat', Nat.mod_eq_of_lt (by omega)]
 omega
theorem wrap_u8 {n : Int} (h0 : 0 ≤ n) (h1 : n < 256) : IntKind.u8.wrap n = n := by simp [IntKind.wrap, IntKind.bits, IntKind.signed]; omega
set_option maxRecDepth 100000 in
set_option maxHeartbeats 2000000 in
theorem stp_Key (s : Sv) (w : World) (hs : s.l.size ≤ 9223372036854775807) : Calls Tryz.prog 94 #[.agg #[.int .i64 s.g, .int .i64 s.r, .string s.l, .int .i64 s.n, .int .i64 s.i]] w fun e w' => e = .returned (if s.ok = true then .tuple #[.string (keyB s.st), .int .i64 0] else .tuple #[.string ⟨#[]⟩, .int .i64 2]) ∧ Below w.heap.size w w' := by
 have HK := Lib.hid (keyL_flat s)
 have HV := Lib.hid (@Sv.ok_iff s)
 have CS := Lib.hid (fun w' => stp_Stamp s w' hs)
 have HKL : Hid (keyL s = [dig 8 s.g.toNat, dig 1 s.r.toNat, s.l.data.toList, [0], dig 8 s.n.toNat, dig 1 s.i.toNat]) := Lib.hid rfl
 have HKB : Hid (keyB s.st = ⟨s.st.key.toArray⟩) := Lib.hid rfl
 obtain ⟨g, r, l, n, i⟩ := s
 simp only at hs HK HV CS HKL HKB ⊢
 generalize Sv.ok ⟨g, r, l, n, i⟩ = ok at *
 generalize keyL ⟨g, r, l, n, i⟩ = kl at *
 generalize keyB (Sv.st ⟨g, r, l, n, i⟩) = kb at *
 generalize Stp.key (Sv.st ⟨g, r, l, n, i⟩) = kk at *
 go_enter Tryz.func94, Tryz.ntmps94
 go_wp2_with fail
 refine (CS.out _).mono ?_
 rintro e w' ⟨rfl, hb⟩
 have HB : Hid (Below w.heap.size w w') := Lib.hid ((below_new w _).trans (hb.mono (by simp)))
 have KB := boxStays (heap_alloc_new w (.cells #[.int .i64 g, .int .i64 r, .string l, .int .i64 n, .int .i64 i] 43)) hb
 clear hb CS
 cases ok with
 | false =>
  go_wp2_with fail
  go_ret2
  exact ⟨rfl, HB.out⟩
 | true =>
  obtain ⟨h1, h2, h3, h4, h5, h6, h7, h8, h9⟩ := HV.out.1 rfl
  clear HV
  have k0 := cell_of_row _ _ 0 _ _ _ KB
  have k1 := cell_of_row _ _ 1 _ _ _ KB
  have k2 := cell_of_row _ _ 2 _ _ _ KB
  go_wp2_with fail
  have hW1 := boxStays KB (below_new w' (.cells #[.int .i64 r, .string l] 39))
  have hW2 := heap_alloc_new w' (.cells #[.int .i64 r, .string l] 39)
  have hW3 : Below w.heap.size w (w'.alloc (.cells #[.int .i64 r, .string l] 39)) := HB.out.alloc HB.out.size _
  generalize w'.alloc (.cells #[.int .i64 r, .string l] 39) = W at *
  have hll := okLabel_len h5
  have hdl := dlen l
  have hlk : ([dig 8 g.toNat, dig 1 r.toNat, l.data.toList, [0], dig 8 n.toNat, dig 1 i.toNat]).flatten.length ≤ 70368744177664 := by simp [dig_length]; omega
  have hkk : ([dig 8 g.toNat, dig 1 r.toNat, l.data.toList, [0], dig 8 n.toNat, dig 1 i.toNat]).flatten = kk := by rw [← HKL.out]; exact HK.out
  have hr := dig1_val h3 (show r < 256 by omega)
  have hi := dig1_val h8 (show i < 256 by omega)
  have X1 := Lib.hid hW1
  have X2 := Lib.hid hW2
  have X3 := Lib.hid hW3
  have LK := Lib.hid hlk
  have KK := Lib.hid hkk
  have RR := Lib.hid hr
  have II := Lib.hid hi
  have WR := Lib.hid (wrap_u8 h3 (show r < 256 by omega))
  have WI := Lib.hid (wrap_u8 h8 (show i < 256 by omega))
  clear hW1 hW2 hW3 hlk hkk hr hi KB k0 k1 k2 HB HKL HK
  refine relG_start (slots := [11, 12, 13, 14, 15, 16, 17, 18, 19, 20, 21, 22, 23, 24, 25, 26, 27, 28, 29, 30, 31, 32, 2, 3]) (so := []) (by kernel_rfl) (by kernel_rfl) (by rfl) ?_
  refine relG_pure (i := 0) (o := ⟨some 11, _, _, _, _, _⟩) (v := ?v1) [] [1] rfl rfl (by kernel_rfl) (by kernel_rfl) (fun t w1 hB hf hbf => ?y1) ?n1
  case y1 =>
   simp only [BasF] at hbf
   clear hf
   obtain ⟨⟨b1, k1⟩, _⟩ := hbf
   have b1' := boxStays X1.out hB
   have b2' := boxStays X2.out hB
   have c0 := cell_of_row _ _ 0 _ _ _ b1'
   have c3 := cell_of_row _ _ 3 _ _ _ b1'
   have c4 := cell_of_row _ _ 4 _ _ _ b1'
   have d0 := cell_of_row _ _ 0 _ _ _ b2'
   have d1 := cell_of_row _ _ 1 _ _ _ b2'
   have wr := WR.out
   have wi := WI.out
   clear b1' b2'
   refine Or.inl ⟨wanted_none rfl, ?_⟩
   rintro _ rfl
   go_simp <;> with_reducible rfl
  refine relG_pure (i := 1) (o := ⟨some 12, _, _, _, _, _⟩) (v := ?v2) [(0, 11, 0)] [] rfl rfl (by kernel_rfl) (by kernel_rfl) (fun t w1 hB hf hbf => ?y2) ?n2
  case y2 =>
   simp only [DepF, List.getD_cons_zero] at hf
   obtain ⟨⟨_, ⟨e11, i11⟩, rfl⟩, _⟩ := hf
   clear hbf
   have b1' := boxStays X1.out hB
   have b2' := boxStays X2.out hB
   have c0 := cell_of_row _ _ 0 _ _ _ b1'
   have c3 := cell_of_row _ _ 3 _ _ _ b1'
   have c4 := cell_of_row _ _ 4 _ _ _ b1'
   have d0 := cell_of_row _ _ 0 _ _ _ b2'
   have d1 := cell_of_row _ _ 1 _ _ _ b2'
   have wr := WR.out
   have wi := WI.out
   clear b1' b2'
   refine Or.inl ⟨wanted_none rfl, ?_⟩
   rintro _ rfl
   go_simp <;> with_reducible rfl
  refine relG_call (i := 2) (o := ⟨some 13, _, _, _, _, _⟩) (SlB (dig 8 g.toNat)) [(1, 12, 0)] [] rfl rfl (by kernel_rfl) (by kernel_rfl) (SlB.stay _) ?_ ?_
  · intro t w1 hB hf hbf K hK
    simp only [DepF, List.getD_cons_zero] at hf
    obtain ⟨⟨_, ⟨e12, i12⟩, rfl⟩, _⟩ := hf
    clear hbf
    have b1' := boxStays X1.out hB
    have b2' := boxStays X2.out hB
    have c0 := cell_of_row _ _ 0 _ _ _ b1'
    have c3 := cell_of_row _ _ 3 _ _ _ b1'
    have c4 := cell_of_row _ _ 4 _ _ _ b1'
    have d0 := cell_of_row _ _ 0 _ _ _ b2'
    have d1 := cell_of_row _ _ 1 _ _ _ b2'
    have wr := WR.out
    have wi := WI.out
    clear b1' b2'
    refine ⟨wanted_none rfl, ?_⟩
    go_simp
    refine (stp_eight g w1 (by omega) h2).mono ?_
    rintro e w2 ⟨cap, rfl, hy, hb⟩
    exact hK.out _ w2 (⟨_, cap, rfl, hy⟩) hb
  refine relG_pure (i := 3) (o := ⟨some 14, _, _, _, _, _⟩) (v := ?v3) [] [4] rfl rfl (by kernel_rfl) (by kernel_rfl) (fun t w1 hB hf hbf => ?y3) ?n3
  case y3 =>
   simp only [BasF] at hbf
   clear hf
   obtain ⟨⟨b4, k4⟩, _⟩ := hbf
   have b1' := boxStays X1.out hB
   have b2' := boxStays X2.out hB
   have c0 := cell_of_row _ _ 0 _ _ _ b1'
   have c3 := cell_of_row _ _ 3 _ _ _ b1'
   have c4 := cell_of_row _ _ 4 _ _ _ b1'
   have d0 := cell_of_row _ _ 0 _ _ _ b2'
   have d1 := cell_of_row _ _ 1 _ _ _ b2'
   have wr := WR.out
   have wi := WI.out
   clear b1' b2'
   refine Or.inl ⟨wanted_none rfl, ?_⟩
   rintro _ rfl
   go_simp <;> with_reducible rfl
  refine relG_pure (i := 4) (o := ⟨some 15, _, _, _, _, _⟩) (v := ?v4) [(3, 14, 0)] [] rfl rfl (by kernel_rfl) (by kernel_rfl) (fun t w1 hB hf hbf => ?y4) ?n4
  case y4 =>
   simp only [DepF, List.getD_cons_zero] at hf
   obtain ⟨⟨_, ⟨e14, i14⟩, rfl⟩, _⟩ := hf
   clear hbf
   have b1' := boxStays X1.out hB
   have b2' := boxStays X2.out hB
   have c0 := cell_of_row _ _ 0 _ _ _ b1'
   have c3 := cell_of_row _ _ 3 _ _ _ b1'
   have c4 := cell_of_row _ _ 4 _ _ _ b1'
   have d0 := cell_of_row _ _ 0 _ _ _ b2'
   have d1 := cell_of_row _ _ 1 _ _ _ b2'
   have wr := WR.out
   have wi := WI.out
   clear b1' b2'
   refine Or.inl ⟨wanted_none rfl, ?_⟩
   rintro _ rfl
   go_simp <;> with_reducible rfl
  refine relG_pure (i := 5) (o := ⟨some 16, _, _, _, _, _⟩) (v := ?v5) [(4, 15, 0)] [] rfl rfl (by kernel_rfl) (by kernel_rfl) (fun t w1 hB hf hbf => ?y5) ?n5
  case y5 =>
   simp only [DepF, List.getD_cons_zero] at hf
   obtain ⟨⟨_, ⟨e15, i15⟩, rfl⟩, _⟩ := hf
   clear hbf
   have b1' := boxStays X1.out hB
   have b2' := boxStays X2.out hB
   have c0 := cell_of_row _ _ 0 _ _ _ b1'
   have c3 := cell_of_row _ _ 3 _ _ _ b1'
   have c4 := cell_of_row _ _ 4 _ _ _ b1'
   have d0 := cell_of_row _ _ 0 _ _ _ b2'
   have d1 := cell_of_row _ _ 1 _ _ _ b2'
   have wr := WR.out
   have wi := WI.out
   clear b1' b2'
   refine Or.inl ⟨wanted_none rfl, ?_⟩
   rintro _ rfl
   go_simp <;> with_reducible rfl
  refine relG_call (i := 6) (o := ⟨some 17, _, _, _, _, _⟩) (SlB (dig 1 r.toNat)) [(5, 16, 0)] [] rfl rfl (by kernel_rfl) (by kernel_rfl) (SlB.stay _) ?_ ?_
  · intro t w1 hB hf hbf K hK
    simp only [DepF, List.getD_cons_zero] at hf
    obtain ⟨⟨_, ⟨e16, i16⟩, rfl⟩, _⟩ := hf
    clear hbf
    have b1' := boxStays X1.out hB
    have b2' := boxStays X2.out hB
    have c0 := cell_of_row _ _ 0 _ _ _ b1'
    have c3 := cell_of_row _ _ 3 _ _ _ b1'
    have c4 := cell_of_row _ _ 4 _ _ _ b1'
    have d0 := cell_of_row _ _ 0 _ _ _ b2'
    have d1 := cell_of_row _ _ 1 _ _ _ b2'
    have wr := WR.out
    have wi := WI.out
    clear b1' b2'
    refine ⟨wanted_none rfl, ?_⟩
    go_simp
    exact hK.out _ _ (RR.out.1 ▸ SlB.one w1 _ _ _ (by have := RR.out.2; omega)) (below_new _ _)
  refine relG_pure (i := 7) (o := ⟨some 18, _, _, _, _, _⟩) (v := ?v6) [] [4] rfl rfl (by kernel_rfl) (by kernel_rfl) (fun t w1 hB hf hbf => ?y6) ?n6
  case y6 =>
   simp only [BasF] at hbf
   clear hf
   obtain ⟨⟨b4, k4⟩, _⟩ := hbf
   have b1' := boxStays X1.out hB
   have b2' := boxStays X2.out hB
   have c0 := cell_of_row _ _ 0 _ _ _ b1'
   have c3 := cell_of_row _ _ 3 _ _ _ b1'
   have c4 := cell_of_row _ _ 4 _ _ _ b1'
   have d0 := cell_of_row _ _ 0 _ _ _ b2'
   have d1 := cell_of_row _ _ 1 _ _ _ b2'
   have wr := WR.out
   have wi := WI.out
   clear b1' b2'
   refine Or.inl ⟨wanted_none rfl, ?_⟩
   rintro _ rfl
   go_simp <;> with_reducible rfl
  refine relG_pure (i := 8) (o := ⟨some 19, _, _, _, _, _⟩) (v := ?v7) [(7, 18, 0)] [] rfl rfl (by kernel_rfl) (by kernel_rfl) (fun t w1 hB hf hbf => ?y7) ?n7
  case y7 =>
   simp only [DepF, List.getD_cons_zero] at hf
   obtain ⟨⟨_, ⟨e18, i18⟩, rfl⟩, _⟩ := hf
   clear hbf
   have b1' := boxStays X1.out hB
   have b2' := boxStays X2.out hB
   have c0 := cell_of_row _ _ 0 _ _ _ b1'
   have c3 := cell_of_row _ _ 3 _ _ _ b1'
   have c4 := cell_of_row _ _ 4 _ _ _ b1'
   have d0 := cell_of_row _ _ 0 _ _ _ b2'
   have d1 := cell_of_row _ _ 1 _ _ _ b2'
   have wr := WR.out
   have wi := WI.out
   clear b1' b2'
   refine Or.inl ⟨wanted_none rfl, ?_⟩
   rintro _ rfl
   go_simp <;> with_reducible rfl
  refine relG_call (i := 9) (o := ⟨some 20, _, _, _, _, _⟩) (SlB l.data.toList) [(8, 19, 0)] [] rfl rfl (by kernel_rfl) (by kernel_rfl) (SlB.stay _) ?_ ?_
  · intro t w1 hB hf hbf K hK
    simp only [DepF, List.getD_cons_zero] at hf
    obtain ⟨⟨_, ⟨e19, i19⟩, rfl⟩, _⟩ := hf
    clear hbf
    have b1' := boxStays X1.out hB
    have b2' := boxStays X2.out hB
    have c0 := cell_of_row _ _ 0 _ _ _ b1'
    have c3 := cell_of_row _ _ 3 _ _ _ b1'
    have c4 := cell_of_row _ _ 4 _ _ _ b1'
    have d0 := cell_of_row _ _ 0 _ _ _ b2'
    have d1 := cell_of_row _ _ 1 _ _ _ b2'
    have wr := WR.out
    have wi := WI.out
    clear b1' b2'
    refine ⟨wanted_none rfl, ?_⟩
    refine step_conv 9 113 5 19 l rfl e19 Tryz.underlying9 Tryz.underlying113 Tryz.underlying5 ?_
    intro v w2 hv hby hb
    have hg : SlB l.data.toList v w2 := (by obtain ⟨cap, hv⟩ := hv; exact ⟨some ⟨w1.heap.size, 0, none⟩, cap, by rw [hv, hdl], hby⟩)
    exact hK.out v w2 hg hb
  refine relG_call (i := 10) (o := ⟨some 21, _, _, _, _, _⟩) (SlB [0]) [] [] rfl rfl (by kernel_rfl) (by kernel_rfl) (SlB.stay _) ?_ ?_
  · intro t w1 hB hf hbf K hK
    clear hf
    clear hbf
    have b1' := boxStays X1.out hB
    have b2' := boxStays X2.out hB
    have c0 := cell_of_row _ _ 0 _ _ _ b1'
    have c3 := cell_of_row _ _ 3 _ _ _ b1'
    have c4 := cell_of_row _ _ 4 _ _ _ b1'
    have d0 := cell_of_row _ _ 0 _ _ _ b2'
    have d1 := cell_of_row _ _ 1 _ _ _ b2'
    have wr := WR.out
    have wi := WI.out
    clear b1' b2'
    refine ⟨wanted_none rfl, ?_⟩
    go_simp
    exact hK.out _ _ (SlB.one w1 _ 0 _ rfl) (below_new _ _)
  refine relG_pure (i := 11) (o := ⟨some 22, _, _, _, _, _⟩) (v := ?v8) [] [1] rfl rfl (by kernel_rfl) (by kernel_rfl) (fun t w1 hB hf hbf => ?y8) ?n8
  case y8 =>
   simp only [BasF] at hbf
   clear hf
   obtain ⟨⟨b1, k1⟩, _⟩ := hbf
   have b1' := boxStays X1.out hB
   have b2' := boxStays X2.out hB
   have c0 := cell_of_row _ _ 0 _ _ _ b1'
   have c3 := cell_of_row _ _ 3 _ _ _ b1'
   have c4 := cell_of_row _ _ 4 _ _ _ b1'
   have d0 := cell_of_row _ _ 0 _ _ _ b2'
   have d1 := cell_of_row _ _ 1 _ _ _ b2'
   have wr := WR.out
   have wi := WI.out
   clear b1' b2'
   refine Or.inl ⟨wanted_none rfl, ?_⟩
   rintro _ rfl
   go_simp <;> with_reducible rfl
  refine relG_pure (i := 12) (o := ⟨some 23, _, _, _, _, _⟩) (v := ?v9) [(11, 22, 0)] [] rfl rfl (by kernel_rfl) (by kernel_rfl) (fun t w1 hB hf hbf => ?y9) ?n9
  case y9 =>
   simp only [DepF, List.getD_cons_zero] at hf
   obtain ⟨⟨_, ⟨e22, i22⟩, rfl⟩, _⟩ := hf
   clear hbf
   have b1' := boxStays X1.out hB
   have b2' := boxStays X2.out hB
   have c0 := cell_of_row _ _ 0 _ _ _ b1'
   have c3 := cell_of_row _ _ 3 _ _ _ b1'
   have c4 := cell_of_row _ _ 4 _ _ _ b1'
   have d0 := cell_of_row _ _ 0 _ _ _ b2'
   have d1 := cell_of_row _ _ 1 _ _ _ b2'
   have wr := WR.out
   have wi := WI.out
   clear b1' b2'
   refine Or.inl ⟨wanted_none rfl, ?_⟩
   rintro _ rfl
   go_simp <;> with_reducible rfl
  refine relG_pure (i := 13) (o := ⟨some 24, _, _, _, _, _⟩) (v := ?v10) [(12, 23, 0)] [] rfl rfl (by kernel_rfl) (by kernel_rfl) (fun t w1 hB hf hbf => ?y10) ?n10
  case y10 =>
   simp only [DepF, List.getD_cons_zero] at hf
   obtain ⟨⟨_, ⟨e23, i23⟩, rfl⟩, _⟩ := hf
   clear hbf
   have b1' := boxStays X1.out hB
   have b2' := boxStays X2.out hB
   have c0 := cell_of_row _ _ 0 _ _ _ b1'
   have c3 := cell_of_row _ _ 3 _ _ _ b1'
   have c4 := cell_of_row _ _ 4 _ _ _ b1'
   have d0 := cell_of_row _ _ 0 _ _ _ b2'
   have d1 := cell_of_row _ _ 1 _ _ _ b2'
   have wr := WR.out
   have wi := WI.out
   clear b1' b2'
   refine Or.inl ⟨wanted_none rfl, ?_⟩
   rintro _ rfl
   go_simp <;> with_reducible rfl
  refine relG_call (i := 14) (o := ⟨some 25, _, _, _, _, _⟩) (SlB (dig 8 n.toNat)) [(13, 24, 0)] [] rfl rfl (by kernel_rfl) (by kernel_rfl) (SlB.stay _) ?_ ?_
  · intro t w1 hB hf hbf K hK
    simp only [DepF, List.getD_cons_zero] at hf
    obtain ⟨⟨_, ⟨e24, i24⟩, rfl⟩, _⟩ := hf
    clear hbf
    have b1' := boxStays X1.out hB
    have b2' := boxStays X2.out hB
    have c0 := cell_of_row _ _ 0 _ _ _ b1'
    have c3 := cell_of_row _ _ 3 _ _ _ b1'
    have c4 := cell_of_row _ _ 4 _ _ _ b1'
    have d0 := cell_of_row _ _ 0 _ _ _ b2'
    have d1 := cell_of_row _ _ 1 _ _ _ b2'
    have wr := WR.out
    have wi := WI.out
    clear b1' b2'
    refine ⟨wanted_none rfl, ?_⟩
    go_simp
    refine (stp_eight n w1 (by omega) h7).mono ?_
    rintro e w2 ⟨cap, rfl, hy, hb⟩
    exact hK.out _ w2 (⟨_, cap, rfl, hy⟩) hb
  refine relG_pure (i := 15) (o := ⟨some 26, _, _, _, _, _⟩) (v := ?v11) [] [1] rfl rfl (by kernel_rfl) (by kernel_rfl) (fun t w1 hB hf hbf => ?y11) ?n11
  case y11 =>
   simp only [BasF] at hbf
   clear hf
   obtain ⟨⟨b1, k1⟩, _⟩ := hbf
   have b1' := boxStays X1.out hB
   have b2' := boxStays X2.out hB
   have c0 := cell_of_row _ _ 0 _ _ _ b1'
   have c3 := cell_of_row _ _ 3 _ _ _ b1'
   have c4 := cell_of_row _ _ 4 _ _ _ b1'
   have d0 := cell_of_row _ _ 0 _ _ _ b2'
   have d1 := cell_of_row _ _ 1 _ _ _ b2'
   have wr := WR.out
   have wi := WI.out
   clear b1' b2'
   refine Or.inl ⟨wanted_none rfl, ?_⟩
   rintro _ rfl
   go_simp <;> with_reducible rfl
  refine relG_pure (i := 16) (o := ⟨some 27, _, _, _, _, _⟩) (v := ?v12) [(15, 26, 0)] [] rfl rfl (by kernel_rfl) (by kernel_rfl) (fun t w1 hB hf hbf => ?y12) ?n12
  case y12 =>
   simp only [DepF, List.getD_cons_zero] at hf
   obtain ⟨⟨_, ⟨e26, i26⟩, rfl⟩, _⟩ := hf
   clear hbf
   have b1' := boxStays X1.out hB
   have b2' := boxStays X2.out hB
   have c0 := cell_of_row _ _ 0 _ _ _ b1'
   have c3 := cell_of_row _ _ 3 _ _ _ b1'
   have c4 := cell_of_row _ _ 4 _ _ _ b1'
   have d0 := cell_of_row _ _ 0 _ _ _ b2'
   have d1 := cell_of_row _ _ 1 _ _ _ b2'
   have wr := WR.out
   have wi := WI.out
   clear b1' b2'
   refine Or.inl ⟨wanted_none rfl, ?_⟩
   rintro _ rfl
   go_simp <;> with_reducible rfl
  refine relG_pure (i := 17) (o := ⟨some 28, _, _, _, _, _⟩) (v := ?v13) [(16, 27, 0)] [] rfl rfl (by kernel_rfl) (by kernel_rfl) (fun t w1 hB hf hbf => ?y13) ?n13
  case y13 =>
   simp only [DepF, List.getD_cons_zero] at hf
   obtain ⟨⟨_, ⟨e27, i27⟩, rfl⟩, _⟩ := hf
   clear hbf
   have b1' := boxStays X1.out hB
   have b2' := boxStays X2.out hB
   have c0 := cell_of_row _ _ 0 _ _ _ b1'
   have c3 := cell_of_row _ _ 3 _ _ _ b1'
   have c4 := cell_of_row _ _ 4 _ _ _ b1'
   have d0 := cell_of_row _ _ 0 _ _ _ b2'
   have d1 := cell_of_row _ _ 1 _ _ _ b2'
   have wr := WR.out
   have wi := WI.out
   clear b1' b2'
   refine Or.inl ⟨wanted_none rfl, ?_⟩
   rintro _ rfl
   go_simp <;> with_reducible rfl
  refine relG_call (i := 18) (o := ⟨some 29, _, _, _, _, _⟩) (SlB (dig 1 i.toNat)) [(17, 28, 0)] [] rfl rfl (by kernel_rfl) (by kernel_rfl) (SlB.stay _) ?_ ?_
  · intro t w1 hB hf hbf K hK
    simp only [DepF, List.getD_cons_zero] at hf
    obtain ⟨⟨_, ⟨e28, i28⟩, rfl⟩, _⟩ := hf
    clear hbf
    have b1' := boxStays X1.out hB
    have b2' := boxStays X2.out hB
    have c0 := cell_of_row _ _ 0 _ _ _ b1'
    have c3 := cell_of_row _ _ 3 _ _ _ b1'
    have c4 := cell_of_row _ _ 4 _ _ _ b1'
    have d0 := cell_of_row _ _ 0 _ _ _ b2'
    have d1 := cell_of_row _ _ 1 _ _ _ b2'
    have wr := WR.out
    have wi := WI.out
    clear b1' b2'
    refine ⟨wanted_none rfl, ?_⟩
    go_simp
    exact hK.out _ _ (II.out.1 ▸ SlB.one w1 _ _ _ (by have := II.out.2; omega)) (below_new _ _)
  refine relG_call (i := 19) (o := ⟨some 30, _, _, _, _, _⟩) (Sl6 (dig 8 g.toNat) (dig 1 r.toNat) l.data.toList [0] (dig 8 n.toNat) (dig 1 i.toNat)) [(2, 13, 16), (6, 17, 12), (9, 20, 9), (10, 21, 8), (14, 25, 4), (18, 29, 0)] [] rfl rfl (by kernel_rfl) (by kernel_rfl) (Sl6.stay _ _ _ _ _ _) ?_ ?_
  · intro t w1 hB hf hbf K hK
    simp only [DepF, List.getD_cons_zero, List.getD_cons_succ] at hf
    obtain ⟨⟨_, ⟨e13, i13⟩, ⟨a2, c2, rfl, y2⟩⟩, ⟨_, ⟨e17, i17⟩, ⟨a6, c6, rfl, y6⟩⟩, ⟨_, ⟨e20, i20⟩, ⟨a9, c9, rfl, y9⟩⟩, ⟨_, ⟨e21, i21⟩, ⟨a10, c10, rfl, y10⟩⟩, ⟨_, ⟨e25, i25⟩, ⟨a14, c14, rfl, y14⟩⟩, ⟨_, ⟨e29, i29⟩, ⟨a18, c18, rfl, y18⟩⟩, _⟩ := hf
    clear hbf
    have b1' := boxStays X1.out hB
    have b2' := boxStays X2.out hB
    have c0 := cell_of_row _ _ 0 _ _ _ b1'
    have c3 := cell_of_row _ _ 3 _ _ _ b1'
    have c4 := cell_of_row _ _ 4 _ _ _ b1'
    have d0 := cell_of_row _ _ 0 _ _ _ b2'
    have d1 := cell_of_row _ _ 1 _ _ _ b2'
    have wr := WR.out
    have wi := WI.out
    clear b1' b2'
    refine ⟨wanted_none rfl, ?_⟩
    go_simp
    exact hK.out _ _ (Sl6.mk ⟨_, _, rfl, y2⟩ ⟨_, _, rfl, y6⟩ ⟨_, _, rfl, y9⟩ ⟨_, _, rfl, y10⟩ ⟨_, _, rfl, y14⟩ ⟨_, _, rfl, y18⟩ (by simp [dig_length]) (by simp [dig_length]) (by omega) (by simp) (by simp [dig_length]) (by simp [dig_length])) (below_new _ _)
  refine relG_call (i := 20) (o := ⟨some 31, _, _, _, _, _⟩) (SlB kk) [(19, 30, 0)] [] rfl rfl (by kernel_rfl) (by kernel_rfl) (SlB.stay _) ?_ ?_
  · intro t w1 hB hf hbf K hK
    simp only [DepF, List.getD_cons_zero] at hf
    obtain ⟨⟨_, ⟨e30, i30⟩, ⟨a, cap, rfl, hl6⟩⟩, _⟩ := hf
    clear hbf
    have b1' := boxStays X1.out hB
    have b2' := boxStays X2.out hB
    have c0 := cell_of_row _ _ 0 _ _ _ b1'
    have c3 := cell_of_row _ _ 3 _ _ _ b1'
    have c4 := cell_of_row _ _ 4 _ _ _ b1'
    have d0 := cell_of_row _ _ 0 _ _ _ b2'
    have d1 := cell_of_row _ _ 1 _ _ _ b2'
    have wr := WR.out
    have wi := WI.out
    clear b1' b2'
    refine ⟨wanted_none rfl, ?_⟩
    go_simp
    refine (kw_Join _ a 6 cap w1 hl6 rfl (by simp) LK.out).mono ?_
    rintro e w2 ⟨v, rfl, hown, hb⟩
    exact hK.out _ w2 (by rw [KK.out] at hown; obtain ⟨a', c', rfl, _⟩ := own_slice hown; exact ⟨a', c', rfl, own_bytes hown⟩) hb
  refine relG_pure (i := 21) (o := ⟨some 32, _, _, _, _, _⟩) (v := ?v14) [(20, 31, 0)] [] rfl rfl (by kernel_rfl) (by kernel_rfl) (fun t w1 hB hf hbf => ?y14) ?n14
  case y14 =>
   simp only [DepF, List.getD_cons_zero] at hf
   obtain ⟨⟨_, ⟨e31, i31⟩, ⟨a, cap, rfl, hj⟩⟩, _⟩ := hf
   clear hbf
   have b1' := boxStays X1.out hB
   have b2' := boxStays X2.out hB
   have c0 := cell_of_row _ _ 0 _ _ _ b1'
   have c3 := cell_of_row _ _ 3 _ _ _ b1'
   have c4 := cell_of_row _ _ 4 _ _ _ b1'
   have d0 := cell_of_row _ _ 0 _ _ _ b2'
   have d1 := cell_of_row _ _ 1 _ _ _ b2'
   have wr := WR.out
   have wi := WI.out
   clear b1' b2'
   have hc := conv_bytes (P := Tryz.prog) hj 113 5 9 Tryz.underlying113 Tryz.underlying5 Tryz.underlying9 _ cap rfl
   refine Or.inl ⟨wanted_none rfl, ?_⟩
   rintro _ rfl
   go_simp <;> with_reducible rfl
  refine relG_pure (i := 22) (o := ⟨some 2, _, _, _, _, _⟩) (v := ?v15) [(21, 32, 0)] [] rfl rfl (by kernel_rfl) (by kernel_rfl) (fun t w1 hB hf hbf => ?y15) ?n15
  case y15 =>
   simp only [DepF, List.getD_cons_zero] at hf
   obtain ⟨⟨_, ⟨e32, i32⟩, rfl⟩, _⟩ := hf
   clear hbf
   have b1' := boxStays X1.out hB
   have b2' := boxStays X2.out hB
   have c0 := cell_of_row _ _ 0 _ _ _ b1'
   have c3 := cell_of_row _ _ 3 _ _ _ b1'
   have c4 := cell_of_row _ _ 4 _ _ _ b1'
   have d0 := cell_of_row _ _ 0 _ _ _ b2'
   have d1 := cell_of_row _ _ 1 _ _ _ b2'
   have wr := WR.out
   have wi := WI.out
   clear b1' b2'
   refine Or.inl ⟨wanted_none rfl, ?_⟩
   rintro _ rfl
   go_simp <;> with_reducible rfl
  refine relG_pure (i := 23) (o := ⟨some 3, _, _, _, _, _⟩) (v := ?v16) [] [] rfl rfl (by kernel_rfl) (by kernel_rfl) (fun t w1 hB hf hbf => ?y16) ?n16
  case y16 =>
   clear hf
   clear hbf
   have b1' := boxStays X1.out hB
   have b2' := boxStays X2.out hB
   have c0 := cell_of_row _ _ 0 _ _ _ b1'
   have c3 := cell_of_row _ _ 3 _ _ _ b1'
   have c4 := cell_of_row _ _ 4 _ _ _ b1'
   have d0 := cell_of_row _ _ 0 _ _ _ b2'
   have d1 := cell_of_row _ _ 1 _ _ _ b2'
   have wr := WR.out
   have wi := WI.out
   clear b1' b2'
   refine Or.inl ⟨wanted_none rfl, ?_⟩
   rintro _ rfl
   go_simp <;> with_reducible rfl
  refine relG_done [(0, 11, 23), (1, 12, 22), (2, 13, 21), (3, 14, 20), (4, 15, 19), (5, 16, 18), (6, 17, 17), (7, 18, 16), (8, 19, 15), (9, 20, 14), (10, 21, 13), (11, 22, 12), (12, 23, 11), (13, 24, 10), (14, 25, 9), (15, 26, 8), (16, 27, 7), (17, 28, 6), (18, 29, 5), (19, 30, 4), (20, 31, 3), (21, 32, 2), (22, 2, 1), (23, 3, 0)] (by kernel_rfl) rfl (by kernel_rfl) (fun f wE hB hf => ?_)
  simp only [FinF, List.getD_cons_zero, List.getD_cons_succ] at hf
  obtain ⟨⟨_, e11, rfl⟩, ⟨_, e12, rfl⟩, ⟨_, e13, ⟨a2, c2, rfl, y2⟩⟩, ⟨_, e14, rfl⟩, ⟨_, e15, rfl⟩, ⟨_, e16, rfl⟩, ⟨_, e17, ⟨a6, c6, rfl, y6⟩⟩, ⟨_, e18, rfl⟩, ⟨_, e19, rfl⟩, ⟨_, e20, ⟨a9, c9, rfl, y9⟩⟩, ⟨_, e21, ⟨a10, c10, rfl, y10⟩⟩, ⟨_, e22, rfl⟩, ⟨_, e23, rfl⟩, ⟨_, e24, rfl⟩, ⟨_, e25, ⟨a14, c14, rfl, y14⟩⟩, ⟨_, e26, rfl⟩, ⟨_, e27, rfl⟩, ⟨_, e28, rfl⟩, ⟨_, e29, ⟨a18, c18, rfl, y18⟩⟩, ⟨_, e30, ⟨a, cap, rfl, hl6⟩⟩, ⟨_, e31, ⟨a, cap, rfl, hj⟩⟩, ⟨_, e32, rfl⟩, ⟨_, e2, rfl⟩, ⟨_, e3, rfl⟩, _⟩ := hf
  simp only [regT, List.foldl_cons, List.foldl_nil, List.setIfInBounds_toArray, List.set_cons_zero, List.set_cons_succ, e11, e12, e13, e14, e15, e16, e17, e18, e19, e20, e21, e22, e23, e24, e25, e26, e27, e28, e29, e30, e31, e32, e2, e3]
  clear e11 e12 e13 e14 e15 e16 e17 e18 e19 e20 e21 e22 e23 e24 e25 e26 e27 e28 e29 e30 e31 e32 e2 e3
  go_wp2_with fail
  go_ret2
  rw [HKB.out]
  exact ⟨rfl, X3.out.trans (hB.mono X3.out.size)⟩
end Go.Proofs.YtjlliohjeiclaaaGreatDoor
namespace Go.Proofs.YtjlliohjeiclaaaGreatDoor
open Go.RowKit St
open Go.Op (bytesLess)
theorem wrap_i64_mod (n : Int) : IntKind.i64.wrap n = (let m := n % 18446744073709551616; if 9223372036854775808 ≤ m then m - 18446744073709551616 else m) := by
 simp [IntKind.wrap, IntKind.bits, IntKind.signed]
theorem wrap_i64_congr {a b : Int} (h : a % 18446744073709551616 = b % 18446744073709551616) : IntKind.i64.wrap a = IntKind.i64.wrap b := by
 rw [wrap_i64_mod, wrap_i64_mod, h]
theorem wrap_i64_self (a : Int) : IntKind.i64.wrap a % 18446744073709551616 = a % 18446744073709551616 := by
 rw [wrap_i64_mod]
 simp only
 split <;> omega
theorem ofInt_wrap (a : Int) (m : Nat) (h : a % 18446744073709551616 = (m : Int) % 18446744073709551616) : (BitVec.ofInt 64 a).toNat = m % 18446744073709551616 := by
 rw [BitVec.toNat_ofInt]
 have e : ((2 ^ 64 : Nat) : Int) = 18446744073709551616 := by decide
 rw [e, h]
 omega
theorem or_byte (x c : Nat) (hc : c < 256) : bits .or .i64 (wrap64 (wrap64 (x : Int) * 256)) (wrap64 (c : Int)) = IntKind.i64.wrap ((256 * x + c : Nat) : Int) := by
 have hw : ∀ n, wrap64 n = IntKind.i64.wrap n := fun n => by unfold wrap64; exact (IntKind.wrap_i64 n).symm
 simp only [hw]
 show IntKind.i64.wrap ((BitVec.ofInt 64 (IntKind.i64.wrap (IntKind.i64.wrap (x : Int) * 256)) ||| BitVec.ofInt 64 (IntKind.i64.wrap (c : Int))).toNat : Int) = _
 have h1 : (BitVec.ofInt 64 (IntKind.i64.wrap (IntKind.i64.wrap (x : Int) * 256))).toNat = (x * 256) % 18446744073709551616 := by
  refine ofInt_wrap _ _ ?_
  rw [wrap_i64_self]
  have := wrap_i64_self (x : Int)
  omega
 have h2 : (BitVec.ofInt 64 (IntKind.i64.wrap (c : Int))).toNat = c := by
  rw [ofInt_wrap _ c (wrap_i64_self _)]
  omega
 rw [BitVec.toNat_or, h1, h2]
 have h3 : x * 256 % 18446744073709551616 = (x % 72057594037927936) <<< 8 := by rw [Nat.shiftLeft_eq]; omega
 rw [h3, ← Nat.shiftLeft_add_eq_or_of_lt (by omega), Nat.shiftLeft_eq]
 refine wrap_i64_congr ?_
 omega
theorem num8_succ (l : List UInt8) (k : Nat) (h : k < l.length) : num8 (l.take (k + 1)) = 256 * num8 (l.take k) + l[k].toNat := by
 unfold num8
 rw [List.take_succ_eq_append_getElem h, List.foldl_append]
 rfl
theorem get_data (s : ByteArray) (k : Nat) (h : k < s.size) : s[k] = s.data.toList[k]'(by rw [dlen]; exact h) := rfl
set_option maxRecDepth 100000 in
set_option maxHeartbeats 1000000 in
theorem ref6_back (s : ByteArray) (w : World) (hs : 8 ≤ s.size) : Calls Tryz.prog 101 #[.string s] w fun e w' => e = .returned (.int .i64 (IntKind.i64.wrap (num8 (s.data.toList.take 8)))) ∧ w = w' := by
 go_enter Tryz.func101, Tryz.ntmps101
 go_wp2
 go_loop [3, 4] (fun n i => ∃ k : Nat, k ≤ 8 ∧ i = .int .i64 (k : Int) ∧ n = .int .i64 (IntKind.i64.wrap (num8 (s.data.toList.take k)))) (fun _ i => 8 - (intOf i).toNat)
 case atStart => exact ⟨0, Nat.zero_le _, rfl, rfl⟩
 case round =>
  obtain ⟨k, hk, rfl, rfl⟩ := hrel
  by_cases hlt : k < 8
  · have hks : k < s.size := by omega
    have hks' : (k : Int) < (s.size : Int) := by omega
    have hst := num8_succ s.data.toList k (by rw [dlen]; exact hks)
    rw [← get_data s k hks] at hst
    have HST := Lib.hid hst
    clear hst
    have HOB := Lib.hid (or_byte (num8 (s.data.toList.take k)) s[k].toNat s[k].toNat_lt)
    generalize num8 (s.data.toList.take k) = x at *
    go_wp2
    exact ⟨⟨k + 1, by omega, by go_num, by rw [HST.out, HOB.out]⟩, by simp [intOf]; omega⟩
  · obtain rfl : k = 8 := by omega
    go_wp2
    go_ret
    exact ⟨rfl, rfl⟩
set_option maxRecDepth 100000 in
set_option maxHeartbeats 1000000 in
theorem stp_back (s : ByteArray) (w : World) (hs : 8 ≤ s.size) : Calls Tryz.prog 153 #[.string s] w fun e w' => e = .returned (.int .i64 (IntKind.i64.wrap (num8 (s.data.toList.take 8)))) ∧ Below w.heap.size w w' := by
 obtain ⟨t, ht⟩ : ∃ t, s.extract 0 8 = t := ⟨_, rfl⟩
 have htl : t.data.toList = s.data.toList.take 8 := by rw [← ht]; simp
 have hts : t.size = 8 := by have := dlen t; rw [htl] at this; have h2 := dlen s; simp at this; omega
 obtain ⟨cap, w1, hcv, hby, hb, hz⟩ := conv_to_bytes (P := Tryz.prog) w 9 113 5 t Tryz.underlying9 Tryz.underlying113 Tryz.underlying5
 rw [hts] at hcv
 rw [htl] at hby
 have HB := Lib.hid hb
 have HY := Lib.hid hby
 have H8 : (8 : Int) ≤ (s.size : Int) := by omega
 clear hb hby hz
 go_enter Tryz.func153, Tryz.ntmps153
 go_wp2
 clear hcv
 have hl8 : 8 ≤ s.data.toList.length := by rw [dlen]; exact hs
 go_loopw [3, 10] (fun n i wr => ∃ k : Nat, k ≤ 8 ∧ i = .int .i64 (k : Int) ∧ n = .int .i64 (IntKind.i64.wrap (num8 (s.data.toList.take k))) ∧ Hid (wr = w1)) (fun _ i _ => 8 - (intOf i).toNat)
 case atStart => exact ⟨0, Nat.zero_le _, rfl, rfl, Lib.hid rfl⟩
 case round =>
  obtain ⟨k, hk, rfl, rfl, HW⟩ := hrel
  by_cases hlt : k < 8
  · obtain ⟨b, off, he, hc⟩ := HY.out k (by simp; omega)
    cases he
    rw [Nat.zero_add, List.getElem_take, ← HW.out] at hc
    have HST := Lib.hid (num8_succ s.data.toList k (by omega))
    have HOB := Lib.hid (or_byte (num8 (s.data.toList.take k)) (s.data.toList[k]'(by omega)).toNat (s.data.toList[k]'(by omega)).toNat_lt)
    generalize num8 (s.data.toList.take k) = x at *
    go_wp2
    exact ⟨⟨k + 1, by omega, by go_num, by rw [HST.out]; exact congrArg (Value.int .i64) HOB.out, HW⟩, by simp [intOf]; omega⟩
  · obtain rfl : k = 8 := by omega
    go_wp2
    go_ret
    rw [HW.out]
    exact ⟨rfl, HB.out⟩
end Go.Proofs.YtjlliohjeiclaaaGreatDoor
