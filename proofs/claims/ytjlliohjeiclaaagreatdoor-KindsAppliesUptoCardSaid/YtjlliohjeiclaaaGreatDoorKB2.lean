/- Words, contracts and walks that the proof stands on (Inv Rel KyY KyO KyK RelS TrC TrW ElQ EvP Cells CellsB CellsN KyE KyL KyS). -/
import Derived.Deep.Cut
import Derived.Deep.CutBlock
import Derived.Deep.DeepCutAuto
import Derived.Laws.DeepStrings4
import Derived.Laws.StructEq
import Derived.Test.YtjlliohjeiclaaaGreatDoorKB1
namespace Go.Proofs.YtjlliohjeiclaaaGreatDoor
open Go.RowKit
def preOf (ops : Array Oper) (i : Nat) : List Nat := match ops[i]? with
 | some o => (o.after.toList.filter fun e => Region.binds .any e).map fun e => e.on
 | none => []
def upB (ops : Array Oper) : Bool := (List.range ops.size).all fun i => (preOf ops i).all fun j => decide (j < i)
section
variable {P : Program} {ops : Array Oper} {Q : Exit → Act → World → Prop}
theorem pre_mem {i : Nat} {o : Oper} (ho : ops[i]? = some o) {j : Nat} : j ∈ preOf ops i ↔ ∃ e ∈ o.after, Region.binds .any e = true ∧ e.on = j := by
 unfold preOf
 rw [ho]
 simp only [List.mem_map, List.mem_filter, Array.mem_toList_iff]
 constructor
 · rintro ⟨e, ⟨h1, h2⟩, h3⟩; exact ⟨e, h1, h2, h3⟩
 · rintro ⟨e, h1, h2, h3⟩; exact ⟨e, ⟨h1, h2⟩, h3⟩
theorem ready_nil (hup : upB ops = true) {listed : Array Bool} (hs : listed.size = ops.size) (h : Region.ready .any ops listed = []) : ∀ i, i < ops.size → listed.getD i false = true := by
 intro i
 induction i using Nat.strongRecOn with
 | _ i ih =>
  intro hi
  cases e : listed.getD i false with
  | true => rfl
  | false =>
   have : i ∈ Region.ready .any ops listed := by
    rw [mem_ready]
    refine ⟨by simp [hs, hi] at e ⊢; exact e, _, Array.getElem?_eq_getElem hi, fun ed hed hb => ?_⟩
    have hm : ed.on ∈ preOf ops i := (pre_mem (Array.getElem?_eq_getElem hi)).2 ⟨ed, hed, hb, rfl⟩
    have h1 := List.all_eq_true.1 hup i (List.mem_range.2 hi)
    have h2 := List.all_eq_true.1 h1 _ hm
    have h3 : ed.on < i := of_decide_eq_true h2
    exact ih _ h3 (by omega)
   rw [h] at this
   cases this
theorem getD_set (listed : Array Bool) (i : Nat) (hi : i < listed.size) : (fun j => (listed.setIfInBounds i true).getD j false) = fun j => j == i || listed.getD j false := by
 funext j
 by_cases h : j = i
 · subst h; simp [hi]
 · have : (listed.setIfInBounds i true)[j]? = listed[j]? := Array.getElem?_setIfInBounds_ne (Ne.symm h)
   simp [Array.getD_eq_getD_getElem?, this, h]
theorem wpAnyH_inv (J : (Nat → Bool) → Act → World → Prop) (hup : upB ops = true)
 (step : ∀ i, i < ops.size → ∀ L a w, J L a w → L i = false → (∀ j ∈ preOf ops i, L j = true) → wpOp P ops Q i (fun a' w' => J (fun j => j == i || L j) a' w') a w)
 (fin : ∀ L a w, J L a w → (∀ i, i < ops.size → L i = true) → Q .normal a w) :
 ∀ (fuel : Nat) (listed : Array Bool) (a : Act) (w : World), listed.size = ops.size → (List.range ops.size).countP (fun i => !listed.getD i false) ≤ fuel → J (fun j => listed.getD j false) a w → wpAnyH P .any ops Q (fun _ => True) fuel listed a w := by
 intro fuel
 induction fuel with
 | zero =>
  intro listed a w hs hc hJ
  have hall : ∀ i, i < ops.size → listed.getD i false = true := by
   intro i hi
   have h0 := List.countP_eq_zero.1 (Nat.le_zero.1 hc) i (List.mem_range.2 hi)
   simpa using h0
  refine ⟨?_, fin _ _ _ hJ hall⟩
  rw [List.eq_nil_iff_forall_not_mem]
  intro i hi
  obtain ⟨h1, o, h2, _⟩ := mem_ready.1 hi
  have hlt := (Array.getElem?_eq_some_iff.1 h2).1
  have := hall i hlt
  simp [hs, hlt] at h1 this
  rw [h1] at this; cases this
 | succ fuel ih =>
  intro listed a w hs hc hJ
  refine ⟨fun h => fin _ _ _ hJ (ready_nil hup hs h), fun i hi => ?_⟩
  obtain ⟨h1, o, h2, h3⟩ := mem_ready.1 hi
  have hlt := (Array.getElem?_eq_some_iff.1 h2).1
  have hL : listed.getD i false = false := by simp [hs, hlt] at h1 ⊢; exact h1
  refine wpOp_mono (fun a' w' hJ' => ⟨trivial, ih _ a' w' (by simp [hs]) ?_ ?_⟩) (step i hlt _ a w hJ hL (fun j hj => by
   obtain ⟨e, he, hb, rfl⟩ := (pre_mem h2).1 hj
   exact h3 e he hb))
  · have e := getD_set listed i (by omega)
    have hlt2 : (List.range ops.size).countP (fun j => !(listed.setIfInBounds i true).getD j false) < (List.range ops.size).countP (fun j => !listed.getD j false) := by
     have e2 : (fun j => !(listed.setIfInBounds i true).getD j false) = fun j => (!(j == i)) && !listed.getD j false := by
      funext j
      have := congrFun e j
      rw [this]; simp
     rw [e2]
     have hp : (fun j => !listed.getD j false) i = true := by simp only [hL]; rfl
     have key : ∀ l : List Nat, i ∈ l → l.countP (fun j => (!(j == i)) && !listed.getD j false) < l.countP (fun j => !listed.getD j false) := by
      intro l
      induction l with
      | nil => intro h; cases h
      | cons x l ihl =>
       intro hm
       have hle : l.countP (fun j => (!(j == i)) && !listed.getD j false) ≤ l.countP (fun j => !listed.getD j false) :=
        List.countP_mono_left fun y _ hy => by simp only [Bool.and_eq_true] at hy; exact hy.2
       rw [List.countP_cons, List.countP_cons]
       by_cases hx : x = i
       · subst hx
         rw [if_neg (by simp), if_pos hp]
         omega
       · have := ihl ((List.mem_cons.1 hm).resolve_left (Ne.symm hx))
         have e3 : ((!(x == i)) && !listed.getD x false) = !listed.getD x false := by simp [hx]
         rw [e3]
         omega
     exact key _ (List.mem_range.2 hlt)
    omega
  · rw [getD_set listed i (by omega)]
    exact hJ'
theorem region_inv {id : Nat} {a : Act} {w : World} (J : (Nat → Bool) → Act → World → Prop) (hm : P.follows .mixedOrders = true) (hup : upB ops = true)
 (h0 : J (fun _ => false) a w.drew)
 (step : ∀ i, i < ops.size → ∀ L a w, J L a w → L i = false → (∀ j ∈ preOf ops i, L j = true) → wpOp P ops Q i (fun a' w' => J (fun j => j == i || L j) a' w') a w)
 (fin : ∀ L a w, J L a w → (∀ i, i < ops.size → L i = true) → Q .normal a w) : (Code.region id ops true).wp P Q a w := by
 refine wp_region_held_drew (S := fun _ => True) hm trivial fun _ => ?_
 refine wpAnyH_inv J hup step fin _ _ a w.drew (by simp) ?_ ?_
 · refine Nat.le_trans List.countP_le_length ?_
   simp
 · have e : (fun j => (Array.replicate ops.size false).getD j false) = fun _ => false := by
    funext j
    simp [Array.getD_eq_getD_getElem?, Array.getElem?_replicate]
    split <;> rfl
   rw [e]; exact h0
end
def regT (base : Array Value) (slots : List Nat) (f : Nat → Value) : Array Value := slots.foldl (fun t k => t.setIfInBounds k (f k)) base
def updF (f : Nat → Value) (d : Nat) (v : Value) (k : Nat) : Value := if k = d then v else f k
theorem regT_get (f : Nat → Value) : ∀ (slots : List Nat) (base : Array Value) (k : Nat), (regT base slots f)[k]? = if k ∈ slots ∧ k < base.size then some (f k) else base[k]?
 | [], base, k => by simp [regT]
 | d :: slots, base, k => by
  have h := regT_get f slots (base.setIfInBounds d (f d)) k
  unfold regT at h ⊢
  rw [List.foldl_cons, h]
  by_cases h1 : k ∈ slots ∧ k < base.size
  · rw [if_pos (by simpa using h1), if_pos ⟨List.mem_cons_of_mem _ h1.1, h1.2⟩]
  · rw [if_neg (by simpa using h1)]
    by_cases h2 : k = d
    · subst h2
      by_cases h3 : k < base.size
      · rw [if_pos ⟨List.mem_cons_self, h3⟩]; simp [h3]
      · rw [if_neg (fun h => h3 h.2)]; simp [h3]
    · rw [if_neg (by
       rintro ⟨h3, h4⟩
       exact h1 ⟨(List.mem_cons.1 h3).resolve_left h2, h4⟩)]
      exact Array.getElem?_setIfInBounds_ne (Ne.symm h2)
theorem regT_id (base : Array Value) (slots : List Nat) : regT base slots (fun k => base.getD k undef) = base := by
 apply Array.ext_getElem?
 intro k
 rw [regT_get]
 split
 · rename_i h; simp [Array.getD_eq_getD_getElem?, h.2]
 · rfl
theorem regT_put (base : Array Value) (slots : List Nat) (f : Nat → Value) (d : Nat) (v : Value) (hd : d ∈ slots) : (regT base slots f).setIfInBounds d v = regT base slots (updF f d v) := by
 apply Array.ext_getElem?
 intro k
 have hsz : ∀ g, (regT base slots g).size = base.size := fun g => by
  unfold regT
  clear hd
  induction slots generalizing base with
  | nil => rfl
  | cons x l ih => rw [List.foldl_cons, ih]; simp
 rw [regT_get]
 by_cases h : k = d
 · subst h
   by_cases h2 : k < base.size
   · rw [if_pos ⟨hd, h2⟩]; simp [hsz, h2, updF]
   · rw [if_neg (fun h => h2 h.2)]; simp [hsz, h2]
 · rw [Array.getElem?_setIfInBounds_ne (Ne.symm h), regT_get]
   simp [updF, h]
theorem regT_in {base : Array Value} {slots : List Nat} {f : Nat → Value} {k : Nat} (h : k ∈ slots) (h2 : k < base.size) : (regT base slots f).getD k undef = f k := by
 rw [Array.getD_eq_getD_getElem?, regT_get, if_pos ⟨h, h2⟩]; rfl
theorem regT_out {base : Array Value} {slots : List Nat} {f : Nat → Value} {k : Nat} (h : k ∉ slots) : (regT base slots f).getD k undef = base.getD k undef := by
 rw [Array.getD_eq_getD_getElem?, regT_get, if_neg (fun hh => h hh.1), Array.getD_eq_getD_getElem?]
section
variable {P : Program} {ops : Array Oper} {Q : Exit → Act → World → Prop}
variable {base : Array Value} {df : List Deferred} {slots : List Nat} {V : List (Nat × Nat × Value)} {M : (Nat → Bool) → (Nat → Value) → World → Prop}
end
structure Als (T : TypeId) (B : Nat) (rows : List (Nat × Nat × Nat)) (z : Array Value) (vv : Nat → Array Value) (X : Nat → Bool) (f : Nat → Value) (w : World) : Prop where
 a : ∀ r ∈ rows, X r.1 = false → X r.2.1 = false
 b : ∀ r ∈ rows, X r.1 = true → ∃ cc, f r.2.2 = .pointer (some ⟨cc, 0, none⟩) ∧ B ≤ cc ∧ w.heap[cc]? = some (.cells (if X r.2.1 = true then vv r.2.2 else z) T (0, 0))
 n : ∀ r ∈ rows, ∀ r' ∈ rows, r.2.2 ≠ r'.2.2 → X r.1 = true → X r'.1 = true → f r.2.2 ≠ f r'.2.2
def rowsOK (rows : List (Nat × Nat × Nat)) : Bool := rows.all fun r => rows.all fun r' => (decide (r.1 = r'.1) == decide (r.2.2 = r'.2.2)) && (decide (r.2.1 = r'.2.1) == decide (r.2.2 = r'.2.2)) && !decide (r.1 = r'.2.1)
theorem rowsOK_out {rows : List (Nat × Nat × Nat)} (h : rowsOK rows = true) {r r' : Nat × Nat × Nat} (hr : r ∈ rows) (hr' : r' ∈ rows) : (r.1 = r'.1 ↔ r.2.2 = r'.2.2) ∧ (r.2.1 = r'.2.1 ↔ r.2.2 = r'.2.2) ∧ r.1 ≠ r'.2.1 := by
 have h1 := List.all_eq_true.1 (List.all_eq_true.1 h r hr) r' hr'
 simp only [Bool.and_eq_true, beq_iff_eq, decide_eq_decide, Bool.not_eq_true', decide_eq_false_iff_not] at h1
 exact ⟨h1.1.1, h1.1.2, h1.2⟩
section
variable {T : TypeId} {B : Nat} {rows : List (Nat × Nat × Nat)} {z : Array Value} {vv : Nat → Array Value} {X X' : Nat → Bool} {f f' : Nat → Value} {w w' : World}
theorem Als.keep (h : Als T B rows z vv X f w) (hb : Below w.heap.size w w') (he : ∀ r ∈ rows, X' r.1 = X r.1 ∧ X' r.2.1 = X r.2.1 ∧ f' r.2.2 = f r.2.2) : Als T B rows z vv X' f' w' := by
 refine ⟨fun r hr hx => ?_, fun r hr hx => ?_, fun r hr r' hr' hn hx hx' => ?_⟩
 · rw [(he r hr).2.1]; exact h.a r hr ((he r hr).1 ▸ hx)
 · obtain ⟨cc, e1, e2, e3⟩ := h.b r hr ((he r hr).1 ▸ hx)
   exact ⟨cc, (he r hr).2.2.trans e1, e2, by rw [(he r hr).2.1]; exact (hb.block cc (Array.getElem?_eq_some_iff.1 e3).1).trans e3⟩
 · rw [(he r hr).2.2, (he r' hr').2.2]; exact h.n r hr r' hr' hn ((he r hr).1 ▸ hx) ((he r' hr').1 ▸ hx')
theorem Als.alloc (h : Als T B rows z vv X f w) (hok : rowsOK rows = true) (hB : B ≤ w.heap.size) {r : Nat × Nat × Nat} (hr : r ∈ rows) (hx : X r.1 = false) :
 Als T B rows z vv (fun j => j == r.1 || X j) (updF f r.2.2 (.pointer (some ⟨w.heap.size, 0, none⟩))) (w.alloc (.cells z T)) := by
 have hnew : ∀ r' ∈ rows, X r'.1 = true → f r'.2.2 ≠ .pointer (some ⟨w.heap.size, 0, none⟩) := fun r' hr' hx' e => by
  obtain ⟨cc, e1, e2, e3⟩ := h.b r' hr' hx'
  rw [e1] at e
  have : cc = w.heap.size := by simpa using e
  have h2 := (Array.getElem?_eq_some_iff.1 e3).1
  omega
 have hs : ∀ r' ∈ rows, (r'.2.1 == r.1 || X r'.2.1) = X r'.2.1 := fun r' hr' => by
  have := (rowsOK_out hok hr hr').2.2
  have e : (r'.2.1 == r.1) = false := by simp; exact fun e => this e.symm
  rw [e]; rfl
 refine ⟨fun r' hr' hx' => ?_, fun r' hr' hx' => ?_, fun r1 hr1 r2 hr2 hn hx1 hx2 => ?_⟩
 · simp only [hs r' hr']
   refine h.a r' hr' ?_
   simp only [Bool.or_eq_false_iff] at hx'
   exact hx'.2
 · simp only [hs r' hr']
   by_cases e : r'.2.2 = r.2.2
   · have e1 := (rowsOK_out hok hr' hr).1.2 e
     have e2 := (rowsOK_out hok hr' hr).2.1.2 e
     refine ⟨w.heap.size, by unfold updF; rw [if_pos e], hB, ?_⟩
     rw [if_neg (by rw [h.a r' hr' (by rw [e1]; exact hx)]; decide)]
     exact heap_alloc_new w _
   · have e1 : r'.1 ≠ r.1 := fun e1 => e ((rowsOK_out hok hr' hr).1.1 e1)
     have hx2 : X r'.1 = true := by simpa [e1] using hx'
     obtain ⟨cc, h1, h2, h3⟩ := h.b r' hr' hx2
     exact ⟨cc, by unfold updF; rw [if_neg e]; exact h1, h2, ((below_new w _).block cc (Array.getElem?_eq_some_iff.1 h3).1).trans h3⟩
 · unfold updF
   have ha : ∀ r' ∈ rows, r'.2.2 ≠ r.2.2 → (r'.1 == r.1 || X r'.1) = true → X r'.1 = true := fun r' hr' hn' hx' => by
    have e1 : r'.1 ≠ r.1 := fun e1 => hn' ((rowsOK_out hok hr' hr).1.1 e1)
    simpa [e1] using hx'
   by_cases e1 : r1.2.2 = r.2.2
   · have e2 : r2.2.2 ≠ r.2.2 := fun e2 => hn (e1.trans e2.symm)
     rw [if_pos e1, if_neg e2]
     exact (hnew r2 hr2 (ha r2 hr2 e2 hx2)).symm
   · rw [if_neg e1]
     by_cases e2 : r2.2.2 = r.2.2
     · rw [if_pos e2]
       exact hnew r1 hr1 (ha r1 hr1 e1 hx1)
     · rw [if_neg e2]
       exact h.n r1 hr1 r2 hr2 hn (ha r1 hr1 e1 hx1) (ha r2 hr2 e2 hx2)
theorem Als.store (h : Als T B rows z vv X f w) (hok : rowsOK rows = true) {r : Nat × Nat × Nat} (hr : r ∈ rows) (hx : X r.1 = true) {cc : Nat} (hf : f r.2.2 = .pointer (some ⟨cc, 0, none⟩)) :
 Als T B rows z vv (fun j => j == r.2.1 || X j) f (w.setRow cc (vv r.2.2)) := by
 have hs : ∀ r' ∈ rows, (r'.1 == r.2.1 || X r'.1) = X r'.1 := fun r' hr' => by
  have := (rowsOK_out hok hr' hr).2.2
  have e : (r'.1 == r.2.1) = false := by simp; exact this
  rw [e]; rfl
 refine ⟨fun r' hr' hx' => ?_, fun r' hr' hx' => ?_, fun r1 hr1 r2 hr2 hn hx1 hx2 => ?_⟩
 · simp only [hs r' hr'] at hx'
   by_cases e : r'.2.1 = r.2.1
   · have e1 := (rowsOK_out hok hr' hr).1.2 ((rowsOK_out hok hr' hr).2.1.1 e)
     rw [e1, hx] at hx'; cases hx'
   · have := h.a r' hr' hx'
     simp [e, this]
 · simp only [hs r' hr'] at hx'
   obtain ⟨c', h1, h2, h3⟩ := h.b r' hr' hx'
   by_cases e : r'.2.2 = r.2.2
   · have e2 := (rowsOK_out hok hr' hr).2.1.2 e
     have ec : c' = cc := by
      have := h1.symm.trans ((congrArg f e).trans hf)
      simpa using this
     subst ec
     refine ⟨c', h1, h2, ?_⟩
     rw [if_pos (by simp [e2]), e]
     exact setRow_heap w c' _ _ _ _ h3
   · have e2 : r'.2.1 ≠ r.2.1 := fun e2 => e ((rowsOK_out hok hr' hr).2.1.1 e2)
     have hn := h.n r' hr' r hr e hx' hx
     have ec : c' ≠ cc := fun ec => hn (by rw [h1, hf, ec])
     refine ⟨c', h1, h2, ?_⟩
     have e3 : (r'.2.1 == r.2.1 || X r'.2.1) = X r'.2.1 := by
      have : (r'.2.1 == r.2.1) = false := by simpa using e2
      rw [this]; rfl
     simp only [e3]
     rw [setRow_other w cc c' _ ec]
     exact h3
 · simp only [hs r1 hr1] at hx1
   simp only [hs r2 hr2] at hx2
   exact h.n r1 hr1 r2 hr2 hn hx1 hx2
end
end Go.Proofs.YtjlliohjeiclaaaGreatDoor
namespace Go.Proofs.YtjlliohjeiclaaaGreatDoor
open Go.RowKit
abbrev Pr := Value → World → Prop
def anyV : Pr := fun _ _ => True
def Stay (g : Pr) : Prop := ∀ v w w', g v w → Below w.heap.size w w' → g v w'
def dstN (ops : Array Oper) (i : Nat) : Option Nat := (ops[i]?).bind (·.dst)
def dstsOK (ops : Array Oper) (slots : List Nat) : Bool := (List.range ops.size).all fun i => match dstN ops i with
 | none => true
 | some d => slots.contains d && (List.range ops.size).all fun j => j == i || dstN ops j != some d
def lkG (gs : List Pr) (j : Nat) : Pr := if j < gs.length then gs.getD (gs.length - 1 - j) anyV else anyV
theorem lkG_old (gs : List Pr) (g : Pr) (j : Nat) (h : j < gs.length) : lkG (g :: gs) j = lkG gs j := by
 unfold lkG
 rw [if_pos h, if_pos (by rw [List.length_cons]; omega), List.length_cons, show gs.length + 1 - 1 - j = (gs.length - 1 - j) + 1 by omega, List.getD_cons_succ]
theorem lkG_new (gs : List Pr) (g : Pr) : lkG (g :: gs) gs.length = g := by
 unfold lkG
 rw [if_pos (by rw [List.length_cons]; omega), List.length_cons, show gs.length + 1 - 1 - gs.length = 0 by omega, List.getD_cons_zero]
def depsOK (ops : Array Oper) (i : Nat) (ds : List (Nat × Nat × Nat)) : Bool := ds.all fun p => ((preOf ops i).contains p.1 && dstN ops p.1 == some p.2.1) && decide (p.1 + p.2.2 + 1 = i)
def finOK (ops : Array Oper) (ds : List (Nat × Nat × Nat)) : Bool := ds.all fun p => decide (p.1 + p.2.2 + 1 = ops.size) && dstN ops p.1 == some p.2.1
def DepF (gs : List Pr) (t : Array Value) (w : World) : List (Nat × Nat × Nat) → Prop
 | [] => True
 | p :: ds => (∃ x, (t.getD p.2.1 undef = x ∧ t[p.2.1]?.getD undef = x) ∧ gs.getD p.2.2 anyV x w) ∧ DepF gs t w ds
def FinF (gs : List Pr) (f : Nat → Value) (w : World) : List (Nat × Nat × Nat) → Prop
 | [] => True
 | p :: ds => (∃ x, f p.2.1 = x ∧ gs.getD p.2.2 anyV x w) ∧ FinF gs f w ds
def BasF (base t : Array Value) : List Nat → Prop
 | [] => True
 | k :: ks => (t.getD k undef = base.getD k undef ∧ t[k]?.getD undef = base.getD k undef) ∧ BasF base t ks
theorem wanted_none {o : Oper} {y : Nat → Option Bool} (h : o.guard = none) : Region.wanted o y = true := by simp [Region.wanted, h]
theorem getD_two {t : Array Value} {k : Nat} {v : Value} (h : t.getD k undef = v) : t[k]?.getD undef = v := by rwa [Array.getD_eq_getD_getElem?] at h
theorem basF_of {base : Array Value} {slots : List Nat} {f : Nat → Value} : ∀ {bs : List Nat}, (bs.all fun k => !slots.contains k) = true → BasF base (regT base slots f) bs
 | [], _ => trivial
 | k :: ks, h => by
  simp only [List.all_cons, Bool.and_eq_true] at h
  exact ⟨⟨regT_out (by simpa using h.1), getD_two (regT_out (by simpa using h.1))⟩, basF_of h.2⟩
theorem depF_of {ops : Array Oper} {gs : List Pr} {base : Array Value} {slots : List Nat} {f : Nat → Value} {w : World} {i : Nat} (hl : gs.length = i) (hsl : ∀ j d, dstN ops j = some d → d ∈ slots) (hsz : ∀ d ∈ slots, d < base.size)
 (hp : ∀ j ∈ preOf ops i, ∀ d, dstN ops j = some d → j < i → lkG gs j (f d) w) : ∀ {ds : List (Nat × Nat × Nat)}, depsOK ops i ds = true → DepF gs (regT base slots f) w ds
 | [], _ => trivial
 | p :: ds, h => by
  simp only [depsOK, List.all_cons, Bool.and_eq_true] at h
  obtain ⟨⟨⟨h1, h2⟩, h4⟩, h3⟩ := h
  have e : dstN ops p.1 = some p.2.1 := by simpa using h2
  have hd := hsl _ _ e
  have hj : p.1 + p.2.2 + 1 = i := by simpa using h4
  have e1 := regT_in (f := f) hd (hsz _ hd)
  have h5 := hp _ (by simpa using h1) _ e (by omega)
  unfold lkG at h5
  rw [if_pos (by omega), show gs.length - 1 - p.1 = p.2.2 by omega] at h5
  exact ⟨⟨f p.2.1, ⟨e1, getD_two e1⟩, h5⟩, depF_of hl hsl hsz hp h3⟩
theorem finF_of {ops : Array Oper} {gs : List Pr} {f : Nat → Value} {w : World} (hl : gs.length = ops.size) (hp : ∀ j, j < ops.size → ∀ d, dstN ops j = some d → lkG gs j (f d) w) : ∀ {ds : List (Nat × Nat × Nat)}, finOK ops ds = true → FinF gs f w ds
 | [], _ => trivial
 | p :: ds, h => by
  simp only [finOK, List.all_cons, Bool.and_eq_true] at h
  obtain ⟨⟨h1, h2⟩, h3⟩ := h
  have hj : p.1 + p.2.2 + 1 = ops.size := by simpa using h1
  have h5 := hp p.1 (by omega) _ (by simpa using h2)
  unfold lkG at h5
  rw [if_pos (by omega), show gs.length - 1 - p.1 = p.2.2 by omega] at h5
  exact ⟨⟨f p.2.1, rfl, h5⟩, finF_of hl hp h3⟩
section
variable {P : Program} {ops : Array Oper} {Q : Exit → Act → World → Prop} {id : Nat} {base : Array Value} {df : List Deferred} {slots : List Nat} {W0 : World}
def StepOK (P : Program) (ops : Array Oper) (Q : Exit → Act → World → Prop) (base : Array Value) (df : List Deferred) (slots : List Nat) (W0 : World) (gs : List Pr) (i : Nat) : Prop :=
 ∀ f w, Below W0.heap.size W0 w → (∀ j ∈ preOf ops i, ∀ d, dstN ops j = some d → lkG gs j (f d) w) → ∀ K : Act → World → Prop,
  (∀ v w', lkG gs i v w' → Below w.heap.size w w' → K ({ tmps := regT base slots f, defers := df : Act }.put (dstN ops i) v) w') → wpOp P ops Q i K { tmps := regT base slots f, defers := df } w
def RelG (P : Program) (ops : Array Oper) (Q : Exit → Act → World → Prop) (id : Nat) (base : Array Value) (df : List Deferred) (slots : List Nat) (W0 : World) (so : List Nat) (gs : List Pr) : Prop :=
 upB ops = true → (∀ j d, dstN ops j = some d → d ∈ slots) → (∀ i j d, dstN ops i = some d → dstN ops j = some d → i = j) → (∀ d ∈ slots, d < base.size) →
  (∀ i, i < gs.length → so.contains i = false → Stay (lkG gs i) ∧ StepOK P ops Q base df slots W0 gs i) → (Code.region id ops true).wp P Q { tmps := base, defers := df } W0
theorem dstN_lt {i d : Nat} (h : dstN ops i = some d) : i < ops.size := by
 unfold dstN at h
 rcases Nat.lt_or_ge i ops.size with hl | hl
 · exact hl
 · rw [Array.getElem?_eq_none hl] at h; cases h
theorem relG_start {so : List Nat} (hup : upB ops = true) (hd : dstsOK ops slots = true) (hz : (slots.all fun d => decide (d < base.size)) = true) (h : RelG P ops Q id base df slots W0 so []) : (Code.region id ops true).wp P Q { tmps := base, defers := df } W0 := by
 have hall : ∀ i d, dstN ops i = some d → slots.contains d = true ∧ ∀ j, j < ops.size → (j == i || dstN ops j != some d) = true := fun i d e => by
  have h1 := List.all_eq_true.1 hd i (List.mem_range.2 (dstN_lt e))
  rw [e] at h1
  simp only [Bool.and_eq_true] at h1
  exact ⟨h1.1, fun j hj => List.all_eq_true.1 h1.2 j (List.mem_range.2 hj)⟩
 have hsz : ∀ d ∈ slots, d < base.size := fun d hd => of_decide_eq_true (List.all_eq_true.1 hz d hd)
 refine h hup (fun j d e => by simpa using (hall j d e).1) (fun i j d e1 e2 => ?_) hsz (fun i hi => by simp at hi)
 have := (hall i d e1).2 j (dstN_lt e2)
 rw [e2] at this
 simp at this
 exact this.symm
theorem up_lt (hup : upB ops = true) {i j : Nat} (hi : i < ops.size) (hj : j ∈ preOf ops i) : j < i := by
 have h1 := List.all_eq_true.1 hup i (List.mem_range.2 hi)
 exact of_decide_eq_true (List.all_eq_true.1 h1 j hj)
theorem relG_step {so : List Nat} {gs : List Pr} (g : Pr) (hl : gs.length < ops.size) (hm : Stay g) (hs : (∀ j d, dstN ops j = some d → d ∈ slots) → (∀ d ∈ slots, d < base.size) → StepOK P ops Q base df slots W0 (g :: gs) gs.length) (h : RelG P ops Q id base df slots W0 so (g :: gs)) : RelG P ops Q id base df slots W0 so gs := by
 intro hup hsl hinj hsz hall
 refine h hup hsl hinj hsz fun i hi hso => ?_
 rw [List.length_cons] at hi
 by_cases e : i = gs.length
 · subst e
   exact ⟨by rw [lkG_new]; exact hm, hs hsl hsz⟩
 · have hi' : i < gs.length := by omega
   obtain ⟨h1, h2⟩ := hall i hi' hso
   rw [lkG_old _ _ _ hi']
   refine ⟨h1, fun f w hb hp K hK => ?_⟩
   rw [lkG_old _ _ _ hi'] at hK
   refine h2 f w hb (fun j hj d e => ?_) K hK
   have hlt := up_lt hup (by omega) hj
   have := hp j hj d e
   rwa [lkG_old _ _ _ (by omega)] at this
theorem relG_pure {so : List Nat} {gs : List Pr} {i : Nat} {o : Oper} {v : Value} (ds : List (Nat × Nat × Nat)) (bs : List Nat) (hl : gs.length = i) (ho : ops[i]? = some o) (hd : depsOK ops i ds = true) (hb : (bs.all fun k => !slots.contains k) = true)
 (hy : ∀ t w, Below W0.heap.size W0 w → DepF gs t w ds → BasF base t bs → YieldsIf P ops (fun w' => w' = w) o v { tmps := t, defers := df })
 (h : RelG P ops Q id base df slots W0 so ((fun x _ => x = v) :: gs)) : RelG P ops Q id base df slots W0 so gs := by
 subst hl
 refine relG_step _ (Array.getElem?_eq_some_iff.1 ho).1 (fun _ _ _ h _ => h) (fun hsl hsz => ?_) h
 intro f w hW hp K hK
 rw [lkG_new] at hK
 have hdp : DepF gs (regT base slots f) w ds := depF_of rfl hsl hsz (fun j hj d e hlt => by
  have := hp j hj d e
  rwa [lkG_old _ _ _ hlt] at this) hd
 have hY := hy (regT base slots f) w hW hdp (basF_of hb)
 have hdst : dstN ops gs.length = o.dst := by unfold dstN; rw [ho]; rfl
 rw [hdst] at hK
 exact hY.wpOp ho rfl (hK v w rfl (Below.refl _ _))
theorem relG_call {so : List Nat} {gs : List Pr} {i : Nat} {o : Oper} (g : Pr) (ds : List (Nat × Nat × Nat)) (bs : List Nat) (hl : gs.length = i) (ho : ops[i]? = some o) (hd : depsOK ops i ds = true) (hb : (bs.all fun k => !slots.contains k) = true) (hm : Stay g)
 (hw : ∀ t w, Below W0.heap.size W0 w → DepF gs t w ds → BasF base t bs → ∀ K : Act → World → Prop, Shut (∀ v w', g v w' → Below w.heap.size w w' → K ({ tmps := t, defers := df : Act }.put o.dst v) w') →
  Region.wanted o (yielded ops t) = true ∧ o.wp P { tmps := t, defers := df } w K Q)
 (h : RelG P ops Q id base df slots W0 so (g :: gs)) : RelG P ops Q id base df slots W0 so gs := by
 subst hl
 refine relG_step _ (Array.getElem?_eq_some_iff.1 ho).1 hm (fun hsl hsz => ?_) h
 intro f w hW hp K hK
 rw [lkG_new] at hK
 have hdp : DepF gs (regT base slots f) w ds := depF_of rfl hsl hsz (fun j hj d e hlt => by
  have := hp j hj d e
  rwa [lkG_old _ _ _ hlt] at this) hd
 have hdst : dstN ops gs.length = o.dst := by unfold dstN; rw [ho]; rfl
 rw [hdst] at hK
 obtain ⟨h1, h2⟩ := hw (regT base slots f) w hW hdp (basF_of hb) K hK
 unfold wpOp
 rw [ho]
 simp only [h1, if_true]
 exact .inl h2
theorem relG_done {gs : List Pr} (ps : List (Nat × Nat × Nat)) (hm : P.follows .mixedOrders = true) (hl : gs.length = ops.size) (hps : finOK ops ps = true)
 (h : ∀ f w, Below W0.heap.size W0 w → FinF gs f w ps → Q .normal { tmps := regT base slots f, defers := df } w) : RelG P ops Q id base df slots W0 [] gs := by
 intro hup hsl hinj hsz hall0
 have hall : ∀ i, i < gs.length → Stay (lkG gs i) ∧ StepOK P ops Q base df slots W0 gs i := fun i hi => hall0 i hi rfl
 refine region_inv (fun L a w => ∃ f, a = { tmps := regT base slots f, defers := df } ∧ Below W0.heap.size W0 w ∧ ∀ i d, dstN ops i = some d → L i = true → lkG gs i (f d) w) hm hup
  ⟨fun k => base.getD k undef, by rw [regT_id], (Below.refl _ _).drew, fun _ _ _ h => by cases h⟩ ?_ ?_
 · rintro i hi L a w ⟨f, rfl, hW, hL⟩ hLi hpre
   obtain ⟨h1, h2⟩ := hall i (by omega)
   refine h2 f w hW (fun j hj d e => hL j d e (hpre j hj)) _ fun v w' hg hb => ?_
   have hW' := hW.trans (hb.mono hW.size)
   cases hdi : dstN ops i with
   | none =>
    refine ⟨f, rfl, hW', fun j d e hj => ?_⟩
    have hne : j ≠ i := fun e' => by rw [e', hdi] at e; cases e
    have : L j = true := by simpa [hne] using hj
    exact (hall j (by have := dstN_lt e; omega)).1 _ _ _ (hL j d e this) hb
   | some di =>
    refine ⟨updF f di v, ?_, hW', fun j d e hj => ?_⟩
    · show ({ tmps := (regT base slots f).setIfInBounds di v, defers := df } : Act) = _
      rw [regT_put _ _ _ _ _ (hsl i di hdi)]
    · unfold updF
      by_cases hne : j = i
      · subst hne
        rw [hdi] at e
        cases e
        rw [if_pos rfl]
        exact hg
      · have h3 : d ≠ di := fun e' => hne (hinj j i d e (e' ▸ hdi))
        rw [if_neg h3]
        have : L j = true := by simpa [hne] using hj
        exact (hall j (by have := dstN_lt e; omega)).1 _ _ _ (hL j d e this) hb
 · rintro L a w ⟨f, rfl, hW, hL⟩ hLall
   exact h f w hW (finF_of hl (fun j hj d e => hL j d e (hLall j hj)) hps)
def needsN (ops : Array Oper) : Nat → Nat → Nat → Bool
 | 0, _, _ => false
 | f + 1, i, j => (preOf ops i).contains j || (preOf ops i).any fun k => needsN ops f k j
def ClosedL (ops : Array Oper) (L : Nat → Bool) : Prop := ∀ i, L i = true → ∀ j ∈ preOf ops i, L j = true
theorem needsN_out {L : Nat → Bool} (hc : ClosedL ops L) : ∀ (f i j : Nat), needsN ops f i j = true → (∀ k ∈ preOf ops i, L k = true) → L j = true
 | 0, _, _, h, _ => by cases h
 | f + 1, i, j, h, hp => by
  simp only [needsN, Bool.or_eq_true, List.any_eq_true] at h
  rcases h with h | ⟨k, hk, h⟩
  · exact hp j (by simpa using h)
  · exact needsN_out hc f k j h (hc k (hp k hk))
end
end Go.Proofs.YtjlliohjeiclaaaGreatDoor
namespace Go.Proofs.YtjlliohjeiclaaaGreatDoor
open Go.RowKit St
open Go.Op (bytesLess)
theorem take_set (l : List UInt8) (n : Nat) (hn : l.length = n) (k : Nat) (hk : k < n) : (l.take k ++ List.replicate (n - k) (0 : UInt8)).set k (l[k]'(by omega)) = l.take (k + 1) ++ List.replicate (n - (k + 1)) 0 := by
 subst hn
 have e1 : (l.take k).length = k := by simp; omega
 rw [List.set_append_right _ _ (by omega), e1, Nat.sub_self]
 rw [show l.length - k = l.length - (k + 1) + 1 by omega, List.replicate_succ, List.set_cons_zero, List.take_succ_eq_append_getElem hk, List.append_assoc]
 rfl
def SlB (l : List UInt8) : Pr := fun v w => ∃ a cap, v = .slice a l.length cap ∧ BytesAt w a l
theorem SlB.stay (l : List UInt8) : Stay (SlB l) := fun _ _ _ ⟨a, cap, e, h⟩ hb => ⟨a, cap, e, h.below hb rfl⟩
theorem SlB.one (w : World) (t : TypeId) (c : UInt8) (u : Int) (hu : u = (c.toNat : Int)) : SlB [c] (.slice (some ⟨w.heap.size, 0, none⟩) 1 1) (w.alloc (.cells #[.int .u8 u] t)) := by
 subst hu
 exact ⟨_, _, rfl, BytesAt.fresh w t (0, 0) [c] [_] rfl⟩
def Sl6 (l1 l2 l3 l4 l5 l6 : List UInt8) : Pr := fun v w => ∃ a cap, v = .slice a 6 cap ∧ ListsAt w a [l1, l2, l3, l4, l5, l6]
theorem Sl6.stay (l1 l2 l3 l4 l5 l6 : List UInt8) : Stay (Sl6 l1 l2 l3 l4 l5 l6) := fun _ _ _ ⟨a, cap, e, h⟩ hb => ⟨a, cap, e, h.below hb rfl⟩
theorem Sl6.mk {w : World} {t : TypeId} {l1 l2 l3 l4 l5 l6 : List UInt8} {v1 v2 v3 v4 v5 v6 : Value} (h1 : SlB l1 v1 w) (h2 : SlB l2 v2 w) (h3 : SlB l3 v3 w) (h4 : SlB l4 v4 w) (h5 : SlB l5 v5 w) (h6 : SlB l6 v6 w)
 (n1 : l1.length ≤ 9223372036854775807) (n2 : l2.length ≤ 9223372036854775807) (n3 : l3.length ≤ 9223372036854775807) (n4 : l4.length ≤ 9223372036854775807) (n5 : l5.length ≤ 9223372036854775807) (n6 : l6.length ≤ 9223372036854775807) :
 Sl6 l1 l2 l3 l4 l5 l6 (.slice (some ⟨w.heap.size, 0, none⟩) 6 6) (w.alloc (.cells #[v1, v2, v3, v4, v5, v6] t)) := by
 have hc : ∀ i, (w.alloc (.cells #[v1, v2, v3, v4, v5, v6] t)).cell? ⟨w.heap.size, i, none⟩ = (#[v1, v2, v3, v4, v5, v6])[i]? := fun i => cell_new _ _ _ _ i
 have hb := below_new w (.cells #[v1, v2, v3, v4, v5, v6] t)
 obtain ⟨a1, c1, e1, b1⟩ := SlB.stay _ _ _ _ h1 hb
 obtain ⟨a2, c2, e2, b2⟩ := SlB.stay _ _ _ _ h2 hb
 obtain ⟨a3, c3, e3, b3⟩ := SlB.stay _ _ _ _ h3 hb
 obtain ⟨a4, c4, e4, b4⟩ := SlB.stay _ _ _ _ h4 hb
 obtain ⟨a5, c5, e5, b5⟩ := SlB.stay _ _ _ _ h5 hb
 obtain ⟨a6, c6, e6, b6⟩ := SlB.stay _ _ _ _ h6 hb
 refine ⟨_, _, rfl, fun i hi => ?_⟩
 match i, hi with
 | 0, _ => exact ⟨_, _, a1, c1, rfl, by rw [hc, e1]; rfl, b1, n1⟩
 | 1, _ => exact ⟨_, _, a2, c2, rfl, by rw [hc, e2]; rfl, b2, n2⟩
 | 2, _ => exact ⟨_, _, a3, c3, rfl, by rw [hc, e3]; rfl, b3, n3⟩
 | 3, _ => exact ⟨_, _, a4, c4, rfl, by rw [hc, e4]; rfl, b4, n4⟩
 | 4, _ => exact ⟨_, _, a5, c5, rfl, by rw [hc, e5]; rfl, b5, n5⟩
 | 5, _ => exact ⟨_, _, a6, c6, rfl, by rw [hc, e6]; rfl, b6, n6⟩
end Go.Proofs.YtjlliohjeiclaaaGreatDoor
namespace Go.Proofs.YtjlliohjeiclaaaGreatDoor
open Go.RowKit St
open Go.Op (bytesLess)
set_option maxRecDepth 100000 in
set_option maxHeartbeats 1000000 in
theorem ref6_CmpBranch (r1 : Int) (l1 : ByteArray) (r2 : Int) (l2 : ByteArray) (w : World) (h1 : l1.size ≤ 9223372036854775807) (h2 : l2.size ≤ 9223372036854775807) :
 Calls Tryz.prog 135 #[.agg #[.int .i64 r1, .string l1], .agg #[.int .i64 r2, .string l2]] w fun e w' => e = .returned (.int .i64 (brC r1 l1 r2 l2)) ∧ Below w.heap.size w w' := by
 have HV : Hid (∀ c, numC r1 r2 = c → brC r1 l1 r2 l2 = firstC c (txtC l1 l2)) := Lib.hid (by rintro c rfl; rfl)
 go_enter Tryz.func135, Tryz.ntmps135
 go_wp2_with fail
 refine (ref6_number r1 r2 _).mono ?_
 rintro e w' ⟨rfl, rfl⟩
 have HV := Lib.hid (HV.out _ rfl)
 generalize numC r1 r2 = c at *
 by_cases hc : c = 0
 · subst hc
   go_wp2_with fail
   refine (ref5_Cmp l1 l2 _ h1 h2).mono ?_
   rintro e w' ⟨rfl, hb⟩
   have HB : Hid (Below w.heap.size w w') := Lib.hid ((((Below.refl _ w).alloc (Nat.le_refl _) _).alloc (by simp) _).trans (hb.mono (by simp; omega)))
   clear hb
   go_wp2_with fail
   go_ret
   rw [HV.out]
   exact ⟨by simp [firstC], HB.out⟩
 · have hc' : (c == 0) = false := by simpa using hc
   go_wp2_with fail
   go_ret
   rw [HV.out]
   refine ⟨by simp [firstC, hc], ((Below.refl _ w).alloc (Nat.le_refl _) _).alloc (by simp) _⟩
set_option maxRecDepth 100000 in
set_option maxHeartbeats 1000000 in
theorem ref6_CmpName (r1 : Int) (l1 : ByteArray) (n1 : Int) (r2 : Int) (l2 : ByteArray) (n2 : Int) (w : World) (h1 : l1.size ≤ 9223372036854775807) (h2 : l2.size ≤ 9223372036854775807) :
 Calls Tryz.prog 98 #[.agg #[.int .i64 r1, .string l1, .int .i64 n1], .agg #[.int .i64 r2, .string l2, .int .i64 n2]] w fun e w' => e = .returned (.int .i64 (nmC r1 l1 n1 r2 l2 n2)) ∧ Below w.heap.size w w' := by
 have HV : Hid (∀ c, brC r1 l1 r2 l2 = c → nmC r1 l1 n1 r2 l2 n2 = firstC c (numC n1 n2)) := Lib.hid (by rintro c rfl; rfl)
 go_enter Tryz.func98, Tryz.ntmps98
 go_wp2_with fail
 refine (ref6_CmpBranch r1 l1 r2 l2 _ h1 h2).mono ?_
 rintro e w' ⟨rfl, hb⟩
 have hb0 : Below w.heap.size w ((w.alloc (.cells #[.int .i64 r1, .string l1, .int .i64 n1] 41)).alloc (.cells #[.int .i64 r2, .string l2, .int .i64 n2] 41)) := ((Below.refl _ w).alloc (Nat.le_refl _) _).alloc (by simp) _
 have HB : Hid (Below w.heap.size w w') := Lib.hid (hb0.trans (hb.mono hb0.size))
 have x1 := boxStays (boxStays (heap_alloc_new w (.cells #[.int .i64 r1, .string l1, .int .i64 n1] 41)) (below_new _ (.cells #[.int .i64 r2, .string l2, .int .i64 n2] 41))) hb
 have x2 := boxStays (heap_alloc_new (w.alloc (.cells #[.int .i64 r1, .string l1, .int .i64 n1] 41)) (.cells #[.int .i64 r2, .string l2, .int .i64 n2] 41)) hb
 rw [World.size_alloc] at x2
 have k1 := cell_of_row _ _ 2 _ _ _ x1
 have k2 := cell_of_row _ _ 2 _ _ _ x2
 clear hb hb0 x1 x2
 have HV := Lib.hid (HV.out _ rfl)
 generalize brC r1 l1 r2 l2 = c at *
 by_cases hc : c = 0
 · subst hc
   go_wp2_with fail
   refine (ref6_number n1 n2 _).mono ?_
   rintro e w' ⟨rfl, rfl⟩
   go_wp2_with fail
   go_ret
   rw [HV.out]
   exact ⟨by simp [firstC], HB.out⟩
 · have hc' : (c == 0) = false := by simpa using hc
   go_wp2_with fail
   go_ret
   rw [HV.out]
   refine ⟨by simp [firstC, hc], HB.out⟩
set_option maxRecDepth 100000 in
set_option maxHeartbeats 1000000 in
theorem ref6_Cmp (s t : Sv) (w : World) (h1 : s.l.size ≤ 9223372036854775807) (h2 : t.l.size ≤ 9223372036854775807) :
 Calls Tryz.prog 51 #[.agg #[.int .i64 s.g, .int .i64 s.r, .string s.l, .int .i64 s.n, .int .i64 s.i], .agg #[.int .i64 t.g, .int .i64 t.r, .string t.l, .int .i64 t.n, .int .i64 t.i]] w fun e w' => e = .returned (.int .i64 (svC s t)) ∧ Below w.heap.size w w' := by
 obtain ⟨g1, r1, l1, n1, i1⟩ := s
 obtain ⟨g2, r2, l2, n2, i2⟩ := t
 simp only at h1 h2 ⊢
 have HV : Hid (∀ c, numC g1 g2 = c → svC ⟨g1, r1, l1, n1, i1⟩ ⟨g2, r2, l2, n2, i2⟩ = firstC (firstC c (nmC r1 l1 n1 r2 l2 n2)) (numC i1 i2)) := Lib.hid (by rintro c rfl; rfl)
 generalize svC ⟨g1, r1, l1, n1, i1⟩ ⟨g2, r2, l2, n2, i2⟩ = sv at *
 go_enter Tryz.func51, Tryz.ntmps51
 go_wp2_with fail
 refine (ref6_number g1 g2 _).mono ?_
 rintro e w' ⟨rfl, rfl⟩
 have HV := Lib.hid (HV.out _ rfl)
 generalize numC g1 g2 = c at *
 have hb0 : Below w.heap.size w ((w.alloc (.cells #[.int .i64 g1, .int .i64 r1, .string l1, .int .i64 n1, .int .i64 i1] 43)).alloc (.cells #[.int .i64 g2, .int .i64 r2, .string l2, .int .i64 n2, .int .i64 i2] 43)) := ((Below.refl _ w).alloc (Nat.le_refl _) _).alloc (by simp) _
 have x1 := boxStays (heap_alloc_new w (.cells #[.int .i64 g1, .int .i64 r1, .string l1, .int .i64 n1, .int .i64 i1] 43)) (below_new _ (.cells #[.int .i64 g2, .int .i64 r2, .string l2, .int .i64 n2, .int .i64 i2] 43))
 have x2 := heap_alloc_new (w.alloc (.cells #[.int .i64 g1, .int .i64 r1, .string l1, .int .i64 n1, .int .i64 i1] 43)) (.cells #[.int .i64 g2, .int .i64 r2, .string l2, .int .i64 n2, .int .i64 i2] 43)
 rw [World.size_alloc] at x2
 generalize (w.alloc (.cells #[.int .i64 g1, .int .i64 r1, .string l1, .int .i64 n1, .int .i64 i1] 43)).alloc (.cells #[.int .i64 g2, .int .i64 r2, .string l2, .int .i64 n2, .int .i64 i2] 43) = W at *
 by_cases hc : c = 0
 · subst hc
   have a1 := cell_of_row _ _ 1 _ _ _ x1
   have a2 := cell_of_row _ _ 2 _ _ _ x1
   have a3 := cell_of_row _ _ 3 _ _ _ x1
   have b1 := cell_of_row _ _ 1 _ _ _ x2
   have b2 := cell_of_row _ _ 2 _ _ _ x2
   have b3 := cell_of_row _ _ 3 _ _ _ x2
   have B0 := Lib.hid hb0
   have X1 := Lib.hid x1
   have X2 := Lib.hid x2
   clear hb0 x1 x2
   go_wp2_with fail
   refine (ref6_CmpName r1 l1 n1 r2 l2 n2 _ h1 h2).mono ?_
   rintro e w' ⟨rfl, hb⟩
   have HB : Hid (Below w.heap.size w w') := Lib.hid (B0.out.trans (hb.mono B0.out.size))
   have k1 := cell_of_row _ _ 4 _ _ _ (boxStays X1.out hb)
   have k2 := cell_of_row _ _ 4 _ _ _ (boxStays X2.out hb)
   clear hb a1 a2 a3 b1 b2 b3
   generalize nmC r1 l1 n1 r2 l2 n2 = d at *
   by_cases hd : d = 0
   · subst hd
     go_wp2_with fail
     refine (ref6_number i1 i2 _).mono ?_
     rintro e w' ⟨rfl, rfl⟩
     go_wp2_with fail
     go_ret
     rw [HV.out]
     exact ⟨by simp [firstC], HB.out⟩
   · have hd' : (d == 0) = false := by simpa using hd
     go_wp2_with fail
     go_ret
     rw [HV.out]
     exact ⟨by simp [firstC, hd], HB.out⟩
 · have hc' : (c == 0) = false := by simpa using hc
   have B0 := Lib.hid hb0
   clear hb0 x1 x2
   go_wp2_with fail
   go_ret
   rw [HV.out]
   exact ⟨by simp [firstC, hc], B0.out⟩
end Go.Proofs.YtjlliohjeiclaaaGreatDoor
namespace Go.Proofs.YtjlliohjeiclaaaGreatDoor
open Go.RowKit St
open Go.Op (bytesLess)
def OwB (B : Nat) (l : List UInt8) : Pr := fun v w => w.ownsRow B 5 1 v l.length (bvs l)
theorem OwB.stay (B : Nat) (l : List UInt8) : Stay (OwB B l) := fun _ _ _ h hb => own_later h hb (Nat.le_refl _)
end Go.Proofs.YtjlliohjeiclaaaGreatDoor
namespace Go.Proofs.YtjlliohjeiclaaaGreatDoor
open Go.RowKit
section
variable {P : Program} {ops : Array Oper} {Q : Exit → Act → World → Prop} {id : Nat} {base : Array Value} {df : List Deferred} {slots : List Nat} {W0 : World}
theorem relG_skip {so : List Nat} {gs : List Pr} (i : Nat) (hl : gs.length = i) (hi : so.contains i = true) (h : RelG P ops Q id base df slots W0 so (anyV :: gs)) (hlt : decide (i < ops.size) = true) : RelG P ops Q id base df slots W0 so gs := by
 have hlt' : i < ops.size := of_decide_eq_true hlt
 subst hl
 intro hup hsl hinj hsz hall
 refine h hup hsl hinj hsz fun i hi' hso => ?_
 rw [List.length_cons] at hi'
 have hne : i ≠ gs.length := fun e => by rw [e, hi] at hso; cases hso
 have hi'' : i < gs.length := by omega
 obtain ⟨h1, h2⟩ := hall i hi'' hso
 rw [lkG_old _ _ _ hi'']
 refine ⟨h1, fun f w hb hp K hK => ?_⟩
 rw [lkG_old _ _ _ hi''] at hK
 refine h2 f w hb (fun j hj d e => ?_) K hK
 have hlt := up_lt hup (by omega) hj
 have := hp j hj d e
 rwa [lkG_old _ _ _ (by omega)] at this
def copyB (ops : Array Oper) (i : Nat) : Bool := match ops[i]? with
 | some o => o.guard.isNone && (match o.op with
  | .assign _ => true
  | .move _ => true
  | _ => false)
 | none => false
theorem wpOp_copy {i : Nat} (h : copyB ops i = true) : ∃ x, ∀ (K : Act → World → Prop) (a : Act) (w : World), wpOp P ops Q i K a w ↔ K (a.put (dstN ops i) (a.eval x)) w := by
 unfold copyB at h
 cases ho : ops[i]? with
 | none => rw [ho] at h; cases h
 | some o =>
  rw [ho] at h
  simp only [Bool.and_eq_true] at h
  have hg : o.guard = none := by simpa using h.1
  have hd : dstN ops i = o.dst := by unfold dstN; rw [ho]; rfl
  have key : ∀ x, (o.op = .assign x ∨ o.op = .move x) → ∀ (K : Act → World → Prop) (a : Act) (w : World), wpOp P ops Q i K a w ↔ K (a.put (dstN ops i) (a.eval x)) w := by
   intro x hx K a w
   unfold wpOp
   rw [ho]
   have hw : Region.wanted o (yielded ops a.tmps) = true := wanted_none hg
   simp only [hw, if_true]
   have hr : (execOp a.eval o).run P w = .ok (.value (a.eval x)) w := by
    unfold execOp
    rcases hx with e | e <;> simp [e]
   have : o.wp P a w K Q ↔ K (a.put (dstN ops i) (a.eval x)) w := by
    unfold Oper.wp
    rw [hr, hd]
    rfl
   rw [this]
   constructor
   · rintro (h | ⟨h1, _⟩)
     · exact h
     · have he : execOp a.eval o = pure (.value (a.eval x)) := by
        unfold execOp
        rcases hx with e | e <;> simp [e]
       unfold Oper.asks at h1
       rw [he] at h1
       have h2 : noRoomEvent ∈ (#[] : Array _) := h1.1
       cases (Array.not_mem_empty _ h2)
   · exact fun h => .inl h
  split at h
  · rename_i x hx; exact ⟨x, key x (.inl hx)⟩
  · rename_i x hx; exact ⟨x, key x (.inr hx)⟩
  · cases h.2
def stoDeps (ops : Array Oper) (so : List Nat) (ps : List (Nat × Nat × Nat)) : Bool := ps.all fun p => decide (p.1 + p.2.2 + 1 = ops.size) && (dstN ops p.1 == some p.2.1) && so.all fun s => needsN ops 6 s p.1
theorem closedL_next {L : Nat → Bool} {i : Nat} (hc : ClosedL ops L) (hp : ∀ k ∈ preOf ops i, L k = true) : ClosedL ops (fun j => j == i || L j) := by
 intro k hk j hj
 have hk' : (k == i || L k) = true := hk
 have : L j = true := by
  by_cases e : k = i
  · subst e; exact hp j hj
  · exact hc k (by simpa [e] using hk') j hj
 show (j == i || L j) = true
 rw [this]; simp
theorem sto_row {i : Nat} {o : Oper} {f : Nat → Value} {w2 : World} {K : Act → World → Prop} (ty : TypeId) (x y : Nat) {b : Nat} {cells : Array Value} (t : TypeId) (old : Array Value) (ho : ops[i]? = some o) (hg : o.guard = none) (hd : o.dst = none) (hop : o.op = .store ty (.tmp x) (.tmp y))
 (hxs : slots.contains x = false) (hxb : base.getD x undef = .pointer (some ⟨b, 0, none⟩)) (hys : slots.contains y = true) (hyz : decide (y < base.size) = true) (hy : f y = .agg cells) (hgr : w2.heap[b]? = some (.cells old t (0, 0))) (hi : (P.info? ty).map (·.size) = some cells.size) (hold : old.size = cells.size) (h1 : cells.all (·.oneCell') = true)
 (hK : K { tmps := regT base slots f, defers := df } (w2.setRow b (f y).cells)) : wpOp P ops Q i K { tmps := regT base slots f, defers := df } w2 := by
 unfold wpOp
 rw [ho]
 simp only [wanted_none hg, if_true]
 have hx' : (regT base slots f).getD x undef = .pointer (some ⟨b, 0, none⟩) := (regT_out (by simpa using hxs)).trans hxb
 have hy' : (regT base slots f).getD y undef = .agg cells := (regT_in (by simpa using hys) (of_decide_eq_true hyz)).trans hy
 refine .inl (wp_store_row ty (.tmp x) (.tmp y) hop b cells hx' hy' t old hgr hi hold h1 ?_)
 rw [hd]
 rw [hy] at hK
 exact hK
end
end Go.Proofs.YtjlliohjeiclaaaGreatDoor
namespace Go.Proofs.YtjlliohjeiclaaaGreatDoor
namespace Pm
section
variable {α : Type}
def rn (N : Nat) : Tr α → Prop
 | .nil => False
 | .node b _ _ _ _ => N ≤ b
def hv (N : Nat) : Tr α → Prop
 | .nil => False
 | .node _ l _ _ r => (ht r < ht l ∧ rn N l) ∨ (ht l < ht r ∧ rn N r)
end
end Pm
end Go.Proofs.YtjlliohjeiclaaaGreatDoor
namespace Go.Proofs.YtjlliohjeiclaaaGreatDoor
namespace Pm
section
variable {α : Type}
def lk (z : α) : List (ByteArray × α) → ByteArray → α × Bool
 | [], _ => (z, false)
 | x :: l, k => if x.1 = k then (x.2, true) else lk z l k
theorem lk_none {z : α} {l : List (ByteArray × α)} {k : ByteArray} (h : ∀ x ∈ l, x.1 ≠ k) : lk z l k = (z, false) := by
 induction l with
 | nil => rfl
 | cons x l ih =>
  simp only [lk]
  rw [if_neg (h x List.mem_cons_self)]
  exact ih fun y hy => h y (List.mem_cons_of_mem _ hy)
theorem lk_left {z : α} {l m : List (ByteArray × α)} {k : ByteArray} (h : ∀ x ∈ m, x.1 ≠ k) : lk z (l ++ m) k = lk z l k := by
 induction l with
 | nil => exact lk_none h
 | cons x l ih =>
  simp only [List.cons_append, lk]
  rw [ih]
theorem lk_right {z : α} {l m : List (ByteArray × α)} {k : ByteArray} (h : ∀ x ∈ l, x.1 ≠ k) : lk z (l ++ m) k = lk z m k := by
 induction l with
 | nil => rfl
 | cons x l ih =>
  simp only [List.cons_append, lk]
  rw [if_neg (h x List.mem_cons_self)]
  exact ih fun y hy => h y (List.mem_cons_of_mem _ hy)
def nrm (z : α) (p : α × Bool) : α × Bool := if p.2 = true then p else (z, false)
theorem split_lt {N : Nat} {k : ByteArray} {t a x c : Tr α} (h : SplitR N k t a x c) (hs : Srt (items t)) : (∀ y ∈ items a, klt y.1 k = true) ∧ (∀ y ∈ items c, klt k y.1 = true) := by
 induction h with
 | nil => exact ⟨fun y hy => (by cases hy), fun y hy => (by cases hy)⟩
 | lt h1 h2 h3 ih =>
  obtain ⟨s1, s2, s3⟩ := srt_append.1 hs
  obtain ⟨s4, s5⟩ := srt_cons.1 s2
  obtain ⟨i1, i2⟩ := ih s1
  refine ⟨i1, fun y hy => ?_⟩
  rw [h3.items] at hy
  rcases List.mem_append.1 hy with hy | hy
  · exact i2 y hy
  · rcases List.mem_cons.1 hy with rfl | hy
    · exact h1
    · exact klt_trans h1 (s4 y hy)
 | gt h1 h2 h3 ih =>
  obtain ⟨s1, s2, s3⟩ := srt_append.1 hs
  obtain ⟨s4, s5⟩ := srt_cons.1 s2
  obtain ⟨i1, i2⟩ := ih s5
  refine ⟨fun y hy => ?_, i2⟩
  rw [h3.items] at hy
  rcases List.mem_append.1 hy with hy | hy
  · exact klt_trans (s3 y hy _ List.mem_cons_self) h1
  · rcases List.mem_cons.1 hy with rfl | hy
    · exact h1
    · exact i1 y hy
 | eq h1 =>
  subst h1
  obtain ⟨s1, s2, s3⟩ := srt_append.1 hs
  obtain ⟨s4, s5⟩ := srt_cons.1 s2
  exact ⟨fun y hy => s3 y hy _ List.mem_cons_self, fun y hy => s4 y hy⟩
theorem split_mid {N : Nat} {k : ByteArray} {t a x c : Tr α} (h : SplitR N k t a x c) : here x = [] ∨ ∃ v, here x = [(k, v)] := by
 rw [h.seek]
 cases e : Pm.seek k t with
 | nil => exact .inl rfl
 | node b l k0 v0 r =>
  obtain ⟨rfl, _⟩ := seek_some e
  exact .inr ⟨v0, rfl⟩
structure Parts (z : α) (k : ByteArray) (t a x c : Tr α) : Prop where
 sa : Srt (items a)
 sc : Srt (items c)
 la : ∀ y ∈ items a, klt y.1 k = true
 lc : ∀ y ∈ items c, klt k y.1 = true
 ea : ∀ q, klt q k = true → lk z (items a) q = lk z (items t) q
 ec : ∀ q, klt k q = true → lk z (items c) q = lk z (items t) q
 ma : ∀ y ∈ items a, y ∈ items t
 mc : ∀ y ∈ items c, y ∈ items t
 ex : lk z (items t) k = lk z (here x) k
 sz : sz t = sz a + (here x).length + sz c
theorem SplitR.parts {N : Nat} {k : ByteArray} {t a x c : Tr α} (z : α) (h : SplitR N k t a x c) (hs : Srt (Pm.items t)) : Parts z k t a x c := by
 obtain ⟨h1, h2⟩ := split_lt h hs
 have hi := h.items
 have hm := split_mid h
 have hx : ∀ y ∈ here x, y.1 = k := by
  rcases hm with e | ⟨v, e⟩
  · rw [e]; intro y hy; cases hy
  · rw [e]; intro y hy; rw [List.mem_singleton.1 hy]
 have hs0 := hs
 rw [hi, List.append_assoc] at hs
 obtain ⟨s1, s2, _⟩ := srt_append.1 hs
 obtain ⟨_, s3, _⟩ := srt_append.1 s2
 refine ⟨s1, s3, h1, h2, fun q hq => ?_, fun q hq => ?_, fun y hy => ?_, fun y hy => ?_, ?_, ?_⟩
 · rw [hi, List.append_assoc, lk_left]
   intro y hy
   rcases List.mem_append.1 hy with hy | hy
   · rw [hx y hy]; exact Ne.symm (klt_ne hq)
   · exact Ne.symm (klt_ne (klt_trans hq (h2 y hy)))
 · rw [hi, lk_right]
   intro y hy
   rcases List.mem_append.1 hy with hy | hy
   · exact klt_ne (klt_trans (h1 y hy) hq)
   · rw [hx y hy]; exact klt_ne hq
 · rw [hi]; exact List.mem_append_left _ (List.mem_append_left _ hy)
 · rw [hi]; exact List.mem_append_right _ hy
 · rw [hi, List.append_assoc, lk_right (fun y hy => klt_ne (h1 y hy)), lk_left (fun y hy => Ne.symm (klt_ne (h2 y hy)))]
 · rw [← sz_items, hi, ← sz_items a, ← sz_items c]; simp; omega
def Dj (s a : Tr α) : Prop := ∀ b ∈ blocks s, b ∉ blocks a
structure WlkI (z : α) (B0 A0 O0 : ByteArray → α × Bool) (C : ByteArray → Prop) (s a o : Tr α) : Prop where
 ss : Srt (items s)
 sa : Srt (items a)
 so : Srt (items o)
 bs : Bal s
 ba : Bal a
 bo : Bal o
 es : ∀ k, C k → lk z (items s) k = B0 k
 ea : ∀ k, C k → lk z (items a) k = A0 k
 eo : ∀ k, C k → lk z (items o) k = O0 k
 ins : ∀ x ∈ items s, C x.1
 ina : ∀ x ∈ items a, C x.1
 ino : ∀ x ∈ items o, C x.1
structure WlkO (z : α) (R B0 A0 O0 : ByteArray → α × Bool) (C : ByteArray → Prop) (s a o m : Tr α) (asked : List ByteArray) : Prop where
 srt : Srt (items m)
 bal : Bal m
 inC : ∀ x ∈ items m, C x.1
 nd : asked.Nodup
 sub : ∀ k ∈ asked, C k ∧ ((A0 k).2 = true ∨ (O0 k).2 = true)
 len : asked.length ≤ sz a + sz o
 siz : sz m ≤ sz a + sz o
 ans : ∀ k, C k → (k ∈ asked ∧ lk z (items m) k = nrm z (R k)) ∨ (k ∉ asked ∧ (((A0 k = O0 k ∨ B0 k = O0 k) ∧ lk z (items m) k = A0 k) ∨ (B0 k = A0 k ∧ lk z (items m) k = O0 k ∧ (Dj s a → (B0 k).2 = false))))
variable {z : α} {R B0 A0 O0 : ByteArray → α × Bool} {C : ByteArray → Prop} {s a o : Tr α}
theorem WlkI.keepA (h : WlkI z B0 A0 O0 C s a o) (hq : ∀ k, C k → A0 k = O0 k ∨ B0 k = O0 k) : WlkO z R B0 A0 O0 C s a o a [] :=
 ⟨h.sa, h.ba, h.ina, List.nodup_nil, fun k hk => (by cases hk), Nat.zero_le _, Nat.le_add_right _ _, fun k hk => .inr ⟨by simp, .inl ⟨hq k hk, h.ea k hk⟩⟩⟩
theorem WlkI.left {key : ByteArray} {sl sx sr al ax ar ol ox or' : Tr α} {N1 N2 N3 : Nat} (h : WlkI z B0 A0 O0 C s a o) (h1 : SplitR N1 key s sl sx sr) (h2 : SplitR N2 key a al ax ar) (h3 : SplitR N3 key o ol ox or') :
 WlkI z B0 A0 O0 (fun k => C k ∧ klt k key = true) sl al ol ∧ WlkI z B0 A0 O0 (fun k => C k ∧ klt key k = true) sr ar or' := by
 have p1 := h1.parts z h.ss
 have p2 := h2.parts z h.sa
 have p3 := h3.parts z h.so
 exact ⟨⟨p1.sa, p2.sa, p3.sa, (h1.bal h.bs).1, (h2.bal h.ba).1, (h3.bal h.bo).1, fun k hk => (p1.ea k hk.2).trans (h.es k hk.1), fun k hk => (p2.ea k hk.2).trans (h.ea k hk.1), fun k hk => (p3.ea k hk.2).trans (h.eo k hk.1),
  fun x hx => ⟨h.ins x (p1.ma x hx), p1.la x hx⟩, fun x hx => ⟨h.ina x (p2.ma x hx), p2.la x hx⟩, fun x hx => ⟨h.ino x (p3.ma x hx), p3.la x hx⟩⟩,
  ⟨p1.sc, p2.sc, p3.sc, (h1.bal h.bs).2, (h2.bal h.ba).2, (h3.bal h.bo).2, fun k hk => (p1.ec k hk.2).trans (h.es k hk.1), fun k hk => (p2.ec k hk.2).trans (h.ea k hk.1), fun k hk => (p3.ec k hk.2).trans (h.eo k hk.1),
  fun x hx => ⟨h.ins x (p1.mc x hx), p1.lc x hx⟩, fun x hx => ⟨h.ina x (p2.mc x hx), p2.lc x hx⟩, fun x hx => ⟨h.ino x (p3.mc x hx), p3.lc x hx⟩⟩⟩
theorem said_up {m l : List (ByteArray × α)} {asked ks : List ByteArray} {s a s' a' : Tr α} {k : ByteArray} (hl : lk z m k = lk z l k) (ha : k ∈ asked ↔ k ∈ ks) (hd : Dj s a → Dj s' a')
 (h : (k ∈ ks ∧ lk z l k = nrm z (R k)) ∨ (k ∉ ks ∧ (((A0 k = O0 k ∨ B0 k = O0 k) ∧ lk z l k = A0 k) ∨ (B0 k = A0 k ∧ lk z l k = O0 k ∧ (Dj s' a' → (B0 k).2 = false))))) :
 (k ∈ asked ∧ lk z m k = nrm z (R k)) ∨ (k ∉ asked ∧ (((A0 k = O0 k ∨ B0 k = O0 k) ∧ lk z m k = A0 k) ∨ (B0 k = A0 k ∧ lk z m k = O0 k ∧ (Dj s a → (B0 k).2 = false)))) := by
 rw [hl, ha]
 rcases h with h | ⟨h1, h | ⟨h2, h3, h4⟩⟩
 · exact .inl h
 · exact .inr ⟨h1, .inl h⟩
 · exact .inr ⟨h1, .inr ⟨h2, h3, fun h => h4 (hd h)⟩⟩
theorem WlkO.step {key : ByteArray} {sl sx sr al ax ar ol ox or' l r m : Tr α} {as1 as2 : List ByteArray} {N1 N2 N3 : Nat} (h : WlkI z B0 A0 O0 C s a o) (hk : C key)
 (hx : 1 ≤ (here ax).length + (here ox).length)
 (h1 : SplitR N1 key s sl sx sr) (h2 : SplitR N2 key a al ax ar) (h3 : SplitR N3 key o ol ox or') (hd : Dj s a → Dj sl al ∧ Dj sr ar)
 (o1 : WlkO z R B0 A0 O0 (fun k => C k ∧ klt k key = true) sl al ol l as1) (o2 : WlkO z R B0 A0 O0 (fun k => C k ∧ klt key k = true) sr ar or' r as2)
 (hm : items m = items l ++ ((if (R key).2 = true then [(key, (R key).1)] else []) ++ items r)) (hb : Bal m) : WlkO z R B0 A0 O0 C s a o m (as1 ++ as2 ++ [key]) := by
 have p2 := h2.parts z h.sa
 have p3 := h3.parts z h.so
 have l1 : ∀ k ∈ as1, klt k key = true := fun k hk => (o1.sub k hk).1.2
 have l2 : ∀ k ∈ as2, klt key k = true := fun k hk => (o2.sub k hk).1.2
 have hmid : ∀ y ∈ (if (R key).2 = true then [(key, (R key).1)] else [] : List (ByteArray × α)), y.1 = key := by
  intro y hy
  split at hy
  · rw [List.mem_singleton.1 hy]
  · cases hy
 have hml : (if (R key).2 = true then [(key, (R key).1)] else [] : List (ByteArray × α)).length ≤ 1 := by split <;> simp
 generalize hq : (if (R key).2 = true then [(key, (R key).1)] else [] : List (ByteArray × α)) = mid at *
 refine ⟨?_, hb, ?_, ?_, ?_, ?_, ?_, ?_⟩
 · rw [hm]
   refine srt_append.2 ⟨o1.srt, srt_append.2 ⟨?_, o2.srt, fun x hx y hy => ?_⟩, fun x hx y hy => ?_⟩
   · rw [← hq]; split <;> simp [Srt]
   · rw [hmid x hx]; exact (o2.inC y hy).2
   · rcases List.mem_append.1 hy with hy | hy
     · rw [hmid y hy]; exact (o1.inC x hx).2
     · exact klt_trans (o1.inC x hx).2 (o2.inC y hy).2
 · intro x hx
   rw [hm] at hx
   rcases List.mem_append.1 hx with hx | hx
   · exact (o1.inC x hx).1
   · rcases List.mem_append.1 hx with hx | hx
     · rw [hmid x hx]; exact hk
     · exact (o2.inC x hx).1
 · rw [List.nodup_append, List.nodup_append]
   refine ⟨⟨o1.nd, o2.nd, fun x hx y hy e => ?_⟩, by simp, fun x hx y hy e => ?_⟩
   · subst e; have := klt_trans (l1 x hx) (l2 x hy); rw [klt_irrefl] at this; cases this
   · rw [List.mem_singleton.1 hy] at e
     subst e
     rcases List.mem_append.1 hx with hx | hx
     · have := l1 x hx; rw [klt_irrefl] at this; cases this
     · have := l2 x hx; rw [klt_irrefl] at this; cases this
 · intro k hk'
   rcases List.mem_append.1 hk' with hk' | hk'
   · rcases List.mem_append.1 hk' with hk' | hk'
     · exact ⟨(o1.sub k hk').1.1, (o1.sub k hk').2⟩
     · exact ⟨(o2.sub k hk').1.1, (o2.sub k hk').2⟩
   · rw [List.mem_singleton.1 hk']
     refine ⟨hk, ?_⟩
     have e2 : lk z (here ax) key = A0 key := by rw [← p2.ex]; exact h.ea key hk
     have e3 : lk z (here ox) key = O0 key := by rw [← p3.ex]; exact h.eo key hk
     rcases split_mid h2 with e | ⟨v, e⟩
     · rcases split_mid h3 with e' | ⟨v, e'⟩
       · rw [e, e'] at hx; simp at hx
       · right; rw [← e3, e']; simp [lk]
     · left; rw [← e2, e]; simp [lk]
 · have := o1.len; have := o2.len; have := p2.sz; have := p3.sz
   simp only [List.length_append, List.length_cons, List.length_nil]
   omega
 · have e1 : sz m = sz l + mid.length + sz r := by rw [← sz_items, hm, ← sz_items l, ← sz_items r]; simp; omega
   have := o1.siz; have := o2.siz; have := p2.sz; have := p3.sz
   omega
 · intro k hC
   by_cases hlt : klt k key = true
   · refine said_up (l := items l) (ks := as1) ?_ ?_ (fun h => (hd h).1) (o1.ans k ⟨hC, hlt⟩)
     · rw [hm, lk_left]
       intro y hy
       rcases List.mem_append.1 hy with hy | hy
       · rw [hmid y hy]; exact Ne.symm (klt_ne hlt)
       · exact Ne.symm (klt_ne (klt_trans hlt (o2.inC y hy).2))
     · simp only [List.mem_append, List.mem_singleton]
       constructor
       · rintro ((h | h) | h)
         · exact h
         · have := klt_trans hlt (l2 k h); rw [klt_irrefl] at this; cases this
         · exact absurd h (klt_ne hlt)
       · intro h; exact .inl (.inl h)
   · by_cases hgt : klt key k = true
     · refine said_up (l := items r) (ks := as2) ?_ ?_ (fun h => (hd h).2) (o2.ans k ⟨hC, hgt⟩)
       · rw [hm, lk_right (fun y hy => klt_ne (klt_trans (o1.inC y hy).2 hgt)), lk_right]
         intro y hy; rw [hmid y hy]; exact klt_ne hgt
       · simp only [List.mem_append, List.mem_singleton]
         constructor
         · rintro ((h | h) | h)
           · have := klt_trans (l1 k h) hgt; rw [klt_irrefl] at this; cases this
           · exact h
           · exact absurd h.symm (klt_ne hgt)
         · intro h; exact .inl (.inr h)
     · have e := klt_tri (by simpa using hlt) (by simpa using hgt)
       subst e
       refine .inl ⟨by simp, ?_⟩
       rw [hm, lk_right (fun y hy => klt_ne (o1.inC y hy).2), lk_left (fun y hy => Ne.symm (klt_ne (o2.inC y hy).2)), ← hq]
       unfold nrm
       split
       · simp [lk]; exact Prod.ext rfl (by simpa using (‹(R k).2 = true›).symm)
       · rfl
theorem WlkO.all {m : Tr α} {asked : List ByteArray} (h : WlkO z R B0 A0 O0 C s a o m asked) (k : ByteArray) (hk : C k) (h1 : A0 k = O0 k ∨ B0 k = O0 k → nrm z (R k) = A0 k) (h2 : B0 k = A0 k → nrm z (R k) = O0 k ∨ (Dj s a ∧ (B0 k).2 = true)) : lk z (items m) k = nrm z (R k) := by
 rcases h.ans k hk with ⟨_, h⟩ | ⟨_, ⟨h3, h4⟩ | ⟨h3, h4, h5⟩⟩
 · exact h
 · rw [h4, h1 h3]
 · rcases h2 h3 with h6 | ⟨h6, h7⟩
   · rw [h4, h6]
   · rw [h5 h6] at h7; cases h7
end
end Pm
end Go.Proofs.YtjlliohjeiclaaaGreatDoor
namespace Go.Proofs.YtjlliohjeiclaaaGreatDoor
namespace St
open Pm
def hasS (l : List El) (s : Stp) : Bool := l.any fun y => decide (y.1 = s)
theorem hasS_iff {l : List El} {s : Stp} : hasS l s = true ↔ ∃ y ∈ l, y.1 = s := by
 unfold hasS
 rw [List.any_eq_true]
 simp
def elsF (base A B : List El) : List El → List El → List El
 | [], [] => []
 | [], y :: b => (if hasS base y.1 then [] else [y]) ++ elsF base A B [] b
 | x :: a, [] => (if hasS B x.1 || !hasS base x.1 then [x] else []) ++ elsF base A B a []
 | x :: a, y :: b => if y.1.lt x.1 then (if hasS base y.1 then [] else [y]) ++ elsF base A B (x :: a) b
  else (if hasS B x.1 || !hasS base x.1 then [x] else []) ++ (if hasS B x.1 then elsF base A B a b else elsF base A B a (y :: b))
termination_by a b => a.length + b.length
structure Left (A B a b : List El) : Prop where
 ga : ∃ pa, A = pa ++ a ∧ ∀ x ∈ pa, ∀ y ∈ b, x.1.lt y.1 = true
 gb : ∃ pb, B = pb ++ b ∧ ∀ y ∈ pb, ∀ x ∈ a, y.1.lt x.1 = true
theorem lt_of {l : List El} {x : El} {m : List El} (h : SrtE (x :: m)) : ∀ y ∈ m, x.1.lt y.1 = true := (List.pairwise_cons.1 h).1
theorem els_mem (base A B : List El) (hok : ∀ x ∈ A ++ B, x.1.ok = true) : ∀ (n : Nat) (a b : List El), a.length + b.length ≤ n → SrtE A → SrtE B → Left A B a b → SrtE (elsF base A B a b) ∧
 ∀ x : El, x ∈ elsF base A B a b ↔ (x ∈ a ∧ (hasS B x.1 = true ∨ hasS base x.1 = false)) ∨ (x ∈ b ∧ hasS A x.1 = false ∧ hasS base x.1 = false) := by
 intro n
 induction n with
 | zero =>
  intro a b hn hA hB hL
  obtain rfl : a = [] := List.eq_nil_of_length_eq_zero (by omega)
  obtain rfl : b = [] := List.eq_nil_of_length_eq_zero (by omega)
  rw [elsF]
  exact ⟨List.Pairwise.nil, fun x => by simp⟩
 | succ n ih =>
  intro a b hn hA hB hL
  obtain ⟨pa, ea, la⟩ := hL.ga
  obtain ⟨pb, eb, lb⟩ := hL.gb
  have okA : ∀ x ∈ A, x.1.ok = true := fun x hx => hok x (List.mem_append_left _ hx)
  have okB : ∀ x ∈ B, x.1.ok = true := fun x hx => hok x (List.mem_append_right _ hx)
  have sA : SrtE a := by rw [ea] at hA; exact (List.pairwise_append.1 hA).2.1
  have sB : SrtE b := by rw [eb] at hB; exact (List.pairwise_append.1 hB).2.1
  have maA : ∀ x ∈ a, x ∈ A := fun x hx => by rw [ea]; exact List.mem_append_right _ hx
  have mbB : ∀ x ∈ b, x ∈ B := fun x hx => by rw [eb]; exact List.mem_append_right _ hx
  -- an element of the other list with the same stamp is what is left's
  have cons_srt : ∀ (x : El) (c : Bool) (l : List El), (∀ y ∈ l, x.1.lt y.1 = true) → SrtE l → SrtE ((if c = true then [x] else []) ++ l) := fun x c l h1 h2 => by
   cases c
   · exact h2
   · exact List.pairwise_cons.2 ⟨h1, h2⟩
  match a, b with
  | [], [] => rw [elsF]; exact ⟨List.Pairwise.nil, fun x => by simp⟩
  | [], y :: b =>
   have hL2 : Left A B [] b := ⟨⟨A, by simp, fun x hx z hz => la x (by rw [ea] at hx; simpa using hx) z (List.mem_cons_of_mem _ hz)⟩, ⟨pb ++ [y], by rw [eb]; simp, fun _ _ x hx => by cases hx⟩⟩
   obtain ⟨i1, i2⟩ := ih [] b (by simp at hn ⊢; omega) hA hB hL2
   have hyA : hasS A y.1 = false := by
    cases h : hasS A y.1 with
    | false => rfl
    | true =>
     obtain ⟨z, hz, e⟩ := hasS_iff.1 h
     have := la z (by rw [ea] at hz; simpa using hz) y List.mem_cons_self
     rw [e, lt_irrefl (okB y (mbB y List.mem_cons_self))] at this; cases this
   rw [elsF]
   refine ⟨?_, fun x => ?_⟩
   · have := cons_srt y (!hasS base y.1) _ (fun z hz => ?_) i1
     · cases h : hasS base y.1 <;> rw [h] at this <;> simpa using this
     · rcases (i2 z).1 hz with ⟨h, _⟩ | ⟨h, _⟩
       · cases h
       · exact lt_of (l := []) sB z h
   · rw [List.mem_append, i2]
     constructor
     · rintro (h | h | h)
       · cases hb : hasS base y.1 with
         | true => rw [hb] at h; cases h
         | false =>
          rw [hb] at h
          obtain rfl : x = y := by simpa using h
          exact .inr ⟨List.mem_cons_self, hyA, hb⟩
       · exact absurd h.1 (by simp)
       · exact .inr ⟨List.mem_cons_of_mem _ h.1, h.2⟩
     · rintro (h | ⟨h, h2⟩)
       · exact absurd h.1 (by simp)
       · rcases List.mem_cons.1 h with rfl | h
         · left; rw [h2.2]; simp
         · exact .inr (.inr ⟨h, h2⟩)
  | x :: a, [] =>
   have hL2 : Left A B a [] := ⟨⟨pa ++ [x], by rw [ea]; simp, fun _ _ y hy => by cases hy⟩, ⟨B, by simp, fun y hy z hz => lb y (by rw [eb] at hy; simpa using hy) z (List.mem_cons_of_mem _ hz)⟩⟩
   obtain ⟨i1, i2⟩ := ih a [] (by simp at hn ⊢; omega) hA hB hL2
   rw [elsF]
   refine ⟨cons_srt x _ _ (fun z hz => ?_) i1, fun z => ?_⟩
   · rcases (i2 z).1 hz with ⟨h, _⟩ | ⟨h, _⟩
     · exact lt_of (l := []) sA z h
     · cases h
   · rw [List.mem_append, i2]
     constructor
     · rintro (h | h | h)
       · cases hc : (hasS B x.1 || !hasS base x.1) with
         | false => rw [hc] at h; cases h
         | true =>
          rw [hc] at h
          obtain rfl : z = x := by simpa using h
          exact .inl ⟨List.mem_cons_self, by simpa using hc⟩
       · exact .inl ⟨List.mem_cons_of_mem _ h.1, h.2⟩
       · exact absurd h.1 (by simp)
     · rintro (⟨h, h2⟩ | h)
       · rcases List.mem_cons.1 h with rfl | h
         · left
           have : (hasS B z.1 || !hasS base z.1) = true := by simpa using h2
           rw [this]; simp
         · exact .inr (.inl ⟨h, h2⟩)
       · exact absurd h.1 (by simp)
  | x :: a, y :: b =>
   have ox := okA x (maA x List.mem_cons_self)
   have oy := okB y (mbB y List.mem_cons_self)
   rw [elsF]
   cases hyx : y.1.lt x.1 with
   | true =>
    rw [if_pos rfl]
    have hL2 : Left A B (x :: a) b := ⟨⟨pa, ea, fun z hz u hu => la z hz u (List.mem_cons_of_mem _ hu)⟩, ⟨pb ++ [y], by rw [eb]; simp, fun z hz u hu => by
     rcases List.mem_append.1 hz with hz | hz
     · exact lb z hz u hu
     · obtain rfl := List.mem_singleton.1 hz
       rcases List.mem_cons.1 hu with rfl | hu'
       · exact hyx
       · exact lt_trans oy ox (okA u (maA u hu)) hyx (lt_of (l := []) sA u hu')⟩⟩
    obtain ⟨i1, i2⟩ := ih (x :: a) b (by simp at hn ⊢; omega) hA hB hL2
    have hyA : hasS A y.1 = false := by
     cases h : hasS A y.1 with
     | false => rfl
     | true =>
      obtain ⟨z, hz, e⟩ := hasS_iff.1 h
      rw [ea] at hz
      rcases List.mem_append.1 hz with hz' | hz'
      · have := la z hz' y List.mem_cons_self
        rw [e, lt_irrefl oy] at this; cases this
      · have h1 : y.1.lt z.1 = true := by
         rcases List.mem_cons.1 hz' with rfl | hz''
         · exact hyx
         · exact lt_trans oy ox (okA z (maA z hz')) hyx (lt_of (l := []) sA z hz'')
        rw [e, lt_irrefl oy] at h1; cases h1
    refine ⟨?_, fun z => ?_⟩
    · have := cons_srt y (!hasS base y.1) _ (fun z hz => ?_) i1
      · cases h : hasS base y.1 <;> rw [h] at this <;> simpa using this
      · rcases (i2 z).1 hz with ⟨h, _⟩ | ⟨h, _⟩
        · rcases List.mem_cons.1 h with rfl | h'
          · exact hyx
          · exact lt_trans oy ox (okA z (maA z h)) hyx (lt_of (l := []) sA z h')
        · exact lt_of (l := []) sB z h
    · rw [List.mem_append, i2]
      constructor
      · rintro (h | h | h)
        · cases hb : hasS base y.1 with
          | true => rw [hb] at h; cases h
          | false =>
           rw [hb] at h
           obtain rfl : z = y := by simpa using h
           exact .inr ⟨List.mem_cons_self, hyA, hb⟩
        · exact .inl h
        · exact .inr ⟨List.mem_cons_of_mem _ h.1, h.2⟩
      · rintro (h | ⟨h, h2⟩)
        · exact .inr (.inl h)
        · rcases List.mem_cons.1 h with rfl | h
          · left; rw [h2.2]; simp
          · exact .inr (.inr ⟨h, h2⟩)
   | false =>
    rw [if_neg (by simp)]
    cases hxB : hasS B x.1 with
    | true =>
     have exy : x.1 = y.1 := by
      obtain ⟨z, hz, e⟩ := hasS_iff.1 hxB
      rw [eb] at hz
      rcases List.mem_append.1 hz with hz' | hz'
      · have := lb z hz' x List.mem_cons_self
        rw [e, lt_irrefl ox] at this; cases this
      · rcases List.mem_cons.1 hz' with rfl | hz''
        · exact e.symm
        · have := lt_of (l := []) sB z hz''
          rw [e, hyx] at this; cases this
     have hL2 : Left A B a b := ⟨⟨pa ++ [x], by rw [ea]; simp, fun z hz u hu => by
      rcases List.mem_append.1 hz with hz | hz
      · exact la z hz u (List.mem_cons_of_mem _ hu)
      · obtain rfl := List.mem_singleton.1 hz
        rw [exy]; exact lt_of (l := []) sB u hu⟩, ⟨pb ++ [y], by rw [eb]; simp, fun z hz u hu => by
      rcases List.mem_append.1 hz with hz | hz
      · exact lb z hz u (List.mem_cons_of_mem _ hu)
      · obtain rfl := List.mem_singleton.1 hz
        rw [← exy]; exact lt_of (l := []) sA u hu⟩⟩
     obtain ⟨i1, i2⟩ := ih a b (by simp at hn ⊢; omega) hA hB hL2
     have hyA : hasS A y.1 = true := hasS_iff.2 ⟨x, maA x List.mem_cons_self, exy⟩
     simp only [Bool.true_or, if_true]
     refine ⟨List.pairwise_cons.2 ⟨fun z hz => ?_, i1⟩, fun z => ?_⟩
     · rcases (i2 z).1 hz with ⟨h, _⟩ | ⟨h, _⟩
       · exact lt_of (l := []) sA z h
       · rw [exy]; exact lt_of (l := []) sB z h
     · rw [List.singleton_append, List.mem_cons, i2]
       constructor
       · rintro (rfl | h | h)
         · exact .inl ⟨List.mem_cons_self, .inl hxB⟩
         · exact .inl ⟨List.mem_cons_of_mem _ h.1, h.2⟩
         · exact .inr ⟨List.mem_cons_of_mem _ h.1, h.2⟩
       · rintro (⟨h, h2⟩ | ⟨h, h2⟩)
         · rcases List.mem_cons.1 h with rfl | h
           · exact .inl rfl
           · exact .inr (.inl ⟨h, h2⟩)
         · rcases List.mem_cons.1 h with rfl | h
           · rw [hyA] at h2; cases h2.1
           · exact .inr (.inr ⟨h, h2⟩)
    | false =>
     have hne : x.1 ≠ y.1 := fun e => by
      have : hasS B x.1 = true := hasS_iff.2 ⟨y, mbB y List.mem_cons_self, e.symm⟩
      rw [hxB] at this; cases this
     have hxy : x.1.lt y.1 = true := by
      cases h : x.1.lt y.1 with
      | true => rfl
      | false => exact absurd (lt_tri ox oy h hyx) hne
     have hL2 : Left A B a (y :: b) := ⟨⟨pa ++ [x], by rw [ea]; simp, fun z hz u hu => by
      rcases List.mem_append.1 hz with hz | hz
      · exact la z hz u hu
      · obtain rfl := List.mem_singleton.1 hz
        rcases List.mem_cons.1 hu with rfl | hu'
        · exact hxy
        · exact lt_trans ox oy (okB u (mbB u hu)) hxy (lt_of (l := []) sB u hu')⟩, ⟨pb, eb, fun z hz u hu => lb z hz u (List.mem_cons_of_mem _ hu)⟩⟩
     obtain ⟨i1, i2⟩ := ih a (y :: b) (by simp at hn ⊢; omega) hA hB hL2
     simp only [Bool.false_or, Bool.false_eq_true, if_false]
     refine ⟨cons_srt x _ _ (fun z hz => ?_) i1, fun z => ?_⟩
     · rcases (i2 z).1 hz with ⟨h, _⟩ | ⟨h, _⟩
       · exact lt_of (l := []) sA z h
       · rcases List.mem_cons.1 h with rfl | h'
         · exact hxy
         · exact lt_trans ox oy (okB z (mbB z h)) hxy (lt_of (l := []) sB z h')
     · rw [List.mem_append, i2]
       constructor
       · rintro (h | h | h)
         · cases hc : hasS base x.1 with
           | true => rw [hc] at h; cases h
           | false =>
            rw [hc] at h
            obtain rfl : z = x := by simpa using h
            exact .inl ⟨List.mem_cons_self, .inr hc⟩
         · exact .inl ⟨List.mem_cons_of_mem _ h.1, h.2⟩
         · exact .inr h
       · rintro (⟨h, h2⟩ | h)
         · rcases List.mem_cons.1 h with rfl | h
           · left
             rcases h2 with h2 | h2
             · rw [hxB] at h2; cases h2
             · rw [h2]; simp
           · exact .inr (.inl ⟨h, h2⟩)
         · exact .inr (.inr h)
end St
end Go.Proofs.YtjlliohjeiclaaaGreatDoor
namespace Go.Proofs.YtjlliohjeiclaaaGreatDoor
namespace St
open Pm
abbrev Ev := Sv × ByteArray
def toV (e : El) : Ev := (e.1.sv, e.2)
def toE (e : Ev) : El := (e.1.st, e.2)
def okV (e : Ev) : Bool := e.1.ok && decide (e.2.size ≤ 256)
theorem okE_iff {e : El} : okE e = true ↔ e.1.ok = true ∧ e.2.size ≤ 256 := by
 unfold okE
 simp only [Bool.and_eq_true, decide_eq_true_eq]
theorem okV_iff {e : Ev} : okV e = true ↔ e.1.ok = true ∧ e.2.size ≤ 256 := by
 unfold okV
 simp only [Bool.and_eq_true, decide_eq_true_eq]
theorem okV_toE {e : Ev} (h : okV e = true) : okE (toE e) = true ∧ toV (toE e) = e := by
 obtain ⟨h1, h2⟩ := okV_iff.1 h
 obtain ⟨k1, k2⟩ := Sv.ok_st h1
 exact ⟨okE_iff.2 ⟨k1, h2⟩, by unfold toV toE; rw [k2]⟩
end St
end Go.Proofs.YtjlliohjeiclaaaGreatDoor
namespace Go.Proofs.YtjlliohjeiclaaaGreatDoor
open Go.RowKit
def CellsAt (w : World) (a : Option Addr) (vs : List Value) : Prop := ∀ i (h : i < vs.length), ∃ b off, a = some ⟨b, off, none⟩ ∧ w.cell? ⟨b, off + i, none⟩ = some vs[i]
theorem CellsAt.nil (w : World) (a : Option Addr) : CellsAt w a [] := fun i h => by simp at h
theorem CellsAt.below {w w' : World} {a : Option Addr} {vs : List Value} {B : Nat} (h : CellsAt w a vs) (hb : Below B w w') (hB : B = w.heap.size) : CellsAt w' a vs := by
 intro i hi
 obtain ⟨b, off, rfl, hc⟩ := h i hi
 have hl := cell_lt hc
 exact ⟨b, off, rfl, by rw [hb.cell (p := ⟨b, off + i, none⟩) (by simpa [hB] using hl)]; exact hc⟩
theorem CellsAt.new (w : World) (t : TypeId) (fr : Nat × Nat) (vs : List Value) : CellsAt (w.alloc (.cells vs.toArray t fr)) (some ⟨w.heap.size, 0, none⟩) vs := by
 intro i hi
 refine ⟨w.heap.size, 0, rfl, ?_⟩
 rw [Nat.zero_add, cell_new]
 simp
theorem CellsAt.get {w : World} {a : Option Addr} {vs : List Value} (h : CellsAt w a vs) (i : Nat) (v : Value) (hi : vs[i]? = some v) : ∃ b off, a = some ⟨b, off, none⟩ ∧ w.cell? ⟨b, off + i, none⟩ = some v := by
 obtain ⟨hlt, e⟩ := List.getElem?_eq_some_iff.1 hi
 obtain ⟨b, off, h1, h2⟩ := h i hlt
 exact ⟨b, off, h1, by rw [h2, e]⟩
theorem CellsAt.own {w : World} {base n : Nat} {e : TypeId} {a : Option Addr} {len cap : Nat} {vs : List Value} (h : w.ownsRow base e 1 (.slice a len cap) n vs) : CellsAt w a vs := by
 intro i hi
 obtain ⟨g, rfl, _, hc, _⟩ := own_cell h i vs[i] (by simp [hi])
 exact ⟨g, 0, rfl, by rw [Nat.zero_add]; exact hc⟩
end Go.Proofs.YtjlliohjeiclaaaGreatDoor
namespace Go.Proofs.YtjlliohjeiclaaaGreatDoor
open Go.RowKit
theorem CellsAt.take {w : World} {a : Option Addr} {vs : List Value} (h : CellsAt w a vs) (k : Nat) : CellsAt w a (vs.take k) := by
 intro i hi
 obtain ⟨b, off, e, c⟩ := h i (by simp at hi; omega)
 exact ⟨b, off, e, by rw [c]; simp⟩
theorem CellsAt.drop {w : World} {a : Option Addr} {vs : List Value} (h : CellsAt w a vs) (k : Nat) : CellsAt w (Option.map (fun x => x.add k) a) (vs.drop k) := by
 intro i hi
 obtain ⟨b, off, rfl, c⟩ := h (k + i) (by simp at hi; omega)
 exact ⟨b, off + k, by simp [Addr_add], by rw [show off + k + i = off + (k + i) by omega, c]; simp⟩
theorem CellsAt.src {P : Program} {w : World} {a : Option Addr} {vs : List Value} {size n : Nat} (h : CellsAt w a vs) (hlen : vs.length = n * size) (hone : ∀ u ∈ vs, u.oneCell' = true) {tx e' : TypeId} (hk : P.underlying tx = some (.slice e')) (cap : Nat) (hsz : size = 1 ∨ size = 2) : Src P size tx (.slice a n cap) n vs w := by
 cases a with
 | none =>
  have : vs = [] := by
   cases vs with
   | nil => rfl
   | cons c r => obtain ⟨b, off, hh, _⟩ := h 0 (by simp); cases hh
  subst this
  have hn : n = 0 := by rcases hsz with rfl | rfl <;> (simp only [List.length_nil] at hlen; omega)
  subst hn
  exact Src.ofNil w hk cap
 | some a =>
  refine Src.ofSlice w hk a _ cap vs hlen (fun j u hu => ?_) hone
  obtain ⟨hj, he⟩ := List.getElem?_eq_some_iff.1 hu
  obtain ⟨b, off, hh, hc⟩ := h j hj
  cases hh
  rw [Addr_add, hc, he]
def subN (a : Option Addr) (cap l size : Nat) : Option Addr := if cap = l then a else a.map (·.add (l * size))
theorem run_from {P : Program} (w : World) (t e : TypeId) (ht : P.underlying t = some (.slice e)) (size : Nat) (hz : ∀ w, (Go.sizeOf e).run P w = .ok size w) (a : Option Addr) (len cap l : Nat) (x : Int) (hx : x = (l : Int)) (hl : l ≤ len) :
 (Instr.slice t (.slice a len cap) (some (.int .i64 x)) none none).run P w = .ok (.slice (subN a cap l size) (len - l) (cap - l)) w := by
 have ht' : P.underlying t = some (.slice (P.elem t)) := by simp [Program.elem, ht]
 have he : P.elem t = e := by simp [Program.elem, ht]
 subst hx
 rw [run_slice_l w t _ _ _ ht' .i64 _ (by omega) (by omega), he, hz]
 simp [Result.andThen, sliced, subN]
theorem CellsAt.one {P : Program} (w : World) (t : TypeId) (v : Value) (hv : v.oneCell' = true) {tx e' : TypeId} (hk : P.underlying tx = some (.slice e')) : Src P 1 tx (.slice (some ⟨w.heap.size, 0, none⟩) 1 1) 1 [v] (w.alloc (.cells #[v] t)) :=
 (CellsAt.new w t (0, 0) [v]).src (n := 1) rfl (by simp [hv]) hk 1 (Or.inl rfl)
end Go.Proofs.YtjlliohjeiclaaaGreatDoor
namespace Go.Proofs.YtjlliohjeiclaaaGreatDoor
open Go.RowKit
theorem CellsAt.srcN {P : Program} {w : World} {a : Option Addr} {vs : List Value} {size n : Nat} (h : CellsAt w a vs) (hlen : vs.length = n * size) (hone : ∀ u ∈ vs, u.oneCell' = true) {tx e' : TypeId} (hk : P.underlying tx = some (.slice e')) (cap : Nat) (hsz : 0 < size) : Src P size tx (.slice a n cap) n vs w := by
 cases a with
 | none =>
  have : vs = [] := by
   cases vs with
   | nil => rfl
   | cons c r => obtain ⟨b, off, hh, _⟩ := h 0 (by simp); cases hh
  subst this
  have hn : n = 0 := by
   rw [List.length_nil] at hlen
   rcases Nat.eq_zero_or_pos n with h0 | h0
   · exact h0
   · have := Nat.mul_pos h0 hsz; omega
  subst hn
  exact Src.ofNil w hk cap
 | some a =>
  refine Src.ofSlice w hk a _ cap vs hlen (fun j u hu => ?_) hone
  obtain ⟨hj, he⟩ := List.getElem?_eq_some_iff.1 hu
  obtain ⟨b, off, hh, hc⟩ := h j hj
  cases hh
  rw [Addr_add, hc, he]
theorem CellsAt.ownN {w : World} {base n size : Nat} {e : TypeId} {a : Option Addr} {len cap : Nat} {vs : List Value} (h : w.ownsRow base e size (.slice a len cap) n vs) : CellsAt w a vs := by
 intro i hi
 rcases h.2 with ⟨hv, hn⟩ | ⟨g, cap', cur, hv, hb, hg, hnc, _, hcs, ht⟩
 · have := h.1
   rw [hn] at this
   omega
 · cases hv
   refine ⟨g, 0, rfl, ?_⟩
   rw [Nat.zero_add]
   have h1 := cell_of_row w g i cur e (0, 0) hg
   rw [h1]
   have h2 : cur.toList.take vs.length = vs := by have := h.1; first | exact ht | (rw [this]; exact ht)
   have h3 : (cur.toList.take vs.length)[i]? = some vs[i] := by rw [h2]; simp [hi]
   rw [List.getElem?_take_of_lt hi] at h3
   simpa using h3
theorem cellsAt_made {w w8 : World} {vs : List Value} {t : TypeId} (hw : w8 = w.alloc (.cells vs.toArray t)) : CellsAt w8 (some ⟨w.heap.size, 0, none⟩) vs := by rw [hw]; exact CellsAt.new _ _ _ vs
theorem grown_none {w w' : World} (h : w.grownBy w' none) : Below w.heap.size w w' := ⟨h.os, h.tape, h.output, h.size, fun k hk => h.block k hk (fun e => by cases e)⟩
theorem step_app {P : Program} {w : World} {ops : Array Oper} {o : Oper} {a : Act} {K : Act → World → Prop} {Q : Exit → Act → World → Prop} {E : Prop} (hgd : o.guard = none) (s x : Operand) (t tx : TypeId)
 (ho : o.op = .call { callee := .builtin .append, args := #[s, x], argTypes := #[t, tx] })
 (base : Nat) (e : TypeId) (z : Value) (size bytes : Nat) (ht : ElemT P t e z size bytes)
 (v : Value) (n : Nat) (xs : List Value) (hv : a.eval s = v) (hown : w.ownsRow base e size v n xs)
 (xv : Value) (m : Nat) (news : List Value) (hx : a.eval x = xv) (hs : Src P size tx xv m news w)
 (hlen : n + m ≤ maxLen) (hby : (n + m) * bytes ≤ 140737488355328) (hbase : base ≤ w.heap.size)
 (h : ∀ v' w', w'.ownsRow base e size v' (n + m) (xs ++ news) → w.grownBy w' v.ownBlock → Below base w w' → (v'.ownBlock = v.ownBlock ∨ v'.ownBlock = some w.heap.size) → K (a.put o.dst v') w') :
 if Region.wanted o (yielded ops a.tmps) = true then Oper.wp P o a w K Q else E := by
 have hw : Region.wanted o (yielded ops a.tmps) = true := by simp [Region.wanted, hgd]
 rw [if_pos hw]
 obtain ⟨h1, i, h2, h3, h4, h5, h6⟩ := ht
 obtain ⟨v', w', hr, g2, g3, g4, _⟩ := run_append_own_src (P := P) w base t tx o.type e i z size bytes h1 h2 h3 h4 h5 h6 v n xs hown xv m news hs hlen hby hbase
 unfold Oper.wp execOp
 simp only [ho, resolve, invoke, builtin, Sem.run_bind, Sem.run_pure, Result.andThen_ok, List.map_toArray, List.map_cons, List.map_nil, hv, hx, hr]
 exact h v' w' g2 g3 (below_of_grown hown hbase g3) g4
end Go.Proofs.YtjlliohjeiclaaaGreatDoor
namespace Go.Proofs.YtjlliohjeiclaaaGreatDoor
open Go.RowKit St
def elV (e : Ev) : List Value := [.int .i64 e.1.g, .int .i64 e.1.r, .string e.1.l, .int .i64 e.1.n, .int .i64 e.1.i, .string e.2]
def elsV (l : List Ev) : List Value := l.flatMap elV
theorem elsV_nil : elsV [] = [] := rfl
theorem elsV_cons (e : Ev) (l : List Ev) : elsV (e :: l) = elV e ++ elsV l := rfl
theorem elsV_append (l m : List Ev) : elsV (l ++ m) = elsV l ++ elsV m := by unfold elsV; rw [List.flatMap_append]
theorem elsV_length (l : List Ev) : (elsV l).length = l.length * 6 := by
 induction l with
 | nil => rfl
 | cons e l ih => rw [elsV_cons, List.length_append, ih, List.length_cons]; simp [elV]; omega
theorem elsV_one (l : List Ev) : ∀ u ∈ elsV l, u.oneCell' = true := fun u hu => by
 unfold elsV at hu
 obtain ⟨e, _, hu⟩ := List.mem_flatMap.1 hu
 simp only [elV, List.mem_cons, List.not_mem_nil, or_false] at hu
 rcases hu with rfl | rfl | rfl | rfl | rfl | rfl <;> rfl
theorem elsV_take (l : List Ev) (k : Nat) : elsV (l.take k) = (elsV l).take (k * 6) := by
 induction l generalizing k with
 | nil => simp [elsV_nil]
 | cons e l ih =>
  cases k with
  | zero => simp [elsV_nil]
  | succ k =>
   rw [List.take_succ_cons, elsV_cons, elsV_cons, ih, List.take_append, show (elV e).length = 6 from rfl, show (k + 1) * 6 - 6 = k * 6 by omega, List.take_of_length_le (l := elV e) (by show 6 ≤ _; omega)]
theorem elsV_drop (l : List Ev) (k : Nat) : elsV (l.drop k) = (elsV l).drop (k * 6) := by
 induction l generalizing k with
 | nil => simp [elsV_nil]
 | cons e l ih =>
  cases k with
  | zero => simp
  | succ k =>
   rw [List.drop_succ_cons, elsV_cons, ih, List.drop_append, show (elV e).length = 6 from rfl, show (k + 1) * 6 - 6 = k * 6 by omega, List.drop_of_length_le (l := elV e) (by show 6 ≤ _; omega), List.nil_append]
theorem elsV_get (l : List Ev) (k j : Nat) (hk : k < l.length) (hj : j < 6) : (elsV l)[k * 6 + j]? = (elV l[k])[j]? := by
 have h1 : (elsV l).drop (k * 6) = elV l[k] ++ elsV (l.drop (k + 1)) := by rw [← elsV_drop, List.drop_eq_getElem_cons hk, elsV_cons]
 rw [← List.getElem?_drop, h1, List.getElem?_append_left (by show j < 6; exact hj)]
structure ElCell (w : World) (b o : Nat) (e : Ev) : Prop where
 c0 : w.cell? ⟨b, o, none⟩ = some (.int .i64 e.1.g)
 c1 : w.cell? ⟨b, o + 1, none⟩ = some (.int .i64 e.1.r)
 c2 : w.cell? ⟨b, o + 2, none⟩ = some (.string e.1.l)
 c3 : w.cell? ⟨b, o + 3, none⟩ = some (.int .i64 e.1.n)
 c4 : w.cell? ⟨b, o + 4, none⟩ = some (.int .i64 e.1.i)
 c5 : w.cell? ⟨b, o + 5, none⟩ = some (.string e.2)
theorem els_get {w : World} {a : Option Addr} {l : List Ev} (h : CellsAt w a (elsV l)) (k : Nat) (hk : k < l.length) : ∃ b off, a = some ⟨b, off, none⟩ ∧ ElCell w b (off + k * 6) l[k] := by
 have g : ∀ j v, j < 6 → (elV l[k])[j]? = some v → ∃ b off, a = some ⟨b, off, none⟩ ∧ w.cell? ⟨b, off + (k * 6 + j), none⟩ = some v := fun j v hj hv => h.get _ v (by rw [elsV_get l k j hk hj, hv])
 obtain ⟨b, off, rfl, q0⟩ := g 0 _ (by omega) rfl
 refine ⟨b, off, rfl, ?_⟩
 obtain ⟨_, _, e1, q1⟩ := g 1 _ (by omega) rfl
 obtain ⟨_, _, e2, q2⟩ := g 2 _ (by omega) rfl
 obtain ⟨_, _, e3, q3⟩ := g 3 _ (by omega) rfl
 obtain ⟨_, _, e4, q4⟩ := g 4 _ (by omega) rfl
 obtain ⟨_, _, e5, q5⟩ := g 5 _ (by omega) rfl
 cases e1; cases e2; cases e3; cases e4; cases e5
 exact ⟨by simpa using q0, by simpa [Nat.add_assoc] using q1, by simpa [Nat.add_assoc] using q2, by simpa [Nat.add_assoc] using q3, by simpa [Nat.add_assoc] using q4, by simpa [Nat.add_assoc] using q5⟩
theorem elT : ElemT Tryz.prog 22 53 (.agg #[.int .i64 0, .int .i64 0, .string ⟨#[]⟩, .int .i64 0, .int .i64 0, .string ⟨#[]⟩]) 6 64 := ElemT.mk Tryz.underlying22 (by kernel_rfl) (by simp [Value.cells])
end Go.Proofs.YtjlliohjeiclaaaGreatDoor
namespace Go.Proofs.YtjlliohjeiclaaaGreatDoor
open Go.RowKit St
theorem toList_iff (a b : ByteArray) : (a.toList = b.toList) = (a = b) := propext ⟨fun h => Pm.key_ext (by rw [← ByteArray.toList_eq, ← ByteArray.toList_eq]; exact h), fun h => by rw [h]⟩
theorem sv_eql (s t : Sv) (w : World) : (binOp .eql 43 (.agg #[.int .i64 s.g, .int .i64 s.r, .string s.l, .int .i64 s.n, .int .i64 s.i]) (.agg #[.int .i64 t.g, .int .i64 t.r, .string t.l, .int .i64 t.n, .int .i64 t.i])).run Tryz.prog w = .ok (.bool (decide (s = t))) w := by
 rw [run_eql_struct]
 simp [go_sem, Tryz.underlying43]
 obtain ⟨g, r, l, n, i⟩ := s
 obtain ⟨g', r', l', n', i'⟩ := t
 simp only [toList_iff, Sv.mk.injEq]
 by_cases h1 : g = g' <;> by_cases h2 : r = r' <;> by_cases h3 : l = l' <;> by_cases h4 : n = n' <;> by_cases h5 : i = i' <;> simp [h1, h2, h3, h4, h5]
theorem ev_neq (s t : Ev) (w : World) : (binOp .neq 53 (.agg #[.int .i64 s.1.g, .int .i64 s.1.r, .string s.1.l, .int .i64 s.1.n, .int .i64 s.1.i, .string s.2]) (.agg #[.int .i64 t.1.g, .int .i64 t.1.r, .string t.1.l, .int .i64 t.1.n, .int .i64 t.1.i, .string t.2])).run Tryz.prog w = .ok (.bool (!decide (s = t))) w := by
 rw [run_neq_struct]
 simp [go_sem, Tryz.underlying53]
 obtain ⟨⟨g, r, l, n, i⟩, x⟩ := s
 obtain ⟨⟨g', r', l', n', i'⟩, x'⟩ := t
 simp only [toList_iff, Sv.mk.injEq, Prod.mk.injEq]
 by_cases h1 : g = g' <;> by_cases h2 : r = r' <;> by_cases h3 : l = l' <;> by_cases h4 : n = n' <;> by_cases h5 : i = i' <;> by_cases h6 : x = x' <;> simp [h1, h2, h3, h4, h5, h6]
theorem ne_at {α : Type} [DecidableEq α] {l m : List α} {k : Nat} (h1 : k < l.length) (h2 : k < m.length) (h : l[k] ≠ m[k]) : decide (l = m) = false := by
 rw [decide_eq_false_iff_not]
 intro e
 subst e
 exact h rfl
theorem eq_all {α : Type} [DecidableEq α] {l m : List α} (hl : l.length = m.length) (h : l.take l.length = m.take l.length) : decide (l = m) = true := by
 rw [decide_eq_true_eq]
 rw [List.take_length, hl, List.take_length] at h
 exact h
theorem take_eq {α : Type} {l m : List α} {k : Nat} (h1 : k < l.length) (h2 : k < m.length) (h : l.take k = m.take k) (e : l[k] = m[k]) : l.take (k + 1) = m.take (k + 1) := by
 rw [List.take_succ_eq_append_getElem h1, List.take_succ_eq_append_getElem h2, h, e]
set_option maxRecDepth 100000 in
set_option maxHeartbeats 2000000 in
theorem ref9_SameElements (l m : List Ev) (a b : Option Addr) (n1 n2 c1 c2 : Nat) (w : World) (hl : CellsAt w a (elsV l)) (hm : CellsAt w b (elsV m)) (hn1 : n1 = l.length) (hn2 : n2 = m.length) (hb : n1 ≤ 9223372036854775807) :
 Calls Tryz.prog 30 #[.slice a n1 c1, .slice b n2 c2] w fun e w' => e = .returned (.bool (decide (l = m))) ∧ Below w.heap.size w w' := by
 have HL := Lib.hid hl
 have HM := Lib.hid hm
 clear hl hm
 have EN := ev_neq
 go_enter Tryz.func30, Tryz.ntmps30
 by_cases hlen : n1 = n2
 · subst hlen
   have hN : Hid (l.length = m.length) := Lib.hid (by omega)
   have E : Hid (l.take n1 = m.take n1 → decide (l = m) = true) := Lib.hid (fun h => eq_all hN.out (by rw [← hn1]; exact h))
   have F : Hid (∀ k (h1 : k < l.length) (h2 : k < m.length), l[k] ≠ m[k] → decide (l = m) = false) := Lib.hid (fun k h1 h2 h => ne_at h1 h2 h)
   generalize decide (l = m) = res at *
   go_wp2_with fail
   go_loopw [5] (fun i wr => ∃ k : Nat, k ≤ n1 ∧ i = .int .i64 (k : Int) ∧ Hid (l.take k = m.take k) ∧ Hid (Below w.heap.size w wr)) (fun i _ => n1 - (intOf i).toNat)
   case atStart => exact ⟨0, Nat.zero_le _, rfl, Lib.hid rfl, Lib.hid (Below.refl _ _)⟩
   case round =>
    obtain ⟨k, hk, rfl, HT, HB⟩ := hrel
    by_cases hlt : k < n1
    · have hk1 : k < l.length := by omega
      have hk2 : k < m.length := by omega
      obtain ⟨ba, oa, rfl, ca⟩ := els_get (HL.out.below HB.out rfl) k hk1
      obtain ⟨bb, ob, rfl, cb⟩ := els_get (HM.out.below HB.out rfl) k hk2
      obtain ⟨p0, p1, p2, p3, p4, p5⟩ := ca
      obtain ⟨q0, q1, q2, q3, q4, q5⟩ := cb
      have G1 : Hid (l[k] ≠ m[k] → res = false) := Lib.hid (F.out k hk1 hk2)
      have G2 : Hid (l[k] = m[k] → l.take (k + 1) = m.take (k + 1)) := Lib.hid (take_eq hk1 hk2 HT.out)
      generalize l[k] = x at *
      generalize m[k] = y at *
      have hki : (k : Int) < (n1 : Int) := by omega
      by_cases hxy : x = y
      · have H := Lib.hid (G2.out hxy)
        have hd : decide (x = y) = true := decide_eq_true hxy
        clear hxy
        go_wp2_with fail
        go_quiet (fail)
        go_wp2_with fail
        refine ⟨⟨k + 1, by omega, by go_num, H, Lib.hid (below_drews HB.out _)⟩, by simp [intOf]; omega⟩
      · have hr := Lib.hid (G1.out hxy)
        have hd : decide (x = y) = false := decide_eq_false hxy
        clear hxy
        go_wp2_with fail
        go_quiet (fail)
        go_wp2_with fail
        go_ret
        rw [hr.out]
        exact ⟨rfl, below_drews HB.out _⟩
    · obtain rfl : k = n1 := by omega
      have hr := Lib.hid (E.out HT.out)
      go_wp2_with fail
      go_ret
      rw [hr.out]
      exact ⟨rfl, HB.out⟩
 · have hr : Hid (decide (l = m) = false) := Lib.hid (by rw [decide_eq_false_iff_not]; rintro rfl; omega)
   have hne : ((n1 : Int) == (n2 : Int)) = false := by simp; omega
   have hne' : ¬ (n1 : Int) = (n2 : Int) := by omega
   generalize decide (l = m) = res at *
   go_wp2_with fail
   go_ret
   rw [hr.out]
   exact ⟨rfl, Below.refl _ _⟩
end Go.Proofs.YtjlliohjeiclaaaGreatDoor
namespace Go.Proofs.YtjlliohjeiclaaaGreatDoor
open Go.RowKit St
theorem run_to {P : Program} (w : World) (t e : TypeId) (ht : P.underlying t = some (.slice e)) (size : Nat) (hz : ∀ w, (Go.sizeOf e).run P w = .ok size w) (a : Option Addr) (ha : a = none ∨ ∃ g, a = some ⟨g, 0, none⟩) (len cap k : Nat) (x : Int) (hx : x = (k : Int)) (hk : k ≤ cap) :
 (Instr.slice t (.slice a len cap) none (some (.int .i64 x)) none).run P w = .ok (.slice a k cap) w := by
 have ht' : P.underlying t = some (.slice (P.elem t)) := by simp [Program.elem, ht]
 have he : P.elem t = e := by simp [Program.elem, ht]
 subst hx
 rw [run_slice_h w t _ _ _ ht' .i64 _ (by omega) (by omega), he, hz]
 rcases ha with rfl | ⟨g, rfl⟩
 · simp [Result.andThen, sliced]
 · simp [Result.andThen, sliced, Addr_add]
theorem CellsAt.subN {w : World} {a : Option Addr} {vs : List Value} (h : CellsAt w a vs) (cap l size : Nat) (hl : cap = l → vs.length ≤ l * size) : CellsAt w (subN a cap l size) (vs.drop (l * size)) := by
 unfold Go.Proofs.YtjlliohjeiclaaaGreatDoor.subN
 split
 · rename_i e
   rw [List.drop_of_length_le (hl e)]
   exact CellsAt.nil _ _
 · exact h.drop (l * size)
theorem ElCell.below {w w' : World} {b o : Nat} {e : Ev} (h : ElCell w b o e) (hb : Below w.heap.size w w') : ElCell w' b o e := by
 have hl : b < w.heap.size := cell_lt h.c0
 have k : ∀ j, w'.cell? ⟨b, j, none⟩ = w.cell? ⟨b, j, none⟩ := fun j => hb.cell (p := ⟨b, j, none⟩) hl
 exact ⟨by rw [k]; exact h.c0, by rw [k]; exact h.c1, by rw [k]; exact h.c2, by rw [k]; exact h.c3, by rw [k]; exact h.c4, by rw [k]; exact h.c5⟩
end Go.Proofs.YtjlliohjeiclaaaGreatDoor
