/- Words, contracts and walks that the proof stands on (KeepX Tail Tail2 RgW OpenC OpenE OpenW). -/
import Derived.Deep.Grids
import Derived.Deep.RegionHeld3
import Derived.Deep.Slices
import Derived.OpenShut
import Derived.ProofKit
import Derived.SliceStrings
import Derived.Test.YtnpiepimajippaaRB1
import Derived.Test.YtnpiepimajippaaRB11
import Derived.Test.YtnpiepimajippaaRB4
import Derived.Test.YtnpiepimajippaaRB8
namespace Go.Proofs.Ytnpiepimajippaa
open Go.RowKit
structure KeepX (Ex : Nat → TypeId → Prop) (A B : World) : Prop where
  os : B.os = A.os
  tape : B.tape = A.tape
  output : B.output = A.output
  size : A.heap.size ≤ B.heap.size
  rest : ∀ k o, A.heap[k]? = some o → (∀ c t fr, o = .cells c t fr → ¬ Ex k t) → B.heap[k]? = some o
theorem KeepX.refl {Ex : Nat → TypeId → Prop} (A : World) : KeepX Ex A A := ⟨rfl, rfl, rfl, Nat.le_refl _, fun _ _ h _ => h⟩
theorem KeepX.trans {Ex : Nat → TypeId → Prop} {A B C : World} (h : KeepX Ex A B) (k : KeepX Ex B C) : KeepX Ex A C :=
  ⟨k.os.trans h.os, k.tape.trans h.tape, k.output.trans h.output, Nat.le_trans h.size k.size, fun i o ho ht => k.rest i o (h.rest i o ho ht) ht⟩
theorem KeepX.ofBelow {Ex : Nat → TypeId → Prop} {A B : World} (h : Below A.heap.size A B) : KeepX Ex A B :=
  ⟨h.os, h.tape, h.output, h.size, fun k _ ho _ => (h.block k (Array.getElem?_eq_some_iff.1 ho).1).trans ho⟩
theorem KeepX.drew {Ex : Nat → TypeId → Prop} {A B : World} (h : KeepX Ex A B) : KeepX Ex A B.drew := h.trans (KeepX.ofBelow (Below.refl _ B).drew)
theorem KeepX.alloc {Ex : Nat → TypeId → Prop} {A B : World} (h : KeepX Ex A B) (o : Obj) : KeepX Ex A (B.alloc o) :=
  h.trans (KeepX.ofBelow ((Below.refl _ B).alloc (Nat.le_refl _) o))
theorem KeepX.row {Ex : Nat → TypeId → Prop} {A B : World} (h : KeepX Ex A B) {b : Nat} {cs : Array Value} {t : TypeId} {fr : Nat × Nat} (hb : A.heap[b]? = some (.cells cs t fr)) (ht : ¬ Ex b t) : B.heap[b]? = some (.cells cs t fr) :=
  h.rest b _ hb fun c t' fr' e => by cases e; exact ht
theorem KeepX.setRow {Ex : Nat → TypeId → Prop} {A B : World} (h : KeepX Ex A B) {X : Nat} {cs : Array Value} {t : TypeId} {fr : Nat × Nat} (hX : B.heap[X]? = some (.cells cs t fr)) (ht : Ex X t) (i : Nat) (v : Value) : KeepX Ex A (B.setCell ⟨X, i, none⟩ v) :=
  ⟨h.os, h.tape, h.output, by simpa [World.setCell] using h.size, fun k o ho hn => (Below.heap_setCell _ _ _ _ (by
    show k ≠ X
    rintro rfl
    have h1 := h.rest k o ho hn
    rw [hX] at h1
    cases h1
    exact hn _ _ _ rfl ht)).trans (h.rest k o ho hn)⟩
def ChE (Ex : Nat → TypeId → Prop) (ws : List World) (w : World) : Prop := ∀ W ∈ ws, KeepX Ex W w
theorem ChE.one {Ex : Nat → TypeId → Prop} (w : World) : ChE Ex [w] w := fun W hW => by
  obtain rfl := List.mem_singleton.1 hW
  exact KeepX.refl _
theorem ChE.push {Ex : Nat → TypeId → Prop} {ws : List World} {w w' : World} (h : ChE Ex ws w) (hb : KeepX Ex w w') : ChE Ex (w' :: ws) w' := fun W hW => by
  rcases List.mem_cons.1 hW with rfl | hW
  · exact KeepX.refl _
  · exact (h W hW).trans hb
theorem ChE.to {Ex : Nat → TypeId → Prop} {ws : List World} {w : World} (h : ChE Ex ws w) (W : World) (hW : W ∈ ws) : KeepX Ex W w := h W hW
section
variable {P : Program} {ops : Array Oper} {Q : Exit → Act → World → Prop} {md : Region.Mode}
theorem wpAnyH_madeX {Ex : Nat → TypeId → Prop} {W w1 : World} {o : Obj} (hS : KeepX Ex W w1) {fuel : Nat} {listed : Array Bool} {a : Act}
    (h : ∀ w2, w2 = w1.alloc o → KeepX Ex W w2 → wpAnyH P md ops Q (fun w' => KeepX Ex W w') fuel listed a w2) : wpAnyH P md ops Q (fun w' => KeepX Ex W w') fuel listed a (w1.alloc o) :=
  h _ rfl (hS.alloc o)
end
end Go.Proofs.Ytnpiepimajippaa
namespace Go.Proofs.Ytnpiepimajippaa
open Go.RowKit
section
variable {P : Program} {md : Region.Mode} {ops : Array Oper} {Q : Exit → Act → World → Prop} {S : World → Prop} {T : List Nat}
def doneB (ops : Array Oper) (T : List Nat) (listed : Array Bool) : Bool := (List.range ops.size).all fun k => T.contains k || listed.getD k false
def anyT (P : Program) (md : Region.Mode) (ops : Array Oper) (Q : Exit → Act → World → Prop) (T : List Nat) (S : World → Prop) : Nat → Array Bool → Act → World → Prop
  | 0, listed, a, w => wpAny P md ops Q 0 listed a w
  | fuel + 1, listed, a, w => if doneB ops T listed = true then wpAny P md ops Q (fuel + 1) listed a w
    else (Region.ready md ops listed = [] → Q .normal a w) ∧ ∀ i ∈ Region.ready md ops listed, wpOp P ops Q i (fun a' w' => S w' ∧ anyT P md ops Q T S fuel (listed.setIfInBounds i true) a' w') a w
def AllReadyT (P : Program) (md : Region.Mode) (ops : Array Oper) (Q : Exit → Act → World → Prop) (T : List Nat) (S : World → Prop) (fuel : Nat) (listed : Array Bool) (a : Act) (w : World) (rs : List Nat) : Prop :=
  ∀ i ∈ rs, wpOp P ops Q i (fun a' w' => S w' ∧ anyT P md ops Q T S fuel (listed.setIfInBounds i true) a' w') a w
theorem AllReadyT.nil {fuel : Nat} {listed : Array Bool} {a : Act} {w : World} : AllReadyT P md ops Q T S fuel listed a w [] := fun _ h => by cases h
theorem AllReadyT.cons {fuel : Nat} {listed : Array Bool} {a : Act} {w : World} {i : Nat} {o : Oper} {rs : List Nat} (ho : ops[i]? = some o) (hw : Region.wanted o (yielded ops a.tmps) = true)
    (h : ∀ K' : Act → World → Prop, Shut (∀ a w, S w → (S w → anyT P md ops Q T S fuel (listed.setIfInBounds i true) a w) → K' a w) → Oper.wp P o a w K' Q)
    (hs : AllReadyT P md ops Q T S fuel listed a w rs) : AllReadyT P md ops Q T S fuel listed a w (i :: rs) := fun j hj => by
  rcases List.mem_cons.1 hj with rfl | hj
  · unfold wpOp
    simp only [ho]
    rw [if_pos hw]
    exact .inl (h _ (fun a w hS hW => ⟨hS, hW hS⟩))
  · exact hs j hj
end
end Go.Proofs.Ytnpiepimajippaa
namespace Go.Proofs.Ytnpiepimajippaa
open Go.RowKit
section
variable {P : Program} {md : Region.Mode} {ops : Array Oper} {Q : Exit → Act → World → Prop} {S : World → Prop} {T : List Nat}
def Closed (md : Region.Mode) (ops : Array Oper) (listed : Array Bool) : Prop :=
  ∀ j oj, ops[j]? = some oj → listed.getD j false = true → ∀ e ∈ oj.after, Region.binds md e = true → listed.getD e.on false = true
theorem Closed.step {listed : Array Bool} (h : Closed md ops listed) {j : Nat} {oj : Oper} (hoj : ops[j]? = some oj) (hall : ∀ e ∈ oj.after, Region.binds md e = true → listed.getD e.on false = true) : Closed md ops (listed.setIfInBounds j true) := by
  intro k ok hok hk e he hb
  have h0 : listed.getD e.on false = true := by
    by_cases hjk : j = k
    · subst hjk; rw [hoj] at hok; cases hok; exact hall e he hb
    · rw [getD_set_ne false hjk] at hk; exact h k ok hok hk e he hb
  by_cases hje : j = e.on
  · rw [← hje] at h0 ⊢
    rcases Nat.lt_or_ge j listed.size with hlt | hge
    · simp [Array.getD, hlt]
    · simp [Array.getD, Nat.not_lt.2 hge] at h0
  · rw [getD_set_ne false hje]; exact h0
end
end Go.Proofs.Ytnpiepimajippaa
namespace Go.Proofs.Ytnpiepimajippaa
open Go.RowKit St Pm
theorem made_at {w1 w2 : World} {o : Obj} (hw : w2 = w1.alloc o) : ∃ c, w1.heap.size = c ∧ w2.heap[c]? = some o := ⟨_, rfl, by rw [hw]; exact heap_alloc_new w1 o⟩
theorem CellsAt.keepX {z : Nat} {A B : World} {a : Option Addr} {vs : List Value} (h : CellsAt A a vs) (hk : KeepX (fun k _ => k = z) A B) (ha : ∀ ad, a = some ad → ad.block ≠ z) : CellsAt B a vs := by
  intro i hi
  obtain ⟨b, off, rfl, hc⟩ := h i hi
  refine ⟨b, off, rfl, ?_⟩
  have hne : b ≠ z := ha _ rfl
  unfold World.cell? at hc ⊢
  cases e : A.heap[b]? with
  | none => simp [e] at hc
  | some o =>
    have e2 := hk.rest b o e (fun _ _ _ _ h => hne h)
    simp only [e] at hc
    simp only [e2]
    exact hc
theorem KeepX.toBelowZ {z : Nat} {A B : World} (h : KeepX (fun k _ => k = z) A B) (hz : z ≤ A.heap.size) : Below z A B :=
  ⟨h.os, h.tape, h.output, h.size, fun k hk => by
    cases e : A.heap[k]? with
    | none => rw [Array.getElem?_eq_none_iff] at e; omega
    | some o => exact h.rest k o e fun _ _ _ _ e => by omega⟩
theorem AtS.keepX {z : Nat} {A B : World} {t : Tr ByteArray} (h : AtS A t) (hk : KeepX (fun k _ => k = z) A B) {cs : Array Value} {T : TypeId} {fr : Nat × Nat} (hx : A.heap[z]? = some (.cells cs T fr)) (hT : T ≠ 110) : AtS B t :=
  h.keep fun b o ho hm => hk.rest b o ho fun _ _ _ _ e => by subst e; exact h.other hx hT hm
theorem els_keepX {z : Nat} {A B : World} {a : Option Addr} {L : List Ev} {p : Option Addr} {T : TypeId} {fr : Nat × Nat} (h : CellsAt A a (elsV L)) (hk : KeepX (fun k _ => k = z) A B) (hx : A.heap[z]? = some (.cells #[.pointer p] T fr)) : CellsAt B a (elsV L) := by
  cases L with
  | nil => exact CellsAt.nil _ _
  | cons e L =>
    obtain ⟨ba, oa, rfl, ca⟩ := els_get h 0 (by simp)
    refine h.keepX hk fun ad had => ?_
    cases had
    show ba ≠ z
    rintro rfl
    have h1 := ca.c0
    rw [cell_of_row _ _ _ _ _ _ hx] at h1
    cases oa with
    | zero => simp at h1
    | succ oa => simp at h1
set_option maxRecDepth 100000 in
set_option maxHeartbeats 8000000 in
theorem law_Writes (l ws : List Ev) (a b : Option Addr) (n n2 c c2 : Nat) (w : World) (hl : CellsAt w a (elsV l)) (hn : n = l.length) (hb : n ≤ 9223372036854775807) (hs : ∀ e ∈ l, e.1.l.size ≤ 9223372036854775807)
    (hl2 : CellsAt w b (elsV ws)) (hn2 : n2 = ws.length) (hb2 : n2 ≤ 9223372036854775807) (hs2 : ∀ e ∈ ws, e.1.l.size ≤ 9223372036854775807) :
    Calls Try.prog 3 #[.slice a n c, .slice b n2 c2] w fun e w' => e = .returned (.bool true) ∧ Below w.heap.size w w' := by
  have HL := Lib.hid hl
  have HN := Lib.hid hn
  have HB := Lib.hid hb
  have HS := Lib.hid hs
  have HL2 := Lib.hid hl2
  have HN2 := Lib.hid hn2
  have HS2 := Lib.hid hs2
  clear hl hn hs hl2 hn2 hs2
  have HC : Hid (Chain [w] w) := Lib.hid (Chain.one w)
  go_enter Try.func3, Try.ntmps3
  by_cases q1 : 120 < n
  ·
    have q1i : (120 : Int) < (n : Int) := by omega
    go_wp2_with fail
    refine (known_12 _).mono ?_
    rintro e w1 ⟨rfl, hb⟩
    replace HC := Lib.hid (HC.out.push hb)
    clear hb
    go_wp2_with fail
    go_ret
    exact ⟨rfl, (HC.out.to w (by simp))⟩
  have q1i : ¬ (120 : Int) < (n : Int) := by omega
  have hn100 : n ≤ 100000 := by omega
  go_wp2_with fail
  refine (of_reg12 l _ n c _ (HL.out.below (HC.out.to w (by simp)) rfl) HN.out hn100 HS.out).mono ?_
  rintro e w1 ⟨t0, ce, rfl, ht, hb, _, hP⟩
  replace HC := Lib.hid (HC.out.push hb)
  clear hb
  have T1 := Lib.hid ht
  clear ht
  go_upto_region 4 with (fail)
  have LW1 : Hid (w.heap.size ≤ w1.heap.size) := Lib.hid (HC.out.to w (by simp)).size
  obtain ⟨z, hz⟩ : ∃ c, w1.heap.size = c := ⟨_, rfl⟩
  try rw [hz]
  obtain ⟨w2, hw2⟩ : ∃ X, allocs w1 [.cells #[.pointer (pa t0)] 27] = X := ⟨_, rfl⟩
  rw [show w1.alloc (.cells #[.pointer (pa t0)] 27) = w2 from hw2]
  have hb : Below w1.heap.size w1 w2 := by rw [← hw2]; exact allocs_below _ _
  have HM : Hid (w2.heap[z]? = some (.cells #[.pointer (pa t0)] 27 (0, 0))) := Lib.hid (by have := allocs_get [.cells #[.pointer (pa t0)] 27] w1 0 _ rfl; rw [hw2, hz] at this; exact this)
  have Sz : Hid (w1.heap.size = z) := Lib.hid hz
  replace HC := Lib.hid (HC.out.push hb)
  clear hb hw2 hz
  have ZM2 : Hid (z < w2.heap.size) := Lib.hid (Array.getElem?_eq_some_iff.1 HM.out).1
  go_wp2_with fail
  refine (ref12_May l _ n c _ (HL.out.below (HC.out.to w (by simp)) rfl) HN.out HB.out HS.out).mono ?_
  rintro e w3 ⟨rfl, hb⟩
  replace HC := Lib.hid (HC.out.push hb)
  clear hb
  cases hm : mayV l
  case false =>
    obtain ⟨rfl, rfl⟩ : ce = 2 ∧ t0 = .nil := by
      rcases hP with ⟨h, _⟩ | ⟨_, h1, h2⟩
      · rw [hm] at h; cases h
      · exact ⟨h1, h2⟩
    clear hP hm
    go_wp2_with fail
    refine (num_12 2 _).mono ?_
    rintro e _ ⟨rfl, rfl⟩
    have kM0 := cell_of_one (boxStays HM.out (HC.out.to w2 (by simp)))
    go_wp2_with fail
    refine (pm_MLenS .nil _ trivial).mono ?_
    rintro e w4 ⟨rfl, hb⟩
    clear kM0
    replace HC := Lib.hid (HC.out.push hb)
    clear hb
    rw [show ((sz (Tr.nil : Tr ByteArray) : Nat) : Int) = 0 from rfl]
    go_wp2_with fail
    refine (known_12 _).mono ?_
    rintro e w5 ⟨rfl, hb⟩
    replace HC := Lib.hid (HC.out.push hb)
    clear hb
    go_wp2_with fail
    go_ret
    exact ⟨rfl, (HC.out.to w (by simp))⟩
  obtain ⟨rfl, hr⟩ : ce = 0 ∧ Reg (sortV l) t0 := by
    rcases hP with ⟨_, h1, h2⟩ | ⟨h, _⟩
    · exact ⟨h1, h2⟩
    · rw [hm] at h; cases h
  have R0 := Lib.hid hr
  have L0 : Hid (n = (sortV l).length) := Lib.hid (by rw [sortV_length]; exact HN.out)
  clear hP hm hr
  have M3 := Lib.hid (boxStays HM.out (HC.out.to w2 (by simp)))
  have HL3 := Lib.hid (HL.out.below (HC.out.to w (by simp)) rfl)
  go_upto_region 6 with (fail)
  refine relG_start (slots := [37, 38, 39, 7, 8]) (so := [4]) (by kernel_rfl) (by kernel_rfl) (by rfl) ?_
  refine relG_pure (i := 0) (o := ⟨some 37, _, _, _, _, _⟩) (v := ?v1) [] [5] rfl rfl (by kernel_rfl) (by kernel_rfl) (fun t w1 hB hf hbf => ?y1) ?n1
  case y1 =>
    simp only [DepF, BasF, List.getD_cons_zero, List.getD_cons_succ] at hbf
    clear hf
    obtain ⟨⟨b5, k5⟩, _⟩ := hbf
    have m0 := cell_of_one (boxStays M3.out hB)
    refine Or.inl ⟨wanted_none rfl, ?_⟩
    rintro _ rfl
    go_simp <;> with_reducible rfl
  refine relG_pure (i := 1) (o := ⟨some 38, _, _, _, _, _⟩) (v := ?v2) [] [0] rfl rfl (by kernel_rfl) (by kernel_rfl) (fun t w1 hB hf hbf => ?y2) ?n2
  case y2 =>
    simp only [DepF, BasF, List.getD_cons_zero, List.getD_cons_succ] at hbf
    clear hf
    obtain ⟨⟨b0, k0⟩, _⟩ := hbf
    have m0 := cell_of_one (boxStays M3.out hB)
    refine Or.inl ⟨wanted_none rfl, ?_⟩
    rintro _ rfl
    go_simp <;> with_reducible rfl
  refine relG_call (i := 2) (o := ⟨some 39, _, _, _, _, _⟩) ((fun v w' => ∃ a c, v = .slice a n c ∧ CellsAt w' a (elsV (sortV l)))) [(1, 38, 0)] [] rfl rfl (by kernel_rfl) (by kernel_rfl) ((fun v w' w'' h hb => by obtain ⟨a, c, e1, e2⟩ := h; exact ⟨a, c, e1, e2.below hb rfl⟩)) ?_ ?_
  · intro t w1 hB hf hbf K hK
    simp only [DepF, BasF, List.getD_cons_zero, List.getD_cons_succ] at hf
    obtain ⟨⟨_, ⟨e38, i38⟩, rfl⟩, _⟩ := hf
    clear hbf
    have m0 := cell_of_one (boxStays M3.out hB)
    refine ⟨wanted_none rfl, ?_⟩
    go_simp
    refine (ref12_Sorted l _ n c w1 (HL3.out.below hB rfl) HN.out (by omega) HS.out).mono ?_
    rintro e w2 ⟨v, rfl, hown, hb⟩
    exact hK.out _ w2 ((by obtain ⟨a, c, rfl, _⟩ := own_slice hown; exact ⟨a, c, rfl, CellsAt.ownN hown⟩)) hb
  refine relG_call (i := 3) (o := ⟨some 7, _, _, _, _, _⟩) ((fun v w' => ∃ b, v = .pointer (some ⟨b, 0, none⟩) ∧ w3.heap.size ≤ b ∧ w'.heap[b]? = some (.cells #[.pointer none] 27 (0, 0)))) [] [] rfl rfl (by kernel_rfl) (by kernel_rfl) ((fun v w' w'' h hb => by obtain ⟨b, e1, e2, e3⟩ := h; exact ⟨b, e1, e2, boxStays e3 hb⟩)) ?_ ?_
  · intro t w1 hB hf hbf K hK
    clear hf
    clear hbf
    have m0 := cell_of_one (boxStays M3.out hB)
    refine ⟨wanted_none rfl, ?_⟩
    go_simp
    exact hK.out _ _ (⟨_, rfl, hB.size, heap_alloc_new _ _⟩) (below_new _ _)
  refine relG_skip 4 rfl (by rfl) ?_ (by kernel_rfl)
  refine relG_call (i := 5) (o := ⟨some 8, _, _, _, _, _⟩) ((fun v w' => ∃ a c, v = .slice a n c ∧ CellsAt w' a (elsV (sortV l)))) [(2, 39, 2)] [] rfl rfl (by kernel_rfl) (by kernel_rfl) ((fun v w' w'' h hb => by obtain ⟨a, c, e1, e2⟩ := h; exact ⟨a, c, e1, e2.below hb rfl⟩)) ?_ ?_
  · intro t w1 hB hf hbf K hK
    simp only [DepF, BasF, List.getD_cons_zero, List.getD_cons_succ] at hf
    obtain ⟨⟨_, ⟨e39, i39⟩, ⟨aw, cw, rfl, hca⟩⟩, _⟩ := hf
    clear hbf
    have m0 := cell_of_one (boxStays M3.out hB)
    refine ⟨wanted_none rfl, ?_⟩
    go_simp
    exact hK.out _ _ (⟨_, _, rfl, hca⟩) (Below.refl _ _)
  refine relG_own 4 7 3 37 0 [(0, 37, 5), (1, 38, 4), (2, 39, 3), (3, 7, 2), (5, 8, 0)] [(0, 37, 5), (1, 38, 4), (2, 39, 3), (3, 7, 2)] (by kernel_rfl) rfl (by kernel_rfl) (by kernel_rfl) (by kernel_rfl) (by kernel_rfl) ?_ (fun f wE hB hf => ?_)
  · intro f w1 hB hf K hK
    simp only [FinF, List.getD_cons_zero, List.getD_cons_succ] at hf
    obtain ⟨⟨_, e37, rfl⟩, ⟨_, e38, rfl⟩, ⟨_, e39, ⟨aw, cw, rfl, hca⟩⟩, ⟨_, e7, ⟨zF, rfl, hbb, hbr⟩⟩, _⟩ := hf
    have m0 := cell_of_one (boxStays M3.out hB)
    refine sto_own (i := 4) 27 7 37 zF (#[.pointer (pa t0)]) _ _ rfl rfl rfl rfl (by rfl) (by rfl) e7 (by rfl) (by rfl) e37 (hbr) (by kernel_rfl) rfl (mp_one _) hK
  simp only [FinF, List.getD_cons_zero, List.getD_cons_succ] at hf
  obtain ⟨⟨_, e37, rfl⟩, ⟨_, e38, rfl⟩, ⟨_, e39, ⟨aw, cw, rfl, hca⟩⟩, ⟨_, e7, ⟨zF, rfl, hbb, hbr⟩⟩, ⟨_, e8, ⟨aw, cw, rfl, hca⟩⟩, _⟩ := hf
  simp only [blkOf, Value.cells, regT, List.foldl_cons, List.foldl_nil, List.setIfInBounds_toArray, List.set_cons_zero, List.set_cons_succ, e37, e38, e39, e7, e8]
  clear e37 e38 e39 e7 e8
  rw [setRow_one hbr]
  have hk := KeepX.setRow (Ex := fun k _ => k = zF) (KeepX.refl wE) hbr rfl 0 (.pointer (pa t0))
  have hcW := els_keepX hca hk hbr
  have hF := Boxed.set (t := 27) (.pointer (pa t0)) hbr
  have hb8 := hB.setCell (p := ⟨zF, 0, none⟩) hbb (.pointer (pa t0))
  have QD := Lib.hid hb8
  have ZF4 : Hid (w2.heap.size ≤ zF) := Lib.hid (Nat.le_trans (HC.out.to w2 (by simp)).size hbb)
  have QW := Lib.hid hcW
  have QF := Lib.hid hF
  clear hb8 hB hbb hbr hca hF hcW hk
  generalize wE.setCell ⟨zF, 0, none⟩ (.pointer (pa t0)) = w4 at *
  have hb := QD.out
  have HF : Hid (w4.heap[zF]? = some (.cells #[.pointer (pa t0)] 27 (0, 0))) := Lib.hid QF.out
  replace HC := Lib.hid (HC.out.push hb)
  clear hb
  go_wp2_with fail
  refine (num_12 0 _).mono ?_
  rintro e _ ⟨rfl, rfl⟩
  have kM0 := cell_of_one (boxStays HM.out (HC.out.to w2 (by simp)))
  go_wp2_with fail
  refine (stands_12 (sortV l) t0 _ n _ _ (T1.out.below (HC.out.to w1 (by simp)) rfl) R0.out (QW.out.below (HC.out.to w4 (by simp)) rfl) L0.out (by omega)).mono ?_
  rintro e v8 ⟨rfl, hb⟩
  clear kM0
  replace HC := Lib.hid (HC.out.push hb)
  clear hb
  have M8 := Lib.hid (boxStays HM.out (HC.out.to w2 (by simp)))
  have T8 := Lib.hid (T1.out.below (HC.out.to w1 (by simp)) rfl)
  have F8 := Lib.hid (boxStays HF.out (HC.out.to w4 (by simp)))
  have W8 := Lib.hid (QW.out.below (HC.out.to w4 (by simp)) rfl)
  have A8 := Lib.hid (HL2.out.below (HC.out.to w (by simp)) rfl)
  have B8 := Lib.hid (HC.out.to w (by simp))
  have Z8 : Hid (w.heap.size ≤ z ∧ z < v8.heap.size) := Lib.hid ⟨by rw [← Sz.out]; exact LW1.out, (Array.getElem?_eq_some_iff.1 M8.out).1⟩
  have NE : Hid (zF ≠ z) := Lib.hid (by have := ZF4.out; have := ZM2.out; omega)
  clear HC
  go_wp2_with fail
  go_loopw [9, 10] (fun now i wr => ∃ (k nL : Nat) (L : List Ev) (tr : Tr ByteArray) (an : Option Addr) (cn : Nat), k ≤ n2 ∧ k ≤ 60 ∧ i = .int .i64 (k : Int) ∧ now = .slice an nL cn ∧ Hid (nL = L.length) ∧ Hid (nL ≤ 120) ∧ Hid (CellsAt wr an (elsV L)) ∧ Hid (Reg L tr) ∧ Hid (AtS wr tr) ∧ Hid (wr.heap[z]? = some (.cells #[.pointer (pa tr)] 27 (0, 0))) ∧ Hid (KeepX (fun k _ => k = z) v8 wr)) (fun _ i _ => 60 - (intOf i).toNat)
  case atStart => exact ⟨0, n, sortV l, t0, aw, cw, Nat.zero_le _, Nat.zero_le _, rfl, rfl, L0, Lib.hid (by omega), W8, R0, T8, M8, Lib.hid (KeepX.refl _)⟩
  case round =>
    obtain ⟨k, nL, L, tr, an, cn, hk, hk60, rfl, rfl, HNL, HNB, HCL, HR, HAt, HM, HKX⟩ := hrel
    have HAT8 : Hid (AtS wr t0) := Lib.hid (T8.out.keepX HKX.out M8.out (by decide))
    have HA8 : Hid (CellsAt wr b (elsV ws)) := Lib.hid (els_keepX A8.out HKX.out M8.out)
    have HW8 : Hid (CellsAt wr aw (elsV (sortV l))) := Lib.hid (els_keepX W8.out HKX.out M8.out)
    have HF : Hid (wr.heap[zF]? = some (.cells #[.pointer (pa t0)] 27 (0, 0))) := Lib.hid (HKX.out.row F8.out NE.out)
    have HBW : Hid (∀ W, Below wr.heap.size wr W → Below w.heap.size w W) := Lib.hid (fun W hW => by
      have h1 := HKX.out.toBelowZ (by have := Z8.out.2; omega)
      exact (B8.out.trans (h1.mono Z8.out.1)).trans (hW.mono (Nat.le_trans B8.out.size HKX.out.size)))
    have HC : Hid (Chain [wr] wr) := Lib.hid (Chain.one wr)
    by_cases h60 : k < 60
    · have h60i : (k : Int) < 60 := by omega
      by_cases hlt : k < n2
      · have hlti : (k : Int) < (n2 : Int) := by omega
        have hk1 : k < ws.length := by have := HN2.out; omega
        obtain ⟨ba, oa, rfl, ca⟩ := els_get HA8.out k hk1
        have HSX : Hid (ws[k].1.l.size ≤ 9223372036854775807) := Lib.hid (HS2.out _ (List.getElem_mem hk1))
        generalize ws[k] = x at *
        obtain ⟨p0, p1, p2, p3, p4, p5⟩ := ca
        have HL120 : Hid (L.length ≤ 100000) := Lib.hid (by have := HNL.out; have := HNB.out; omega)
        have HNB2 : Hid (nL ≤ 1000000) := Lib.hid (by have := HNB.out; omega)
        go_upto_region 14 with (fail)
        obtain ⟨cw1, hcw1⟩ : ∃ c, wr.heap.size = c := ⟨_, rfl⟩
        try rw [hcw1]
        obtain ⟨r1, hr1⟩ : ∃ X, allocs wr [.cells #[.int .i64 x.1.g, .int .i64 x.1.r, .string x.1.l, .int .i64 x.1.n, .int .i64 x.1.i, .string x.2] 43] = X := ⟨_, rfl⟩
        rw [show wr.alloc (.cells #[.int .i64 x.1.g, .int .i64 x.1.r, .string x.1.l, .int .i64 x.1.n, .int .i64 x.1.i, .string x.2] 43) = r1 from hr1]
        have hb : Below wr.heap.size wr r1 := by rw [← hr1]; exact allocs_below _ _
        have HW : Hid (r1.heap[cw1]? = some (.cells #[.int .i64 x.1.g, .int .i64 x.1.r, .string x.1.l, .int .i64 x.1.n, .int .i64 x.1.i, .string x.2] 43 (0, 0))) := Lib.hid (by have := allocs_get [.cells #[.int .i64 x.1.g, .int .i64 x.1.r, .string x.1.l, .int .i64 x.1.n, .int .i64 x.1.i, .string x.2] 43] wr 0 _ rfl; rw [hr1, hcw1] at this; exact this)
        have Scw1 : Hid (wr.heap.size = cw1) := Lib.hid hcw1
        replace HC := Lib.hid (HC.out.push hb)
        clear hb hr1 hcw1
        clear p0 p1 p2 p3 p4 p5
        have kM0 := cell_of_one (boxStays HM.out (HC.out.to wr (by simp)))
        have kW0 := cell_of_row _ _ 0 _ _ _ HW.out
        have kW1 := cell_of_row _ _ 1 _ _ _ HW.out
        have kW2 := cell_of_row _ _ 2 _ _ _ HW.out
        have kW3 := cell_of_row _ _ 3 _ _ _ HW.out
        have kW4 := cell_of_row _ _ 4 _ _ _ HW.out
        have kW5 := cell_of_row _ _ 5 _ _ _ HW.out
        go_wp2_with fail
        refine (wr_reg x.1 x.2 _ (HAt.out.below (HC.out.to wr (by simp)) rfl) HR.out HL120.out HSX.out).mono ?_
        rintro e r2 ⟨m, ce, rfl, hm, hb, hP⟩
        clear kM0 kW0 kW1 kW2 kW3 kW4 kW5
        replace HC := Lib.hid (HC.out.push hb)
        clear hb
        have TM := Lib.hid hm
        clear hm
        have SR2 : Hid (wr.heap.size ≤ r2.heap.size) := Lib.hid (HC.out.to wr (by simp)).size
        go_upto_region 15 with (fail)
        obtain ⟨cN, hcN⟩ : ∃ c, r2.heap.size = c := ⟨_, rfl⟩
        try rw [hcN]
        obtain ⟨r3, hr3⟩ : ∃ X, allocs r2 [.cells #[.pointer (pa m)] 27] = X := ⟨_, rfl⟩
        rw [show r2.alloc (.cells #[.pointer (pa m)] 27) = r3 from hr3]
        have hb : Below r2.heap.size r2 r3 := by rw [← hr3]; exact allocs_below _ _
        have HQB : Hid (r3.heap[cN]? = some (.cells #[.pointer (pa m)] 27 (0, 0))) := Lib.hid (by have := allocs_get [.cells #[.pointer (pa m)] 27] r2 0 _ rfl; rw [hr3, hcN] at this; exact this)
        have ScN : Hid (r2.heap.size = cN) := Lib.hid hcN
        replace HC := Lib.hid (HC.out.push hb)
        clear hb hr3 hcN
        have kW0 := cell_of_row _ _ 0 _ _ _ (boxStays HW.out (HC.out.to r1 (by simp)))
        have kW1 := cell_of_row _ _ 1 _ _ _ (boxStays HW.out (HC.out.to r1 (by simp)))
        have kW2 := cell_of_row _ _ 2 _ _ _ (boxStays HW.out (HC.out.to r1 (by simp)))
        have kW3 := cell_of_row _ _ 3 _ _ _ (boxStays HW.out (HC.out.to r1 (by simp)))
        have kW4 := cell_of_row _ _ 4 _ _ _ (boxStays HW.out (HC.out.to r1 (by simp)))
        have kW5 := cell_of_row _ _ 5 _ _ _ (boxStays HW.out (HC.out.to r1 (by simp)))
        go_wp2_with fail
        refine (ref12_Fits x.1 x.2 _ HSX.out).mono ?_
        rintro e r4 ⟨rfl, hb⟩
        clear kW0 kW1 kW2 kW3 kW4 kW5
        replace HC := Lib.hid (HC.out.push hb)
        clear hb
        obtain ⟨okx, hokx⟩ : ∃ q, okV (x.1, x.2) = q := ⟨_, rfl⟩
        obtain ⟨bhx, hbhx⟩ : ∃ q, behindV L x.1 = q := ⟨_, rfl⟩
        rw [hokx, hbhx] at hP
        have HBH : Hid (∀ W, CellsAt W an (elsV L) → Calls Try.prog 23 #[.slice an nL cn, .agg #[.int .i64 x.1.g, .int .i64 x.1.r, .string x.1.l, .int .i64 x.1.n, .int .i64 x.1.i]] W fun e w' => e = .returned (.bool bhx) ∧ Below W.heap.size W w') := Lib.hid (fun W hW => by
          rw [← hbhx]
          exact ref12_Behind L x.1 an nL cn W hW HNL.out HNB2.out HSX.out (ok_lsz HR.out.ok))
        rw [hokx]
        clear hokx hbhx
        cases okx
        case false =>
          obtain ⟨rfl, rfl⟩ : ce = 2 ∧ m = .nil := by
            rcases hP with ⟨h, _⟩ | ⟨_, h1, h2⟩
            · cases h
            · exact ⟨h1, h2⟩
          clear hP
          go_wp2_with fail
          refine (num_12 2 _).mono ?_
          rintro e _ ⟨rfl, rfl⟩
          have kQB0 := cell_of_one (boxStays HQB.out (HC.out.to r3 (by simp)))
          go_wp2_with fail
          refine (pm_MLenS .nil _ trivial).mono ?_
          rintro e r5 ⟨rfl, hb⟩
          clear kQB0
          replace HC := Lib.hid (HC.out.push hb)
          clear hb
          rw [show ((sz (Tr.nil : Tr ByteArray) : Nat) : Int) = 0 from rfl]
          have FA := Lib.hid (HAt.out.below (HC.out.to wr (by simp)) rfl)
          have FM := Lib.hid (boxStays HM.out (HC.out.to wr (by simp)))
          have FC := Lib.hid (HCL.out.below (HC.out.to wr (by simp)) rfl)
          have FK := Lib.hid (HKX.out.trans (KeepX.ofBelow (HC.out.to wr (by simp))))
          go_wp2_with fail
          go_roundw
          case rel => exact ⟨k + 1, nL, L, tr, an, cn, by omega, by omega, by go_num, rfl, HNL, HNB, FC, HR, FA, FM, FK⟩
          case measure => simp [intOf]; omega
        case true =>
          have kW0 := cell_of_row _ _ 0 _ _ _ (boxStays HW.out (HC.out.to r1 (by simp)))
          have kW1 := cell_of_row _ _ 1 _ _ _ (boxStays HW.out (HC.out.to r1 (by simp)))
          have kW2 := cell_of_row _ _ 2 _ _ _ (boxStays HW.out (HC.out.to r1 (by simp)))
          have kW3 := cell_of_row _ _ 3 _ _ _ (boxStays HW.out (HC.out.to r1 (by simp)))
          have kW4 := cell_of_row _ _ 4 _ _ _ (boxStays HW.out (HC.out.to r1 (by simp)))
          have kW5 := cell_of_row _ _ 5 _ _ _ (boxStays HW.out (HC.out.to r1 (by simp)))
          go_wp2_with fail
          refine (HBH.out _ (HCL.out.below (HC.out.to wr (by simp)) rfl)).mono ?_
          rintro e r5 ⟨rfl, hb⟩
          clear kW0 kW1 kW2 kW3 kW4 kW5
          replace HC := Lib.hid (HC.out.push hb)
          clear hb
          cases bhx
          case false =>
            obtain ⟨rfl, rfl⟩ : ce = 2 ∧ m = .nil := by
              rcases hP with ⟨h, _⟩ | ⟨_, h1, h2⟩
              · cases h
              · exact ⟨h1, h2⟩
            clear hP
            go_wp2_with fail
            refine (num_12 2 _).mono ?_
            rintro e _ ⟨rfl, rfl⟩
            have kQB0 := cell_of_one (boxStays HQB.out (HC.out.to r3 (by simp)))
            go_wp2_with fail
            refine (pm_MLenS .nil _ trivial).mono ?_
            rintro e r6 ⟨rfl, hb⟩
            clear kQB0
            replace HC := Lib.hid (HC.out.push hb)
            clear hb
            rw [show ((sz (Tr.nil : Tr ByteArray) : Nat) : Int) = 0 from rfl]
            have FA := Lib.hid (HAt.out.below (HC.out.to wr (by simp)) rfl)
            have FM := Lib.hid (boxStays HM.out (HC.out.to wr (by simp)))
            have FC := Lib.hid (HCL.out.below (HC.out.to wr (by simp)) rfl)
            have FK := Lib.hid (HKX.out.trans (KeepX.ofBelow (HC.out.to wr (by simp))))
            go_wp2_with fail
            go_roundw
            case rel => exact ⟨k + 1, nL, L, tr, an, cn, by omega, by omega, by go_num, rfl, HNL, HNB, FC, HR, FA, FM, FK⟩
            case measure => simp [intOf]; omega
          case true =>
            obtain ⟨rfl, hr⟩ : ce = 0 ∧ Reg [(x.1, x.2)] m := by
              rcases hP with ⟨_, h1, h2⟩ | ⟨h, _⟩
              · exact ⟨h1, h2⟩
              · cases h
            have RM := Lib.hid hr
            clear hP hr
            have NB5 := Lib.hid (boxStays HQB.out (HC.out.to r3 (by simp)))
            have W5 := Lib.hid (boxStays HW.out (HC.out.to r1 (by simp)))
            have M5 := Lib.hid (boxStays HM.out (HC.out.to wr (by simp)))
            have T5 := Lib.hid (TM.out.below (HC.out.to r2 (by simp)) rfl)
            have K5 := Lib.hid (HKX.out.trans (KeepX.ofBelow (HC.out.to wr (by simp))))
            have N1 : Hid (cw1 ≠ z ∧ cN ≠ z) := Lib.hid ⟨by have := Z8.out.2; have := Scw1.out; have := HKX.out.size; omega, by have := Z8.out.2; have := ScN.out; have := HKX.out.size; have := SR2.out; omega⟩
            go_upto_region 18 with (fail)
            have XZ : Hid (r5.drew.heap[z]? = some (.cells #[.pointer (pa tr)] 27 (0, 0))) := M5
            have XT : Hid (AtS r5.drew m) := Lib.hid (T5.out.below (Below.refl _ _).drew rfl)
            refine wp_region_noPanic ?_
            refine wp_region_held_drew (S := fun w' => KeepX (fun k _ => k = z) r5 w') (by kernel_rfl) (KeepX.refl _).drew (fun hS => ?_)
            refine wpAnyH_take (i := 0) (oi := ⟨some 94, _, _, _, _, _⟩) (v := ?_) rfl (by kernel_rfl) (by kernel_rfl) (by kernel_rfl) (fun _ _ _ h => h) (Or.inl ⟨by rfl, ?_⟩) hS ?_
            rotate_left 1
            · intro w' hB; have k0 := cell_of_one (hB.row NB5.out N1.out.2); have hww := hB.row W5.out N1.out.1; have w0 := cell_of_row _ cw1 0 _ _ _ hww; have w1 := cell_of_row _ cw1 1 _ _ _ hww; have w2 := cell_of_row _ cw1 2 _ _ _ hww; have w3 := cell_of_row _ cw1 3 _ _ _ hww; have w4 := cell_of_row _ cw1 4 _ _ _ hww; have w5 := cell_of_row _ cw1 5 _ _ _ hww; clear hww; (go_simp <;> with_reducible rfl)
            try simp only [Act.put, List.setIfInBounds_toArray, List.set_cons_zero, List.set_cons_succ]
            refine wpAnyH_take (i := 1) (oi := ⟨some 95, _, _, _, _, _⟩) (v := ?_) rfl (by kernel_rfl) (by kernel_rfl) (by kernel_rfl) (fun _ _ _ h => h) (Or.inl ⟨by rfl, ?_⟩) hS ?_
            rotate_left 1
            · intro w' hB; have k0 := cell_of_one (hB.row NB5.out N1.out.2); have hww := hB.row W5.out N1.out.1; have w0 := cell_of_row _ cw1 0 _ _ _ hww; have w1 := cell_of_row _ cw1 1 _ _ _ hww; have w2 := cell_of_row _ cw1 2 _ _ _ hww; have w3 := cell_of_row _ cw1 3 _ _ _ hww; have w4 := cell_of_row _ cw1 4 _ _ _ hww; have w5 := cell_of_row _ cw1 5 _ _ _ hww; clear hww; (go_simp <;> with_reducible rfl)
            try simp only [Act.put, List.setIfInBounds_toArray, List.set_cons_zero, List.set_cons_succ]
            refine wpAnyH_take (i := 2) (oi := ⟨some 96, _, _, _, _, _⟩) (v := ?_) rfl (by kernel_rfl) (by kernel_rfl) (by kernel_rfl) (fun _ _ _ h => h) (Or.inl ⟨by rfl, ?_⟩) hS ?_
            rotate_left 1
            · intro w' hB; have k0 := cell_of_one (hB.row NB5.out N1.out.2); have hww := hB.row W5.out N1.out.1; have w0 := cell_of_row _ cw1 0 _ _ _ hww; have w1 := cell_of_row _ cw1 1 _ _ _ hww; have w2 := cell_of_row _ cw1 2 _ _ _ hww; have w3 := cell_of_row _ cw1 3 _ _ _ hww; have w4 := cell_of_row _ cw1 4 _ _ _ hww; have w5 := cell_of_row _ cw1 5 _ _ _ hww; clear hww; (go_simp <;> with_reducible rfl)
            try simp only [Act.put, List.setIfInBounds_toArray, List.set_cons_zero, List.set_cons_succ]
            refine wpAnyH_take (i := 3) (oi := ⟨some 97, _, _, _, _, _⟩) (v := ?_) rfl (by kernel_rfl) (by kernel_rfl) (by kernel_rfl) (fun _ _ _ h => h) (Or.inl ⟨by rfl, ?_⟩) hS ?_
            rotate_left 1
            · intro w' hB; have k0 := cell_of_one (hB.row NB5.out N1.out.2); have hww := hB.row W5.out N1.out.1; have w0 := cell_of_row _ cw1 0 _ _ _ hww; have w1 := cell_of_row _ cw1 1 _ _ _ hww; have w2 := cell_of_row _ cw1 2 _ _ _ hww; have w3 := cell_of_row _ cw1 3 _ _ _ hww; have w4 := cell_of_row _ cw1 4 _ _ _ hww; have w5 := cell_of_row _ cw1 5 _ _ _ hww; clear hww; (go_simp <;> with_reducible rfl)
            try simp only [Act.put, List.setIfInBounds_toArray, List.set_cons_zero, List.set_cons_succ]
            refine wpAnyH_take (i := 4) (oi := ⟨some 98, _, _, _, _, _⟩) (v := ?_) rfl (by kernel_rfl) (by kernel_rfl) (by kernel_rfl) (fun _ _ _ h => h) (Or.inl ⟨by rfl, ?_⟩) hS ?_
            rotate_left 1
            · intro w' hB; have k0 := cell_of_one (hB.row NB5.out N1.out.2); have hww := hB.row W5.out N1.out.1; have w0 := cell_of_row _ cw1 0 _ _ _ hww; have w1 := cell_of_row _ cw1 1 _ _ _ hww; have w2 := cell_of_row _ cw1 2 _ _ _ hww; have w3 := cell_of_row _ cw1 3 _ _ _ hww; have w4 := cell_of_row _ cw1 4 _ _ _ hww; have w5 := cell_of_row _ cw1 5 _ _ _ hww; clear hww; (go_simp <;> with_reducible rfl)
            try simp only [Act.put, List.setIfInBounds_toArray, List.set_cons_zero, List.set_cons_succ]
            refine wpAnyH_take (i := 5) (oi := ⟨some 99, _, _, _, _, _⟩) (v := ?_) rfl (by kernel_rfl) (by kernel_rfl) (by kernel_rfl) (fun _ _ _ h => h) (Or.inl ⟨by rfl, ?_⟩) hS ?_
            rotate_left 1
            · intro w' hB; have k0 := cell_of_one (hB.row NB5.out N1.out.2); have hww := hB.row W5.out N1.out.1; have w0 := cell_of_row _ cw1 0 _ _ _ hww; have w1 := cell_of_row _ cw1 1 _ _ _ hww; have w2 := cell_of_row _ cw1 2 _ _ _ hww; have w3 := cell_of_row _ cw1 3 _ _ _ hww; have w4 := cell_of_row _ cw1 4 _ _ _ hww; have w5 := cell_of_row _ cw1 5 _ _ _ hww; clear hww; (go_simp <;> with_reducible rfl)
            try simp only [Act.put, List.setIfInBounds_toArray, List.set_cons_zero, List.set_cons_succ]
            refine wpAnyH_ready (rs := [6, 7]) (by kernel_rfl) (by simp) (AllReadyH.cons (o := ⟨some 100, _, _, _, _, _⟩) rfl (fun K hK => ?way4) (AllReadyH.cons (o := ⟨none, _, _, _, _, _⟩) rfl (fun K hK => ?way3) AllReadyH.nil))
            case' way4 =>
              go_simp
              refine hK.out _ _ (hS.alloc _) (fun _ => ?_)
              clear hK K
              refine wpAnyH_madeX hS ?_
              have hS0 := hS
              clear hS
              rintro r9 hw hS
              obtain ⟨c9, hc9, hx9⟩ := made_at hw
              (try simp at hc9)
              (try rw [hc9])
              have X9 := Lib.hid hx9
              have b9 : Below _ _ r9 := (by rw [hw]; exact below_new _ _)
              replace XZ := Lib.hid (boxStays XZ.out b9)
              replace XT := Lib.hid (XT.out.below b9 rfl)
              have G9 : Hid (c9 ≠ z) := Lib.hid (by have := (Array.getElem?_eq_some_iff.1 M5.out).1; have := hS0.size; omega)
              clear hc9 hx9 b9
              clear hw hS0
              try simp only [Act.put, List.setIfInBounds_toArray, List.set_cons_zero, List.set_cons_succ]
              refine wpAnyH_ready (rs := [7]) (by kernel_rfl) (by simp) (AllReadyH.cons (o := ⟨none, _, _, _, _, _⟩) rfl (fun K hK => ?_) AllReadyH.nil)
              have k19 := cell_of_one XZ.out
              have f19 := frozen_of_row _ z 0 _ _ XZ.out
              replace hS := KeepX.setRow hS XZ.out rfl 0 (Value.pointer (pa m))
              replace XT := Lib.hid (XT.out.setBox XZ.out (by decide) 0 (Value.pointer (pa m)))
              (try replace X9 := Lib.hid (show (r9.setCell ⟨z, 0, none⟩ (Value.pointer (pa m))).heap[c9]? = _ from (Below.heap_setCell _ _ _ _ (show c9 ≠ z from G9.out)).trans X9.out))
              replace XZ := Lib.hid (Boxed.set (t := 27) (.pointer (pa m)) XZ.out)
              go_simp
              refine hK.out _ _ hS (fun _ => ?_)
              clear hK K k19 f19
              try simp only [Act.put, List.setIfInBounds_toArray, List.set_cons_zero, List.set_cons_succ]
              refine wpAnyH_take (i := 8) (oi := ⟨some 9, _, _, _, _, _⟩) (v := ?_) rfl (by kernel_rfl) (by kernel_rfl) (by kernel_rfl) (fun _ _ _ h => h) (Or.inl ⟨by rfl, ?_⟩) hS ?_
              rotate_left 1
              · intro w' hB; have k0 := cell_of_one (hB.row NB5.out N1.out.2); have hww := hB.row W5.out N1.out.1; have w0 := cell_of_row _ cw1 0 _ _ _ hww; have w1 := cell_of_row _ cw1 1 _ _ _ hww; have w2 := cell_of_row _ cw1 2 _ _ _ hww; have w3 := cell_of_row _ cw1 3 _ _ _ hww; have w4 := cell_of_row _ cw1 4 _ _ _ hww; have w5 := cell_of_row _ cw1 5 _ _ _ hww; clear hww; (go_simp <;> with_reducible rfl)
              try simp only [Act.put, List.setIfInBounds_toArray, List.set_cons_zero, List.set_cons_succ]
              refine wpAnyH_done (by kernel_rfl) (NoPanic.normal ?_) _
            case' way3 =>
              have k19 := cell_of_one XZ.out
              have f19 := frozen_of_row _ z 0 _ _ XZ.out
              replace hS := KeepX.setRow hS XZ.out rfl 0 (Value.pointer (pa m))
              replace XT := Lib.hid (XT.out.setBox XZ.out (by decide) 0 (Value.pointer (pa m)))
              (try replace X9 := Lib.hid (show (r9.setCell ⟨z, 0, none⟩ (Value.pointer (pa m))).heap[c9]? = _ from (Below.heap_setCell _ _ _ _ (show c9 ≠ z from G9.out)).trans X9.out))
              replace XZ := Lib.hid (Boxed.set (t := 27) (.pointer (pa m)) XZ.out)
              go_simp
              refine hK.out _ _ hS (fun _ => ?_)
              clear hK K k19 f19
              try simp only [Act.put, List.setIfInBounds_toArray, List.set_cons_zero, List.set_cons_succ]
              refine wpAnyH_ready (rs := [6]) (by kernel_rfl) (by simp) (AllReadyH.cons (o := ⟨some 100, _, _, _, _, _⟩) rfl (fun K hK => ?_) AllReadyH.nil)
              go_simp
              refine hK.out _ _ (hS.alloc _) (fun _ => ?_)
              clear hK K
              refine wpAnyH_madeX hS ?_
              have hS0 := hS
              clear hS
              rintro r9 hw hS
              obtain ⟨c9, hc9, hx9⟩ := made_at hw
              (try simp at hc9)
              (try rw [hc9])
              have X9 := Lib.hid hx9
              have b9 : Below _ _ r9 := (by rw [hw]; exact below_new _ _)
              replace XZ := Lib.hid (boxStays XZ.out b9)
              replace XT := Lib.hid (XT.out.below b9 rfl)
              have G9 : Hid (c9 ≠ z) := Lib.hid (by have := (Array.getElem?_eq_some_iff.1 M5.out).1; have := hS0.size; omega)
              clear hc9 hx9 b9
              clear hw hS0
              try simp only [Act.put, List.setIfInBounds_toArray, List.set_cons_zero, List.set_cons_succ]
              refine wpAnyH_take (i := 8) (oi := ⟨some 9, _, _, _, _, _⟩) (v := ?_) rfl (by kernel_rfl) (by kernel_rfl) (by kernel_rfl) (fun _ _ _ h => h) (Or.inl ⟨by rfl, ?_⟩) hS ?_
              rotate_left 1
              · intro w' hB; have k0 := cell_of_one (hB.row NB5.out N1.out.2); have hww := hB.row W5.out N1.out.1; have w0 := cell_of_row _ cw1 0 _ _ _ hww; have w1 := cell_of_row _ cw1 1 _ _ _ hww; have w2 := cell_of_row _ cw1 2 _ _ _ hww; have w3 := cell_of_row _ cw1 3 _ _ _ hww; have w4 := cell_of_row _ cw1 4 _ _ _ hww; have w5 := cell_of_row _ cw1 5 _ _ _ hww; clear hww; (go_simp <;> with_reducible rfl)
              try simp only [Act.put, List.setIfInBounds_toArray, List.set_cons_zero, List.set_cons_succ]
              refine wpAnyH_done (by kernel_rfl) (NoPanic.normal ?_) _
            all_goals
              first
                | (have XQ : AtS (r9.setCell ⟨z, 0, none⟩ (.pointer (pa m))) m := XT.out; clear XQ; generalize r9.setCell ⟨z, 0, none⟩ (.pointer (pa m)) = rF at *)
                | obtain ⟨rF, rfl⟩ : ∃ X : World, X = r9 := ⟨_, rfl⟩
              have CX : Hid (CellsAt rF (some ⟨c9, 0, none⟩) (elsV [x])) := Lib.hid (cells_row X9.out)
              have FK := Lib.hid (K5.out.trans hS)
              have HM : Hid (rF.heap[z]? = some (.cells #[.pointer (pa m)] 27 (0, 0))) := Lib.hid XZ.out
              clear hS X9 XZ HC M5 NB5 W5 K5 T5
              have HC : Hid (Chain [rF] rF) := Lib.hid (Chain.one rF)
              go_wp2_with fail
              refine (num_12 0 _).mono ?_
              rintro e _ ⟨rfl, rfl⟩
              have kM0 := cell_of_one HM.out
              go_wp2_with fail
              refine (stands_12 [x] m (some ⟨c9, 0, none⟩) 1 1 _ XT.out RM.out CX.out rfl (by omega)).mono ?_
              rintro e rG ⟨rfl, hb⟩
              clear kM0
              replace HC := Lib.hid (HC.out.push hb)
              clear hb
              have FA := Lib.hid (XT.out.below (HC.out.to rF (by simp)) rfl)
              have FM := Lib.hid (boxStays HM.out (HC.out.to rF (by simp)))
              have FC := Lib.hid (CX.out.below (HC.out.to rF (by simp)) rfl)
              have FK2 := Lib.hid (FK.out.trans (KeepX.ofBelow (HC.out.to rF (by simp))))
              go_wp2_with fail
              go_roundw
              case rel => exact ⟨k + 1, 1, [x], m, some ⟨c9, 0, none⟩, 1, by omega, by omega, by go_num, rfl, Lib.hid rfl, Lib.hid (by omega), FC, RM, FA, FM, FK2⟩
              case measure => simp [intOf]; omega
      ·
        have hlti : ¬ (k : Int) < (n2 : Int) := by omega
        have kF0 := cell_of_one HF.out
        go_wp2_with fail
        refine (stands_12 (sortV l) t0 _ n _ _ (HAT8.out.below (HC.out.to wr (by simp)) rfl) R0.out (HW8.out.below (HC.out.to wr (by simp)) rfl) L0.out (by omega)).mono ?_
        rintro e y1 ⟨rfl, hb⟩
        clear kF0
        replace HC := Lib.hid (HC.out.push hb)
        clear hb
        go_wp2_with fail
        refine (known_12 _).mono ?_
        rintro e y2 ⟨rfl, hb⟩
        replace HC := Lib.hid (HC.out.push hb)
        clear hb
        go_wp2_with fail
        go_ret
        exact ⟨rfl, HBW.out _ (HC.out.to wr (by simp))⟩
    ·
      have h60i : ¬ (k : Int) < 60 := by omega
      by_cases hlt : k < n2
      · have hlti : (k : Int) < (n2 : Int) := by omega
        have kF0 := cell_of_one HF.out
        go_wp2_with fail
        refine (stands_12 (sortV l) t0 _ n _ _ (HAT8.out.below (HC.out.to wr (by simp)) rfl) R0.out (HW8.out.below (HC.out.to wr (by simp)) rfl) L0.out (by omega)).mono ?_
        rintro e y1 ⟨rfl, hb⟩
        clear kF0
        replace HC := Lib.hid (HC.out.push hb)
        clear hb
        go_wp2_with fail
        refine (known_12 _).mono ?_
        rintro e y2 ⟨rfl, hb⟩
        replace HC := Lib.hid (HC.out.push hb)
        clear hb
        go_wp2_with fail
        go_ret
        exact ⟨rfl, HBW.out _ (HC.out.to wr (by simp))⟩
      ·
        have hlti : ¬ (k : Int) < (n2 : Int) := by omega
        have kF0 := cell_of_one HF.out
        go_wp2_with fail
        refine (stands_12 (sortV l) t0 _ n _ _ (HAT8.out.below (HC.out.to wr (by simp)) rfl) R0.out (HW8.out.below (HC.out.to wr (by simp)) rfl) L0.out (by omega)).mono ?_
        rintro e y1 ⟨rfl, hb⟩
        clear kF0
        replace HC := Lib.hid (HC.out.push hb)
        clear hb
        go_wp2_with fail
        refine (known_12 _).mono ?_
        rintro e y2 ⟨rfl, hb⟩
        replace HC := Lib.hid (HC.out.push hb)
        clear hb
        go_wp2_with fail
        go_ret
        exact ⟨rfl, HBW.out _ (HC.out.to wr (by simp))⟩
end Go.Proofs.Ytnpiepimajippaa
namespace Go.Proofs.Ytnpiepimajippaa
open Go.ChangeShapes Go.WideShapes Go.ChangeAt Go.RowKit Go.Deep
section
variable {H : Type} {enc : TypeId × Value → H} {P : Program} {w : World} {base : Nat} {held : Bool}
theorem spot_none {a : Addr} {v : Value} (h : w.cell? (a.add 0) = some v) : ∃ b off, a = ⟨b, off, none⟩ := by
  obtain ⟨b, off, spot⟩ := a
  have hs : spot = none := by simpa [Addr.add] using World.cell?_spot h
  subst hs
  exact ⟨b, off, rfl⟩
end
end Go.Proofs.Ytnpiepimajippaa
namespace Go.Proofs.Ytnpiepimajippaa
open Go.ChangeShapes Go.WideShapes Go.ChangeAt Go.RowKit Go.Deep St
section
variable {H : Type} {enc : TypeId × Value → H} {w : World} {base : Nat} {held : Bool}
theorem maxLen_small {n : Nat} (h : n ≤ maxLen) : n ≤ 9223372036854775807 := by unfold maxLen at h; omega
set_option maxRecDepth 100000 in
theorem open_br {fuel : Nat} {cs : List Value} {x : DataW H × List MemPlace} (h : DataW.trod enc Try.prog w base (fun _ => true) held fuel 37 cs = some x) :
    ∃ (r : Int) (l : ByteArray), cs = [.int .i64 r, .string l] ∧ l.size ≤ maxLen := by
  obtain ⟨xs, n, _, _, hlen, hz, hff⟩ := DataW.trod_struct Try.underlying37 h
  rw [show Try.prog.cellsOf 37 = 2 by kernel_rfl] at hlen
  match cs, hlen with
  | [v0, v1], _ =>
    have q0 := hff 0 _ rfl
    have q1 := hff 1 _ rfl
    rw [List.getElem?_eq_getElem (by rw [hz]; decide)] at q0 q1
    change DataW.trod enc _ w base _ held n 3 (List.take (Try.prog.cellsOf 3) [v0, v1]) = _ at q0
    change DataW.trod enc _ w base _ held n 9 (List.take (Try.prog.cellsOf 9) [v1]) = _ at q1
    rw [show Try.prog.cellsOf 3 = 1 by kernel_rfl] at q0
    rw [show Try.prog.cellsOf 9 = 1 by kernel_rfl] at q1
    obtain ⟨r, k0, _⟩ := DataW.trod_int Try.underlying3 q0
    obtain ⟨l, k1, _, k2⟩ := DataW.trod_string Try.underlying9 q1
    simp only [List.take, List.cons.injEq, and_true] at k0 k1
    subst k0 k1
    exact ⟨r, l, rfl, k2⟩
set_option maxRecDepth 100000 in
theorem open_nm {fuel : Nat} {cs : List Value} {x : DataW H × List MemPlace} (h : DataW.trod enc Try.prog w base (fun _ => true) held fuel 39 cs = some x) :
    ∃ (r : Int) (l : ByteArray) (k : Int), cs = [.int .i64 r, .string l, .int .i64 k] ∧ l.size ≤ maxLen := by
  obtain ⟨xs, n, _, _, hlen, hz, hff⟩ := DataW.trod_struct Try.underlying39 h
  rw [show Try.prog.cellsOf 39 = 3 by kernel_rfl] at hlen
  match cs, hlen with
  | [v0, v1, v2], _ =>
    have q0 := hff 0 _ rfl
    have q1 := hff 1 _ rfl
    rw [List.getElem?_eq_getElem (by rw [hz]; decide)] at q0 q1
    change DataW.trod enc _ w base _ held n 37 (List.take (Try.prog.cellsOf 37) [v0, v1, v2]) = _ at q0
    change DataW.trod enc _ w base _ held n 2 (List.take (Try.prog.cellsOf 2) [v2]) = _ at q1
    rw [show Try.prog.cellsOf 37 = 2 by kernel_rfl] at q0
    rw [show Try.prog.cellsOf 2 = 1 by kernel_rfl] at q1
    obtain ⟨r, l, k0, kl⟩ := open_br q0
    obtain ⟨k, k1, _⟩ := DataW.trod_int Try.underlying2 q1
    simp only [List.take, List.cons.injEq, and_true] at k0 k1
    obtain ⟨k0, k0'⟩ := k0
    subst k0 k0' k1
    exact ⟨r, l, k, rfl, kl⟩
set_option maxRecDepth 100000 in
theorem open_sv {fuel : Nat} {cs : List Value} {x : DataW H × List MemPlace} (h : DataW.trod enc Try.prog w base (fun _ => true) held fuel 41 cs = some x) :
    ∃ s : Sv, cs = [.int .i64 s.g, .int .i64 s.r, .string s.l, .int .i64 s.n, .int .i64 s.i] ∧ s.l.size ≤ maxLen := by
  obtain ⟨xs, n, _, _, hlen, hz, hff⟩ := DataW.trod_struct Try.underlying41 h
  rw [show Try.prog.cellsOf 41 = 5 by kernel_rfl] at hlen
  match cs, hlen with
  | [v0, v1, v2, v3, v4], _ =>
    have q0 := hff 0 _ rfl
    have q1 := hff 1 _ rfl
    have q2 := hff 2 _ rfl
    rw [List.getElem?_eq_getElem (by rw [hz]; decide)] at q0 q1 q2
    change DataW.trod enc _ w base _ held n 2 (List.take (Try.prog.cellsOf 2) [v0, v1, v2, v3, v4]) = _ at q0
    change DataW.trod enc _ w base _ held n 39 (List.take (Try.prog.cellsOf 39) [v1, v2, v3, v4]) = _ at q1
    change DataW.trod enc _ w base _ held n 3 (List.take (Try.prog.cellsOf 3) [v4]) = _ at q2
    rw [show Try.prog.cellsOf 2 = 1 by kernel_rfl] at q0
    rw [show Try.prog.cellsOf 39 = 3 by kernel_rfl] at q1
    rw [show Try.prog.cellsOf 3 = 1 by kernel_rfl] at q2
    obtain ⟨g, k0, _⟩ := DataW.trod_int Try.underlying2 q0
    obtain ⟨r, l, k, k1, kl⟩ := open_nm q1
    obtain ⟨i, k2, _⟩ := DataW.trod_int Try.underlying3 q2
    simp only [List.take, List.cons.injEq, and_true] at k0 k1 k2
    obtain ⟨e1, e2, e3⟩ := k1
    subst k0 e1 e2 e3 k2
    exact ⟨⟨g, r, l, k, i⟩, rfl, kl⟩
set_option maxRecDepth 100000 in
theorem open_ev {fuel : Nat} {cs : List Value} {x : DataW H × List MemPlace} (h : DataW.trod enc Try.prog w base (fun _ => true) held fuel 47 cs = some x) :
    ∃ e : Ev, cs = elV e ∧ e.1.l.size ≤ maxLen ∧ e.2.size ≤ maxLen := by
  obtain ⟨xs, n, _, _, hlen, hz, hff⟩ := DataW.trod_struct Try.underlying47 h
  rw [show Try.prog.cellsOf 47 = 6 by kernel_rfl] at hlen
  match cs, hlen with
  | [v0, v1, v2, v3, v4, v5], _ =>
    have q0 := hff 0 _ rfl
    have q1 := hff 1 _ rfl
    rw [List.getElem?_eq_getElem (by rw [hz]; decide)] at q0 q1
    change DataW.trod enc _ w base _ held n 41 (List.take (Try.prog.cellsOf 41) [v0, v1, v2, v3, v4, v5]) = _ at q0
    change DataW.trod enc _ w base _ held n 9 (List.take (Try.prog.cellsOf 9) [v5]) = _ at q1
    rw [show Try.prog.cellsOf 41 = 5 by kernel_rfl] at q0
    rw [show Try.prog.cellsOf 9 = 1 by kernel_rfl] at q1
    obtain ⟨s, k0, kl⟩ := open_sv q0
    obtain ⟨t, k1, _, kt⟩ := DataW.trod_string Try.underlying9 q1
    simp only [List.take, List.cons.injEq, and_true] at k0 k1
    obtain ⟨e1, e2, e3, e4, e5⟩ := k0
    subst e1 e2 e3 e4 e5 k1
    exact ⟨(s, t), rfl, kl, kt⟩
theorem flat_get {α : Type} (f : α → List Value) (m : Nat) (hf : ∀ x, (f x).length = m) (hm : 0 < m) : ∀ (l : List α) (i r : Nat) (hi : i < l.length), r < m → (l.flatMap f)[i * m + r]? = (f l[i])[r]?
  | [], i, r, hi, _ => by simp at hi
  | x :: l, 0, r, _, hr => by
    rw [List.flatMap_cons, Nat.zero_mul, Nat.zero_add, List.getElem?_append_left (by rw [hf]; exact hr)]
    rfl
  | x :: l, i + 1, r, hi, hr => by
    rw [List.flatMap_cons, List.getElem?_append_right (by rw [hf, Nat.succ_mul]; omega), hf, Nat.succ_mul]
    rw [show i * m + m + r - m = i * m + r by omega, flat_get f m hf hm l i r (by simpa using hi) hr]
    rfl
theorem flat_len {α : Type} (f : α → List Value) (m : Nat) (hf : ∀ x, (f x).length = m) : ∀ (l : List α), (l.flatMap f).length = l.length * m
  | [] => by simp
  | x :: l => by rw [List.flatMap_cons, List.length_append, hf, flat_len f m hf l, List.length_cons, Nat.succ_mul]; omega
theorem open_structs {α : Type} [Inhabited α] (f : α → List Value) (m : Nat) (hf : ∀ x, (f x).length = m) (hm : 0 < m) (G : α → Prop) {t e : TypeId} {fuel : Nat} {a0 : Option Addr} {len cap : Nat} {x : DataW H × List MemPlace} (ht : Try.prog.underlying t = some (.slice e)) (ce : Try.prog.cellsOf e = m)
    (each : ∀ {fuel : Nat} {cs : List Value} {x : DataW H × List MemPlace}, DataW.trod enc Try.prog w base (fun _ => true) held fuel e cs = some x → ∃ y : α, cs = f y ∧ G y)
    (h : DataW.trod enc Try.prog w base (fun _ => true) held fuel t (Value.slice a0 len cap).cells.toList = some x) :
    ∃ l : List α, len = l.length ∧ CellsAt w a0 (l.flatMap f) ∧ l.length ≤ maxLen ∧ ∀ y ∈ l, G y := by
  rcases open_slice ht h with ⟨hcs, _⟩ | ⟨a, l, c, k, n, D, Pl, hcs, _, hl, hmx, hmm, hx, hi⟩
  · simp [Value.cells] at hcs
    obtain ⟨rfl, rfl, rfl⟩ := hcs
    exact ⟨[], rfl, CellsAt.nil _ _, Nat.zero_le _, fun y hy => by cases hy⟩
  · simp [Value.cells] at hcs
    obtain ⟨rfl, rfl, rfl⟩ := hcs
    simp only [if_true] at hmm
    subst hmm
    have each2 : ∀ i, i < k → ∃ y : α, (∀ r, r < m → w.cell? ((a.add (i * m)).add r) = (f y)[r]?) ∧ G y := by
      intro i hik
      obtain ⟨cs', hc, htr⟩ := hi i hik
      rw [ce] at hc
      obtain ⟨y, rfl, hg⟩ := each htr
      obtain ⟨_, hcl, hat⟩ := World.cells?_some hc
      refine ⟨y, fun r hr => ?_, hg⟩
      have := hat r hr
      rw [this]
      try rw [List.getElem?_eq_getElem]
      done
    obtain ⟨F, hF⟩ := choose_lt (α := α) (n := k) (p := fun i y => (∀ r, r < m → w.cell? ((a.add (i * m)).add r) = (f y)[r]?) ∧ G y) each2
    refine ⟨(List.range len).map F, by simp, fun q hq => ?_, by simp; omega, fun y hy => ?_⟩
    · have hlenF : (((List.range len).map F).flatMap f).length = len * m := by rw [flat_len f m hf]; simp
      have hq2 : q < len * m := by rw [← hlenF]; exact hq
      have hqm : q / m < len := Nat.div_lt_of_lt_mul (by rw [Nat.mul_comm]; exact hq2)
      have hp : 0 < k := Nat.lt_of_le_of_lt (Nat.zero_le _) (Nat.lt_of_lt_of_le hqm hl)
      have z0 := (hF 0 hp).1 0 hm
      rw [List.getElem?_eq_getElem (by rw [hf]; exact hm), Nat.zero_mul] at z0
      obtain ⟨b, off, rfl⟩ := spot_none (a := a) z0
      refine ⟨b, off, rfl, ?_⟩
      have hr : q % m < m := Nat.mod_lt _ hm
      have hk := (hF (q / m) (Nat.lt_of_lt_of_le hqm hl)).1 (q % m) hr
      have hg := flat_get f m hf hm ((List.range len).map F) (q / m) (q % m) (by simpa using hqm) hr
      simp only [List.getElem_map, List.getElem_range] at hg
      have hqe : q / m * m + q % m = q := by rw [Nat.mul_comm]; exact Nat.div_add_mod q m
      rw [hqe] at hg
      rw [Addr_add, Addr_add, Nat.add_assoc, hqe] at hk
      rw [hk, ← hg, List.getElem?_eq_getElem hq]
    · obtain ⟨i, hi', rfl⟩ := List.mem_map.1 hy
      exact (hF i (by have := List.mem_range.1 hi'; omega)).2
instance : Inhabited Ev := ⟨(⟨0, 0, ⟨#[]⟩, 0, 0⟩, ⟨#[]⟩)⟩
theorem open_els {fuel : Nat} {a0 : Option Addr} {len cap : Nat} {x : DataW H × List MemPlace} (h : DataW.trod enc Try.prog w base (fun _ => true) held fuel 22 (Value.slice a0 len cap).cells.toList = some x) :
    ∃ l : List Ev, len = l.length ∧ CellsAt w a0 (elsV l) ∧ l.length ≤ maxLen ∧ ∀ e ∈ l, e.1.l.size ≤ 9223372036854775807 ∧ e.2.size ≤ maxLen :=
  open_structs (α := Ev) elV 6 (fun _ => rfl) (by omega) (fun e => e.1.l.size ≤ 9223372036854775807 ∧ e.2.size ≤ maxLen) Try.underlying22 (by kernel_rfl) (fun h => by obtain ⟨e, h1, h2, h3⟩ := open_ev h; exact ⟨e, h1, maxLen_small h2, h3⟩) h
end
end Go.Proofs.Ytnpiepimajippaa
namespace Go.Proofs.Ytnpiepimajippaa
open Go.ChangeShapes Go.WideShapes Go.ChangeAt Go.RowKit Go.Deep St
section
variable {H : Type} {enc : TypeId × Value → H} {w : World} {base : Nat} {held : Bool}
set_option maxRecDepth 100000 in
theorem open_wr {fuel : Nat} {cs : List Value} {x : DataW H × List MemPlace} (h : DataW.trod enc Try.prog w base (fun _ => true) held fuel 43 cs = some x) :
    ∃ e : Ev, cs = elV e ∧ e.1.l.size ≤ maxLen ∧ e.2.size ≤ maxLen := by
  obtain ⟨xs, n, _, _, hlen, hz, hff⟩ := DataW.trod_struct Try.underlying43 h
  rw [show Try.prog.cellsOf 43 = 6 by kernel_rfl] at hlen
  match cs, hlen with
  | [v0, v1, v2, v3, v4, v5], _ =>
    have q0 := hff 0 _ rfl
    have q1 := hff 1 _ rfl
    rw [List.getElem?_eq_getElem (by rw [hz]; decide)] at q0 q1
    change DataW.trod enc _ w base _ held n 41 (List.take (Try.prog.cellsOf 41) [v0, v1, v2, v3, v4, v5]) = _ at q0
    change DataW.trod enc _ w base _ held n 9 (List.take (Try.prog.cellsOf 9) [v5]) = _ at q1
    rw [show Try.prog.cellsOf 41 = 5 by kernel_rfl] at q0
    rw [show Try.prog.cellsOf 9 = 1 by kernel_rfl] at q1
    obtain ⟨s, k0, kl⟩ := open_sv q0
    obtain ⟨t, k1, _, kt⟩ := DataW.trod_string Try.underlying9 q1
    simp only [List.take, List.cons.injEq, and_true] at k0 k1
    obtain ⟨e1, e2, e3, e4, e5⟩ := k0
    subst e1 e2 e3 e4 e5 k1
    exact ⟨(s, t), rfl, kl, kt⟩
theorem open_wrs {fuel : Nat} {a0 : Option Addr} {len cap : Nat} {x : DataW H × List MemPlace} (h : DataW.trod enc Try.prog w base (fun _ => true) held fuel 23 (Value.slice a0 len cap).cells.toList = some x) :
    ∃ l : List Ev, len = l.length ∧ CellsAt w a0 (elsV l) ∧ l.length ≤ maxLen ∧ ∀ e ∈ l, e.1.l.size ≤ 9223372036854775807 ∧ e.2.size ≤ maxLen :=
  open_structs (α := Ev) elV 6 (fun _ => rfl) (by omega) (fun e => e.1.l.size ≤ 9223372036854775807 ∧ e.2.size ≤ maxLen) Try.underlying23 (by kernel_rfl) (fun h => by obtain ⟨e, h1, h2, h3⟩ := open_wr h; exact ⟨e, h1, maxLen_small h2, h3⟩) h
end
end Go.Proofs.Ytnpiepimajippaa
