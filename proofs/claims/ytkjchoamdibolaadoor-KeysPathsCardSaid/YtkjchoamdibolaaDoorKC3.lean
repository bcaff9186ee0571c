/- Words, contracts and walks that the proof stands on (Rel KyW KyX KsD Range Range2 HeldW KeepE Marks KsE KpU). -/
import Derived.BigQuiet
import Derived.Deep.QuietTactic
import Derived.Deep.RegionHeld3
import Derived.Lib.ConvBytes
import Derived.OneCell
import Derived.OwnWalkIn
import Derived.RangeFuncBound
import Derived.RangeFuncBox
import Derived.RangeFuncCalls
import Derived.RangeFuncFrom
import Derived.RangeFuncKeeps
import Derived.RangeFuncLeaves
import Derived.RangeFuncNested
import Derived.RangeFuncWrites
import Derived.Shelf.RegionOpen
import Derived.Test.YtkjchoamdibolaaDoorKC1
import Derived.Test.YtkjchoamdibolaaDoorKC2
import Derived.WalkLawsBesides
namespace Go.Proofs.YtkjchoamdibolaaDoor
open Go.RowKit
abbrev Pr := Value → World → Prop
def anyV : Pr := fun _ _ => True
def Stay (g : Pr) : Prop := ∀ v w w', g v w → Below w.heap.size w w' → g v w'
def dstN (ops : Array Oper) (i : Nat) : Option Nat := (ops[i]?).bind (·.dst)
def dstsOK (ops : Array Oper) (slots : List Nat) : Bool := (List.range ops.size).all fun i => match dstN ops i with
 | none => true
 | some d => slots.contains d && (List.range ops.size).all fun j => j == i || dstN ops j != some d
def lkG (gs : List Pr) (j : Nat) : Pr := if j < gs.length then gs.getD (gs.length - 1 - j) anyV else anyV
theorem lkG_old (gs : List Pr) (g : Pr) (j : Nat) (h : j < gs.length) : lkG (g :: gs) j = lkG gs j := by
 unfold lkG
 rw [if_pos h, if_pos (by rw [List.length_cons]; omega), List.length_cons, show gs.length + 1 - 1 - j = (gs.length - 1 - j) + 1 by omega, List.getD_cons_succ]
theorem lkG_new (gs : List Pr) (g : Pr) : lkG (g :: gs) gs.length = g := by
 unfold lkG
 rw [if_pos (by rw [List.length_cons]; omega), List.length_cons, show gs.length + 1 - 1 - gs.length = 0 by omega, List.getD_cons_zero]
def depsOK (ops : Array Oper) (i : Nat) (ds : List (Nat × Nat × Nat)) : Bool := ds.all fun p => ((preOf ops i).contains p.1 && dstN ops p.1 == some p.2.1) && decide (p.1 + p.2.2 + 1 = i)
def finOK (ops : Array Oper) (ds : List (Nat × Nat × Nat)) : Bool := ds.all fun p => decide (p.1 + p.2.2 + 1 = ops.size) && dstN ops p.1 == some p.2.1
def DepF (gs : List Pr) (t : Array Value) (w : World) : List (Nat × Nat × Nat) → Prop
 | [] => True
 | p :: ds => (∃ x, (t.getD p.2.1 undef = x ∧ t[p.2.1]?.getD undef = x) ∧ gs.getD p.2.2 anyV x w) ∧ DepF gs t w ds
def FinF (gs : List Pr) (f : Nat → Value) (w : World) : List (Nat × Nat × Nat) → Prop
 | [] => True
 | p :: ds => (∃ x, f p.2.1 = x ∧ gs.getD p.2.2 anyV x w) ∧ FinF gs f w ds
def BasF (base t : Array Value) : List Nat → Prop
 | [] => True
 | k :: ks => (t.getD k undef = base.getD k undef ∧ t[k]?.getD undef = base.getD k undef) ∧ BasF base t ks
theorem wanted_none {o : Oper} {y : Nat → Option Bool} (h : o.guard = none) : Region.wanted o y = true := by simp [Region.wanted, h]
theorem getD_two {t : Array Value} {k : Nat} {v : Value} (h : t.getD k undef = v) : t[k]?.getD undef = v := by rwa [Array.getD_eq_getD_getElem?] at h
theorem basF_of {base : Array Value} {slots : List Nat} {f : Nat → Value} : ∀ {bs : List Nat}, (bs.all fun k => !slots.contains k) = true → BasF base (regT base slots f) bs
 | [], _ => trivial
 | k :: ks, h => by
  simp only [List.all_cons, Bool.and_eq_true] at h
  exact ⟨⟨regT_out (by simpa using h.1), getD_two (regT_out (by simpa using h.1))⟩, basF_of h.2⟩
theorem depF_of {ops : Array Oper} {gs : List Pr} {base : Array Value} {slots : List Nat} {f : Nat → Value} {w : World} {i : Nat} (hl : gs.length = i) (hsl : ∀ j d, dstN ops j = some d → d ∈ slots) (hsz : ∀ d ∈ slots, d < base.size)
 (hp : ∀ j ∈ preOf ops i, ∀ d, dstN ops j = some d → j < i → lkG gs j (f d) w) : ∀ {ds : List (Nat × Nat × Nat)}, depsOK ops i ds = true → DepF gs (regT base slots f) w ds
 | [], _ => trivial
 | p :: ds, h => by
  simp only [depsOK, List.all_cons, Bool.and_eq_true] at h
  obtain ⟨⟨⟨h1, h2⟩, h4⟩, h3⟩ := h
  have e : dstN ops p.1 = some p.2.1 := by simpa using h2
  have hd := hsl _ _ e
  have hj : p.1 + p.2.2 + 1 = i := by simpa using h4
  have e1 := regT_in (f := f) hd (hsz _ hd)
  have h5 := hp _ (by simpa using h1) _ e (by omega)
  unfold lkG at h5
  rw [if_pos (by omega), show gs.length - 1 - p.1 = p.2.2 by omega] at h5
  exact ⟨⟨f p.2.1, ⟨e1, getD_two e1⟩, h5⟩, depF_of hl hsl hsz hp h3⟩
theorem finF_of {ops : Array Oper} {gs : List Pr} {f : Nat → Value} {w : World} (hl : gs.length = ops.size) (hp : ∀ j, j < ops.size → ∀ d, dstN ops j = some d → lkG gs j (f d) w) : ∀ {ds : List (Nat × Nat × Nat)}, finOK ops ds = true → FinF gs f w ds
 | [], _ => trivial
 | p :: ds, h => by
  simp only [finOK, List.all_cons, Bool.and_eq_true] at h
  obtain ⟨⟨h1, h2⟩, h3⟩ := h
  have hj : p.1 + p.2.2 + 1 = ops.size := by simpa using h1
  have h5 := hp p.1 (by omega) _ (by simpa using h2)
  unfold lkG at h5
  rw [if_pos (by omega), show gs.length - 1 - p.1 = p.2.2 by omega] at h5
  exact ⟨⟨f p.2.1, rfl, h5⟩, finF_of hl hp h3⟩
section
variable {P : Program} {ops : Array Oper} {Q : Exit → Act → World → Prop} {id : Nat} {base : Array Value} {df : List Deferred} {slots : List Nat} {W0 : World}
def StepOK (P : Program) (ops : Array Oper) (Q : Exit → Act → World → Prop) (base : Array Value) (df : List Deferred) (slots : List Nat) (W0 : World) (gs : List Pr) (i : Nat) : Prop :=
 ∀ f w, Below W0.heap.size W0 w → (∀ j ∈ preOf ops i, ∀ d, dstN ops j = some d → lkG gs j (f d) w) → ∀ K : Act → World → Prop,
  (∀ v w', lkG gs i v w' → Below w.heap.size w w' → K ({ tmps := regT base slots f, defers := df : Act }.put (dstN ops i) v) w') → wpOp P ops Q i K { tmps := regT base slots f, defers := df } w
def RelG (P : Program) (ops : Array Oper) (Q : Exit → Act → World → Prop) (id : Nat) (base : Array Value) (df : List Deferred) (slots : List Nat) (W0 : World) (so : List Nat) (gs : List Pr) : Prop :=
 upB ops = true → (∀ j d, dstN ops j = some d → d ∈ slots) → (∀ i j d, dstN ops i = some d → dstN ops j = some d → i = j) → (∀ d ∈ slots, d < base.size) →
  (∀ i, i < gs.length → so.contains i = false → Stay (lkG gs i) ∧ StepOK P ops Q base df slots W0 gs i) → (Code.region id ops true).wp P Q { tmps := base, defers := df } W0
theorem dstN_lt {i d : Nat} (h : dstN ops i = some d) : i < ops.size := by
 unfold dstN at h
 rcases Nat.lt_or_ge i ops.size with hl | hl
 · exact hl
 · rw [Array.getElem?_eq_none hl] at h; cases h
theorem relG_start {so : List Nat} (hup : upB ops = true) (hd : dstsOK ops slots = true) (hz : (slots.all fun d => decide (d < base.size)) = true) (h : RelG P ops Q id base df slots W0 so []) : (Code.region id ops true).wp P Q { tmps := base, defers := df } W0 := by
 have hall : ∀ i d, dstN ops i = some d → slots.contains d = true ∧ ∀ j, j < ops.size → (j == i || dstN ops j != some d) = true := fun i d e => by
  have h1 := List.all_eq_true.1 hd i (List.mem_range.2 (dstN_lt e))
  rw [e] at h1
  simp only [Bool.and_eq_true] at h1
  exact ⟨h1.1, fun j hj => List.all_eq_true.1 h1.2 j (List.mem_range.2 hj)⟩
 have hsz : ∀ d ∈ slots, d < base.size := fun d hd => of_decide_eq_true (List.all_eq_true.1 hz d hd)
 refine h hup (fun j d e => by simpa using (hall j d e).1) (fun i j d e1 e2 => ?_) hsz (fun i hi => by simp at hi)
 have := (hall i d e1).2 j (dstN_lt e2)
 rw [e2] at this
 simp at this
 exact this.symm
theorem up_lt (hup : upB ops = true) {i j : Nat} (hi : i < ops.size) (hj : j ∈ preOf ops i) : j < i := by
 have h1 := List.all_eq_true.1 hup i (List.mem_range.2 hi)
 exact of_decide_eq_true (List.all_eq_true.1 h1 j hj)
theorem relG_step {so : List Nat} {gs : List Pr} (g : Pr) (hl : gs.length < ops.size) (hm : Stay g) (hs : (∀ j d, dstN ops j = some d → d ∈ slots) → (∀ d ∈ slots, d < base.size) → StepOK P ops Q base df slots W0 (g :: gs) gs.length) (h : RelG P ops Q id base df slots W0 so (g :: gs)) : RelG P ops Q id base df slots W0 so gs := by
 intro hup hsl hinj hsz hall
 refine h hup hsl hinj hsz fun i hi hso => ?_
 rw [List.length_cons] at hi
 by_cases e : i = gs.length
 · subst e
   exact ⟨by rw [lkG_new]; exact hm, hs hsl hsz⟩
 · have hi' : i < gs.length := by omega
   obtain ⟨h1, h2⟩ := hall i hi' hso
   rw [lkG_old _ _ _ hi']
   refine ⟨h1, fun f w hb hp K hK => ?_⟩
   rw [lkG_old _ _ _ hi'] at hK
   refine h2 f w hb (fun j hj d e => ?_) K hK
   have hlt := up_lt hup (by omega) hj
   have := hp j hj d e
   rwa [lkG_old _ _ _ (by omega)] at this
theorem relG_pure {so : List Nat} {gs : List Pr} {i : Nat} {o : Oper} {v : Value} (ds : List (Nat × Nat × Nat)) (bs : List Nat) (hl : gs.length = i) (ho : ops[i]? = some o) (hd : depsOK ops i ds = true) (hb : (bs.all fun k => !slots.contains k) = true)
 (hy : ∀ t w, Below W0.heap.size W0 w → DepF gs t w ds → BasF base t bs → YieldsIf P ops (fun w' => w' = w) o v { tmps := t, defers := df })
 (h : RelG P ops Q id base df slots W0 so ((fun x _ => x = v) :: gs)) : RelG P ops Q id base df slots W0 so gs := by
 subst hl
 refine relG_step _ (Array.getElem?_eq_some_iff.1 ho).1 (fun _ _ _ h _ => h) (fun hsl hsz => ?_) h
 intro f w hW hp K hK
 rw [lkG_new] at hK
 have hdp : DepF gs (regT base slots f) w ds := depF_of rfl hsl hsz (fun j hj d e hlt => by
  have := hp j hj d e
  rwa [lkG_old _ _ _ hlt] at this) hd
 have hY := hy (regT base slots f) w hW hdp (basF_of hb)
 have hdst : dstN ops gs.length = o.dst := by unfold dstN; rw [ho]; rfl
 rw [hdst] at hK
 exact hY.wpOp ho rfl (hK v w rfl (Below.refl _ _))
theorem relG_call {so : List Nat} {gs : List Pr} {i : Nat} {o : Oper} (g : Pr) (ds : List (Nat × Nat × Nat)) (bs : List Nat) (hl : gs.length = i) (ho : ops[i]? = some o) (hd : depsOK ops i ds = true) (hb : (bs.all fun k => !slots.contains k) = true) (hm : Stay g)
 (hw : ∀ t w, Below W0.heap.size W0 w → DepF gs t w ds → BasF base t bs → ∀ K : Act → World → Prop, Shut (∀ v w', g v w' → Below w.heap.size w w' → K ({ tmps := t, defers := df : Act }.put o.dst v) w') →
  Region.wanted o (yielded ops t) = true ∧ o.wp P { tmps := t, defers := df } w K Q)
 (h : RelG P ops Q id base df slots W0 so (g :: gs)) : RelG P ops Q id base df slots W0 so gs := by
 subst hl
 refine relG_step _ (Array.getElem?_eq_some_iff.1 ho).1 hm (fun hsl hsz => ?_) h
 intro f w hW hp K hK
 rw [lkG_new] at hK
 have hdp : DepF gs (regT base slots f) w ds := depF_of rfl hsl hsz (fun j hj d e hlt => by
  have := hp j hj d e
  rwa [lkG_old _ _ _ hlt] at this) hd
 have hdst : dstN ops gs.length = o.dst := by unfold dstN; rw [ho]; rfl
 rw [hdst] at hK
 obtain ⟨h1, h2⟩ := hw (regT base slots f) w hW hdp (basF_of hb) K hK
 unfold wpOp
 rw [ho]
 simp only [h1, if_true]
 exact .inl h2
theorem relG_done {gs : List Pr} (ps : List (Nat × Nat × Nat)) (hm : P.follows .mixedOrders = true) (hl : gs.length = ops.size) (hps : finOK ops ps = true)
 (h : ∀ f w, Below W0.heap.size W0 w → FinF gs f w ps → Q .normal { tmps := regT base slots f, defers := df } w) : RelG P ops Q id base df slots W0 [] gs := by
 intro hup hsl hinj hsz hall0
 have hall : ∀ i, i < gs.length → Stay (lkG gs i) ∧ StepOK P ops Q base df slots W0 gs i := fun i hi => hall0 i hi rfl
 refine region_inv (fun L a w => ∃ f, a = { tmps := regT base slots f, defers := df } ∧ Below W0.heap.size W0 w ∧ ∀ i d, dstN ops i = some d → L i = true → lkG gs i (f d) w) hm hup
  ⟨fun k => base.getD k undef, by rw [regT_id], (Below.refl _ _).drew, fun _ _ _ h => by cases h⟩ ?_ ?_
 · rintro i hi L a w ⟨f, rfl, hW, hL⟩ hLi hpre
   obtain ⟨h1, h2⟩ := hall i (by omega)
   refine h2 f w hW (fun j hj d e => hL j d e (hpre j hj)) _ fun v w' hg hb => ?_
   have hW' := hW.trans (hb.mono hW.size)
   cases hdi : dstN ops i with
   | none =>
    refine ⟨f, rfl, hW', fun j d e hj => ?_⟩
    have hne : j ≠ i := fun e' => by rw [e', hdi] at e; cases e
    have : L j = true := by simpa [hne] using hj
    exact (hall j (by have := dstN_lt e; omega)).1 _ _ _ (hL j d e this) hb
   | some di =>
    refine ⟨updF f di v, ?_, hW', fun j d e hj => ?_⟩
    · show ({ tmps := (regT base slots f).setIfInBounds di v, defers := df } : Act) = _
      rw [regT_put _ _ _ _ _ (hsl i di hdi)]
    · unfold updF
      by_cases hne : j = i
      · subst hne
        rw [hdi] at e
        cases e
        rw [if_pos rfl]
        exact hg
      · have h3 : d ≠ di := fun e' => hne (hinj j i d e (e' ▸ hdi))
        rw [if_neg h3]
        have : L j = true := by simpa [hne] using hj
        exact (hall j (by have := dstN_lt e; omega)).1 _ _ _ (hL j d e this) hb
 · rintro L a w ⟨f, rfl, hW, hL⟩ hLall
   exact h f w hW (finF_of hl (fun j hj d e => hL j d e (hLall j hj)) hps)
end
end Go.Proofs.YtkjchoamdibolaaDoor
namespace Go.Proofs.YtkjchoamdibolaaDoor
open Go.RowKit St
theorem conv_to_bytes {P : Program} (w : World) (src dst e : TypeId) (s : ByteArray) (hs : P.underlying src = some .string) (hd : P.underlying dst = some (.slice e)) (he : P.underlying e = some (.int .u8)) :
 ∃ cap w', (convert src dst (.string s)).run P w = .ok (.slice (some ⟨w.heap.size, 0, none⟩) s.size cap) w' ∧ BytesAt w' (some ⟨w.heap.size, 0, none⟩) s.data.toList ∧ Below w.heap.size w w' ∧ w'.heap.size = w.heap.size + 1 := by
 refine ⟨_, _, Go.Lib.run_convert_string_bytes w src dst e s hs hd he, fun i hi => ⟨_, 0, rfl, ?_⟩, ?_, Go.Lib.bytesWorld_size w e s⟩
 · rw [Nat.zero_add, Go.Lib.bytesWorld_cell w e s i (by simpa using hi)]
   rw [List.getD_eq_getElem?_getD, List.getElem?_eq_getElem hi]
   rfl
 · exact ⟨rfl, rfl, rfl, by rw [Go.Lib.bytesWorld_size]; omega, fun k hk => Go.Lib.bytesWorld_at_old w e s k hk⟩
theorem numC_lt {a b : Int} (h : a < b) : numC a b = -1 := by unfold numC; rw [if_pos h]
theorem numC_gt {a b : Int} (h : b < a) : numC a b = 1 := by unfold numC; rw [if_neg (by omega), if_pos h]
theorem numC_eq {a b : Int} (h : a = b) : numC a b = 0 := by unfold numC; rw [if_neg (by omega), if_neg (by omega)]
def okByte (c : UInt8) : Bool := decide (97 ≤ c.toNat) && decide (c.toNat ≤ 122)
theorem okLabel_all (l : List UInt8) : okLabel l = (l.all okByte && (decide (1 ≤ l.length) && decide (l.length ≤ 12))) := by
 unfold okLabel okByte
 rw [Bool.and_assoc]
theorem all_bad {l : List UInt8} {k : Nat} (h : k < l.length) (hb : okByte l[k] = false) : okLabel l = false := by
 rw [okLabel_all]
 have : l.all okByte = false := by
  rw [List.all_eq_false]
  exact ⟨l[k], List.getElem_mem h, by simp [hb]⟩
 rw [this]; rfl
theorem all_step {l : List UInt8} {k : Nat} (h : k < l.length) (ha : (l.take k).all okByte = true) (hb : okByte l[k] = true) : (l.take (k + 1)).all okByte = true := by
 rw [List.take_succ_eq_append_getElem h, List.all_append, ha]
 simp [hb]
theorem all_end {l : List UInt8} (ha : (l.take l.length).all okByte = true) : okLabel l = (decide (1 ≤ l.length) && decide (l.length ≤ 12)) := by
 rw [List.take_length] at ha
 rw [okLabel_all, ha]; rfl
theorem dlen (s : ByteArray) : s.data.toList.length = s.size := by simp
set_option maxHeartbeats 1000000 in
theorem key_Label (s : ByteArray) (w : World) (hs : s.size ≤ 9223372036854775807) : Calls Tryd.prog 28 #[.string s] w fun e w' => e = .returned (.bool (okLabel s.data.toList)) ∧ Below w.heap.size w w' := by
 obtain ⟨cap, w1, hcv, hby, hb, hz⟩ := conv_to_bytes (P := Tryd.prog) w 9 51 5 s Tryd.underlying9 Tryd.underlying51 Tryd.underlying5
 obtain ⟨l, hl⟩ : ∃ l, s.data.toList = l := ⟨_, rfl⟩
 have hn : l.length = s.size := by rw [← hl]; exact dlen s
 rw [hl] at hby ⊢
 have HB := Lib.hid hb
 have HY := Lib.hid hby
 have HN := Lib.hid hn
 clear hb hby hz
 go_enter Tryd.func28, Tryd.ntmps28
 go_wp2
 clear hcv
 go_loop [8] (fun i => ∃ k : Nat, k ≤ s.size ∧ i = .int .i64 (k : Int) ∧ Hid ((l.take k).all okByte = true)) (fun i => s.size - (intOf i).toNat)
 case atStart => exact ⟨0, Nat.zero_le _, rfl, Lib.hid rfl⟩
 case round =>
  obtain ⟨k, hk, rfl, HA⟩ := hrel
  by_cases hlt : k < s.size
  · have hkl : k < l.length := by omega
    have hc := (HY.out k hkl)
    obtain ⟨b, off, he, hc⟩ := hc
    cases he
    rw [Nat.zero_add] at hc
    have hbt := l[k].toNat_lt
    have F1 := Lib.hid (fun h => all_bad hkl h)
    have F2 := Lib.hid (fun h => all_step hkl HA.out h)
    generalize hcc : l[k] = c at *
    have F3 : Hid (okByte c = (decide (97 ≤ c.toNat) && decide (c.toNat ≤ 122))) := Lib.hid rfl
    clear hcc hkl HA
    by_cases h1 : c.toNat < 97
    · go_wp2
      go_ret
      rw [F1.out (by rw [F3.out, decide_eq_false (by omega)]; rfl)]
      exact ⟨rfl, HB.out⟩
    · by_cases h2 : 122 < c.toNat
      · go_wp2
        go_ret
        rw [F1.out (by rw [F3.out, decide_eq_false (show ¬ c.toNat ≤ 122 by omega)]; simp)]
        exact ⟨rfl, HB.out⟩
      · have H := F2.out (by rw [F3.out, decide_eq_true (show 97 ≤ c.toNat by omega), decide_eq_true (show c.toNat ≤ 122 by omega)]; rfl)
        have H := Lib.hid H
        go_wp2
        refine ⟨⟨k + 1, by omega, by go_num, H⟩, by simp [intOf]; omega⟩
  · obtain rfl : k = s.size := by omega
    have E : Hid (okLabel l = (decide (1 ≤ s.size) && decide (s.size ≤ 12))) := Lib.hid (by rw [← hn]; exact all_end (by rw [hn]; exact HA.out))
    clear HA
    by_cases h1 : 1 ≤ s.size
    · go_wp2
      go_ret
      rw [E.out, decide_eq_true h1]
      exact ⟨congrArg (fun b => Ending.returned (.bool b)) (by simp; omega), HB.out⟩
    · go_wp2
      go_ret
      rw [E.out, decide_eq_false h1]
      exact ⟨rfl, HB.out⟩
theorem ref5_number (a b : Int) (w : World) : Calls Tryd.prog 38 #[.int .i64 a, .int .i64 b] w fun e w' => e = .returned (.int .i64 (numC a b)) ∧ w = w' := by
 have HN : Hid (∀ c, numC a b = c → c = numC a b) := Lib.hid fun _ h => h.symm
 go_enter Tryd.func38, Tryd.ntmps38
 by_cases h1 : a < b
 · go_wp2
   go_ret
   rw [← HN.out (-1) (numC_lt h1)]
   exact ⟨rfl, rfl⟩
 · by_cases h2 : b < a
   · go_wp2
     go_ret
     rw [← HN.out 1 (numC_gt h2)]
     exact ⟨rfl, rfl⟩
   · go_wp2
     go_ret
     rw [← HN.out 0 (numC_eq (by omega))]
     exact ⟨rfl, rfl⟩
end Go.Proofs.YtkjchoamdibolaaDoor
namespace Go.Proofs.YtkjchoamdibolaaDoor
open Go.RowKit St
open Go.Op (bytesLess)
theorem less_at {x y : List UInt8} {k : Nat} (h : x.take k = y.take k) (ha : k < x.length) (hb : k < y.length) (hlt : x[k] < y[k]) : bytesLess x y = true := by
 rw [← List.take_append_drop k x, ← List.take_append_drop k y]
 rw [bl_append _ _ _ _ (by simp; omega), h]
 rw [List.drop_eq_getElem_cons ha, List.drop_eq_getElem_cons hb]
 simp [bytesLess, hlt]
theorem txt_lt {a b : ByteArray} (h : bytesLess a.data.toList b.data.toList = true) : txtC a b = -1 := by
 unfold txtC Pm.klt
 rw [ByteArray.toList_eq, ByteArray.toList_eq, if_pos h]
theorem txt_gt {a b : ByteArray} (h : bytesLess b.data.toList a.data.toList = true) : txtC a b = 1 := by
 have h1 : Pm.klt b a = true := by unfold Pm.klt; rw [ByteArray.toList_eq, ByteArray.toList_eq]; exact h
 unfold txtC
 rw [if_neg (by rw [Pm.klt_asymm h1]; simp), if_pos h1]
theorem less_end {x y : List UInt8} {k : Nat} (h : x.take k = y.take k) (hx : k = x.length) (hy : k < y.length) : bytesLess x y = true := by
 subst hx
 rw [List.take_length] at h
 rw [← List.take_append_drop x.length y, ← h]
 have := bl_append x x [] (y.drop x.length) rfl
 rw [List.append_nil] at this
 rw [this, List.drop_eq_getElem_cons hy]
 simp [bytesLess]
theorem txt_eq {a b : ByteArray} (h : a.data.toList = b.data.toList) : txtC a b = 0 := by
 have : a = b := by
  obtain ⟨⟨x⟩⟩ := a
  obtain ⟨⟨y⟩⟩ := b
  simp only at h
  rw [h]
 subst this
 unfold txtC
 rw [Pm.klt_irrefl]
 simp
set_option maxHeartbeats 2000000 in
theorem ref5_Cmp (a b : ByteArray) (w : World) (ha : a.size ≤ 9223372036854775807) (hb : b.size ≤ 9223372036854775807) : Calls Tryd.prog 20 #[.string a, .string b] w fun e w' => e = .returned (.int .i64 (txtC a b)) ∧ Below w.heap.size w w' := by
 have hla := dlen a
 have hlb := dlen b
 obtain ⟨x, hx⟩ : ∃ x, a.data.toList = x := ⟨_, rfl⟩
 obtain ⟨y, hy⟩ : ∃ y, b.data.toList = y := ⟨_, rfl⟩
 have HX := Lib.hid hx
 have HY := Lib.hid hy
 have TL : Hid (bytesLess x y = true → txtC a b = -1) := Lib.hid fun h => txt_lt (by rw [hx, hy]; exact h)
 have TG : Hid (bytesLess y x = true → txtC a b = 1) := Lib.hid fun h => txt_gt (by rw [hx, hy]; exact h)
 have TE : Hid (x = y → txtC a b = 0) := Lib.hid fun h => txt_eq (by rw [hx, hy]; exact h)
 rw [hx] at hla
 rw [hy] at hlb
 clear hx hy
 go_enter Tryd.func20, Tryd.ntmps20
 go_wp2
 go_loopw [5] (fun i wr => ∃ k : Nat, k ≤ a.size ∧ k ≤ b.size ∧ i = .int .i64 (k : Int) ∧ Hid (x.take k = y.take k) ∧ Hid (Below w.heap.size w wr)) (fun i _ => a.size - (intOf i).toNat)
 case atStart => exact ⟨0, Nat.zero_le _, Nat.zero_le _, rfl, Lib.hid rfl, Lib.hid (Below.refl _ _)⟩
 case round =>
  obtain ⟨k, hk, hk', rfl, HT, HB⟩ := hrel
  have hd1 : decide ((k : Int) < (a.size : Int)) = decide (k < a.size) := by simp
  by_cases h1 : k < a.size
  · by_cases h2 : k < b.size
    · have h1' : (k : Int) < (a.size : Int) := by omega
      have h2' : (k : Int) < (b.size : Int) := by omega
      have ca : a[k] = x[k]'(by omega) := by have := HX.out; subst this; rfl
      have cb : b[k] = y[k]'(by omega) := by have := HY.out; subst this; rfl
      have F1 : Hid (x[k]'(by omega) < y[k]'(by omega) → txtC a b = -1) := Lib.hid (fun h => TL.out (less_at HT.out (by omega) (by omega) h))
      have F2 : Hid (y[k]'(by omega) < x[k]'(by omega) → txtC a b = 1) := Lib.hid (fun h => TG.out (less_at HT.out.symm (by omega) (by omega) h))
      have F3 : Hid (x[k]'(by omega) = y[k]'(by omega) → x.take (k + 1) = y.take (k + 1)) := Lib.hid (fun h => by rw [List.take_succ_eq_append_getElem (by omega), List.take_succ_eq_append_getElem (by omega), HT.out, h])
      generalize hcx : x[k]'(by omega) = c at *
      generalize hdy : y[k]'(by omega) = d at *
      have E1 : Hid (c < d ↔ c.toNat < d.toNat) := Lib.hid UInt8.lt_iff_toNat_lt
      have E2 : Hid (d < c ↔ d.toNat < c.toNat) := Lib.hid UInt8.lt_iff_toNat_lt
      have E3 : Hid (c.toNat = d.toNat → c = d) := Lib.hid UInt8.toNat_inj.1
      clear hcx hdy
      by_cases g1 : c.toNat < d.toNat
      · go_wp2
        go_quiet (fail)
        go_wp2
        go_ret
        rw [F1.out (E1.out.2 g1)]
        exact ⟨rfl, below_drews HB.out _⟩
      · by_cases g2 : d.toNat < c.toNat
        · go_wp2
          go_quiet (fail)
          go_wp2
          go_quiet (fail)
          go_wp2
          go_ret
          rw [F2.out (E2.out.2 g2)]
          exact ⟨rfl, below_drews (below_drews HB.out _) _⟩
        · have H := Lib.hid (F3.out (E3.out (by omega)))
          go_wp2
          go_quiet (fail)
          go_wp2
          go_quiet (fail)
          go_wp2
          refine ⟨⟨k + 1, by omega, by omega, by go_num, H, Lib.hid (below_drews HB.out _)⟩, by simp [intOf]; omega⟩
    · obtain rfl : k = b.size := by omega
      have E : Hid (txtC a b = 1) := Lib.hid (TG.out (less_end HT.out.symm (by omega) (by omega)))
      go_wp2_with fail
      refine (ref5_number _ _ _).mono ?_
      rintro e w' ⟨rfl, rfl⟩
      go_wp2
      go_ret
      rw [E.out, numC_gt (by omega)]
      exact ⟨rfl, HB.out⟩
  · obtain rfl : k = a.size := by omega
    have E : Hid (numC (a.size : Int) (b.size : Int) = txtC a b) := Lib.hid (by
     by_cases h2 : a.size < b.size
     · rw [numC_lt (by omega), TL.out (less_end HT.out (by omega) (by omega))]
     · have he : a.size = b.size := by omega
       rw [numC_eq (by omega), TE.out]
       have := HT.out
       rw [List.take_of_length_le (by omega), List.take_of_length_le (by omega)] at this
       exact this)
    go_wp2_with fail
    refine (ref5_number _ _ _).mono ?_
    rintro e w' ⟨rfl, rfl⟩
    go_wp2
    go_ret
    rw [E.out]
    exact ⟨rfl, HB.out⟩
end Go.Proofs.YtkjchoamdibolaaDoor
namespace Go.Proofs.YtkjchoamdibolaaDoor
open Go.RowKit Ku St
theorem ints_get {w : World} {a : Option Addr} {l : List Nat} (h : CellsAt w a (intsV l)) (k : Nat) (hk : k < l.length) : ∃ b off, a = some ⟨b, off, none⟩ ∧ w.cell? ⟨b, off + k, none⟩ = some (.int .i64 (l[k] : Int)) := h.get k _ (by simp [intsV, hk])
set_option maxRecDepth 100000 in
set_option maxHeartbeats 2000000 in
theorem ref5_Key (s : ByteArray) (w : World) : Calls Tryd.prog 33 #[.string s] w fun e w' => e = .returned (.bool (keyG s)) ∧ Below w.heap.size w w' := by
 obtain ⟨res, hres⟩ : ∃ r, keyG s = r := ⟨_, rfl⟩
 have R := Lib.hid hres
 rw [hres]
 clear hres
 go_enter Tryd.func33, Tryd.ntmps33
 by_cases h1 : s.size < 1
 · have h1i : (s.size : Int) < 1 := by omega
   obtain rfl : false = res := by rw [← R.out]; unfold keyG; rw [decide_eq_false (by omega)]; rfl
   go_wp2_with fail
   go_ret
   exact ⟨rfl, Below.refl _ _⟩
 have h1i : ¬ (s.size : Int) < 1 := by omega
 by_cases h2 : 64 < s.size
 · have h2i : (64 : Int) < (s.size : Int) := by omega
   obtain rfl : false = res := by rw [← R.out]; unfold keyG; rw [decide_eq_false (p := s.size ≤ 64) (by omega)]; simp
   go_wp2_with fail
   go_ret
   exact ⟨rfl, Below.refl _ _⟩
 have h2i : ¬ (64 : Int) < (s.size : Int) := by omega
 go_wp2_with fail
 refine (ref5_runes s w (by omega)).mono ?_
 rintro e w1 ⟨hb, hP⟩
 have HB := Lib.hid hb
 obtain ⟨L, a, n, c, ok, rfl, hn, hn2, hc, hr⟩ : ∃ (L : List Nat) (a : Option Addr) (n c : Nat) (ok : Bool), e = .returned (.tuple #[.slice a n c, .bool ok]) ∧ n = L.length ∧ n ≤ 1000 ∧ CellsAt w1 a (intsV L) ∧ (L.all okC && ok) = res := by
  rcases hP with ⟨h, rfl⟩ | ⟨h, L, a, n, c, rfl, hn, hn2, hc, hl⟩
  · exact ⟨[], none, 0, 0, false, rfl, rfl, by omega, CellsAt.nil _ _, by rw [← R.out]; unfold keyG; rw [h]; simp⟩
  · exact ⟨L, a, n, c, true, rfl, hn, hn2, hc, by rw [hl, ← R.out]; unfold keyG; rw [h, decide_eq_true (by omega), decide_eq_true (by omega)]; simp⟩
 have HN := Lib.hid hn
 have HC := Lib.hid hc
 have HR := Lib.hid hr
 clear hP hb hn hc hr R
 go_wp2_with fail
 go_loopw [5] (fun i wr => ∃ k : Nat, k ≤ n ∧ i = .int .i64 (k : Int) ∧ wr = w1 ∧ Hid ((L.take k).all okC = true)) (fun i _ => n - (intOf i).toNat)
 case atStart => exact ⟨0, Nat.zero_le _, rfl, rfl, Lib.hid (by simp)⟩
 case round =>
  obtain ⟨k, hk, rfl, rfl, HA⟩ := hrel
  by_cases hlt : k < n
  · have hk1 : k < L.length := by have := HN.out; omega
    obtain ⟨ba, oa, rfl, p0⟩ := ints_get HC.out k hk1
    have BAD : Hid (okC L[k] = false → res = false) := Lib.hid (fun h => by
     rw [← HR.out]
     cases hh : L.all okC with
     | false => rfl
     | true => rw [List.all_eq_true.1 hh _ (List.getElem_mem hk1)] at h; cases h)
    have NXT : Hid (okC L[k] = true → (L.take (k + 1)).all okC = true) := Lib.hid (fun h => by rw [List.take_succ_eq_append_getElem hk1, List.all_append, HA.out]; simp [h])
    generalize L[k] = x at *
    have hki : (k : Int) < (n : Int) := by omega
    by_cases g1 : x < 32
    · have g1i : (x : Int) < 32 := by omega
      obtain rfl : false = res := (BAD.out (by unfold okC; rw [decide_eq_false (by omega)]; rfl)).symm
      go_wp2_with fail
      go_ret
      exact ⟨rfl, HB.out⟩
    have g1i : ¬ (x : Int) < 32 := by omega
    by_cases g2 : x = 47
    · subst g2
      obtain rfl : false = res := (BAD.out (by decide)).symm
      go_wp2_with fail
      go_ret
      exact ⟨rfl, HB.out⟩
    have g2i : ((x : Int) == 47) = false := beq_eq_false_iff_ne.2 (by omega)
    have g3i : ¬ (x : Int) = 47 := by omega
    have H := Lib.hid (NXT.out (by unfold okC; rw [decide_eq_true (by omega), decide_eq_true g2]; rfl))
    go_wp2_with fail
    go_roundw
    case rel => exact ⟨k + 1, by omega, by go_num, by trivial, H⟩
    case measure => simp [intOf]; omega
  · obtain rfl : k = n := by omega
    obtain rfl : ok = res := by rw [← HR.out, ← show (L.take k).all okC = L.all okC by rw [HN.out, List.take_length], HA.out]; rfl
    go_wp2_with fail
    go_ret
    exact ⟨rfl, HB.out⟩
theorem key_number (a b : Int) (w : World) : Calls Tryd.prog 34 #[.int .i64 a, .int .i64 b] w fun e w' => e = .returned (.int .i64 (numC a b)) ∧ w = w' := by
 go_enter Tryd.func34, Tryd.ntmps34
 by_cases h1 : a < b
 · go_wp2
   go_ret
   rw [numC_lt h1]
   exact ⟨rfl, rfl⟩
 · by_cases h2 : b < a
   · go_wp2
     go_ret
     rw [numC_gt h2]
     exact ⟨rfl, rfl⟩
   · have hz := Lib.hid (show numC a b = 0 by unfold numC; rw [if_neg h1, if_neg (by omega)])
     go_wp2
     go_ret
     rw [hz.out]
     exact ⟨rfl, rfl⟩
theorem key_Cmp (a b : ByteArray) (w : World) : Calls Tryd.prog 18 #[.string a, .string b] w fun e w' => e = .returned (.int .i64 (txtC a b)) ∧ Below w.heap.size w w' := by
 go_enter Tryd.func18, Tryd.ntmps18
 go_wp2_with fail
 refine (ks_Compare a b w).mono ?_
 rintro e _ ⟨rfl, rfl⟩
 go_wp2_with fail
 go_ret
 rw [cmpB_txt]
 exact ⟨rfl, Below.refl _ _⟩
set_option maxRecDepth 100000 in
set_option maxHeartbeats 2000000 in
theorem key_CmpPath (l m : List ByteArray) (a b : Option Addr) (n1 n2 c1 c2 : Nat) (w : World) (hl : CellsAt w a (txV l)) (hm : CellsAt w b (txV m)) (hn1 : n1 = l.length) (hn2 : n2 = m.length) (b1 : n1 ≤ 9223372036854775807) (hsl : ∀ x ∈ l, x.size ≤ 9223372036854775807) (hsm : ∀ x ∈ m, x.size ≤ 9223372036854775807) :
 Calls Tryd.prog 17 #[.slice a n1 c1, .slice b n2 c2] w fun e w' => e = .returned (.int .i64 (pathC l m)) ∧ Below w.heap.size w w' := by
 have HL := Lib.hid hl
 have HM := Lib.hid hm
 have N1 := Lib.hid hn1
 have N2 := Lib.hid hn2
 have SL := Lib.hid hsl
 have SM := Lib.hid hsm
 have ST : Hid (pathC l m = pathC (l.drop 0) (m.drop 0)) := Lib.hid (by rw [List.drop_zero, List.drop_zero])
 obtain ⟨res, hres⟩ : ∃ r, pathC l m = r := ⟨_, rfl⟩
 rw [hres] at ST
 rw [hres]
 clear hl hm hn1 hn2 hsl hsm hres
 go_enter Tryd.func17, Tryd.ntmps17
 go_wp2_with fail
 go_loopw [5] (fun i wr => ∃ k : Nat, k ≤ n1 ∧ k ≤ n2 ∧ i = .int .i64 (k : Int) ∧ Hid (res = pathC (l.drop k) (m.drop k)) ∧ Hid (Below w.heap.size w wr)) (fun i _ => n1 - (intOf i).toNat)
 case atStart => exact ⟨0, Nat.zero_le _, Nat.zero_le _, rfl, ST, Lib.hid (Below.refl _ _)⟩
 case round =>
  obtain ⟨k, hk1, hk2, rfl, HT, HB⟩ := hrel
  by_cases g1 : k < n1
  · have g1i : (k : Int) < (n1 : Int) := by omega
    by_cases g2 : k < n2
    · have g2i : (k : Int) < (n2 : Int) := by omega
      have q1 : k < l.length := by have := N1.out; omega
      have q2 : k < m.length := by have := N2.out; omega
      obtain ⟨ba, oa, rfl, ca⟩ := tx_get (HL.out.below HB.out rfl) k q1
      obtain ⟨bb, ob, rfl, cb⟩ := tx_get (HM.out.below HB.out rfl) k q2
      have PA := Lib.hid (path_at q1 q2)
      have S1 : Hid (l[k].size ≤ 9223372036854775807) := Lib.hid (SL.out _ (List.getElem_mem q1))
      have S2 : Hid (m[k].size ≤ 9223372036854775807) := Lib.hid (SM.out _ (List.getElem_mem q2))
      generalize l[k] = x at *
      generalize m[k] = y at *
      have CA := Lib.hid ca
      have CB := Lib.hid cb
      have K1 := Lib.hid g1i
      have K2 := Lib.hid g2i
      clear ca cb
      obtain ⟨cv, hcv⟩ : ∃ c, txtC x y = c := ⟨_, rfl⟩
      rw [hcv] at PA
      have CM : Hid (∀ W, Calls Tryd.prog 18 #[.string x, .string y] W fun e w' => e = .returned (.int .i64 cv) ∧ Below W.heap.size W w') := Lib.hid (fun W => by rw [← hcv]; exact key_Cmp x y W)
      clear hcv
      go_upto_region 4 with (fail)
      refine relG_start (slots := [19, 20, 21, 22, 23, 24, 25, 26, 27, 6]) (so := []) (by kernel_rfl) (by kernel_rfl) (by rfl) ?_
      refine relG_pure (i := 0) (o := ⟨some 19, _, _, _, _, _⟩) (v := ?v1) [] [0] rfl rfl (by kernel_rfl) (by kernel_rfl) (fun t w1 hB hf hbf => ?y1) ?n1
      case y1 =>
       simp only [BasF] at hbf
       clear hf
       obtain ⟨⟨b0, k0⟩, _⟩ := hbf
       skip
       refine Or.inl ⟨wanted_none rfl, ?_⟩
       rintro _ rfl
       go_simp <;> with_reducible rfl
      refine relG_pure (i := 1) (o := ⟨some 20, _, _, _, _, _⟩) (v := ?v2) [] [5] rfl rfl (by kernel_rfl) (by kernel_rfl) (fun t w1 hB hf hbf => ?y2) ?n2
      case y2 =>
       simp only [BasF] at hbf
       clear hf
       obtain ⟨⟨b5, k5⟩, _⟩ := hbf
       skip
       refine Or.inl ⟨wanted_none rfl, ?_⟩
       rintro _ rfl
       go_simp <;> with_reducible rfl
      refine relG_pure (i := 2) (o := ⟨some 21, _, _, _, _, _⟩) (v := ?v3) [(0, 19, 1), (1, 20, 0)] [] rfl rfl (by kernel_rfl) (by kernel_rfl) (fun t w1 hB hf hbf => ?y3) ?n3
      case y3 =>
       simp only [DepF, List.getD_cons_zero, List.getD_cons_succ] at hf
       obtain ⟨⟨_, ⟨e19, i19⟩, rfl⟩, ⟨_, ⟨e20, i20⟩, rfl⟩, _⟩ := hf
       clear hbf
       skip
       have g := K1.out
       refine Or.inl ⟨wanted_none rfl, ?_⟩
       rintro _ rfl
       go_simp <;> with_reducible rfl
      refine relG_pure (i := 3) (o := ⟨some 22, _, _, _, _, _⟩) (v := ?v4) [(2, 21, 0)] [] rfl rfl (by kernel_rfl) (by kernel_rfl) (fun t w1 hB hf hbf => ?y4) ?n4
      case y4 =>
       simp only [DepF, List.getD_cons_zero] at hf
       obtain ⟨⟨_, ⟨e21, i21⟩, rfl⟩, _⟩ := hf
       clear hbf
       skip
       have q := (hB.cell (p := ⟨ba, oa + k, none⟩) (cell_lt CA.out)).trans CA.out
       refine Or.inl ⟨wanted_none rfl, ?_⟩
       rintro _ rfl
       go_simp <;> with_reducible rfl
      refine relG_pure (i := 4) (o := ⟨some 23, _, _, _, _, _⟩) (v := ?v5) [] [1] rfl rfl (by kernel_rfl) (by kernel_rfl) (fun t w1 hB hf hbf => ?y5) ?n5
      case y5 =>
       simp only [BasF] at hbf
       clear hf
       obtain ⟨⟨b1, k1⟩, _⟩ := hbf
       skip
       refine Or.inl ⟨wanted_none rfl, ?_⟩
       rintro _ rfl
       go_simp <;> with_reducible rfl
      refine relG_pure (i := 5) (o := ⟨some 24, _, _, _, _, _⟩) (v := ?v6) [] [5] rfl rfl (by kernel_rfl) (by kernel_rfl) (fun t w1 hB hf hbf => ?y6) ?n6
      case y6 =>
       simp only [BasF] at hbf
       clear hf
       obtain ⟨⟨b5, k5⟩, _⟩ := hbf
       skip
       refine Or.inl ⟨wanted_none rfl, ?_⟩
       rintro _ rfl
       go_simp <;> with_reducible rfl
      refine relG_pure (i := 6) (o := ⟨some 25, _, _, _, _, _⟩) (v := ?v7) [(4, 23, 1), (5, 24, 0)] [] rfl rfl (by kernel_rfl) (by kernel_rfl) (fun t w1 hB hf hbf => ?y7) ?n7
      case y7 =>
       simp only [DepF, List.getD_cons_zero, List.getD_cons_succ] at hf
       obtain ⟨⟨_, ⟨e23, i23⟩, rfl⟩, ⟨_, ⟨e24, i24⟩, rfl⟩, _⟩ := hf
       clear hbf
       skip
       have g := K2.out
       refine Or.inl ⟨wanted_none rfl, ?_⟩
       rintro _ rfl
       go_simp <;> with_reducible rfl
      refine relG_pure (i := 7) (o := ⟨some 26, _, _, _, _, _⟩) (v := ?v8) [(6, 25, 0)] [] rfl rfl (by kernel_rfl) (by kernel_rfl) (fun t w1 hB hf hbf => ?y8) ?n8
      case y8 =>
       simp only [DepF, List.getD_cons_zero] at hf
       obtain ⟨⟨_, ⟨e25, i25⟩, rfl⟩, _⟩ := hf
       clear hbf
       skip
       have q := (hB.cell (p := ⟨bb, ob + k, none⟩) (cell_lt CB.out)).trans CB.out
       refine Or.inl ⟨wanted_none rfl, ?_⟩
       rintro _ rfl
       go_simp <;> with_reducible rfl
      refine relG_call (i := 8) (o := ⟨some 27, _, _, _, _, _⟩) ((fun v _ => v = .int .i64 cv)) [(3, 22, 4), (7, 26, 0)] [] rfl rfl (by kernel_rfl) (by kernel_rfl) ((fun _ _ _ h _ => h)) ?_ ?_
      · intro t w1 hB hf hbf K hK
        simp only [DepF, List.getD_cons_zero, List.getD_cons_succ] at hf
        obtain ⟨⟨_, ⟨e22, i22⟩, rfl⟩, ⟨_, ⟨e26, i26⟩, rfl⟩, _⟩ := hf
        clear hbf
        skip
        refine ⟨wanted_none rfl, ?_⟩
        go_simp
        refine (CM.out w1).mono ?_
        rintro e w2 ⟨rfl, hb⟩
        exact hK.out _ w2 (rfl) hb
      refine relG_pure (i := 9) (o := ⟨some 6, _, _, _, _, _⟩) (v := ?v9) [(8, 27, 0)] [] rfl rfl (by kernel_rfl) (by kernel_rfl) (fun t w1 hB hf hbf => ?y9) ?n9
      case y9 =>
       simp only [DepF, List.getD_cons_zero] at hf
       obtain ⟨⟨_, ⟨e27, i27⟩, rfl⟩, _⟩ := hf
       clear hbf
       skip
       refine Or.inl ⟨wanted_none rfl, ?_⟩
       rintro _ rfl
       go_simp <;> with_reducible rfl
      refine relG_done [(0, 19, 9), (1, 20, 8), (2, 21, 7), (3, 22, 6), (4, 23, 5), (5, 24, 4), (6, 25, 3), (7, 26, 2), (8, 27, 1), (9, 6, 0)] (by kernel_rfl) rfl (by kernel_rfl) (fun f wE hB hf => ?_)
      simp only [FinF, List.getD_cons_zero, List.getD_cons_succ] at hf
      obtain ⟨⟨_, e19, rfl⟩, ⟨_, e20, rfl⟩, ⟨_, e21, rfl⟩, ⟨_, e22, rfl⟩, ⟨_, e23, rfl⟩, ⟨_, e24, rfl⟩, ⟨_, e25, rfl⟩, ⟨_, e26, rfl⟩, ⟨_, e27, rfl⟩, ⟨_, e6, rfl⟩, _⟩ := hf
      simp only [regT, List.foldl_cons, List.foldl_nil, List.setIfInBounds_toArray, List.set_cons_zero, List.set_cons_succ, e19, e20, e21, e22, e23, e24, e25, e26, e27, e6]
      clear e19 e20 e21 e22 e23 e24 e25 e26 e27 e6
      have HB1 := Lib.hid (HB.out.trans (hB.mono HB.out.size))
      clear hB
      by_cases hz : cv = 0
      · subst hz
        have HT1 : Hid (res = pathC (l.drop (k + 1)) (m.drop (k + 1))) := Lib.hid (by rw [HT.out, PA.out, if_pos rfl])
        go_wp2_with fail
        go_roundw
        case rel => exact ⟨k + 1, by omega, by omega, by go_num, HT1, HB1⟩
        case measure => simp [intOf]; omega
      · have hz1 : (cv == 0) = false := beq_eq_false_iff_ne.2 hz
        have HR : Hid (cv = res) := Lib.hid (by rw [HT.out, PA.out, if_neg hz])
        go_wp2_with fail
        go_ret
        rw [HR.out]
        exact ⟨rfl, HB1.out⟩
    · have g2i : ¬ (k : Int) < (n2 : Int) := by omega
      have FE : Hid (numC (n1 : Int) (n2 : Int) = res) := Lib.hid (by rw [HT.out, N1.out, N2.out]; exact (path_end (by rw [← N1.out]; exact hk1) (by rw [← N2.out]; exact hk2) (by rw [← N1.out, ← N2.out]; omega)).symm)
      go_wp2_with fail
      refine (key_number _ _ _).mono ?_
      rintro e _ ⟨rfl, rfl⟩
      go_wp2_with fail
      go_ret
      rw [FE.out]
      exact ⟨rfl, HB.out⟩
  · have g1i : ¬ (k : Int) < (n1 : Int) := by omega
    have FE : Hid (numC (n1 : Int) (n2 : Int) = res) := Lib.hid (by rw [HT.out, N1.out, N2.out]; exact (path_end (by rw [← N1.out]; exact hk1) (by rw [← N2.out]; exact hk2) (by rw [← N1.out, ← N2.out]; omega)).symm)
    go_wp2_with fail
    refine (key_number _ _ _).mono ?_
    rintro e _ ⟨rfl, rfl⟩
    go_wp2_with fail
    go_ret
    rw [FE.out]
    exact ⟨rfl, HB.out⟩
set_option maxRecDepth 100000 in
set_option maxHeartbeats 2000000 in
theorem ref5_CmpPath (l m : List ByteArray) (a b : Option Addr) (n1 n2 c1 c2 : Nat) (w : World) (hl : CellsAt w a (txV l)) (hm : CellsAt w b (txV m)) (hn1 : n1 = l.length) (hn2 : n2 = m.length) (b1 : n1 ≤ 9223372036854775807) (hsl : ∀ x ∈ l, x.size ≤ 9223372036854775807) (hsm : ∀ x ∈ m, x.size ≤ 9223372036854775807) :
 Calls Tryd.prog 21 #[.slice a n1 c1, .slice b n2 c2] w fun e w' => e = .returned (.int .i64 (pathC l m)) ∧ Below w.heap.size w w' := by
 have HL := Lib.hid hl
 have HM := Lib.hid hm
 have N1 := Lib.hid hn1
 have N2 := Lib.hid hn2
 have SL := Lib.hid hsl
 have SM := Lib.hid hsm
 have ST : Hid (pathC l m = pathC (l.drop 0) (m.drop 0)) := Lib.hid (by rw [List.drop_zero, List.drop_zero])
 obtain ⟨res, hres⟩ : ∃ r, pathC l m = r := ⟨_, rfl⟩
 rw [hres] at ST
 rw [hres]
 clear hl hm hn1 hn2 hsl hsm hres
 go_enter Tryd.func21, Tryd.ntmps21
 go_wp2_with fail
 go_loopw [5] (fun i wr => ∃ k : Nat, k ≤ n1 ∧ k ≤ n2 ∧ i = .int .i64 (k : Int) ∧ Hid (res = pathC (l.drop k) (m.drop k)) ∧ Hid (Below w.heap.size w wr)) (fun i _ => n1 - (intOf i).toNat)
 case atStart => exact ⟨0, Nat.zero_le _, Nat.zero_le _, rfl, ST, Lib.hid (Below.refl _ _)⟩
 case round =>
  obtain ⟨k, hk1, hk2, rfl, HT, HB⟩ := hrel
  by_cases g1 : k < n1
  · have g1i : (k : Int) < (n1 : Int) := by omega
    by_cases g2 : k < n2
    · have g2i : (k : Int) < (n2 : Int) := by omega
      have q1 : k < l.length := by have := N1.out; omega
      have q2 : k < m.length := by have := N2.out; omega
      obtain ⟨ba, oa, rfl, ca⟩ := tx_get (HL.out.below HB.out rfl) k q1
      obtain ⟨bb, ob, rfl, cb⟩ := tx_get (HM.out.below HB.out rfl) k q2
      have PA := Lib.hid (path_at q1 q2)
      have S1 : Hid (l[k].size ≤ 9223372036854775807) := Lib.hid (SL.out _ (List.getElem_mem q1))
      have S2 : Hid (m[k].size ≤ 9223372036854775807) := Lib.hid (SM.out _ (List.getElem_mem q2))
      generalize l[k] = x at *
      generalize m[k] = y at *
      have CA := Lib.hid ca
      have CB := Lib.hid cb
      have K1 := Lib.hid g1i
      have K2 := Lib.hid g2i
      clear ca cb
      obtain ⟨cv, hcv⟩ : ∃ c, txtC x y = c := ⟨_, rfl⟩
      rw [hcv] at PA
      have CM : Hid (∀ W, Calls Tryd.prog 20 #[.string x, .string y] W fun e w' => e = .returned (.int .i64 cv) ∧ Below W.heap.size W w') := Lib.hid (fun W => by rw [← hcv]; exact ref5_Cmp x y W S1.out S2.out)
      clear hcv
      go_upto_region 4 with (fail)
      refine relG_start (slots := [19, 20, 21, 22, 23, 24, 25, 26, 27, 6]) (so := []) (by kernel_rfl) (by kernel_rfl) (by rfl) ?_
      refine relG_pure (i := 0) (o := ⟨some 19, _, _, _, _, _⟩) (v := ?v10) [] [0] rfl rfl (by kernel_rfl) (by kernel_rfl) (fun t w1 hB hf hbf => ?y10) ?n10
      case y10 =>
       simp only [BasF] at hbf
       clear hf
       obtain ⟨⟨b0, k0⟩, _⟩ := hbf
       skip
       refine Or.inl ⟨wanted_none rfl, ?_⟩
       rintro _ rfl
       go_simp <;> with_reducible rfl
      refine relG_pure (i := 1) (o := ⟨some 20, _, _, _, _, _⟩) (v := ?v11) [] [5] rfl rfl (by kernel_rfl) (by kernel_rfl) (fun t w1 hB hf hbf => ?y11) ?n11
      case y11 =>
       simp only [BasF] at hbf
       clear hf
       obtain ⟨⟨b5, k5⟩, _⟩ := hbf
       skip
       refine Or.inl ⟨wanted_none rfl, ?_⟩
       rintro _ rfl
       go_simp <;> with_reducible rfl
      refine relG_pure (i := 2) (o := ⟨some 21, _, _, _, _, _⟩) (v := ?v12) [(0, 19, 1), (1, 20, 0)] [] rfl rfl (by kernel_rfl) (by kernel_rfl) (fun t w1 hB hf hbf => ?y12) ?n12
      case y12 =>
       simp only [DepF, List.getD_cons_zero, List.getD_cons_succ] at hf
       obtain ⟨⟨_, ⟨e19, i19⟩, rfl⟩, ⟨_, ⟨e20, i20⟩, rfl⟩, _⟩ := hf
       clear hbf
       skip
       have g := K1.out
       refine Or.inl ⟨wanted_none rfl, ?_⟩
       rintro _ rfl
       go_simp <;> with_reducible rfl
      refine relG_pure (i := 3) (o := ⟨some 22, _, _, _, _, _⟩) (v := ?v13) [(2, 21, 0)] [] rfl rfl (by kernel_rfl) (by kernel_rfl) (fun t w1 hB hf hbf => ?y13) ?n13
      case y13 =>
       simp only [DepF, List.getD_cons_zero] at hf
       obtain ⟨⟨_, ⟨e21, i21⟩, rfl⟩, _⟩ := hf
       clear hbf
       skip
       have q := (hB.cell (p := ⟨ba, oa + k, none⟩) (cell_lt CA.out)).trans CA.out
       refine Or.inl ⟨wanted_none rfl, ?_⟩
       rintro _ rfl
       go_simp <;> with_reducible rfl
      refine relG_pure (i := 4) (o := ⟨some 23, _, _, _, _, _⟩) (v := ?v14) [] [1] rfl rfl (by kernel_rfl) (by kernel_rfl) (fun t w1 hB hf hbf => ?y14) ?n14
      case y14 =>
       simp only [BasF] at hbf
       clear hf
       obtain ⟨⟨b1, k1⟩, _⟩ := hbf
       skip
       refine Or.inl ⟨wanted_none rfl, ?_⟩
       rintro _ rfl
       go_simp <;> with_reducible rfl
      refine relG_pure (i := 5) (o := ⟨some 24, _, _, _, _, _⟩) (v := ?v15) [] [5] rfl rfl (by kernel_rfl) (by kernel_rfl) (fun t w1 hB hf hbf => ?y15) ?n15
      case y15 =>
       simp only [BasF] at hbf
       clear hf
       obtain ⟨⟨b5, k5⟩, _⟩ := hbf
       skip
       refine Or.inl ⟨wanted_none rfl, ?_⟩
       rintro _ rfl
       go_simp <;> with_reducible rfl
      refine relG_pure (i := 6) (o := ⟨some 25, _, _, _, _, _⟩) (v := ?v16) [(4, 23, 1), (5, 24, 0)] [] rfl rfl (by kernel_rfl) (by kernel_rfl) (fun t w1 hB hf hbf => ?y16) ?n16
      case y16 =>
       simp only [DepF, List.getD_cons_zero, List.getD_cons_succ] at hf
       obtain ⟨⟨_, ⟨e23, i23⟩, rfl⟩, ⟨_, ⟨e24, i24⟩, rfl⟩, _⟩ := hf
       clear hbf
       skip
       have g := K2.out
       refine Or.inl ⟨wanted_none rfl, ?_⟩
       rintro _ rfl
       go_simp <;> with_reducible rfl
      refine relG_pure (i := 7) (o := ⟨some 26, _, _, _, _, _⟩) (v := ?v17) [(6, 25, 0)] [] rfl rfl (by kernel_rfl) (by kernel_rfl) (fun t w1 hB hf hbf => ?y17) ?n17
      case y17 =>
       simp only [DepF, List.getD_cons_zero] at hf
       obtain ⟨⟨_, ⟨e25, i25⟩, rfl⟩, _⟩ := hf
       clear hbf
       skip
       have q := (hB.cell (p := ⟨bb, ob + k, none⟩) (cell_lt CB.out)).trans CB.out
       refine Or.inl ⟨wanted_none rfl, ?_⟩
       rintro _ rfl
       go_simp <;> with_reducible rfl
      refine relG_call (i := 8) (o := ⟨some 27, _, _, _, _, _⟩) ((fun v _ => v = .int .i64 cv)) [(3, 22, 4), (7, 26, 0)] [] rfl rfl (by kernel_rfl) (by kernel_rfl) ((fun _ _ _ h _ => h)) ?_ ?_
      · intro t w1 hB hf hbf K hK
        simp only [DepF, List.getD_cons_zero, List.getD_cons_succ] at hf
        obtain ⟨⟨_, ⟨e22, i22⟩, rfl⟩, ⟨_, ⟨e26, i26⟩, rfl⟩, _⟩ := hf
        clear hbf
        skip
        refine ⟨wanted_none rfl, ?_⟩
        go_simp
        refine (CM.out w1).mono ?_
        rintro e w2 ⟨rfl, hb⟩
        exact hK.out _ w2 (rfl) hb
      refine relG_pure (i := 9) (o := ⟨some 6, _, _, _, _, _⟩) (v := ?v18) [(8, 27, 0)] [] rfl rfl (by kernel_rfl) (by kernel_rfl) (fun t w1 hB hf hbf => ?y18) ?n18
      case y18 =>
       simp only [DepF, List.getD_cons_zero] at hf
       obtain ⟨⟨_, ⟨e27, i27⟩, rfl⟩, _⟩ := hf
       clear hbf
       skip
       refine Or.inl ⟨wanted_none rfl, ?_⟩
       rintro _ rfl
       go_simp <;> with_reducible rfl
      refine relG_done [(0, 19, 9), (1, 20, 8), (2, 21, 7), (3, 22, 6), (4, 23, 5), (5, 24, 4), (6, 25, 3), (7, 26, 2), (8, 27, 1), (9, 6, 0)] (by kernel_rfl) rfl (by kernel_rfl) (fun f wE hB hf => ?_)
      simp only [FinF, List.getD_cons_zero, List.getD_cons_succ] at hf
      obtain ⟨⟨_, e19, rfl⟩, ⟨_, e20, rfl⟩, ⟨_, e21, rfl⟩, ⟨_, e22, rfl⟩, ⟨_, e23, rfl⟩, ⟨_, e24, rfl⟩, ⟨_, e25, rfl⟩, ⟨_, e26, rfl⟩, ⟨_, e27, rfl⟩, ⟨_, e6, rfl⟩, _⟩ := hf
      simp only [regT, List.foldl_cons, List.foldl_nil, List.setIfInBounds_toArray, List.set_cons_zero, List.set_cons_succ, e19, e20, e21, e22, e23, e24, e25, e26, e27, e6]
      clear e19 e20 e21 e22 e23 e24 e25 e26 e27 e6
      have HB1 := Lib.hid (HB.out.trans (hB.mono HB.out.size))
      clear hB
      by_cases hz : cv = 0
      · subst hz
        have HT1 : Hid (res = pathC (l.drop (k + 1)) (m.drop (k + 1))) := Lib.hid (by rw [HT.out, PA.out, if_pos rfl])
        go_wp2_with fail
        go_roundw
        case rel => exact ⟨k + 1, by omega, by omega, by go_num, HT1, HB1⟩
        case measure => simp [intOf]; omega
      · have hz1 : (cv == 0) = false := beq_eq_false_iff_ne.2 hz
        have HR : Hid (cv = res) := Lib.hid (by rw [HT.out, PA.out, if_neg hz])
        go_wp2_with fail
        go_ret
        rw [HR.out]
        exact ⟨rfl, HB1.out⟩
    · have g2i : ¬ (k : Int) < (n2 : Int) := by omega
      have FE : Hid (numC (n1 : Int) (n2 : Int) = res) := Lib.hid (by rw [HT.out, N1.out, N2.out]; exact (path_end (by rw [← N1.out]; exact hk1) (by rw [← N2.out]; exact hk2) (by rw [← N1.out, ← N2.out]; omega)).symm)
      go_wp2_with fail
      refine (ref5_number _ _ _).mono ?_
      rintro e _ ⟨rfl, rfl⟩
      go_wp2_with fail
      go_ret
      rw [FE.out]
      exact ⟨rfl, HB.out⟩
  · have g1i : ¬ (k : Int) < (n1 : Int) := by omega
    have FE : Hid (numC (n1 : Int) (n2 : Int) = res) := Lib.hid (by rw [HT.out, N1.out, N2.out]; exact (path_end (by rw [← N1.out]; exact hk1) (by rw [← N2.out]; exact hk2) (by rw [← N1.out, ← N2.out]; omega)).symm)
    go_wp2_with fail
    refine (ref5_number _ _ _).mono ?_
    rintro e _ ⟨rfl, rfl⟩
    go_wp2_with fail
    go_ret
    rw [FE.out]
    exact ⟨rfl, HB.out⟩
set_option maxRecDepth 100000 in
set_option maxHeartbeats 2000000 in
theorem key_Path (l : List ByteArray) (a : Option Addr) (n c : Nat) (w : World) (hl : CellsAt w a (txV l)) (hn : n = l.length) (hs : ∀ x ∈ l, x.size ≤ 9223372036854775807) (hG : Glob w) :
 Calls Tryd.prog 10 #[.slice a n c] w fun e w' => e = .returned (.bool (pathG l)) ∧ Below w.heap.size w w' := by
 have HL := Lib.hid hl
 have HN := Lib.hid hn
 have HS := Lib.hid hs
 have G := Lib.hid hG
 obtain ⟨res, hres⟩ : ∃ r, pathG l = r := ⟨_, rfl⟩
 have R := Lib.hid hres
 rw [hres]
 clear hl hn hs hG hres
 go_enter Tryd.func10, Tryd.ntmps10
 by_cases g6 : 6 < n
 · have g6i : (6 : Int) < (n : Int) := by omega
   obtain rfl : false = res := by rw [← R.out]; unfold pathG; rw [decide_eq_false (by rw [← HN.out]; omega)]; rfl
   go_wp2_with fail
   go_ret
   exact ⟨rfl, Below.refl _ _⟩
 have g6i : ¬ (6 : Int) < (n : Int) := by omega
 have R2 : Hid (l.all keyG = res) := Lib.hid (by rw [← R.out]; unfold pathG; rw [decide_eq_true (by rw [← HN.out]; omega)]; rfl)
 clear R
 go_wp2_with fail
 go_loopw [10] (fun i wr => ∃ k : Nat, k ≤ n ∧ i = .int .i64 (k : Int) ∧ Hid ((l.take k).all keyG = true) ∧ Hid (Below w.heap.size w wr)) (fun i _ => n - (intOf i).toNat)
 case atStart => exact ⟨0, Nat.zero_le _, rfl, Lib.hid (by simp), Lib.hid (Below.refl _ _)⟩
 case round =>
  obtain ⟨k, hk, rfl, HA, HB⟩ := hrel
  by_cases hlt : k < n
  · have hk1 : k < l.length := by have := HN.out; omega
    obtain ⟨ba, oa, rfl, p0⟩ := tx_get (HL.out.below HB.out rfl) k hk1
    have BAD : Hid (keyG l[k] = false → res = false) := Lib.hid (fun h => by
     rw [← R2.out]
     cases hh : l.all keyG with
     | false => rfl
     | true => rw [List.all_eq_true.1 hh _ (List.getElem_mem hk1)] at h; cases h)
    have NXT : Hid (keyG l[k] = true → (l.take (k + 1)).all keyG = true) := Lib.hid (fun h => by rw [List.take_succ_eq_append_getElem hk1, List.all_append, HA.out]; simp [h])
    have SX : Hid (l[k].size ≤ 9223372036854775807) := Lib.hid (HS.out _ (List.getElem_mem hk1))
    generalize l[k] = x at *
    have hki : (k : Int) < (n : Int) := by omega
    go_wp2_with fail
    refine (key_Key x _ SX.out (G.out.below HB.out)).mono ?_
    rintro e w1 ⟨rfl, hb⟩
    have HB1 := Lib.hid (HB.out.trans (hb.mono HB.out.size))
    clear hb p0
    obtain ⟨v, hv⟩ : ∃ q, keyG x = q := ⟨_, rfl⟩
    rw [hv] at BAD NXT ⊢
    clear hv
    cases v with
    | false =>
     obtain rfl : false = res := (BAD.out rfl).symm
     go_wp2_with fail
     go_ret
     exact ⟨rfl, HB1.out⟩
    | true =>
     have H := Lib.hid (NXT.out rfl)
     go_wp2_with fail
     go_roundw
     case rel => exact ⟨k + 1, by omega, by go_num, H, HB1⟩
     case measure => simp [intOf]; omega
  · obtain rfl : k = n := by omega
    obtain rfl : true = res := by rw [← R2.out]; have := HA.out; rw [HN.out, List.take_length] at this; exact this.symm
    go_wp2_with fail
    go_ret
    exact ⟨rfl, HB.out⟩
end Go.Proofs.YtkjchoamdibolaaDoor
namespace Go.Proofs.YtkjchoamdibolaaDoor
open Go.RowKit
theorem grown_of_below {w w' : World} (h : Below w.heap.size w w') (row : Option Nat) : w.grownBy w' row := ⟨h.os, h.tape, h.output, h.size, fun k hk _ => h.block k hk⟩
theorem ownFrom_to {β : Type} {B : Nat} {I : β → World → Prop} (h : OwnFrom B I) {s : β} {A A' : World} (hs : I s A) (hb : Below A.heap.size A A') : I s A' :=
 h s A A' none hs (grown_of_below hb none) (fun r e => by cases e)
variable {P : Program} {n : Nat}
end Go.Proofs.YtkjchoamdibolaaDoor
namespace Go.Proofs.YtkjchoamdibolaaDoor
open Go.RowKit
def Iter2 {α : Type} (n : Nat) (P : Program) (g : Nat) (lb : Array Value) (encs : α → Array Value) (Kp : World → World → Prop) (X : List α → α → World → Prop) (End : World → List α → World → World → Prop) (Sp : List α → Prop) (w : World) : Prop :=
 ∀ (l : Nat) (J Jx : List α → World → Prop) (W : World), Below w.heap.size w W → w.heap.size + 2 ≤ W.heap.size →
  OwnFrom W.heap.size J → OwnFrom W.heap.size Jx →
  (∀ pre x W1, J pre W1 → X pre x W1 → YieldAt Fence.wide (n - 1) P l (encs x) W1 fun e W' =>
   (e = .returned (.bool true) ∧ J (pre ++ [x]) W' ∧ Kp W1 W') ∨ (e = .returned (.bool false) ∧ Jx (pre ++ [x]) W' ∧ Kp W1 W')) →
  J [] W →
  CallsIn Fence.wide n P g (#[.func (.yield l) #[] #[]] ++ lb) W fun e W' => (∃ v, e = .returned v) ∧ ((∃ xs W2, J xs W2 ∧ End W xs W2 W') ∨ (∃ pre, Sp pre ∧ Jx pre W'))
def bodyPostR2 {α : Type} (B : Nat) (Kp : World → World → Prop) (I : List α → World → Prop) (Ix : Code → List α → World → Prop) (xs : List α) (W : World) : Exit → Act → World → Prop
 | .normal, _, W' => KeepsFrom B W W' ∧ Kp W W' ∧ I xs W'
 | .ret, _, W' => KeepsFrom B W W' ∧ Kp W W' ∧ Ix .ret xs W'
 | .exit id, _, W' => KeepsFrom B W W' ∧ Kp W W' ∧ Ix (.exit id) xs W'
 | .goto t, _, W' => KeepsFrom B W W' ∧ Kp W W' ∧ Ix (.goto t) xs W'
 | .panic _, _, _ => False
 | .outgrown, _, _ => False
variable {P : Program} {n : Nat}
theorem range_law2 {α : Type} {g : Operand} {ps : Array Tmp} {assign body : Code} {Q : Exit → Act → World → Prop} {a : Act} {w : World} {gf : Nat} {lb : Array Value}
 (hg : a.eval g = .func (.func gf) #[] lb) (eg : ∀ args w, (callFunc gf args).run P w = .ok (.enter gf args) w)
 {encs : α → Array Value} {Kp : World → World → Prop} {X : List α → α → World → Prop} {End : World → List α → World → World → Prop} {Sp : List α → Prop} (hseq : Iter2 (n - 1) P gf lb encs Kp X End Sp w)
 (h1 : 1 ≤ n) (hKt : ∀ {A B C : World}, Kp A B → Kp B C → Kp A C) (hKb : ∀ (W : World) (o o' : Obj), W.heap[w.heap.size + 1]? = some o → o.isCells = false → Kp W (W.putObj (w.heap.size + 1) o'))
 (hps : ∀ x, (encs x).size = ps.size) (hX : ∀ pre, OwnFrom w.heap.size (X pre)) (hEnd : ∀ W1, w.heap.size + 2 ≤ W1.heap.size → ∀ xs A B, End W1 xs A B → ∀ k o, k < w.heap.size + 2 → A.heap[k]? = some o → o.isCells = false → B.heap[k]? = some o)
 (I : List α → World → Prop) (Ix : Code → List α → World → Prop) (F : List α → World → Prop) (hI : OwnFrom w.heap.size I) (hIx : ∀ c, OwnFrom w.heap.size (Ix c)) (hF : OwnFrom w.heap.size F) (hIF : ∀ W1, w.heap.size + 2 ≤ W1.heap.size → ∀ xs A B, I xs A → End W1 xs A B → F xs B)
 (h0 : I [] w) (Y : List α → α → Act → World → Prop) (hY : ∀ x a', OwnFrom w.heap.size (fun pre => Y pre x a'))
 (hassign : ∀ (l : Nat) (pre : List α) (x : α) (W : World) (K : Act → World → Prop), I pre W → X pre x W → w.heap.size ≤ W.heap.size →
  (∀ a' W', KeepsFrom w.heap.size W W' → Kp W W' → w.heap.size ≤ W'.heap.size → Y pre x a' W' → K a' W') →
  assign.wpIn (Fence.wide.inRound l) (n - 1 - 1) P (Exit.then K (fun _ _ _ => False)) { tmps := (ps.zip (encs x)).foldl (fun t (p, v) => t.setIfInBounds p v) a.tmps, defers := [] } W)
 (hbody : ∀ (l : Nat) (pre : List α) (x : α) (a' : Act) (W : World), Y pre x a' W → w.heap.size ≤ W.heap.size → body.wpIn (Fence.wide.inRound l) (n - 1 - 1) P (bodyPostR2 w.heap.size Kp I Ix (pre ++ [x]) W) a' W)
 (hdone : ∀ (D : Nat) (xs : List α) (W : World), w.heap.size ≤ D → F xs W → W.heap[D]? = some (.deferred (some [])) → Q .normal { a with defers := { target := .collected D, args := #[] } :: a.defers } W)
 (hstop : ∀ (D : Nat) (c : Code) (pre : List α) (W : World), w.heap.size ≤ D → Sp pre → Ix c pre W → W.heap[D]? = some (.deferred (some [])) → c.wpIn Fence.wide n P Q { a with defers := { target := .collected D, args := #[] } :: a.defers } W) :
 (Code.rangeFunc g ps assign body).wpIn Fence.wide n P Q a w := by
 refine wpIn_rangeFunc fun fn hfn => ?_
 obtain ⟨rec, hrec⟩ : ∃ rec : LoopState → Option Code → Loop, rec = fun st pe => { state := st, pending := pe, fn, tmps := a.tmps, params := ps, assign, body, defers := w.heap.size } := ⟨_, rfl⟩
 obtain ⟨W1, hW1⟩ : ∃ W1, (w.alloc (.deferred (some []))).alloc (.loop (rec .ready none)) = W1 := ⟨_, rfl⟩
 have hb1 : Below w.heap.size w W1 := by
  rw [← hW1]; exact (below_new w _).alloc (by simp) _
 have hL1 : W1.heap[w.heap.size + 1]? = some (.loop (rec .ready none)) := by
  have h := World.alloc_heap_new (w.alloc (.deferred (some []))) (.loop (rec .ready none))
  rw [World.size_alloc, hW1] at h
  exact h
 have hK1 : W1.heap[w.heap.size]? = some (.deferred (some [])) := by
  rw [← hW1]; exact (Below.heap_alloc _ _ _ (by simp)).trans (World.alloc_heap_new w _)
 refine ⟨w.heap.size + 1, [{ target := .collected w.heap.size, args := #[] }], W1, { target := .fn (.func gf) lb, args := #[.func (.yield (w.heap.size + 1)) #[] #[]] }, W1, gf,
  #[.func (.yield (w.heap.size + 1)) #[] #[]] ++ lb, W1, ?_, ?_, ?_, ?_, fun _ => h1, ?_⟩
 · rw [← hW1, hrec]; exact run_enterLoop_outer _ _ _ _ _
 · simp only [resolve, hg]
   simp [go_sem]
 · intro f' _; trivial
 · simp [invoke, go_sem, eg]
 · have keepRec : ∀ {A B : World} {k : Nat} {o : Obj}, A.heap[k]? = some o → Below A.heap.size A B → B.heap[k]? = some o := fun hk hb => (hb.block _ (Array.getElem?_eq_some_iff.1 hk).1).trans hk
   have hsz1 : W1.heap.size = w.heap.size + 2 := by rw [← hW1]; simp
   have key : ∀ {A A' : World} {row : Option Nat}, A.grownBy A' row → (∀ r, row = some r → W1.heap.size ≤ r ∧ ∃ o : Obj, A.heap[r]? = some o ∧ o.isCells = false) → ∀ k o, A.heap[k]? = some o → k < W1.heap.size → A'.heap[k]? = some o := fun hg hr k o hk hlt => (hg.block k (Array.getElem?_eq_some_iff.1 hk).1 (fun e => by have := (hr k e.symm).1; omega)).trans hk
   have hJo : OwnFrom W1.heap.size (fun pre W => I pre W ∧ W.heap[w.heap.size + 1]? = some (.loop (rec .ready none)) ∧ W.heap[w.heap.size]? = some (.deferred (some []))) := by
    rintro s A A' row ⟨h1, h2, h3⟩ hg hr
    exact ⟨hI s A A' row h1 hg (fun r e => ⟨by have := (hr r e).1; omega, (hr r e).2⟩), key hg hr _ _ h2 (by omega), key hg hr _ _ h3 (by omega)⟩
   have hJxo : OwnFrom W1.heap.size (fun pre W => ∃ c, Ix c pre W ∧ W.heap[w.heap.size + 1]? = some (.loop (rec .done (some c))) ∧ W.heap[w.heap.size]? = some (.deferred (some []))) := by
    rintro s A A' row ⟨c, h1, h2, h3⟩ hg hr
    exact ⟨c, hIx c s A A' row h1 hg (fun r e => ⟨by have := (hr r e).1; omega, (hr r e).2⟩), key hg hr _ _ h2 (by omega), key hg hr _ _ h3 (by omega)⟩
   refine (hseq (w.heap.size + 1)
    (fun pre W => I pre W ∧ W.heap[w.heap.size + 1]? = some (.loop (rec .ready none)) ∧ W.heap[w.heap.size]? = some (.deferred (some [])))
    (fun pre W => ∃ c, Ix c pre W ∧ W.heap[w.heap.size + 1]? = some (.loop (rec .done (some c))) ∧ W.heap[w.heap.size]? = some (.deferred (some [])))
    W1 hb1 (by omega) hJo hJxo ?_ ⟨ownFrom_to hI h0 hb1, hL1, hK1⟩).mono ?_
   · rintro pre x W ⟨hi, hl, hk⟩ hx
     have hlt : w.heap.size + 1 < W.heap.size := (Array.getElem?_eq_some_iff.1 hl).1
     have hy := run_yield (P := P) (args := encs x) hl (by rw [hrec]; exact hps x)
     rw [hrec] at hy
     refine ⟨fn, _, assign, body, hy, roundIn_of_wpIn hfn (hassign _ pre x W _ hi hx (by omega) ?_)⟩
     intro a' Wa hkoa hkpa hsa hYa
     have hla := hkoa.same _ _ (by omega) hl rfl
     have hka := hkoa.same _ _ (by omega) hk rfl
     have hlta : w.heap.size + 1 < Wa.heap.size := (Array.getElem?_eq_some_iff.1 hla).1
     refine ⟨_, run_beginRound hla (by rw [hrec]), ?_⟩
     obtain ⟨W2, hW2⟩ : ∃ W2, Wa.putObj (w.heap.size + 1) (.loop { rec .ready none with state := .busy }) = W2 := ⟨_, rfl⟩
     have hl2 : W2.heap[w.heap.size + 1]? = some (.loop { rec .ready none with state := .busy }) := by rw [← hW2]; exact World.putObj_heap_same hlta
     have hk2 : W2.heap[w.heap.size]? = some (.deferred (some [])) := by rw [← hW2]; exact (World.putObj_heap_other (by omega)).trans hka
     have hw2 : Kp W W2 := by rw [← hW2]; exact hKt hkpa (hKb _ _ _ hla rfl)
     have hY2 : Y pre x a' W2 := by rw [← hW2]; exact (hY x a').putObj _ hYa (by omega) hla rfl
     have hs2 : w.heap.size ≤ W2.heap.size := by rw [← hW2, World.putObj_size]; omega
     rw [hW2]
     refine wpIn_mono (hbody _ pre x a' _ hY2 hs2) ?_
     have fin : ∀ (jump : Option Code) (W3 : World), KeepsFrom w.heap.size W2 W3 →
      (Instr.endRound (w.heap.size + 1) jump).run P W3 = .ok (.bool jump.isNone) (W3.putObj (w.heap.size + 1) (.loop (rec (if jump.isNone then .ready else .done) jump))) ∧
      W3.heap[w.heap.size + 1]? = some (.loop { rec .ready none with state := .busy }) ∧
      (W3.putObj (w.heap.size + 1) (.loop (rec (if jump.isNone then .ready else .done) jump))).heap[w.heap.size + 1]? = some (.loop (rec (if jump.isNone then .ready else .done) jump)) ∧
      (W3.putObj (w.heap.size + 1) (.loop (rec (if jump.isNone then .ready else .done) jump))).heap[w.heap.size]? = some (.deferred (some [])) := by
      intro jump W3 hk3
      have hl3 := hk3.same _ _ (by omega) hl2 rfl
      have h4 := run_endRound (P := P) jump hl3
      rw [hrec] at h4 ⊢
      rw [hrec] at hl3
      exact ⟨h4, hl3, World.putObj_heap_same (Array.getElem?_eq_some_iff.1 hl3).1, (World.putObj_heap_other (by omega)).trans (hk3.same _ _ (by omega) hk2 rfl)⟩
     rintro e a3 W3 hp
     cases e with
     | normal =>
      obtain ⟨hk3, hkp3, hi3⟩ := hp
      obtain ⟨hr, hl3, hl4, hk4⟩ := fin none W3 hk3
      exact ⟨_, _, hr, .inl ⟨rfl, ⟨hI.putObj _ hi3 (by omega) hl3 rfl, hl4, hk4⟩, hKt (hKt hw2 hkp3) (hKb _ _ _ hl3 rfl)⟩⟩
     | ret =>
      obtain ⟨hk3, hkp3, hi3⟩ := hp
      obtain ⟨hr, hl3, hl4, hk4⟩ := fin (some .ret) W3 hk3
      exact ⟨_, _, hr, .inr ⟨rfl, ⟨.ret, (hIx _).putObj _ hi3 (by omega) hl3 rfl, hl4, hk4⟩, hKt (hKt hw2 hkp3) (hKb _ _ _ hl3 rfl)⟩⟩
     | exit id =>
      obtain ⟨hk3, hkp3, hi3⟩ := hp
      obtain ⟨hr, hl3, hl4, hk4⟩ := fin (some (.exit id)) W3 hk3
      exact ⟨_, _, hr, .inr ⟨rfl, ⟨.exit id, (hIx _).putObj _ hi3 (by omega) hl3 rfl, hl4, hk4⟩, hKt (hKt hw2 hkp3) (hKb _ _ _ hl3 rfl)⟩⟩
     | goto t =>
      obtain ⟨hk3, hkp3, hi3⟩ := hp
      obtain ⟨hr, hl3, hl4, hk4⟩ := fin (some (.goto t)) W3 hk3
      exact ⟨_, _, hr, .inr ⟨rfl, ⟨.goto t, (hIx _).putObj _ hi3 (by omega) hl3 rfl, hl4, hk4⟩, hKt (hKt hw2 hkp3) (hKb _ _ _ hl3 rfl)⟩⟩
     | panic ch => exact hp.elim
     | outgrown => exact hp.elim
   · rintro e W2 ⟨⟨v, rfl⟩, (⟨xs, W3, ⟨hi, hl, hk⟩, he⟩ | ⟨pre, hSp, c, hi, hl, hk⟩)⟩
     · have ho := hEnd _ (by omega) _ _ _ he
       have hl3 := ho _ _ (by omega) hl rfl
       have hk3 := ho _ _ (by omega) hk rfl
       exact ⟨none, _, by have h4 := run_endLoop (P := P) hl3 (by rw [hrec]; simp); rw [hrec] at h4; exact h4, hdone _ xs _ (Nat.le_refl _) (hF.putObj _ (hIF _ (by omega) _ _ _ hi he) (by omega) hl3 rfl) ((World.putObj_heap_other (by omega)).trans hk3)⟩
     · exact ⟨some c, _, by have h4 := run_endLoop (P := P) hl (by rw [hrec]; simp); rw [hrec] at h4; exact h4, hstop _ c pre _ (Nat.le_refl _) hSp ((hIx c).putObj _ hi (by omega) hl rfl) ((World.putObj_heap_other (by omega)).trans hk)⟩
end Go.Proofs.YtkjchoamdibolaaDoor
namespace Go.Proofs.YtkjchoamdibolaaDoor
open Go.RowKit
section
variable {P : Program} {n : Nat} {md : Region.Mode} {ops : Array Oper} {Q : Exit → Act → World → Prop} {S : World → Prop}
def OnlyE (Q : Exit → Act → World → Prop) : Exit → Act → World → Prop
 | .normal, a, w => Q .normal a w
 | _, _, _ => False
theorem OnlyE.normal {a : Act} {w : World} (h : Q .normal a w) : OnlyE Q .normal a w := h
end
end Go.Proofs.YtkjchoamdibolaaDoor
namespace Go.Proofs.YtkjchoamdibolaaDoor
open Go.RowKit
structure KeepE (M : Nat) (S : Nat → Prop) (Ex : TypeId → Prop) (A B : World) : Prop where
 os : B.os = A.os
 tape : B.tape = A.tape
 output : B.output = A.output
 size : A.heap.size ≤ B.heap.size
 block : ∀ k, S k → B.heap[k]? = A.heap[k]?
 rest : ∀ k o, M ≤ k → A.heap[k]? = some o → (∀ c t fr, o = .cells c t fr → ¬ Ex t) → B.heap[k]? = some o
theorem KeepE.trans {M : Nat} {S : Nat → Prop} {Ex : TypeId → Prop} {A B C : World} (h : KeepE M S Ex A B) (k : KeepE M S Ex B C) : KeepE M S Ex A C :=
 ⟨k.os.trans h.os, k.tape.trans h.tape, k.output.trans h.output, Nat.le_trans h.size k.size, fun i hi => (k.block i hi).trans (h.block i hi), fun i o hi ho ht => k.rest i o hi (h.rest i o hi ho ht) ht⟩
theorem KeepE.below {M : Nat} {S : Nat → Prop} {Ex : TypeId → Prop} {A B : World} (h : Below A.heap.size A B) (hS : ∀ k, S k → k < A.heap.size) : KeepE M S Ex A B :=
 ⟨h.os, h.tape, h.output, h.size, fun k hk => h.block k (hS k hk), fun k o _ ho _ => (h.block k (Array.getElem?_eq_some_iff.1 ho).1).trans ho⟩
theorem KeepE.refl {M : Nat} {S : Nat → Prop} {Ex : TypeId → Prop} (A : World) : KeepE M S Ex A A := ⟨rfl, rfl, rfl, Nat.le_refl _, fun _ _ => rfl, fun _ _ _ h _ => h⟩
theorem KeepE.put {M : Nat} {S : Nat → Prop} {Ex : TypeId → Prop} (W : World) (l : Nat) (o : Obj) (hl : l < M) (hS : ∀ k, S k → k < l) : KeepE M S Ex W (W.putObj l o) :=
 ⟨rfl, rfl, rfl, by simp, fun i hi => World.putObj_heap_other (by have := hS i hi; omega), fun k o' hk ho _ => (World.putObj_heap_other (by omega)).trans ho⟩
theorem KeepE.setCell {M : Nat} {S : Nat → Prop} {Ex : TypeId → Prop} (W : World) (X i : Nat) (v : Value) (hX : X < M) (hS : ¬ S X) : KeepE M S Ex W (W.setCell ⟨X, i, none⟩ v) :=
 ⟨rfl, rfl, rfl, by simp [World.setCell], fun k hk => Below.heap_setCell _ _ _ _ (fun e => hS (show S X from (show k = X from e) ▸ hk)), fun k o hk ho _ => (Below.heap_setCell _ _ _ _ (by simp; omega)).trans ho⟩
theorem KeepE.box {M : Nat} {S : Nat → Prop} {Ex : TypeId → Prop} {A B : World} (h : KeepE M S Ex A B) {b : Nat} {t : TypeId} {v : Value} (hb : Boxed A b t v) (hM : M ≤ b) (ht : ¬ Ex t) : Boxed B b t v :=
 h.rest b _ hM hb (fun c t' fr e => by cases e; exact ht)
end Go.Proofs.YtkjchoamdibolaaDoor
namespace Go.Proofs.YtkjchoamdibolaaDoor
open Go.RowKit
def Facts (H : List (Nat × Obj)) (W : World) : Prop := ∀ p ∈ H, W.heap[p.1]? = some p.2
theorem Facts.below {H : List (Nat × Obj)} {A B : World} (h : Facts H A) (hb : Below A.heap.size A B) : Facts H B := fun p hp => (hb.block _ (Array.getElem?_eq_some_iff.1 (h p hp)).1).trans (h p hp)
theorem Facts.lt {H : List (Nat × Obj)} {A : World} (h : Facts H A) : ∀ p ∈ H, p.1 < A.heap.size := fun p hp => (Array.getElem?_eq_some_iff.1 (h p hp)).1
theorem Facts.setCell {H : List (Nat × Obj)} {A : World} {c i : Nat} (h : Facts H A) (hc : ∀ p ∈ H, p.1 ≠ c) (v : Value) : Facts H (A.setCell ⟨c, i, none⟩ v) := fun p hp => (Below.heap_setCell _ _ _ _ (by simpa using hc p hp)).trans (h p hp)
theorem Facts.putObj {H : List (Nat × Obj)} {A : World} {c : Nat} (h : Facts H A) (hc : ∀ p ∈ H, p.1 ≠ c) (o : Obj) : Facts H (A.putObj c o) := fun p hp => (World.putObj_heap_other (fun e => hc p hp e)).trans (h p hp)
theorem Facts.cons {H : List (Nat × Obj)} {A : World} {b : Nat} {o : Obj} (h : Facts H A) (hb : A.heap[b]? = some o) : Facts ((b, o) :: H) A := fun p hp => by
 rcases List.mem_cons.1 hp with rfl | hp
 · exact hb
 · exact h p hp
theorem own_block {β : Type} {B k : Nat} {o : Obj} (hk : k < B) : OwnFrom B (fun (_ : β) W => W.heap[k]? = some o) := by
 rintro _ A A' row h hg hr
 exact (hg.block k (Array.getElem?_eq_some_iff.1 h).1 (fun e => by have := (hr k e.symm).1; omega)).trans h
theorem facts_own {β : Type} (H : List (Nat × Obj)) (B : Nat) (hH : ∀ p ∈ H, p.1 < B) : OwnFrom B (fun (_ : β) W => Facts H W) := by
 rintro b A A' row h hg hr p hp
 exact own_block (β := Unit) (hH p hp) () A A' row (h p hp) hg hr
def marks (Ds : List Nat) : List Deferred := Ds.map fun D => { target := .collected D, args := #[] }
def markF (Ds : List Nat) : List (Nat × Obj) := Ds.map fun D => (D, .deferred (some []))
theorem leaves_marks {F : Fence} {n : Nat} {P : Program} {fn : Func} {tmps : Array Value} {R : Ending → World → Prop} : ∀ (Ds : List Nat) (W : World), Ds.Nodup → Facts (markF Ds) W →
 (∀ W', W'.os = W.os → W'.tape = W.tape → W'.output = W.output → W'.heap.size = W.heap.size → (∀ k, k ∉ Ds → W'.heap[k]? = W.heap[k]?) → ∃ v, (results fn tmps).run P W' = .ok v W' ∧ R (.returned v) W') →
 LeavesInM F n P fn tmps R (marks Ds) .returning W
 | [], W, _, _, h => h W rfl rfl rfl rfl fun _ _ => rfl
 | D :: Ds, W, hnd, hf, h => by
  obtain ⟨h1, h2⟩ := List.nodup_cons.1 hnd
  refine ⟨by simp, .inl ⟨_, _, rfl, run_takeDeferred (hf (D, .deferred (some [])) (by simp [markF])), ?_⟩⟩
  refine leaves_marks Ds _ h2 (Facts.putObj (fun p hp => hf p (by simp only [markF, List.map_cons, List.mem_cons]; exact .inr hp)) (fun p hp e => ?_) _) ?_
  · obtain ⟨D', hD', rfl⟩ := List.mem_map.1 hp
    exact h1 (e ▸ hD')
  · intro W' e1 e2 e3 e4 e5
    refine h W' e1 e2 e3 (by rw [e4]; simp) fun k hk => ?_
    rw [e5 k (fun hm => hk (List.mem_cons_of_mem _ hm))]
    exact World.putObj_heap_other (fun e => hk (e ▸ List.mem_cons_self))
structure SameBut (c y : Nat) (A B : World) : Prop where
 os : B.os = A.os
 tape : B.tape = A.tape
 output : B.output = A.output
 size : A.heap.size ≤ B.heap.size
 block : ∀ k, k < y → k ≠ c → B.heap[k]? = A.heap[k]?
theorem SameBut.refl (c y : Nat) (A : World) : SameBut c y A A := ⟨rfl, rfl, rfl, Nat.le_refl _, fun _ _ _ => rfl⟩
theorem SameBut.trans {c y : Nat} {A B C : World} (h : SameBut c y A B) (k : SameBut c y B C) : SameBut c y A C :=
 ⟨k.os.trans h.os, k.tape.trans h.tape, k.output.trans h.output, Nat.le_trans h.size k.size, fun i h1 h2 => (k.block i h1 h2).trans (h.block i h1 h2)⟩
theorem SameBut.setCell {c y : Nat} {A B : World} (h : SameBut c y A B) (i : Nat) (v : Value) : SameBut c y A (B.setCell ⟨c, i, none⟩ v) :=
 ⟨h.os, h.tape, h.output, by simpa [World.setCell] using h.size, fun k h1 h2 => (Below.heap_setCell _ _ _ _ (by simpa using h2)).trans (h.block k h1 h2)⟩
theorem SameBut.own {β : Type} {c y B : Nat} {w : World} (hw : y ≤ w.heap.size) (hB : y ≤ B) : OwnFrom B (fun (_ : β) W => SameBut c y w W) := by
 rintro _ A A' row h hg hr
 exact ⟨hg.os.trans h.os, hg.tape.trans h.tape, hg.output.trans h.output, Nat.le_trans h.size hg.size, fun k h1 h2 => (hg.block k (by have := h.size; omega) (fun e => by have := (hr k e.symm).1; omega)).trans (h.block k h1 h2)⟩
def allocs (w : World) : List Obj → World
 | [] => w
 | o :: l => allocs (w.alloc o) l
theorem allocs_below : ∀ (l : List Obj) (w : World), Below w.heap.size w (allocs w l)
 | [], w => Below.refl _ _
 | o :: l, w => (below_new w o).trans ((allocs_below l (w.alloc o)).mono (by simp))
theorem allocs_get : ∀ (l : List Obj) (w : World) (i : Nat) (o : Obj), l[i]? = some o → (allocs w l).heap[w.heap.size + i]? = some o
 | [], w, i, o, h => by simp at h
 | o' :: l, w, 0, o, h => by
  simp at h
  subst h
  exact ((allocs_below l (w.alloc o')).block _ (by simp)).trans (heap_alloc_new w o')
 | o' :: l, w, i + 1, o, h => by
  have := allocs_get l (w.alloc o') i o (by simpa using h)
  rw [World.size_alloc] at this
  rw [show w.heap.size + (i + 1) = w.heap.size + 1 + i by omega]
  exact this
end Go.Proofs.YtkjchoamdibolaaDoor
namespace Go.Proofs.YtkjchoamdibolaaDoor
open Go.RowKit Ku St
set_option maxRecDepth 100000 in
set_option maxHeartbeats 2000000 in
theorem ref5_Path (l : List ByteArray) (a : Option Addr) (n c : Nat) (w : World) (hl : CellsAt w a (txV l)) (hn : n = l.length) :
 Calls Tryd.prog 11 #[.slice a n c] w fun e w' => e = .returned (.bool (pathG l)) ∧ Below w.heap.size w w' := by
 have HL := Lib.hid hl
 have HN := Lib.hid hn
 obtain ⟨res, hres⟩ : ∃ r, pathG l = r := ⟨_, rfl⟩
 have R := Lib.hid hres
 rw [hres]
 clear hl hn hres
 go_enter Tryd.func11, Tryd.ntmps11
 by_cases g6 : 6 < n
 · have g6i : (6 : Int) < (n : Int) := by omega
   obtain rfl : false = res := by rw [← R.out]; unfold pathG; rw [decide_eq_false (by rw [← HN.out]; omega)]; rfl
   go_wp2_with fail
   go_ret
   exact ⟨rfl, Below.refl _ _⟩
 have g6i : ¬ (6 : Int) < (n : Int) := by omega
 have R2 : Hid (l.all keyG = res) := Lib.hid (by rw [← R.out]; unfold pathG; rw [decide_eq_true (by rw [← HN.out]; omega)]; rfl)
 clear R
 go_wp2_with fail
 go_loopw [3] (fun i wr => ∃ k : Nat, k ≤ n ∧ i = .int .i64 (k : Int) ∧ Hid ((l.take k).all keyG = true) ∧ Hid (Below w.heap.size w wr)) (fun i _ => n - (intOf i).toNat)
 case atStart => exact ⟨0, Nat.zero_le _, rfl, Lib.hid (by simp), Lib.hid (Below.refl _ _)⟩
 case round =>
  obtain ⟨k, hk, rfl, HA, HB⟩ := hrel
  by_cases hlt : k < n
  · have hk1 : k < l.length := by have := HN.out; omega
    obtain ⟨ba, oa, rfl, p0⟩ := tx_get (HL.out.below HB.out rfl) k hk1
    have BAD : Hid (keyG l[k] = false → res = false) := Lib.hid (fun h => by
     rw [← R2.out]
     cases hh : l.all keyG with
     | false => rfl
     | true => rw [List.all_eq_true.1 hh _ (List.getElem_mem hk1)] at h; cases h)
    have NXT : Hid (keyG l[k] = true → (l.take (k + 1)).all keyG = true) := Lib.hid (fun h => by rw [List.take_succ_eq_append_getElem hk1, List.all_append, HA.out]; simp [h])
    generalize l[k] = x at *
    have hki : (k : Int) < (n : Int) := by omega
    go_wp2_with fail
    refine (ref5_Key x _).mono ?_
    rintro e w1 ⟨rfl, hb⟩
    have HB1 := Lib.hid (HB.out.trans (hb.mono HB.out.size))
    clear hb p0
    obtain ⟨v, hv⟩ : ∃ q, keyG x = q := ⟨_, rfl⟩
    rw [hv] at BAD NXT ⊢
    clear hv
    cases v with
    | false =>
     obtain rfl : false = res := (BAD.out rfl).symm
     go_wp2_with fail
     go_ret
     exact ⟨rfl, HB1.out⟩
    | true =>
     have H := Lib.hid (NXT.out rfl)
     go_wp2_with fail
     go_roundw
     case rel => exact ⟨k + 1, by omega, by go_num, H, HB1⟩
     case measure => simp [intOf]; omega
  · obtain rfl : k = n := by omega
    obtain rfl : true = res := by rw [← R2.out]; have := HA.out; rw [HN.out, List.take_length] at this; exact this.symm
    go_wp2_with fail
    go_ret
    exact ⟨rfl, HB.out⟩
structure Plc where
 l : List ByteArray
 k : Int
 x : ByteArray
 a : Option Addr
 n : Nat
 c : Nat
def Plc.v (p : Plc) : Value := .agg #[.slice p.a p.n p.c, .int .i64 p.k, .string p.x]
structure PlcAt (w : World) (p : Plc) : Prop where
 at_ : CellsAt w p.a (txV p.l)
 len : p.n = p.l.length
 le : p.n ≤ 9223372036854775807
 sz : ∀ x ∈ p.l, x.size ≤ 9223372036854775807
 sx : p.x.size ≤ 9223372036854775807
theorem PlcAt.below {w w' : World} {p : Plc} (h : PlcAt w p) (hb : Below w.heap.size w w') : PlcAt w' p := ⟨h.at_.below hb rfl, h.len, h.le, h.sz, h.sx⟩
end Go.Proofs.YtkjchoamdibolaaDoor
namespace Go.Proofs.YtkjchoamdibolaaDoor
open Go.RowKit
section
attribute [local go_sem] Oper.semAt_some
theorem wpListIn_app {F : Fence} {nn : Nat} {P : Program} {w : World} {ops : Array Oper} {rest : List Oper} {o : Oper} {a : Act} {Q : Exit → Act → World → Prop} (hgd : o.guard = none) (s x : Operand) (t tx : TypeId)
 (ho : o.op = .call { callee := .builtin .append, args := #[s, x], argTypes := #[t, tx] })
 (base : Nat) (e : TypeId) (z : Value) (size bytes : Nat) (ht : ElemT P t e z size bytes)
 (v : Value) (n : Nat) (xs : List Value) (hv : a.eval s = v) (hown : w.ownsRow base e size v n xs)
 (xv : Value) (m : Nat) (news : List Value) (hx : a.eval x = xv) (hs : Src P size tx xv m news w)
 (h63 : n + m ≤ 4611686018427387904) (hbytes : (n + m) * bytes ≤ 140737488355328) (hbase : base ≤ w.heap.size)
 (h : ∀ v' w', w'.ownsRow base e size v' (n + m) (xs ++ news) → w.grownBy w' v.ownBlock → Below base w w' → (v'.ownBlock = v.ownBlock ∨ v'.ownBlock = some w.heap.size) → wpListIn F nn P ops Q rest (a.put o.dst v') w') : wpListIn F nn P ops Q (o :: rest) a w := by
 obtain ⟨h1, i, h2, h3, h4, h5, h6⟩ := ht
 refine wpListIn_plain hgd fun K hK' => ?_
 obtain ⟨v', w', hrun, r1, r2, r3, _⟩ := run_append_own_src (P := P) w base t tx o.type e i z size bytes h1 h2 h3 h4 h5 h6 v n xs hown xv m news hs (by unfold maxLen; omega) hbytes hbase
 unfold Oper.wpIn
 refine ⟨?_, ?_⟩
 · simp [Oper.about, ho, resolve, Target.leads, Sem.run_pure]
 · rw [Oper.semAt_plain F _ _ (by rw [ho]; intro c hc'; cases hc')]
   simp [execOp, ho, resolve, invoke, builtin, hv, hx, hrun, Result.andThen]
   exact hK' _ _ (h v' w' r1 r2 (below_of_grown hown hbase r2) r3)
end
theorem run_upto {P : Program} (w : World) (t e : TypeId) (ht : P.underlying t = some (.slice e)) (size : Nat) (hz : ∀ w, (Go.sizeOf e).run P w = .ok size w) (a : Option Addr) (ha : a = none ∨ ∃ g, a = some ⟨g, 0, none⟩) (len cap k : Nat) (x : Int) (hx : x = (k : Int)) (hk : k ≤ cap) :
 (Instr.slice t (.slice a len cap) none (some (.int .i64 x)) none).run P w = .ok (.slice a k cap) w := by
 have ht' : P.underlying t = some (.slice (P.elem t)) := by simp [Program.elem, ht]
 have he : P.elem t = e := by simp [Program.elem, ht]
 subst hx
 rw [run_slice_h w t _ _ _ ht' .i64 _ (by omega) (by omega), he, hz]
 rcases ha with rfl | ⟨g, rfl⟩
 · simp [Result.andThen, sliced]
 · simp [Result.andThen, sliced, Addr_add]
theorem heap_kp {A A' : World} {row : Option Nat} (hg : A.grownBy A' row) (hr : ∀ r, row = some r → ∃ o : Obj, A.heap[r]? = some o ∧ o.isCells = false) {g : Nat} {c : Array Value} {t : TypeId} {fr : Nat × Nat} (h : A.heap[g]? = some (.cells c t fr)) : A'.heap[g]? = some (.cells c t fr) := by
 refine (hg.block g (Array.getElem?_eq_some_iff.1 h).1 fun e => ?_).trans h
 obtain ⟨o, ho, hc⟩ := hr g e.symm
 rw [h] at ho; cases ho; cases hc
structure KeepU (S : Nat → Prop) (W W' : World) : Prop where
 os : W'.os = W.os
 tape : W'.tape = W.tape
 output : W'.output = W.output
 size : W.heap.size ≤ W'.heap.size
 block : ∀ k, S k → W'.heap[k]? = W.heap[k]?
theorem KeepU.refl (S : Nat → Prop) (W : World) : KeepU S W W := ⟨rfl, rfl, rfl, Nat.le_refl _, fun _ _ => rfl⟩
theorem KeepU.trans {S : Nat → Prop} {A B C : World} (h : KeepU S A B) (k : KeepU S B C) : KeepU S A C :=
 ⟨k.os.trans h.os, k.tape.trans h.tape, k.output.trans h.output, Nat.le_trans h.size k.size, fun i hi => (k.block i hi).trans (h.block i hi)⟩
theorem KeepU.below {S : Nat → Prop} {N : Nat} {A B : World} (h : Below N A B) (hS : ∀ k, S k → k < N) : KeepU S A B := ⟨h.os, h.tape, h.output, h.size, fun i hi => h.block i (hS i hi)⟩
theorem KeepU.put {S : Nat → Prop} {N : Nat} (W : World) (l : Nat) (o : Obj) (hl : N ≤ l) (hS : ∀ k, S k → k < N) : KeepU S W (W.putObj l o) :=
 ⟨rfl, rfl, rfl, by simp, fun i hi => World.putObj_heap_other (by have := hS i hi; omega)⟩
theorem KeepU.cell {S : Nat → Prop} {A B : World} (h : KeepU S A B) {p : Addr} {v : Value} (hp : S p.block) (hc : A.cell? p = some v) : B.cell? p = some v := by
 unfold World.cell? at hc ⊢
 rw [h.block _ hp]; exact hc
theorem KeepU.cells {S : Nat → Prop} {A B : World} (h : KeepU S A B) {a : Option Addr} {vs : List Value} (hp : ∀ ad, a = some ad → S ad.block) (hc : CellsAt A a vs) : CellsAt B a vs := by
 intro i hi
 obtain ⟨b, off, rfl, c⟩ := hc i hi
 exact ⟨b, off, rfl, h.cell (p := ⟨b, off + i, none⟩) (hp ⟨b, off, none⟩ rfl) c⟩
end Go.Proofs.YtkjchoamdibolaaDoor
