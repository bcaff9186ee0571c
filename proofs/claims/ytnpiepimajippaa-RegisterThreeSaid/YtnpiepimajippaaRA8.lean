/- Words, contracts and walks that the proof stands on (KyT ElS). -/
import Derived.Test.YtnpiepimajippaaRA6
import Derived.Test.YtnpiepimajippaaRA7
namespace Go.Proofs.Ytnpiepimajippaa
open Go.RowKit St
def txV (l : List ByteArray) : List Value := l.map Value.string
theorem tx_get {w : World} {a : Option Addr} {l : List ByteArray} (h : CellsAt w a (txV l)) (k : Nat) (hk : k < l.length) : ∃ b off, a = some ⟨b, off, none⟩ ∧ w.cell? ⟨b, off + k, none⟩ = some (.string l[k]) := h.get k _ (by simp [txV, hk])
set_option maxRecDepth 100000 in
set_option maxHeartbeats 2000000 in
theorem ref9_SameTexts (l m : List ByteArray) (a b : Option Addr) (n1 n2 c1 c2 : Nat) (w : World) (hl : CellsAt w a (txV l)) (hm : CellsAt w b (txV m)) (hn1 : n1 = l.length) (hn2 : n2 = m.length) (hb : n1 ≤ 9223372036854775807) :
    Calls Try.prog 86 #[.slice a n1 c1, .slice b n2 c2] w fun e w' => e = .returned (.bool (decide (l = m))) ∧ Below w.heap.size w w' := by
  have HL := Lib.hid hl
  have HM := Lib.hid hm
  clear hl hm
  go_enter Try.func86, Try.ntmps86
  by_cases hlen : n1 = n2
  · subst hlen
    have hN : Hid (l.length = m.length) := Lib.hid (by omega)
    have E : Hid (l.take n1 = m.take n1 → decide (l = m) = true) := Lib.hid (fun h => eq_all hN.out (by rw [← hn1]; exact h))
    have F : Hid (∀ k (h1 : k < l.length) (h2 : k < m.length), l[k] ≠ m[k] → decide (l = m) = false) := Lib.hid (fun k h1 h2 h => ne_at h1 h2 h)
    generalize decide (l = m) = res at *
    go_wp2_with fail
    go_loopw [5] (fun i wr => ∃ k : Nat, k ≤ n1 ∧ i = .int .i64 (k : Int) ∧ Hid (l.take k = m.take k) ∧ Hid (Below w.heap.size w wr)) (fun i _ => n1 - (intOf i).toNat)
    case atStart => exact ⟨0, Nat.zero_le _, rfl, Lib.hid rfl, Lib.hid (Below.refl _ _)⟩
    case round =>
      obtain ⟨k, hk, rfl, HT, HB⟩ := hrel
      by_cases hlt : k < n1
      · have hk1 : k < l.length := by omega
        have hk2 : k < m.length := by omega
        obtain ⟨ba, oa, rfl, ca⟩ := tx_get (HL.out.below HB.out rfl) k hk1
        obtain ⟨bb, ob, rfl, cb⟩ := tx_get (HM.out.below HB.out rfl) k hk2
        have G1 : Hid (l[k] ≠ m[k] → res = false) := Lib.hid (F.out k hk1 hk2)
        have G2 : Hid (l[k] = m[k] → l.take (k + 1) = m.take (k + 1)) := Lib.hid (take_eq hk1 hk2 HT.out)
        generalize l[k] = x at *
        generalize m[k] = y at *
        have hki : (k : Int) < (n1 : Int) := by omega
        by_cases hxy : x = y
        · have H := Lib.hid (G2.out hxy)
          have hd : (x.toList == y.toList) = true := by rw [Pm.eq_iff]; simpa using hxy
          clear hxy
          go_wp2_with fail
          go_quiet (fail)
          go_wp2_with fail
          refine ⟨⟨k + 1, by omega, by go_num, H, Lib.hid (below_drews HB.out _)⟩, by simp [intOf]; omega⟩
        · have hr := Lib.hid (G1.out hxy)
          have hd : (x.toList == y.toList) = false := by rw [Pm.eq_iff]; simpa using hxy
          clear hxy
          go_wp2_with fail
          go_quiet (fail)
          go_wp2_with fail
          go_ret
          rw [hr.out]
          exact ⟨rfl, below_drews HB.out _⟩
      · obtain rfl : k = n1 := by omega
        have hr := Lib.hid (E.out HT.out)
        go_wp2_with fail
        go_ret
        rw [hr.out]
        exact ⟨rfl, HB.out⟩
  · have hr : Hid (decide (l = m) = false) := Lib.hid (by rw [decide_eq_false_iff_not]; rintro rfl; omega)
    have hne : ((n1 : Int) == (n2 : Int)) = false := by simp; omega
    have hne' : ¬ (n1 : Int) = (n2 : Int) := by omega
    generalize decide (l = m) = res at *
    go_wp2_with fail
    go_ret
    rw [hr.out]
    exact ⟨rfl, Below.refl _ _⟩
end Go.Proofs.Ytnpiepimajippaa
namespace Go.Proofs.Ytnpiepimajippaa
namespace St
open Pm
theorem numC_neg (a b : Int) : numC b a = - numC a b := by
  unfold numC
  split <;> split <;> first | omega | (split <;> omega) | skip
theorem txtC_neg (a b : ByteArray) : txtC b a = - txtC a b := by
  unfold txtC
  cases h : klt a b with
  | true => rw [klt_asymm h]; simp
  | false => cases h' : klt b a <;> simp
theorem firstC_neg (a b : Int) : firstC (-a) (-b) = - firstC a b := by
  unfold firstC
  by_cases h : a = 0
  · rw [if_pos (by omega), if_pos h]
  · rw [if_neg (by omega), if_neg h]
theorem svC_neg (s t : Sv) : svC t s = - svC s t := by
  unfold svC nmC brC
  rw [numC_neg s.g t.g, numC_neg s.r t.r, txtC_neg s.l t.l, numC_neg s.n t.n, numC_neg s.i t.i, firstC_neg, firstC_neg, firstC_neg, firstC_neg]
theorem svC_le {s t : Sv} (hs : s.ok = true) (ht : t.ok = true) : decide (svC s t ≤ 0) = !(t.st.lt s.st) := by
  rw [← svC_lt ht hs, svC_neg s t]
  by_cases h : svC s t ≤ 0
  · rw [decide_eq_true h, decide_eq_false (by omega)]; rfl
  · rw [decide_eq_false h, decide_eq_true (by omega)]; rfl
theorem left_start (A B : List El) : Left A B A B := ⟨⟨[], rfl, fun x hx => by cases hx⟩, ⟨[], rfl, fun x hx => by cases hx⟩⟩
section
variable {A B a b : List El} {x y : El}
theorem left_mem (hA : SrtE A) (hB : SrtE B) (h : Left A B a b) : (∀ z ∈ a, z ∈ A) ∧ (∀ z ∈ b, z ∈ B) ∧ SrtE a ∧ SrtE b := by
  obtain ⟨pa, ea, _⟩ := h.ga
  obtain ⟨pb, eb, _⟩ := h.gb
  refine ⟨fun z hz => by rw [ea]; exact List.mem_append_right _ hz, fun z hz => by rw [eb]; exact List.mem_append_right _ hz, ?_, ?_⟩
  · rw [ea] at hA; exact (List.pairwise_append.1 hA).2.1
  · rw [eb] at hB; exact (List.pairwise_append.1 hB).2.1
theorem left_b (hA : SrtE A) (hB : SrtE B) (hok : ∀ z ∈ A ++ B, z.1.ok = true) (h : Left A B (x :: a) (y :: b)) (hlt : y.1.lt x.1 = true) : Left A B (x :: a) b := by
  obtain ⟨m1, m2, s1, s2⟩ := left_mem hA hB h
  obtain ⟨pa, ea, la⟩ := h.ga
  obtain ⟨pb, eb, lb⟩ := h.gb
  refine ⟨⟨pa, ea, fun z hz w hw => la z hz w (List.mem_cons_of_mem _ hw)⟩, ⟨pb ++ [y], by rw [eb]; simp, fun z hz w hw => ?_⟩⟩
  rcases List.mem_append.1 hz with hz | hz
  · exact lb z hz w hw
  · rw [List.mem_singleton.1 hz]
    have okA : ∀ z ∈ x :: a, z.1.ok = true := fun z hz => hok z (List.mem_append_left _ (m1 z hz))
    have oky := hok y (List.mem_append_right _ (m2 y List.mem_cons_self))
    rcases List.mem_cons.1 hw with rfl | hw'
    · exact hlt
    · exact lt_trans oky (okA _ List.mem_cons_self) (okA _ hw) hlt (lt_of (l := []) s1 w hw')
theorem left_b0 (h : Left A B [] (y :: b)) : Left A B [] b := by
  obtain ⟨pa, ea, la⟩ := h.ga
  obtain ⟨pb, eb, lb⟩ := h.gb
  exact ⟨⟨pa, ea, fun z hz w hw => la z hz w (List.mem_cons_of_mem _ hw)⟩, ⟨pb ++ [y], by rw [eb]; simp, fun z hz w hw => by cases hw⟩⟩
theorem left_a0 (hA : SrtE A) (hB : SrtE B) (hok : ∀ z ∈ A ++ B, z.1.ok = true) (h : Left A B (x :: a) []) : Left A B a [] ∧ hasS B x.1 = false := by
  obtain ⟨m1, m2, s1, s2⟩ := left_mem hA hB h
  obtain ⟨pa, ea, la⟩ := h.ga
  obtain ⟨pb, eb, lb⟩ := h.gb
  refine ⟨⟨⟨pa ++ [x], by rw [ea]; simp, fun z hz w hw => by cases hw⟩, ⟨pb, eb, fun z hz w hw => lb z hz w (List.mem_cons_of_mem _ hw)⟩⟩, ?_⟩
  cases e : hasS B x.1 with
  | false => rfl
  | true =>
    obtain ⟨z, hz, hzx⟩ := hasS_iff.1 e
    rw [eb, List.append_nil] at hz
    have h1 := lb z hz x List.mem_cons_self
    rw [hzx, lt_irrefl (hok x (List.mem_append_left _ (m1 x List.mem_cons_self)))] at h1
    cases h1
theorem left_both (hA : SrtE A) (hB : SrtE B) (hok : ∀ z ∈ A ++ B, z.1.ok = true) (h : Left A B (x :: a) (y :: b)) (hnl : y.1.lt x.1 = false) (hb : hasS B x.1 = true) : y.1 = x.1 ∧ Left A B a b := by
  obtain ⟨m1, m2, s1, s2⟩ := left_mem hA hB h
  obtain ⟨pa, ea, la⟩ := h.ga
  obtain ⟨pb, eb, lb⟩ := h.gb
  have okA : ∀ z ∈ x :: a, z.1.ok = true := fun z hz => hok z (List.mem_append_left _ (m1 z hz))
  have okB : ∀ z ∈ y :: b, z.1.ok = true := fun z hz => hok z (List.mem_append_right _ (m2 z hz))
  have hyx : y.1 = x.1 := by
    obtain ⟨z, hz, hzx⟩ := hasS_iff.1 hb
    rw [eb] at hz
    rcases List.mem_append.1 hz with hz | hz
    · have h1 := lb z hz x List.mem_cons_self
      rw [hzx, lt_irrefl (okA x List.mem_cons_self)] at h1
      cases h1
    · rcases List.mem_cons.1 hz with rfl | hz
      · exact hzx
      · have h1 := lt_of (l := []) s2 z hz
        rw [hzx, hnl] at h1
        cases h1
  refine ⟨hyx, ⟨⟨pa ++ [x], by rw [ea]; simp, fun z hz w hw => ?_⟩, ⟨pb ++ [y], by rw [eb]; simp, fun z hz w hw => ?_⟩⟩⟩
  · rcases List.mem_append.1 hz with hz | hz
    · exact la z hz w (List.mem_cons_of_mem _ hw)
    · rw [List.mem_singleton.1 hz, ← hyx]
      exact lt_of (l := []) s2 w hw
  · rcases List.mem_append.1 hz with hz | hz
    · exact lb z hz w (List.mem_cons_of_mem _ hw)
    · rw [List.mem_singleton.1 hz, hyx]
      exact lt_of (l := []) s1 w hw
theorem left_a (hA : SrtE A) (hB : SrtE B) (hok : ∀ z ∈ A ++ B, z.1.ok = true) (h : Left A B (x :: a) (y :: b)) (hnl : y.1.lt x.1 = false) (hb : hasS B x.1 = false) : Left A B a (y :: b) := by
  obtain ⟨m1, m2, s1, s2⟩ := left_mem hA hB h
  obtain ⟨pa, ea, la⟩ := h.ga
  obtain ⟨pb, eb, lb⟩ := h.gb
  have okA : ∀ z ∈ x :: a, z.1.ok = true := fun z hz => hok z (List.mem_append_left _ (m1 z hz))
  have okB : ∀ z ∈ y :: b, z.1.ok = true := fun z hz => hok z (List.mem_append_right _ (m2 z hz))
  have hlt : x.1.lt y.1 = true := by
    cases e : x.1.lt y.1 with
    | true => rfl
    | false =>
      have := lt_tri (okA x List.mem_cons_self) (okB y List.mem_cons_self) e hnl
      rw [hasS_iff.2 ⟨y, m2 y List.mem_cons_self, this.symm⟩] at hb
      cases hb
  refine ⟨⟨pa ++ [x], by rw [ea]; simp, fun z hz w hw => ?_⟩, ⟨pb, eb, fun z hz w hw => lb z hz w (List.mem_cons_of_mem _ hw)⟩⟩
  rcases List.mem_append.1 hz with hz | hz
  · exact la z hz w hw
  · rw [List.mem_singleton.1 hz]
    rcases List.mem_cons.1 hw with rfl | hw'
    · exact hlt
    · exact lt_trans (okA x List.mem_cons_self) (okB y List.mem_cons_self) (okB w hw) hlt (lt_of (l := []) s2 w hw')
end
theorem elsF_00 (base A B : List El) : elsF base A B [] [] = [] := by rw [elsF]
theorem elsF_0b (base A B b : List El) (y : El) : elsF base A B [] (y :: b) = (if hasS base y.1 then [] else [y]) ++ elsF base A B [] b := by rw [elsF]
theorem elsF_a0 (base A B a : List El) (x : El) (h : hasS B x.1 = false) : elsF base A B (x :: a) [] = (if hasS base x.1 then [] else [x]) ++ elsF base A B a [] := by
  rw [elsF, h]
  cases hasS base x.1 <;> simp
theorem elsF_lt (base A B a b : List El) (x y : El) (h : y.1.lt x.1 = true) : elsF base A B (x :: a) (y :: b) = (if hasS base y.1 then [] else [y]) ++ elsF base A B (x :: a) b := by rw [elsF, if_pos h]
theorem elsF_both (base A B a b : List El) (x y : El) (h : y.1.lt x.1 = false) (hb : hasS B x.1 = true) : elsF base A B (x :: a) (y :: b) = [x] ++ elsF base A B a b := by
  rw [elsF, if_neg (by rw [h]; simp), hb]
  simp
theorem elsF_not (base A B a b : List El) (x y : El) (h : y.1.lt x.1 = false) (hb : hasS B x.1 = false) : elsF base A B (x :: a) (y :: b) = (if hasS base x.1 then [] else [x]) ++ elsF base A B a (y :: b) := by
  rw [elsF, if_neg (by rw [h]; simp), hb]
  cases hasS base x.1 <;> simp
def hasW (l : List Ev) (s : Sv) : Bool := l.any fun y => decide (y.1 = s)
theorem hasW_S {l : List El} {x : El} (hl : ∀ z ∈ l, z.1.ok = true) (hx : x.1.ok = true) : hasW (l.map toV) (toV x).1 = hasS l x.1 := by
  unfold hasW hasS
  rw [List.any_map]
  have : ∀ z ∈ l, ((fun y : Ev => decide (y.1 = (toV x).1)) ∘ toV) z = decide (z.1 = x.1) := by
    intro z hz
    show decide (z.1.sv = x.1.sv) = decide (z.1 = x.1)
    rw [decide_eq_decide]
    exact ⟨fun h => by rw [← (Stp.ok_sv (hl z hz)).2, h, (Stp.ok_sv hx).2], fun h => by rw [h]⟩
  clear hl
  induction l with
  | nil => rfl
  | cons z l ih => rw [List.any_cons, List.any_cons, this z List.mem_cons_self, ih fun w hw => this w (List.mem_cons_of_mem _ hw)]
theorem lab_size {x : El} (hx : x.1.ok = true) : (toV x).1.l.size ≤ 12 := by
  have h := (Stp.ok_iff.1 hx).2.2.2.1
  unfold okLabel at h
  simp only [Bool.and_eq_true, decide_eq_true_eq] at h
  show (ByteArray.mk x.1.label.toArray).size ≤ 12
  simpa [ByteArray.size] using h.2
theorem le_lt {x y : El} (hx : x.1.ok = true) (hy : y.1.ok = true) : decide (svC (toV x).1 (toV y).1 ≤ 0) = !(y.1.lt x.1) := by
  have := svC_le (Stp.ok_sv hx).1 (Stp.ok_sv hy).1
  rw [(Stp.ok_sv hx).2, (Stp.ok_sv hy).2] at this
  exact this
theorem elsF_length (base A B : List El) : ∀ (n : Nat) (a b : List El), a.length + b.length ≤ n → (elsF base A B a b).length ≤ a.length + b.length := by
  intro n
  induction n with
  | zero =>
    intro a b h
    obtain rfl : a = [] := List.eq_nil_of_length_eq_zero (by omega)
    obtain rfl : b = [] := List.eq_nil_of_length_eq_zero (by omega)
    rw [elsF_00]; simp
  | succ n ih =>
    intro a b h
    have hi : ∀ (c : Bool) (z : El), (if c = true then [] else [z]).length ≤ 1 := fun c z => by cases c <;> simp
    match a, b, h with
    | [], [], _ => rw [elsF_00]; simp
    | [], y :: b, h =>
      rw [elsF_0b, List.length_append]
      have := ih [] b (by simp at h ⊢; omega)
      have := hi (hasS base y.1) y
      simp at *; omega
    | x :: a, [], h =>
      rw [elsF, List.length_append]
      have := ih a [] (by simp at h ⊢; omega)
      have h2 : (if (hasS B x.1 || !hasS base x.1) = true then [x] else []).length ≤ 1 := by split <;> simp
      simp at *; omega
    | x :: a, y :: b, h =>
      cases e : y.1.lt x.1 with
      | true =>
        rw [elsF_lt _ _ _ _ _ _ _ e, List.length_append]
        have := ih (x :: a) b (by simp at h ⊢; omega)
        have := hi (hasS base y.1) y
        simp at *; omega
      | false =>
        cases e2 : hasS B x.1 with
        | true =>
          rw [elsF_both _ _ _ _ _ _ _ e e2, List.length_append]
          have := ih a b (by simp at h ⊢; omega)
          simp at *; omega
        | false =>
          rw [elsF_not _ _ _ _ _ _ _ e e2, List.length_append]
          have := ih a (y :: b) (by simp at h ⊢; omega)
          have := hi (hasS base x.1) x
          simp at *; omega
end St
end Go.Proofs.Ytnpiepimajippaa
