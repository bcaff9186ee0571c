/- Words, contracts and walks that the proof stands on (KyT ElS KyU EvQ PmW1S). -/
import Derived.Test.YtnpiepimajippaaRH1
import Derived.Test.YtnpiepimajippaaRH4
import Derived.Test.YtnpiepimajippaaRH5
namespace Go.Proofs.Ytnpiepimajippaa
open Go.RowKit St
def txV (l : List ByteArray) : List Value := l.map Value.string
theorem tx_get {w : World} {a : Option Addr} {l : List ByteArray} (h : CellsAt w a (txV l)) (k : Nat) (hk : k < l.length) : ∃ b off, a = some ⟨b, off, none⟩ ∧ w.cell? ⟨b, off + k, none⟩ = some (.string l[k]) := h.get k _ (by simp [txV, hk])
set_option maxRecDepth 100000 in
set_option maxHeartbeats 2000000 in
theorem ref9_SameTexts (l m : List ByteArray) (a b : Option Addr) (n1 n2 c1 c2 : Nat) (w : World) (hl : CellsAt w a (txV l)) (hm : CellsAt w b (txV m)) (hn1 : n1 = l.length) (hn2 : n2 = m.length) (hb : n1 ≤ 9223372036854775807) :
   Calls Try.prog 86 #[.slice a n1 c1, .slice b n2 c2] w fun e w' => e = .returned (.bool (decide (l = m))) ∧ Below w.heap.size w w' := by
 have HL := Lib.hid hl
 have HM := Lib.hid hm
 clear hl hm
 go_enter Try.func86, Try.ntmps86
 by_cases hlen : n1 = n2
 · subst hlen
   have hN : Hid (l.length = m.length) := Lib.hid (by omega)
   have E : Hid (l.take n1 = m.take n1 → decide (l = m) = true) := Lib.hid (fun h => eq_all hN.out (by rw [← hn1]; exact h))
   have F : Hid (∀ k (h1 : k < l.length) (h2 : k < m.length), l[k] ≠ m[k] → decide (l = m) = false) := Lib.hid (fun k h1 h2 h => ne_at h1 h2 h)
   generalize decide (l = m) = res at *
   go_wp2_with fail
   go_loopw [5] (fun i wr => ∃ k : Nat, k ≤ n1 ∧ i = .int .i64 (k : Int) ∧ Hid (l.take k = m.take k) ∧ Hid (Below w.heap.size w wr)) (fun i _ => n1 - (intOf i).toNat)
   case atStart => exact ⟨0, Nat.zero_le _, rfl, Lib.hid rfl, Lib.hid (Below.refl _ _)⟩
   case round =>
     obtain ⟨k, hk, rfl, HT, HB⟩ := hrel
     by_cases hlt : k < n1
     · have hk1 : k < l.length := by omega
       have hk2 : k < m.length := by omega
       obtain ⟨ba, oa, rfl, ca⟩ := tx_get (HL.out.below HB.out rfl) k hk1
       obtain ⟨bb, ob, rfl, cb⟩ := tx_get (HM.out.below HB.out rfl) k hk2
       have G1 : Hid (l[k] ≠ m[k] → res = false) := Lib.hid (F.out k hk1 hk2)
       have G2 : Hid (l[k] = m[k] → l.take (k + 1) = m.take (k + 1)) := Lib.hid (take_eq hk1 hk2 HT.out)
       generalize l[k] = x at *
       generalize m[k] = y at *
       have hki : (k : Int) < (n1 : Int) := by omega
       by_cases hxy : x = y
       · have H := Lib.hid (G2.out hxy)
         have hd : (x.toList == y.toList) = true := by rw [Pm.eq_iff]; simpa using hxy
         clear hxy
         go_wp2_with fail
         go_quiet (fail)
         go_wp2_with fail
         refine ⟨⟨k + 1, by omega, by go_num, H, Lib.hid (below_drews HB.out _)⟩, by simp [intOf]; omega⟩
       · have hr := Lib.hid (G1.out hxy)
         have hd : (x.toList == y.toList) = false := by rw [Pm.eq_iff]; simpa using hxy
         clear hxy
         go_wp2_with fail
         go_quiet (fail)
         go_wp2_with fail
         go_ret
         rw [hr.out]
         exact ⟨rfl, below_drews HB.out _⟩
     · obtain rfl : k = n1 := by omega
       have hr := Lib.hid (E.out HT.out)
       go_wp2_with fail
       go_ret
       rw [hr.out]
       exact ⟨rfl, HB.out⟩
 · have hr : Hid (decide (l = m) = false) := Lib.hid (by rw [decide_eq_false_iff_not]; rintro rfl; omega)
   have hne : ((n1 : Int) == (n2 : Int)) = false := by simp; omega
   have hne' : ¬ (n1 : Int) = (n2 : Int) := by omega
   generalize decide (l = m) = res at *
   go_wp2_with fail
   go_ret
   rw [hr.out]
   exact ⟨rfl, Below.refl _ _⟩
end Go.Proofs.Ytnpiepimajippaa
namespace Go.Proofs.Ytnpiepimajippaa
namespace St
open Pm
theorem numC_neg (a b : Int) : numC b a = - numC a b := by
 unfold numC
 split <;> split <;> first | omega | (split <;> omega) | skip
theorem txtC_neg (a b : ByteArray) : txtC b a = - txtC a b := by
 unfold txtC
 cases h : klt a b with
 | true => rw [klt_asymm h]; simp
 | false => cases h' : klt b a <;> simp
theorem firstC_neg (a b : Int) : firstC (-a) (-b) = - firstC a b := by
 unfold firstC
 by_cases h : a = 0
 · rw [if_pos (by omega), if_pos h]
 · rw [if_neg (by omega), if_neg h]
theorem svC_neg (s t : Sv) : svC t s = - svC s t := by
 unfold svC nmC brC
 rw [numC_neg s.g t.g, numC_neg s.r t.r, txtC_neg s.l t.l, numC_neg s.n t.n, numC_neg s.i t.i, firstC_neg, firstC_neg, firstC_neg, firstC_neg]
theorem svC_le {s t : Sv} (hs : s.ok = true) (ht : t.ok = true) : decide (svC s t ≤ 0) = !(t.st.lt s.st) := by
 rw [← svC_lt ht hs, svC_neg s t]
 by_cases h : svC s t ≤ 0
 · rw [decide_eq_true h, decide_eq_false (by omega)]; rfl
 · rw [decide_eq_false h, decide_eq_true (by omega)]; rfl
theorem left_start (A B : List El) : Left A B A B := ⟨⟨[], rfl, fun x hx => by cases hx⟩, ⟨[], rfl, fun x hx => by cases hx⟩⟩
section
variable {A B a b : List El} {x y : El}
theorem left_mem (hA : SrtE A) (hB : SrtE B) (h : Left A B a b) : (∀ z ∈ a, z ∈ A) ∧ (∀ z ∈ b, z ∈ B) ∧ SrtE a ∧ SrtE b := by
 obtain ⟨pa, ea, _⟩ := h.ga
 obtain ⟨pb, eb, _⟩ := h.gb
 refine ⟨fun z hz => by rw [ea]; exact List.mem_append_right _ hz, fun z hz => by rw [eb]; exact List.mem_append_right _ hz, ?_, ?_⟩
 · rw [ea] at hA; exact (List.pairwise_append.1 hA).2.1
 · rw [eb] at hB; exact (List.pairwise_append.1 hB).2.1
theorem left_b (hA : SrtE A) (hB : SrtE B) (hok : ∀ z ∈ A ++ B, z.1.ok = true) (h : Left A B (x :: a) (y :: b)) (hlt : y.1.lt x.1 = true) : Left A B (x :: a) b := by
 obtain ⟨m1, m2, s1, s2⟩ := left_mem hA hB h
 obtain ⟨pa, ea, la⟩ := h.ga
 obtain ⟨pb, eb, lb⟩ := h.gb
 refine ⟨⟨pa, ea, fun z hz w hw => la z hz w (List.mem_cons_of_mem _ hw)⟩, ⟨pb ++ [y], by rw [eb]; simp, fun z hz w hw => ?_⟩⟩
 rcases List.mem_append.1 hz with hz | hz
 · exact lb z hz w hw
 · rw [List.mem_singleton.1 hz]
   have okA : ∀ z ∈ x :: a, z.1.ok = true := fun z hz => hok z (List.mem_append_left _ (m1 z hz))
   have oky := hok y (List.mem_append_right _ (m2 y List.mem_cons_self))
   rcases List.mem_cons.1 hw with rfl | hw'
   · exact hlt
   · exact lt_trans oky (okA _ List.mem_cons_self) (okA _ hw) hlt (lt_of (l := []) s1 w hw')
theorem left_b0 (h : Left A B [] (y :: b)) : Left A B [] b := by
 obtain ⟨pa, ea, la⟩ := h.ga
 obtain ⟨pb, eb, lb⟩ := h.gb
 exact ⟨⟨pa, ea, fun z hz w hw => la z hz w (List.mem_cons_of_mem _ hw)⟩, ⟨pb ++ [y], by rw [eb]; simp, fun z hz w hw => by cases hw⟩⟩
theorem left_a0 (hA : SrtE A) (hB : SrtE B) (hok : ∀ z ∈ A ++ B, z.1.ok = true) (h : Left A B (x :: a) []) : Left A B a [] ∧ hasS B x.1 = false := by
 obtain ⟨m1, m2, s1, s2⟩ := left_mem hA hB h
 obtain ⟨pa, ea, la⟩ := h.ga
 obtain ⟨pb, eb, lb⟩ := h.gb
 refine ⟨⟨⟨pa ++ [x], by rw [ea]; simp, fun z hz w hw => by cases hw⟩, ⟨pb, eb, fun z hz w hw => lb z hz w (List.mem_cons_of_mem _ hw)⟩⟩, ?_⟩
 cases e : hasS B x.1 with
 | false => rfl
 | true =>
   obtain ⟨z, hz, hzx⟩ := hasS_iff.1 e
   rw [eb, List.append_nil] at hz
   have h1 := lb z hz x List.mem_cons_self
   rw [hzx, lt_irrefl (hok x (List.mem_append_left _ (m1 x List.mem_cons_self)))] at h1
   cases h1
theorem left_both (hA : SrtE A) (hB : SrtE B) (hok : ∀ z ∈ A ++ B, z.1.ok = true) (h : Left A B (x :: a) (y :: b)) (hnl : y.1.lt x.1 = false) (hb : hasS B x.1 = true) : y.1 = x.1 ∧ Left A B a b := by
 obtain ⟨m1, m2, s1, s2⟩ := left_mem hA hB h
 obtain ⟨pa, ea, la⟩ := h.ga
 obtain ⟨pb, eb, lb⟩ := h.gb
 have okA : ∀ z ∈ x :: a, z.1.ok = true := fun z hz => hok z (List.mem_append_left _ (m1 z hz))
 have okB : ∀ z ∈ y :: b, z.1.ok = true := fun z hz => hok z (List.mem_append_right _ (m2 z hz))
 have hyx : y.1 = x.1 := by
   obtain ⟨z, hz, hzx⟩ := hasS_iff.1 hb
   rw [eb] at hz
   rcases List.mem_append.1 hz with hz | hz
   · have h1 := lb z hz x List.mem_cons_self
     rw [hzx, lt_irrefl (okA x List.mem_cons_self)] at h1
     cases h1
   · rcases List.mem_cons.1 hz with rfl | hz
     · exact hzx
     · have h1 := lt_of (l := []) s2 z hz
       rw [hzx, hnl] at h1
       cases h1
 refine ⟨hyx, ⟨⟨pa ++ [x], by rw [ea]; simp, fun z hz w hw => ?_⟩, ⟨pb ++ [y], by rw [eb]; simp, fun z hz w hw => ?_⟩⟩⟩
 · rcases List.mem_append.1 hz with hz | hz
   · exact la z hz w (List.mem_cons_of_mem _ hw)
   · rw [List.mem_singleton.1 hz, ← hyx]
     exact lt_of (l := []) s2 w hw
 · rcases List.mem_append.1 hz with hz | hz
   · exact lb z hz w (List.mem_cons_of_mem _ hw)
   · rw [List.mem_singleton.1 hz, hyx]
     exact lt_of (l := []) s1 w hw
theorem left_a (hA : SrtE A) (hB : SrtE B) (hok : ∀ z ∈ A ++ B, z.1.ok = true) (h : Left A B (x :: a) (y :: b)) (hnl : y.1.lt x.1 = false) (hb : hasS B x.1 = false) : Left A B a (y :: b) := by
 obtain ⟨m1, m2, s1, s2⟩ := left_mem hA hB h
 obtain ⟨pa, ea, la⟩ := h.ga
 obtain ⟨pb, eb, lb⟩ := h.gb
 have okA : ∀ z ∈ x :: a, z.1.ok = true := fun z hz => hok z (List.mem_append_left _ (m1 z hz))
 have okB : ∀ z ∈ y :: b, z.1.ok = true := fun z hz => hok z (List.mem_append_right _ (m2 z hz))
 have hlt : x.1.lt y.1 = true := by
   cases e : x.1.lt y.1 with
   | true => rfl
   | false =>
     have := lt_tri (okA x List.mem_cons_self) (okB y List.mem_cons_self) e hnl
     rw [hasS_iff.2 ⟨y, m2 y List.mem_cons_self, this.symm⟩] at hb
     cases hb
 refine ⟨⟨pa ++ [x], by rw [ea]; simp, fun z hz w hw => ?_⟩, ⟨pb, eb, fun z hz w hw => lb z hz w (List.mem_cons_of_mem _ hw)⟩⟩
 rcases List.mem_append.1 hz with hz | hz
 · exact la z hz w hw
 · rw [List.mem_singleton.1 hz]
   rcases List.mem_cons.1 hw with rfl | hw'
   · exact hlt
   · exact lt_trans (okA x List.mem_cons_self) (okB y List.mem_cons_self) (okB w hw) hlt (lt_of (l := []) s2 w hw')
end
theorem elsF_00 (base A B : List El) : elsF base A B [] [] = [] := by rw [elsF]
theorem elsF_0b (base A B b : List El) (y : El) : elsF base A B [] (y :: b) = (if hasS base y.1 then [] else [y]) ++ elsF base A B [] b := by rw [elsF]
theorem elsF_a0 (base A B a : List El) (x : El) (h : hasS B x.1 = false) : elsF base A B (x :: a) [] = (if hasS base x.1 then [] else [x]) ++ elsF base A B a [] := by
 rw [elsF, h]
 cases hasS base x.1 <;> simp
theorem elsF_lt (base A B a b : List El) (x y : El) (h : y.1.lt x.1 = true) : elsF base A B (x :: a) (y :: b) = (if hasS base y.1 then [] else [y]) ++ elsF base A B (x :: a) b := by rw [elsF, if_pos h]
theorem elsF_both (base A B a b : List El) (x y : El) (h : y.1.lt x.1 = false) (hb : hasS B x.1 = true) : elsF base A B (x :: a) (y :: b) = [x] ++ elsF base A B a b := by
 rw [elsF, if_neg (by rw [h]; simp), hb]
 simp
theorem elsF_not (base A B a b : List El) (x y : El) (h : y.1.lt x.1 = false) (hb : hasS B x.1 = false) : elsF base A B (x :: a) (y :: b) = (if hasS base x.1 then [] else [x]) ++ elsF base A B a (y :: b) := by
 rw [elsF, if_neg (by rw [h]; simp), hb]
 cases hasS base x.1 <;> simp
def hasW (l : List Ev) (s : Sv) : Bool := l.any fun y => decide (y.1 = s)
theorem hasW_S {l : List El} {x : El} (hl : ∀ z ∈ l, z.1.ok = true) (hx : x.1.ok = true) : hasW (l.map toV) (toV x).1 = hasS l x.1 := by
 unfold hasW hasS
 rw [List.any_map]
 have : ∀ z ∈ l, ((fun y : Ev => decide (y.1 = (toV x).1)) ∘ toV) z = decide (z.1 = x.1) := by
   intro z hz
   show decide (z.1.sv = x.1.sv) = decide (z.1 = x.1)
   rw [decide_eq_decide]
   exact ⟨fun h => by rw [← (Stp.ok_sv (hl z hz)).2, h, (Stp.ok_sv hx).2], fun h => by rw [h]⟩
 clear hl
 induction l with
 | nil => rfl
 | cons z l ih => rw [List.any_cons, List.any_cons, this z List.mem_cons_self, ih fun w hw => this w (List.mem_cons_of_mem _ hw)]
theorem lab_size {x : El} (hx : x.1.ok = true) : (toV x).1.l.size ≤ 12 := by
 have h := (Stp.ok_iff.1 hx).2.2.2.1
 unfold okLabel at h
 simp only [Bool.and_eq_true, decide_eq_true_eq] at h
 show (ByteArray.mk x.1.label.toArray).size ≤ 12
 simpa [ByteArray.size] using h.2
theorem le_lt {x y : El} (hx : x.1.ok = true) (hy : y.1.ok = true) : decide (svC (toV x).1 (toV y).1 ≤ 0) = !(y.1.lt x.1) := by
 have := svC_le (Stp.ok_sv hx).1 (Stp.ok_sv hy).1
 rw [(Stp.ok_sv hx).2, (Stp.ok_sv hy).2] at this
 exact this
theorem elsF_length (base A B : List El) : ∀ (n : Nat) (a b : List El), a.length + b.length ≤ n → (elsF base A B a b).length ≤ a.length + b.length := by
 intro n
 induction n with
 | zero =>
   intro a b h
   obtain rfl : a = [] := List.eq_nil_of_length_eq_zero (by omega)
   obtain rfl : b = [] := List.eq_nil_of_length_eq_zero (by omega)
   rw [elsF_00]; simp
 | succ n ih =>
   intro a b h
   have hi : ∀ (c : Bool) (z : El), (if c = true then [] else [z]).length ≤ 1 := fun c z => by cases c <;> simp
   match a, b, h with
   | [], [], _ => rw [elsF_00]; simp
   | [], y :: b, h =>
     rw [elsF_0b, List.length_append]
     have := ih [] b (by simp at h ⊢; omega)
     have := hi (hasS base y.1) y
     simp at *; omega
   | x :: a, [], h =>
     rw [elsF, List.length_append]
     have := ih a [] (by simp at h ⊢; omega)
     have h2 : (if (hasS B x.1 || !hasS base x.1) = true then [x] else []).length ≤ 1 := by split <;> simp
     simp at *; omega
   | x :: a, y :: b, h =>
     cases e : y.1.lt x.1 with
     | true =>
       rw [elsF_lt _ _ _ _ _ _ _ e, List.length_append]
       have := ih (x :: a) b (by simp at h ⊢; omega)
       have := hi (hasS base y.1) y
       simp at *; omega
     | false =>
       cases e2 : hasS B x.1 with
       | true =>
         rw [elsF_both _ _ _ _ _ _ _ e e2, List.length_append]
         have := ih a b (by simp at h ⊢; omega)
         simp at *; omega
       | false =>
         rw [elsF_not _ _ _ _ _ _ _ e e2, List.length_append]
         have := ih a (y :: b) (by simp at h ⊢; omega)
         have := hi (hasS base x.1) x
         simp at *; omega
end St
end Go.Proofs.Ytnpiepimajippaa
namespace Go.Proofs.Ytnpiepimajippaa
open Go.RowKit St
theorem find_has {l : List El} {x : El} {a : Option Addr} {n c : Nat} {w : World} (hl : CellsAt w a (elsV (l.map toV))) (hn : n = l.length) (hb : n ≤ 1000000) (ho : ∀ z ∈ l, z.1.ok = true) (hx : x.1.ok = true) (q : Bool) (hq : hasS l x.1 = q) (X : Ev) (hX : X = toV x) :
   Calls Try.prog 129 #[.slice a n c, .agg #[.int .i64 X.1.g, .int .i64 X.1.r, .string X.1.l, .int .i64 X.1.n, .int .i64 X.1.i]] w fun e w' => ∃ i : Int, e = .returned (.int .i64 i) ∧ decide (0 ≤ i) = q ∧ decide (i < 0) = !q ∧ Below w.heap.size w w' := by
 subst hX
 refine (ref9_find (l.map toV) (toV x).1 a n c w hl (by simpa using hn) (by omega)).mono ?_
 rintro e w' ⟨i, rfl, hi, hbl⟩
 have h2 : decide (0 ≤ i) = q := by rw [hi, ← hq]; exact hasW_S ho hx
 refine ⟨i, rfl, h2, ?_, hbl⟩
 rw [← h2]
 by_cases h : 0 ≤ i
 · rw [decide_eq_true h, decide_eq_false (by omega)]; rfl
 · rw [decide_eq_false h, decide_eq_true (by omega)]; rfl
theorem els_getE {w : World} {a : Option Addr} {l : List El} (h : CellsAt w a (elsV (l.map toV))) (k : Nat) (hk : k < l.length) : ∃ b off, a = some ⟨b, off, none⟩ ∧ ElCell w b (off + k * 6) (toV l[k]) := by
 obtain ⟨b, off, e, c⟩ := els_get h k (by simpa using hk)
 rw [List.getElem_map] at c
 exact ⟨b, off, e, c⟩
theorem app_one (out : List El) (x : El) : elsV (out.map toV) ++ elV (toV x) = elsV ((out ++ [x]).map toV) := by
 rw [List.map_append, elsV_append]; simp [elsV]
set_option maxRecDepth 100000 in
set_option maxHeartbeats 8000000 in
theorem ref9_Elements (base A B : List El) (a1 a2 a3 : Option Addr) (n1 n2 n3 c1 c2 c3 : Nat) (w : World) (h1 : CellsAt w a1 (elsV (base.map toV))) (h2 : CellsAt w a2 (elsV (A.map toV))) (h3 : CellsAt w a3 (elsV (B.map toV))) (hn1 : n1 = base.length) (hn2 : n2 = A.length) (hn3 : n3 = B.length)
   (b1 : n1 ≤ 100000) (b2 : n2 ≤ 100000) (b3 : n3 ≤ 100000) (o1 : ∀ z ∈ base, z.1.ok = true) (o2 : ∀ z ∈ A, z.1.ok = true) (o3 : ∀ z ∈ B, z.1.ok = true) (sA : SrtE A) (sB : SrtE B) :
   Calls Try.prog 104 #[.slice a1 n1 c1, .slice a2 n2 c2, .slice a3 n3 c3] w fun e w' => ∃ v, e = .returned v ∧ w'.ownsRow w.heap.size 47 6 v (elsF base A B A B).length (elsV ((elsF base A B A B).map toV)) ∧ Below w.heap.size w w' := by
 have H1 := Lib.hid h1
 have H2 := Lib.hid h2
 have H3 := Lib.hid h3
 have N1 := Lib.hid hn1
 have N2 := Lib.hid hn2
 have N3 := Lib.hid hn3
 have O1 := Lib.hid o1
 have O2 := Lib.hid o2
 have O3 := Lib.hid o3
 have SA := Lib.hid sA
 have SB := Lib.hid sB
 have OK : Hid (∀ z ∈ A ++ B, z.1.ok = true) := Lib.hid (fun z hz => (List.mem_append.1 hz).elim (o2 z) (o3 z))
 have ET := Lib.hid elT
 have HRL : Hid ((elsF base A B A B).length ≤ 200000) := Lib.hid (by have := elsF_length base A B _ A B (Nat.le_refl _); omega)
 obtain ⟨R, hR⟩ : ∃ R, elsF base A B A B = R := ⟨_, rfl⟩
 have R0 := Lib.hid hR
 rw [hR] at HRL ⊢
 clear h1 h2 h3 hn1 hn2 hn3 o1 o2 o3 sA sB hR
 go_enter Try.func104, Try.ntmps104
 go_wp2_with fail
 go_loopw [7, 8, 9] (fun v u8 u9 wr => ∃ (i k : Nat) (out : List El), u8 = .int .i64 (i : Int) ∧ u9 = .int .i64 (k : Int) ∧ i ≤ n2 ∧ k ≤ n3 ∧ Hid (St.Left A B (A.drop i) (B.drop k)) ∧ Hid (out ++ elsF base A B (A.drop i) (B.drop k) = R) ∧ Hid (wr.ownsRow w.heap.size 47 6 v out.length (elsV (out.map toV))) ∧ Hid (Below w.heap.size w wr)) (fun _ u8 u9 _ => (n2 - (intOf u8).toNat) + (n3 - (intOf u9).toNat))
 case atStart => exact ⟨0, 0, [], rfl, rfl, Nat.zero_le _, Nat.zero_le _, Lib.hid (left_start A B), Lib.hid (by rw [List.drop_zero, List.drop_zero, R0.out]; rfl), Lib.hid ⟨rfl, Or.inl ⟨rfl, rfl⟩⟩, Lib.hid (Below.refl _ _)⟩
 case round =>
   obtain ⟨i, k, out, rfl, rfl, hi, hk, HL, HE, HO, HB⟩ := hrel
   have hol : out.length ≤ 200000 := by have h := congrArg List.length HE.out; rw [List.length_append] at h; have := HRL.out; omega
   by_cases hia : i < n2
   · have hiA : i < A.length := by have := N2.out; omega
     have HDA := Lib.hid (List.drop_eq_getElem_cons hiA)
     have hox : Hid (A[i].1.ok = true) := Lib.hid (O2.out _ (List.getElem_mem hiA))
     have HGA : Hid (∀ wx, CellsAt wx a2 (elsV (A.map toV)) → ∃ b off, a2 = some ⟨b, off, none⟩ ∧ ElCell wx b (off + i * 6) (toV A[i])) := Lib.hid (fun wx h => els_getE h i hiA)
     generalize A[i] = x at *
     obtain ⟨bx, ox, rfl, cx⟩ := HGA.out _ (H2.out.below HB.out rfl)
     obtain ⟨X, hX⟩ : ∃ X, X = toV x := ⟨_, rfl⟩
     rw [← hX] at cx
     have CX := Lib.hid cx
     have HX := Lib.hid hX
     clear cx hX HGA
     have hii : (i : Int) < (n2 : Int) := by omega
     have hLX : X.1.l.size ≤ 9223372036854775807 := by rw [HX.out]; have := lab_size hox.out; omega
     obtain ⟨qb, hqb⟩ : ∃ q, hasS B x.1 = q := ⟨_, rfl⟩
     obtain ⟨qs, hqs⟩ : ∃ q, hasS base x.1 = q := ⟨_, rfl⟩
     have QB := Lib.hid hqb
     have QS := Lib.hid hqs
     clear hqb hqs
     by_cases hkb : k < n3
     · have hkB : k < B.length := by have := N3.out; omega
       have HDB := Lib.hid (List.drop_eq_getElem_cons hkB)
       have hoy : Hid (B[k].1.ok = true) := Lib.hid (O3.out _ (List.getElem_mem hkB))
       have HGB : Hid (∀ wx, CellsAt wx a3 (elsV (B.map toV)) → ∃ b off, a3 = some ⟨b, off, none⟩ ∧ ElCell wx b (off + k * 6) (toV B[k])) := Lib.hid (fun wx h => els_getE h k hkB)
       generalize B[k] = y at *
       obtain ⟨bY, oy, rfl, cy⟩ := HGB.out _ (H3.out.below HB.out rfl)
       obtain ⟨Y, hY⟩ : ∃ Y, Y = toV y := ⟨_, rfl⟩
       rw [← hY] at cy
       have CY := Lib.hid cy
       have HY := Lib.hid hY
       clear cy hY HGB
       have hkk : (k : Int) < (n3 : Int) := by omega
       have hkne : ((k : Int) == (n3 : Int)) = false := by simp; omega
       have hkne' : ¬ (k : Int) = (n3 : Int) := by omega
       have hLY : Y.1.l.size ≤ 9223372036854775807 := by rw [HY.out]; have := lab_size hoy.out; omega
       obtain ⟨cv, hcv⟩ : ∃ c, svC X.1 Y.1 = c := ⟨_, rfl⟩
       have HCMP : Hid (∀ wx, Calls Try.prog 96 #[.agg #[.int .i64 X.1.g, .int .i64 X.1.r, .string X.1.l, .int .i64 X.1.n, .int .i64 X.1.i], .agg #[.int .i64 Y.1.g, .int .i64 Y.1.r, .string Y.1.l, .int .i64 Y.1.n, .int .i64 Y.1.i]] wx fun e w' => e = .returned (.int .i64 cv) ∧ Below wx.heap.size wx w') := Lib.hid (fun wx => by rw [← hcv]; exact ref6_Cmp X.1 Y.1 wx hLX hLY)
       have CV : Hid (decide (cv ≤ 0) = !(y.1.lt x.1)) := Lib.hid (by rw [← hcv, HX.out, HY.out]; exact le_lt hox.out hoy.out)
       clear hcv
       have HC : Hid (Chain [wr] wr) := Lib.hid (Chain.one wr)
       go_wp2_with fail
       cases hlt : y.1.lt x.1 with
       | true =>
         have hd : decide (cv ≤ 0) = false := by rw [CV.out, hlt]; rfl
         have HLT := Lib.hid hlt
         clear hlt
         refine wp_region_noPanic ?_
         refine wp_region_held_drew (S := fun w' => Below wr.heap.size wr w') (by kernel_rfl) (Below.refl _ _).drew (fun hS => ?_)
         refine wpAnyH_take (i := 0) (oi := ⟨some 21, _, _, _, _, _⟩) (v := ?_) rfl (by kernel_rfl) (by kernel_rfl) (by kernel_rfl) (fun _ _ _ h => h) (Or.inl ⟨by rfl, ?_⟩) hS ?_
         rotate_left 1
         · intro w' hB; obtain ⟨p0, p1, p2, p3, p4, p5⟩ := CX.out.below ((HC.out.to wr (by simp)).trans (hB.mono (HC.out.to wr (by simp)).size)); obtain ⟨q0, q1, q2, q3, q4, q5⟩ := CY.out.below ((HC.out.to wr (by simp)).trans (hB.mono (HC.out.to wr (by simp)).size)); (go_simp <;> with_reducible rfl)
         try simp only [Act.put, List.setIfInBounds_toArray, List.set_cons_zero, List.set_cons_succ]
         refine wpAnyH_take (i := 1) (oi := ⟨some 22, _, _, _, _, _⟩) (v := ?_) rfl (by kernel_rfl) (by kernel_rfl) (by kernel_rfl) (fun _ _ _ h => h) (Or.inl ⟨by rfl, ?_⟩) hS ?_
         rotate_left 1
         · intro w' hB; obtain ⟨p0, p1, p2, p3, p4, p5⟩ := CX.out.below ((HC.out.to wr (by simp)).trans (hB.mono (HC.out.to wr (by simp)).size)); obtain ⟨q0, q1, q2, q3, q4, q5⟩ := CY.out.below ((HC.out.to wr (by simp)).trans (hB.mono (HC.out.to wr (by simp)).size)); (go_simp <;> with_reducible rfl)
         try simp only [Act.put, List.setIfInBounds_toArray, List.set_cons_zero, List.set_cons_succ]
         refine wpAnyH_take (i := 2) (oi := ⟨some 23, _, _, _, _, _⟩) (v := ?_) rfl (by kernel_rfl) (by kernel_rfl) (by kernel_rfl) (fun _ _ _ h => h) (Or.inl ⟨by rfl, ?_⟩) hS ?_
         rotate_left 1
         · intro w' hB; obtain ⟨p0, p1, p2, p3, p4, p5⟩ := CX.out.below ((HC.out.to wr (by simp)).trans (hB.mono (HC.out.to wr (by simp)).size)); obtain ⟨q0, q1, q2, q3, q4, q5⟩ := CY.out.below ((HC.out.to wr (by simp)).trans (hB.mono (HC.out.to wr (by simp)).size)); (go_simp <;> with_reducible rfl)
         try simp only [Act.put, List.setIfInBounds_toArray, List.set_cons_zero, List.set_cons_succ]
         refine wpAnyH_take (i := 3) (oi := ⟨some 24, _, _, _, _, _⟩) (v := ?_) rfl (by kernel_rfl) (by kernel_rfl) (by kernel_rfl) (fun _ _ _ h => h) (Or.inl ⟨by rfl, ?_⟩) hS ?_
         rotate_left 1
         · intro w' hB; obtain ⟨p0, p1, p2, p3, p4, p5⟩ := CX.out.below ((HC.out.to wr (by simp)).trans (hB.mono (HC.out.to wr (by simp)).size)); obtain ⟨q0, q1, q2, q3, q4, q5⟩ := CY.out.below ((HC.out.to wr (by simp)).trans (hB.mono (HC.out.to wr (by simp)).size)); (go_simp <;> with_reducible rfl)
         try simp only [Act.put, List.setIfInBounds_toArray, List.set_cons_zero, List.set_cons_succ]
         refine wpAnyH_take (i := 4) (oi := ⟨some 25, _, _, _, _, _⟩) (v := ?_) rfl (by kernel_rfl) (by kernel_rfl) (by kernel_rfl) (fun _ _ _ h => h) (Or.inl ⟨by rfl, ?_⟩) hS ?_
         rotate_left 1
         · intro w' hB; obtain ⟨p0, p1, p2, p3, p4, p5⟩ := CX.out.below ((HC.out.to wr (by simp)).trans (hB.mono (HC.out.to wr (by simp)).size)); obtain ⟨q0, q1, q2, q3, q4, q5⟩ := CY.out.below ((HC.out.to wr (by simp)).trans (hB.mono (HC.out.to wr (by simp)).size)); (go_simp <;> with_reducible rfl)
         try simp only [Act.put, List.setIfInBounds_toArray, List.set_cons_zero, List.set_cons_succ]
         refine wpAnyH_take (i := 5) (oi := ⟨some 26, _, _, _, _, _⟩) (v := ?_) rfl (by kernel_rfl) (by kernel_rfl) (by kernel_rfl) (fun _ _ _ h => h) (Or.inl ⟨by rfl, ?_⟩) hS ?_
         rotate_left 1
         · intro w' hB; obtain ⟨p0, p1, p2, p3, p4, p5⟩ := CX.out.below ((HC.out.to wr (by simp)).trans (hB.mono (HC.out.to wr (by simp)).size)); obtain ⟨q0, q1, q2, q3, q4, q5⟩ := CY.out.below ((HC.out.to wr (by simp)).trans (hB.mono (HC.out.to wr (by simp)).size)); (go_simp <;> with_reducible rfl)
         try simp only [Act.put, List.setIfInBounds_toArray, List.set_cons_zero, List.set_cons_succ]
         refine wpAnyH_take (i := 6) (oi := ⟨some 27, _, _, _, _, _⟩) (v := ?_) rfl (by kernel_rfl) (by kernel_rfl) (by kernel_rfl) (fun _ _ _ h => h) (Or.inl ⟨by rfl, ?_⟩) hS ?_
         rotate_left 1
         · intro w' hB; obtain ⟨p0, p1, p2, p3, p4, p5⟩ := CX.out.below ((HC.out.to wr (by simp)).trans (hB.mono (HC.out.to wr (by simp)).size)); obtain ⟨q0, q1, q2, q3, q4, q5⟩ := CY.out.below ((HC.out.to wr (by simp)).trans (hB.mono (HC.out.to wr (by simp)).size)); (go_simp <;> with_reducible rfl)
         try simp only [Act.put, List.setIfInBounds_toArray, List.set_cons_zero, List.set_cons_succ]
         refine wpAnyH_take (i := 7) (oi := ⟨some 28, _, _, _, _, _⟩) (v := ?_) rfl (by kernel_rfl) (by kernel_rfl) (by kernel_rfl) (fun _ _ _ h => h) (Or.inl ⟨by rfl, ?_⟩) hS ?_
         rotate_left 1
         · intro w' hB; obtain ⟨p0, p1, p2, p3, p4, p5⟩ := CX.out.below ((HC.out.to wr (by simp)).trans (hB.mono (HC.out.to wr (by simp)).size)); obtain ⟨q0, q1, q2, q3, q4, q5⟩ := CY.out.below ((HC.out.to wr (by simp)).trans (hB.mono (HC.out.to wr (by simp)).size)); (go_simp <;> with_reducible rfl)
         try simp only [Act.put, List.setIfInBounds_toArray, List.set_cons_zero, List.set_cons_succ]
         refine wpAnyH_take (i := 8) (oi := ⟨some 29, _, _, _, _, _⟩) (v := ?_) rfl (by kernel_rfl) (by kernel_rfl) (by kernel_rfl) (fun _ _ _ h => h) (Or.inl ⟨by rfl, ?_⟩) hS ?_
         rotate_left 1
         · intro w' hB; obtain ⟨p0, p1, p2, p3, p4, p5⟩ := CX.out.below ((HC.out.to wr (by simp)).trans (hB.mono (HC.out.to wr (by simp)).size)); obtain ⟨q0, q1, q2, q3, q4, q5⟩ := CY.out.below ((HC.out.to wr (by simp)).trans (hB.mono (HC.out.to wr (by simp)).size)); (go_simp <;> with_reducible rfl)
         try simp only [Act.put, List.setIfInBounds_toArray, List.set_cons_zero, List.set_cons_succ]
         refine wpAnyH_take (i := 9) (oi := ⟨some 30, _, _, _, _, _⟩) (v := ?_) rfl (by kernel_rfl) (by kernel_rfl) (by kernel_rfl) (fun _ _ _ h => h) (Or.inl ⟨by rfl, ?_⟩) hS ?_
         rotate_left 1
         · intro w' hB; obtain ⟨p0, p1, p2, p3, p4, p5⟩ := CX.out.below ((HC.out.to wr (by simp)).trans (hB.mono (HC.out.to wr (by simp)).size)); obtain ⟨q0, q1, q2, q3, q4, q5⟩ := CY.out.below ((HC.out.to wr (by simp)).trans (hB.mono (HC.out.to wr (by simp)).size)); (go_simp <;> with_reducible rfl)
         try simp only [Act.put, List.setIfInBounds_toArray, List.set_cons_zero, List.set_cons_succ]
         refine wpAnyH_take (i := 10) (oi := ⟨some 31, _, _, _, _, _⟩) (v := ?_) rfl (by kernel_rfl) (by kernel_rfl) (by kernel_rfl) (fun _ _ _ h => h) (Or.inl ⟨by rfl, ?_⟩) hS ?_
         rotate_left 1
         · intro w' hB; obtain ⟨p0, p1, p2, p3, p4, p5⟩ := CX.out.below ((HC.out.to wr (by simp)).trans (hB.mono (HC.out.to wr (by simp)).size)); obtain ⟨q0, q1, q2, q3, q4, q5⟩ := CY.out.below ((HC.out.to wr (by simp)).trans (hB.mono (HC.out.to wr (by simp)).size)); (go_simp <;> with_reducible rfl)
         try simp only [Act.put, List.setIfInBounds_toArray, List.set_cons_zero, List.set_cons_succ]
         refine wpAnyH_take (i := 11) (oi := ⟨some 32, _, _, _, _, _⟩) (v := ?_) rfl (by kernel_rfl) (by kernel_rfl) (by kernel_rfl) (fun _ _ _ h => h) (Or.inl ⟨by rfl, ?_⟩) hS ?_
         rotate_left 1
         · intro w' hB; obtain ⟨p0, p1, p2, p3, p4, p5⟩ := CX.out.below ((HC.out.to wr (by simp)).trans (hB.mono (HC.out.to wr (by simp)).size)); obtain ⟨q0, q1, q2, q3, q4, q5⟩ := CY.out.below ((HC.out.to wr (by simp)).trans (hB.mono (HC.out.to wr (by simp)).size)); (go_simp <;> with_reducible rfl)
         try simp only [Act.put, List.setIfInBounds_toArray, List.set_cons_zero, List.set_cons_succ]
         refine wpAnyH_take (i := 12) (oi := ⟨some 33, _, _, _, _, _⟩) (v := ?_) rfl (by kernel_rfl) (by kernel_rfl) (by kernel_rfl) (fun _ _ _ h => h) (Or.inl ⟨by rfl, ?_⟩) hS ?_
         rotate_left 1
         · intro w' hB; obtain ⟨p0, p1, p2, p3, p4, p5⟩ := CX.out.below ((HC.out.to wr (by simp)).trans (hB.mono (HC.out.to wr (by simp)).size)); obtain ⟨q0, q1, q2, q3, q4, q5⟩ := CY.out.below ((HC.out.to wr (by simp)).trans (hB.mono (HC.out.to wr (by simp)).size)); (go_simp <;> with_reducible rfl)
         try simp only [Act.put, List.setIfInBounds_toArray, List.set_cons_zero, List.set_cons_succ]
         refine wpAnyH_take (i := 13) (oi := ⟨some 34, _, _, _, _, _⟩) (v := ?_) rfl (by kernel_rfl) (by kernel_rfl) (by kernel_rfl) (fun _ _ _ h => h) (Or.inl ⟨by rfl, ?_⟩) hS ?_
         rotate_left 1
         · intro w' hB; obtain ⟨p0, p1, p2, p3, p4, p5⟩ := CX.out.below ((HC.out.to wr (by simp)).trans (hB.mono (HC.out.to wr (by simp)).size)); obtain ⟨q0, q1, q2, q3, q4, q5⟩ := CY.out.below ((HC.out.to wr (by simp)).trans (hB.mono (HC.out.to wr (by simp)).size)); (go_simp <;> with_reducible rfl)
         try simp only [Act.put, List.setIfInBounds_toArray, List.set_cons_zero, List.set_cons_succ]
         refine wpAnyH_take (i := 14) (oi := ⟨some 35, _, _, _, _, _⟩) (v := ?_) rfl (by kernel_rfl) (by kernel_rfl) (by kernel_rfl) (fun _ _ _ h => h) (Or.inl ⟨by rfl, ?_⟩) hS ?_
         rotate_left 1
         · intro w' hB; obtain ⟨p0, p1, p2, p3, p4, p5⟩ := CX.out.below ((HC.out.to wr (by simp)).trans (hB.mono (HC.out.to wr (by simp)).size)); obtain ⟨q0, q1, q2, q3, q4, q5⟩ := CY.out.below ((HC.out.to wr (by simp)).trans (hB.mono (HC.out.to wr (by simp)).size)); (go_simp <;> with_reducible rfl)
         try simp only [Act.put, List.setIfInBounds_toArray, List.set_cons_zero, List.set_cons_succ]
         refine wpAnyH_take (i := 15) (oi := ⟨some 36, _, _, _, _, _⟩) (v := ?_) rfl (by kernel_rfl) (by kernel_rfl) (by kernel_rfl) (fun _ _ _ h => h) (Or.inl ⟨by rfl, ?_⟩) hS ?_
         rotate_left 1
         · intro w' hB; obtain ⟨p0, p1, p2, p3, p4, p5⟩ := CX.out.below ((HC.out.to wr (by simp)).trans (hB.mono (HC.out.to wr (by simp)).size)); obtain ⟨q0, q1, q2, q3, q4, q5⟩ := CY.out.below ((HC.out.to wr (by simp)).trans (hB.mono (HC.out.to wr (by simp)).size)); (go_simp <;> with_reducible rfl)
         try simp only [Act.put, List.setIfInBounds_toArray, List.set_cons_zero, List.set_cons_succ]
         refine wpAnyH_take (i := 16) (oi := ⟨some 37, _, _, _, _, _⟩) (v := ?_) rfl (by kernel_rfl) (by kernel_rfl) (by kernel_rfl) (fun _ _ _ h => h) (Or.inl ⟨by rfl, ?_⟩) hS ?_
         rotate_left 1
         · intro w' hB; obtain ⟨p0, p1, p2, p3, p4, p5⟩ := CX.out.below ((HC.out.to wr (by simp)).trans (hB.mono (HC.out.to wr (by simp)).size)); obtain ⟨q0, q1, q2, q3, q4, q5⟩ := CY.out.below ((HC.out.to wr (by simp)).trans (hB.mono (HC.out.to wr (by simp)).size)); (go_simp <;> with_reducible rfl)
         try simp only [Act.put, List.setIfInBounds_toArray, List.set_cons_zero, List.set_cons_succ]
         refine wpAnyH_take (i := 17) (oi := ⟨some 38, _, _, _, _, _⟩) (v := ?_) rfl (by kernel_rfl) (by kernel_rfl) (by kernel_rfl) (fun _ _ _ h => h) (Or.inl ⟨by rfl, ?_⟩) hS ?_
         rotate_left 1
         · intro w' hB; obtain ⟨p0, p1, p2, p3, p4, p5⟩ := CX.out.below ((HC.out.to wr (by simp)).trans (hB.mono (HC.out.to wr (by simp)).size)); obtain ⟨q0, q1, q2, q3, q4, q5⟩ := CY.out.below ((HC.out.to wr (by simp)).trans (hB.mono (HC.out.to wr (by simp)).size)); (go_simp <;> with_reducible rfl)
         try simp only [Act.put, List.setIfInBounds_toArray, List.set_cons_zero, List.set_cons_succ]
         refine wpAnyH_take (i := 18) (oi := ⟨some 39, _, _, _, _, _⟩) (v := ?_) rfl (by kernel_rfl) (by kernel_rfl) (by kernel_rfl) (fun _ _ _ h => h) (Or.inl ⟨by rfl, ?_⟩) hS ?_
         rotate_left 1
         · intro w' hB; obtain ⟨p0, p1, p2, p3, p4, p5⟩ := CX.out.below ((HC.out.to wr (by simp)).trans (hB.mono (HC.out.to wr (by simp)).size)); obtain ⟨q0, q1, q2, q3, q4, q5⟩ := CY.out.below ((HC.out.to wr (by simp)).trans (hB.mono (HC.out.to wr (by simp)).size)); (go_simp <;> with_reducible rfl)
         try simp only [Act.put, List.setIfInBounds_toArray, List.set_cons_zero, List.set_cons_succ]
         refine wpAnyH_take (i := 19) (oi := ⟨some 40, _, _, _, _, _⟩) (v := ?_) rfl (by kernel_rfl) (by kernel_rfl) (by kernel_rfl) (fun _ _ _ h => h) (Or.inl ⟨by rfl, ?_⟩) hS ?_
         rotate_left 1
         · intro w' hB; obtain ⟨p0, p1, p2, p3, p4, p5⟩ := CX.out.below ((HC.out.to wr (by simp)).trans (hB.mono (HC.out.to wr (by simp)).size)); obtain ⟨q0, q1, q2, q3, q4, q5⟩ := CY.out.below ((HC.out.to wr (by simp)).trans (hB.mono (HC.out.to wr (by simp)).size)); (go_simp <;> with_reducible rfl)
         try simp only [Act.put, List.setIfInBounds_toArray, List.set_cons_zero, List.set_cons_succ]
         refine wpAnyH_ready (rs := [20]) (by kernel_rfl) (by simp) (AllReadyH.cons (o := ⟨some 41, _, _, _, _, _⟩) rfl (fun K hK => ?_) AllReadyH.nil)
         go_simp
         refine (HCMP.out _).mono ?_
         rintro e w4 ⟨rfl, hb⟩
         refine hK.out _ _ (hS.trans (hb.mono hS.size)) (fun _ => ?_)
         clear hK K
         have hB := hS.trans (hb.mono hS.size)
         refine wpAnyH_now hB ?_
         clear hS
         have hS := Below.refl w4.heap.size w4
         replace HC := Lib.hid (HC.out.push hB)
         clear hB hb
         try simp only [Act.put, List.setIfInBounds_toArray, List.set_cons_zero, List.set_cons_succ]
         refine wpAnyH_take (i := 21) (oi := ⟨some 42, _, _, _, _, _⟩) (v := ?_) rfl (by kernel_rfl) (by kernel_rfl) (by kernel_rfl) (fun _ _ _ h => h) (Or.inl ⟨by rfl, ?_⟩) hS ?_
         rotate_left 1
         · intro w' hB; obtain ⟨p0, p1, p2, p3, p4, p5⟩ := CX.out.below ((HC.out.to wr (by simp)).trans (hB.mono (HC.out.to wr (by simp)).size)); obtain ⟨q0, q1, q2, q3, q4, q5⟩ := CY.out.below ((HC.out.to wr (by simp)).trans (hB.mono (HC.out.to wr (by simp)).size)); (go_simp <;> with_reducible rfl)
         try simp only [Act.put, List.setIfInBounds_toArray, List.set_cons_zero, List.set_cons_succ]
         refine wpAnyH_take (i := 22) (oi := ⟨some 43, _, _, _, _, _⟩) (v := ?_) rfl (by kernel_rfl) (by kernel_rfl) (by kernel_rfl) (fun _ _ _ h => h) (Or.inl ⟨by rfl, ?_⟩) hS ?_
         rotate_left 1
         · intro w' hB; obtain ⟨p0, p1, p2, p3, p4, p5⟩ := CX.out.below ((HC.out.to wr (by simp)).trans (hB.mono (HC.out.to wr (by simp)).size)); obtain ⟨q0, q1, q2, q3, q4, q5⟩ := CY.out.below ((HC.out.to wr (by simp)).trans (hB.mono (HC.out.to wr (by simp)).size)); (go_simp <;> with_reducible rfl)
         try simp only [Act.put, List.setIfInBounds_toArray, List.set_cons_zero, List.set_cons_succ]
         refine wpAnyH_take (i := 23) (oi := ⟨some 44, _, _, _, _, _⟩) (v := ?_) rfl (by kernel_rfl) (by kernel_rfl) (by kernel_rfl) (fun _ _ _ h => h) (Or.inl ⟨by rfl, ?_⟩) hS ?_
         rotate_left 1
         · intro w' hB; obtain ⟨p0, p1, p2, p3, p4, p5⟩ := CX.out.below ((HC.out.to wr (by simp)).trans (hB.mono (HC.out.to wr (by simp)).size)); obtain ⟨q0, q1, q2, q3, q4, q5⟩ := CY.out.below ((HC.out.to wr (by simp)).trans (hB.mono (HC.out.to wr (by simp)).size)); (go_simp <;> with_reducible rfl)
         try simp only [Act.put, List.setIfInBounds_toArray, List.set_cons_zero, List.set_cons_succ]
         refine wpAnyH_done (by kernel_rfl) (NoPanic.normal ?_) _
         have hbe := HC.out.to wr (by simp)
         clear hS HC
         have HB4 := Lib.hid (HB.out.trans ((hbe).mono HB.out.size))
         have HO4 := Lib.hid (own_later HO.out (hbe) (Nat.le_refl _))
         have HLB := Lib.hid (show St.Left A B (A.drop i) (B.drop (k + 1)) from by rw [HDA.out]; exact left_b SA.out SB.out OK.out (by rw [← HDA.out, ← HDB.out]; exact HL.out) HLT.out)
         have HEB : Hid (elsF base A B (A.drop i) (B.drop k) = (if hasS base y.1 then [] else [y]) ++ elsF base A B (A.drop i) (B.drop (k + 1))) := Lib.hid (by rw [HDA.out, HDB.out]; exact elsF_lt _ _ _ _ _ _ _ HLT.out)
         obtain ⟨qy, hqy⟩ : ∃ q, hasS base y.1 = q := ⟨_, rfl⟩
         have QY := Lib.hid hqy
         clear hqy
         have CY4 := Lib.hid (CY.out.below hbe)
         have cy4 := CY4.out
         obtain ⟨q0, q1, q2, q3, q4, q5⟩ := cy4
         clear hbe
         go_wp2_with fail
         refine (find_has (H1.out.below HB4.out rfl) N1.out (by omega) O1.out hoy.out qy QY.out Y HY.out).mono ?_
         rintro e w5 ⟨fi, rfl, f1, f2, hb5⟩
         have HB5 := Lib.hid (HB4.out.trans (hb5.mono HB4.out.size))
         have HO5 := Lib.hid (own_later HO4.out hb5 (Nat.le_refl _))
         have CY5 := Lib.hid (CY4.out.below hb5)
         clear q0 q1 q2 q3 q4 q5 hb5 f1
         obtain ⟨q0, q1, q2, q3, q4, q5⟩ := CY5.out
         cases qy with
         | true =>
           have f3 : decide (fi < 0) = false := f2
           clear f2
           go_wp2_with fail
           go_roundw
           case rel => exact ⟨i, k + 1, out, rfl, by go_num, by omega, by omega, HLB, Lib.hid (by rw [← HE.out, HEB.out, QY.out]; rfl), HO5, HB5⟩
           case measure => simp [intOf]; omega
         | false =>
           have f3 : decide (fi < 0) = true := f2
           clear f2
           have HBS := Lib.hid HB5.out.size
           go_wp2_with (at_builtin; refine wpList_app rfl _ _ 22 22 rfl w.heap.size 47 _ 6 64 ET.out u7 out.length (elsV (out.map toV)) rfl (HO5.out.alloc _) _ 1 (elV Y) rfl ((CellsAt.new w5 47 (0, 0) (elV Y)).srcN rfl (fun u hu => elsV_one [Y] u (by simpa [elsV] using hu)) Try.underlying22 1 (by decide)) (by omega) (by omega) (by have := HBS.out; simp; omega) ?_; intro v6 w6 hown _ hbel _)
           have HB6 := Lib.hid ((HB5.out.alloc HB5.out.size (.cells (elV Y).toArray 47)).trans hbel)
           have HO6 : Hid (w6.ownsRow w.heap.size 47 6 v6 (out ++ [y]).length (elsV ((out ++ [y]).map toV))) := Lib.hid (by rw [← app_one, ← HY.out, List.length_append]; exact hown)
           clear hown hbel
           go_wp2_with fail
           go_roundw
           case rel => exact ⟨i, k + 1, out ++ [y], rfl, by go_num, by omega, by omega, HLB, Lib.hid (by rw [← HE.out, HEB.out, QY.out]; simp), HO6, HB6⟩
           case measure => simp [intOf]; omega
       | false =>
         have hd : decide (cv ≤ 0) = true := by rw [CV.out, hlt]; rfl
         have HNL := Lib.hid hlt
         clear hlt
         refine wp_region_noPanic ?_
         refine wp_region_held_drew (S := fun w' => Below wr.heap.size wr w') (by kernel_rfl) (Below.refl _ _).drew (fun hS => ?_)
         refine wpAnyH_take (i := 0) (oi := ⟨some 21, _, _, _, _, _⟩) (v := ?_) rfl (by kernel_rfl) (by kernel_rfl) (by kernel_rfl) (fun _ _ _ h => h) (Or.inl ⟨by rfl, ?_⟩) hS ?_
         rotate_left 1
         · intro w' hB; obtain ⟨p0, p1, p2, p3, p4, p5⟩ := CX.out.below ((HC.out.to wr (by simp)).trans (hB.mono (HC.out.to wr (by simp)).size)); obtain ⟨q0, q1, q2, q3, q4, q5⟩ := CY.out.below ((HC.out.to wr (by simp)).trans (hB.mono (HC.out.to wr (by simp)).size)); (go_simp <;> with_reducible rfl)
         try simp only [Act.put, List.setIfInBounds_toArray, List.set_cons_zero, List.set_cons_succ]
         refine wpAnyH_take (i := 1) (oi := ⟨some 22, _, _, _, _, _⟩) (v := ?_) rfl (by kernel_rfl) (by kernel_rfl) (by kernel_rfl) (fun _ _ _ h => h) (Or.inl ⟨by rfl, ?_⟩) hS ?_
         rotate_left 1
         · intro w' hB; obtain ⟨p0, p1, p2, p3, p4, p5⟩ := CX.out.below ((HC.out.to wr (by simp)).trans (hB.mono (HC.out.to wr (by simp)).size)); obtain ⟨q0, q1, q2, q3, q4, q5⟩ := CY.out.below ((HC.out.to wr (by simp)).trans (hB.mono (HC.out.to wr (by simp)).size)); (go_simp <;> with_reducible rfl)
         try simp only [Act.put, List.setIfInBounds_toArray, List.set_cons_zero, List.set_cons_succ]
         refine wpAnyH_take (i := 2) (oi := ⟨some 23, _, _, _, _, _⟩) (v := ?_) rfl (by kernel_rfl) (by kernel_rfl) (by kernel_rfl) (fun _ _ _ h => h) (Or.inl ⟨by rfl, ?_⟩) hS ?_
         rotate_left 1
         · intro w' hB; obtain ⟨p0, p1, p2, p3, p4, p5⟩ := CX.out.below ((HC.out.to wr (by simp)).trans (hB.mono (HC.out.to wr (by simp)).size)); obtain ⟨q0, q1, q2, q3, q4, q5⟩ := CY.out.below ((HC.out.to wr (by simp)).trans (hB.mono (HC.out.to wr (by simp)).size)); (go_simp <;> with_reducible rfl)
         try simp only [Act.put, List.setIfInBounds_toArray, List.set_cons_zero, List.set_cons_succ]
         refine wpAnyH_take (i := 3) (oi := ⟨some 24, _, _, _, _, _⟩) (v := ?_) rfl (by kernel_rfl) (by kernel_rfl) (by kernel_rfl) (fun _ _ _ h => h) (Or.inl ⟨by rfl, ?_⟩) hS ?_
         rotate_left 1
         · intro w' hB; obtain ⟨p0, p1, p2, p3, p4, p5⟩ := CX.out.below ((HC.out.to wr (by simp)).trans (hB.mono (HC.out.to wr (by simp)).size)); obtain ⟨q0, q1, q2, q3, q4, q5⟩ := CY.out.below ((HC.out.to wr (by simp)).trans (hB.mono (HC.out.to wr (by simp)).size)); (go_simp <;> with_reducible rfl)
         try simp only [Act.put, List.setIfInBounds_toArray, List.set_cons_zero, List.set_cons_succ]
         refine wpAnyH_take (i := 4) (oi := ⟨some 25, _, _, _, _, _⟩) (v := ?_) rfl (by kernel_rfl) (by kernel_rfl) (by kernel_rfl) (fun _ _ _ h => h) (Or.inl ⟨by rfl, ?_⟩) hS ?_
         rotate_left 1
         · intro w' hB; obtain ⟨p0, p1, p2, p3, p4, p5⟩ := CX.out.below ((HC.out.to wr (by simp)).trans (hB.mono (HC.out.to wr (by simp)).size)); obtain ⟨q0, q1, q2, q3, q4, q5⟩ := CY.out.below ((HC.out.to wr (by simp)).trans (hB.mono (HC.out.to wr (by simp)).size)); (go_simp <;> with_reducible rfl)
         try simp only [Act.put, List.setIfInBounds_toArray, List.set_cons_zero, List.set_cons_succ]
         refine wpAnyH_take (i := 5) (oi := ⟨some 26, _, _, _, _, _⟩) (v := ?_) rfl (by kernel_rfl) (by kernel_rfl) (by kernel_rfl) (fun _ _ _ h => h) (Or.inl ⟨by rfl, ?_⟩) hS ?_
         rotate_left 1
         · intro w' hB; obtain ⟨p0, p1, p2, p3, p4, p5⟩ := CX.out.below ((HC.out.to wr (by simp)).trans (hB.mono (HC.out.to wr (by simp)).size)); obtain ⟨q0, q1, q2, q3, q4, q5⟩ := CY.out.below ((HC.out.to wr (by simp)).trans (hB.mono (HC.out.to wr (by simp)).size)); (go_simp <;> with_reducible rfl)
         try simp only [Act.put, List.setIfInBounds_toArray, List.set_cons_zero, List.set_cons_succ]
         refine wpAnyH_take (i := 6) (oi := ⟨some 27, _, _, _, _, _⟩) (v := ?_) rfl (by kernel_rfl) (by kernel_rfl) (by kernel_rfl) (fun _ _ _ h => h) (Or.inl ⟨by rfl, ?_⟩) hS ?_
         rotate_left 1
         · intro w' hB; obtain ⟨p0, p1, p2, p3, p4, p5⟩ := CX.out.below ((HC.out.to wr (by simp)).trans (hB.mono (HC.out.to wr (by simp)).size)); obtain ⟨q0, q1, q2, q3, q4, q5⟩ := CY.out.below ((HC.out.to wr (by simp)).trans (hB.mono (HC.out.to wr (by simp)).size)); (go_simp <;> with_reducible rfl)
         try simp only [Act.put, List.setIfInBounds_toArray, List.set_cons_zero, List.set_cons_succ]
         refine wpAnyH_take (i := 7) (oi := ⟨some 28, _, _, _, _, _⟩) (v := ?_) rfl (by kernel_rfl) (by kernel_rfl) (by kernel_rfl) (fun _ _ _ h => h) (Or.inl ⟨by rfl, ?_⟩) hS ?_
         rotate_left 1
         · intro w' hB; obtain ⟨p0, p1, p2, p3, p4, p5⟩ := CX.out.below ((HC.out.to wr (by simp)).trans (hB.mono (HC.out.to wr (by simp)).size)); obtain ⟨q0, q1, q2, q3, q4, q5⟩ := CY.out.below ((HC.out.to wr (by simp)).trans (hB.mono (HC.out.to wr (by simp)).size)); (go_simp <;> with_reducible rfl)
         try simp only [Act.put, List.setIfInBounds_toArray, List.set_cons_zero, List.set_cons_succ]
         refine wpAnyH_take (i := 8) (oi := ⟨some 29, _, _, _, _, _⟩) (v := ?_) rfl (by kernel_rfl) (by kernel_rfl) (by kernel_rfl) (fun _ _ _ h => h) (Or.inl ⟨by rfl, ?_⟩) hS ?_
         rotate_left 1
         · intro w' hB; obtain ⟨p0, p1, p2, p3, p4, p5⟩ := CX.out.below ((HC.out.to wr (by simp)).trans (hB.mono (HC.out.to wr (by simp)).size)); obtain ⟨q0, q1, q2, q3, q4, q5⟩ := CY.out.below ((HC.out.to wr (by simp)).trans (hB.mono (HC.out.to wr (by simp)).size)); (go_simp <;> with_reducible rfl)
         try simp only [Act.put, List.setIfInBounds_toArray, List.set_cons_zero, List.set_cons_succ]
         refine wpAnyH_take (i := 9) (oi := ⟨some 30, _, _, _, _, _⟩) (v := ?_) rfl (by kernel_rfl) (by kernel_rfl) (by kernel_rfl) (fun _ _ _ h => h) (Or.inl ⟨by rfl, ?_⟩) hS ?_
         rotate_left 1
         · intro w' hB; obtain ⟨p0, p1, p2, p3, p4, p5⟩ := CX.out.below ((HC.out.to wr (by simp)).trans (hB.mono (HC.out.to wr (by simp)).size)); obtain ⟨q0, q1, q2, q3, q4, q5⟩ := CY.out.below ((HC.out.to wr (by simp)).trans (hB.mono (HC.out.to wr (by simp)).size)); (go_simp <;> with_reducible rfl)
         try simp only [Act.put, List.setIfInBounds_toArray, List.set_cons_zero, List.set_cons_succ]
         refine wpAnyH_take (i := 10) (oi := ⟨some 31, _, _, _, _, _⟩) (v := ?_) rfl (by kernel_rfl) (by kernel_rfl) (by kernel_rfl) (fun _ _ _ h => h) (Or.inl ⟨by rfl, ?_⟩) hS ?_
         rotate_left 1
         · intro w' hB; obtain ⟨p0, p1, p2, p3, p4, p5⟩ := CX.out.below ((HC.out.to wr (by simp)).trans (hB.mono (HC.out.to wr (by simp)).size)); obtain ⟨q0, q1, q2, q3, q4, q5⟩ := CY.out.below ((HC.out.to wr (by simp)).trans (hB.mono (HC.out.to wr (by simp)).size)); (go_simp <;> with_reducible rfl)
         try simp only [Act.put, List.setIfInBounds_toArray, List.set_cons_zero, List.set_cons_succ]
         refine wpAnyH_take (i := 11) (oi := ⟨some 32, _, _, _, _, _⟩) (v := ?_) rfl (by kernel_rfl) (by kernel_rfl) (by kernel_rfl) (fun _ _ _ h => h) (Or.inl ⟨by rfl, ?_⟩) hS ?_
         rotate_left 1
         · intro w' hB; obtain ⟨p0, p1, p2, p3, p4, p5⟩ := CX.out.below ((HC.out.to wr (by simp)).trans (hB.mono (HC.out.to wr (by simp)).size)); obtain ⟨q0, q1, q2, q3, q4, q5⟩ := CY.out.below ((HC.out.to wr (by simp)).trans (hB.mono (HC.out.to wr (by simp)).size)); (go_simp <;> with_reducible rfl)
         try simp only [Act.put, List.setIfInBounds_toArray, List.set_cons_zero, List.set_cons_succ]
         refine wpAnyH_take (i := 12) (oi := ⟨some 33, _, _, _, _, _⟩) (v := ?_) rfl (by kernel_rfl) (by kernel_rfl) (by kernel_rfl) (fun _ _ _ h => h) (Or.inl ⟨by rfl, ?_⟩) hS ?_
         rotate_left 1
         · intro w' hB; obtain ⟨p0, p1, p2, p3, p4, p5⟩ := CX.out.below ((HC.out.to wr (by simp)).trans (hB.mono (HC.out.to wr (by simp)).size)); obtain ⟨q0, q1, q2, q3, q4, q5⟩ := CY.out.below ((HC.out.to wr (by simp)).trans (hB.mono (HC.out.to wr (by simp)).size)); (go_simp <;> with_reducible rfl)
         try simp only [Act.put, List.setIfInBounds_toArray, List.set_cons_zero, List.set_cons_succ]
         refine wpAnyH_take (i := 13) (oi := ⟨some 34, _, _, _, _, _⟩) (v := ?_) rfl (by kernel_rfl) (by kernel_rfl) (by kernel_rfl) (fun _ _ _ h => h) (Or.inl ⟨by rfl, ?_⟩) hS ?_
         rotate_left 1
         · intro w' hB; obtain ⟨p0, p1, p2, p3, p4, p5⟩ := CX.out.below ((HC.out.to wr (by simp)).trans (hB.mono (HC.out.to wr (by simp)).size)); obtain ⟨q0, q1, q2, q3, q4, q5⟩ := CY.out.below ((HC.out.to wr (by simp)).trans (hB.mono (HC.out.to wr (by simp)).size)); (go_simp <;> with_reducible rfl)
         try simp only [Act.put, List.setIfInBounds_toArray, List.set_cons_zero, List.set_cons_succ]
         refine wpAnyH_take (i := 14) (oi := ⟨some 35, _, _, _, _, _⟩) (v := ?_) rfl (by kernel_rfl) (by kernel_rfl) (by kernel_rfl) (fun _ _ _ h => h) (Or.inl ⟨by rfl, ?_⟩) hS ?_
         rotate_left 1
         · intro w' hB; obtain ⟨p0, p1, p2, p3, p4, p5⟩ := CX.out.below ((HC.out.to wr (by simp)).trans (hB.mono (HC.out.to wr (by simp)).size)); obtain ⟨q0, q1, q2, q3, q4, q5⟩ := CY.out.below ((HC.out.to wr (by simp)).trans (hB.mono (HC.out.to wr (by simp)).size)); (go_simp <;> with_reducible rfl)
         try simp only [Act.put, List.setIfInBounds_toArray, List.set_cons_zero, List.set_cons_succ]
         refine wpAnyH_take (i := 15) (oi := ⟨some 36, _, _, _, _, _⟩) (v := ?_) rfl (by kernel_rfl) (by kernel_rfl) (by kernel_rfl) (fun _ _ _ h => h) (Or.inl ⟨by rfl, ?_⟩) hS ?_
         rotate_left 1
         · intro w' hB; obtain ⟨p0, p1, p2, p3, p4, p5⟩ := CX.out.below ((HC.out.to wr (by simp)).trans (hB.mono (HC.out.to wr (by simp)).size)); obtain ⟨q0, q1, q2, q3, q4, q5⟩ := CY.out.below ((HC.out.to wr (by simp)).trans (hB.mono (HC.out.to wr (by simp)).size)); (go_simp <;> with_reducible rfl)
         try simp only [Act.put, List.setIfInBounds_toArray, List.set_cons_zero, List.set_cons_succ]
         refine wpAnyH_take (i := 16) (oi := ⟨some 37, _, _, _, _, _⟩) (v := ?_) rfl (by kernel_rfl) (by kernel_rfl) (by kernel_rfl) (fun _ _ _ h => h) (Or.inl ⟨by rfl, ?_⟩) hS ?_
         rotate_left 1
         · intro w' hB; obtain ⟨p0, p1, p2, p3, p4, p5⟩ := CX.out.below ((HC.out.to wr (by simp)).trans (hB.mono (HC.out.to wr (by simp)).size)); obtain ⟨q0, q1, q2, q3, q4, q5⟩ := CY.out.below ((HC.out.to wr (by simp)).trans (hB.mono (HC.out.to wr (by simp)).size)); (go_simp <;> with_reducible rfl)
         try simp only [Act.put, List.setIfInBounds_toArray, List.set_cons_zero, List.set_cons_succ]
         refine wpAnyH_take (i := 17) (oi := ⟨some 38, _, _, _, _, _⟩) (v := ?_) rfl (by kernel_rfl) (by kernel_rfl) (by kernel_rfl) (fun _ _ _ h => h) (Or.inl ⟨by rfl, ?_⟩) hS ?_
         rotate_left 1
         · intro w' hB; obtain ⟨p0, p1, p2, p3, p4, p5⟩ := CX.out.below ((HC.out.to wr (by simp)).trans (hB.mono (HC.out.to wr (by simp)).size)); obtain ⟨q0, q1, q2, q3, q4, q5⟩ := CY.out.below ((HC.out.to wr (by simp)).trans (hB.mono (HC.out.to wr (by simp)).size)); (go_simp <;> with_reducible rfl)
         try simp only [Act.put, List.setIfInBounds_toArray, List.set_cons_zero, List.set_cons_succ]
         refine wpAnyH_take (i := 18) (oi := ⟨some 39, _, _, _, _, _⟩) (v := ?_) rfl (by kernel_rfl) (by kernel_rfl) (by kernel_rfl) (fun _ _ _ h => h) (Or.inl ⟨by rfl, ?_⟩) hS ?_
         rotate_left 1
         · intro w' hB; obtain ⟨p0, p1, p2, p3, p4, p5⟩ := CX.out.below ((HC.out.to wr (by simp)).trans (hB.mono (HC.out.to wr (by simp)).size)); obtain ⟨q0, q1, q2, q3, q4, q5⟩ := CY.out.below ((HC.out.to wr (by simp)).trans (hB.mono (HC.out.to wr (by simp)).size)); (go_simp <;> with_reducible rfl)
         try simp only [Act.put, List.setIfInBounds_toArray, List.set_cons_zero, List.set_cons_succ]
         refine wpAnyH_take (i := 19) (oi := ⟨some 40, _, _, _, _, _⟩) (v := ?_) rfl (by kernel_rfl) (by kernel_rfl) (by kernel_rfl) (fun _ _ _ h => h) (Or.inl ⟨by rfl, ?_⟩) hS ?_
         rotate_left 1
         · intro w' hB; obtain ⟨p0, p1, p2, p3, p4, p5⟩ := CX.out.below ((HC.out.to wr (by simp)).trans (hB.mono (HC.out.to wr (by simp)).size)); obtain ⟨q0, q1, q2, q3, q4, q5⟩ := CY.out.below ((HC.out.to wr (by simp)).trans (hB.mono (HC.out.to wr (by simp)).size)); (go_simp <;> with_reducible rfl)
         try simp only [Act.put, List.setIfInBounds_toArray, List.set_cons_zero, List.set_cons_succ]
         refine wpAnyH_ready (rs := [20]) (by kernel_rfl) (by simp) (AllReadyH.cons (o := ⟨some 41, _, _, _, _, _⟩) rfl (fun K hK => ?_) AllReadyH.nil)
         go_simp
         refine (HCMP.out _).mono ?_
         rintro e w4 ⟨rfl, hb⟩
         refine hK.out _ _ (hS.trans (hb.mono hS.size)) (fun _ => ?_)
         clear hK K
         have hB := hS.trans (hb.mono hS.size)
         refine wpAnyH_now hB ?_
         clear hS
         have hS := Below.refl w4.heap.size w4
         replace HC := Lib.hid (HC.out.push hB)
         clear hB hb
         try simp only [Act.put, List.setIfInBounds_toArray, List.set_cons_zero, List.set_cons_succ]
         refine wpAnyH_take (i := 21) (oi := ⟨some 42, _, _, _, _, _⟩) (v := ?_) rfl (by kernel_rfl) (by kernel_rfl) (by kernel_rfl) (fun _ _ _ h => h) (Or.inl ⟨by rfl, ?_⟩) hS ?_
         rotate_left 1
         · intro w' hB; obtain ⟨p0, p1, p2, p3, p4, p5⟩ := CX.out.below ((HC.out.to wr (by simp)).trans (hB.mono (HC.out.to wr (by simp)).size)); obtain ⟨q0, q1, q2, q3, q4, q5⟩ := CY.out.below ((HC.out.to wr (by simp)).trans (hB.mono (HC.out.to wr (by simp)).size)); (go_simp <;> with_reducible rfl)
         try simp only [Act.put, List.setIfInBounds_toArray, List.set_cons_zero, List.set_cons_succ]
         refine wpAnyH_take (i := 22) (oi := ⟨some 43, _, _, _, _, _⟩) (v := ?_) rfl (by kernel_rfl) (by kernel_rfl) (by kernel_rfl) (fun _ _ _ h => h) (Or.inl ⟨by rfl, ?_⟩) hS ?_
         rotate_left 1
         · intro w' hB; obtain ⟨p0, p1, p2, p3, p4, p5⟩ := CX.out.below ((HC.out.to wr (by simp)).trans (hB.mono (HC.out.to wr (by simp)).size)); obtain ⟨q0, q1, q2, q3, q4, q5⟩ := CY.out.below ((HC.out.to wr (by simp)).trans (hB.mono (HC.out.to wr (by simp)).size)); (go_simp <;> with_reducible rfl)
         try simp only [Act.put, List.setIfInBounds_toArray, List.set_cons_zero, List.set_cons_succ]
         refine wpAnyH_take (i := 23) (oi := ⟨some 44, _, _, _, _, _⟩) (v := ?_) rfl (by kernel_rfl) (by kernel_rfl) (by kernel_rfl) (fun _ _ _ h => h) (Or.inl ⟨by rfl, ?_⟩) hS ?_
         rotate_left 1
         · intro w' hB; obtain ⟨p0, p1, p2, p3, p4, p5⟩ := CX.out.below ((HC.out.to wr (by simp)).trans (hB.mono (HC.out.to wr (by simp)).size)); obtain ⟨q0, q1, q2, q3, q4, q5⟩ := CY.out.below ((HC.out.to wr (by simp)).trans (hB.mono (HC.out.to wr (by simp)).size)); (go_simp <;> with_reducible rfl)
         try simp only [Act.put, List.setIfInBounds_toArray, List.set_cons_zero, List.set_cons_succ]
         refine wpAnyH_done (by kernel_rfl) (NoPanic.normal ?_) _
         have hbe := HC.out.to wr (by simp)
         clear hS HC
         have HB4 := Lib.hid (HB.out.trans ((hbe).mono HB.out.size))
         have HO4 := Lib.hid (own_later HO.out (hbe) (Nat.le_refl _))
         have HLA : hasS B x.1 = false → Hid (St.Left A B (A.drop (i + 1)) (B.drop k)) := fun h => Lib.hid (by rw [HDB.out]; exact left_a SA.out SB.out OK.out (by rw [← HDA.out, ← HDB.out]; exact HL.out) HNL.out h)
         have HEA : hasS B x.1 = false → Hid (elsF base A B (A.drop i) (B.drop k) = (if hasS base x.1 then [] else [x]) ++ elsF base A B (A.drop (i + 1)) (B.drop k)) := fun h => Lib.hid (by rw [HDA.out, HDB.out]; exact elsF_not _ _ _ _ _ _ _ HNL.out h)
         have CX4 := Lib.hid (CX.out.below hbe)
         have cx4 := CX4.out
         obtain ⟨p0, p1, p2, p3, p4, p5⟩ := cx4
         clear hbe
         go_wp2_with fail
         refine (find_has (H3.out.below HB4.out rfl) N3.out (by omega) O3.out hox.out qb QB.out X HX.out).mono ?_
         rintro e w5 ⟨fi, rfl, f1, f2, hb5⟩
         have HB5 := Lib.hid (HB4.out.trans (hb5.mono HB4.out.size))
         have HO5 := Lib.hid (own_later HO4.out hb5 (Nat.le_refl _))
         have CX5 := Lib.hid (CX4.out.below hb5)
         clear p0 p1 p2 p3 p4 p5 hb5 f2
         cases qb with
         | true =>
           have f3 : decide (0 ≤ fi) = true := f1
           have HLE := Lib.hid (left_both SA.out SB.out OK.out (by rw [← HDA.out, ← HDB.out]; exact HL.out) HNL.out QB.out)
           have HEE : Hid (elsF base A B (A.drop i) (B.drop k) = [x] ++ elsF base A B (A.drop (i + 1)) (B.drop (k + 1))) := Lib.hid (by rw [HDA.out, HDB.out]; exact elsF_both _ _ _ _ _ _ _ HNL.out QB.out)
           clear f1
           have HBS := Lib.hid HB5.out.size
           obtain ⟨p0, p1, p2, p3, p4, p5⟩ := CX5.out
           go_upto_region 8 with (at_builtin; refine wpList_app rfl _ _ 22 22 rfl w.heap.size 47 _ 6 64 ET.out u7 out.length (elsV (out.map toV)) rfl (HO5.out.alloc _) _ 1 (elV X) rfl ((CellsAt.new w5 47 (0, 0) (elV X)).srcN rfl (fun u hu => elsV_one [X] u (by simpa [elsV] using hu)) Try.underlying22 1 (by decide)) (by omega) (by omega) (by have := HBS.out; simp; omega) ?_; intro v6 w6 hown _ hbel _)
           have HB6 := Lib.hid ((HB5.out.alloc HB5.out.size (.cells (elV X).toArray 47)).trans hbel)
           have HO6 : Hid (w6.ownsRow w.heap.size 47 6 v6 (out ++ [x]).length (elsV ((out ++ [x]).map toV))) := Lib.hid (by rw [← app_one, ← HX.out, List.length_append]; exact hown)
           clear hown hbel
           go_wp2_with fail
           go_roundw
           case rel => exact ⟨i + 1, k + 1, out ++ [x], by go_num, by go_num, by omega, by omega, Lib.hid HLE.out.2, Lib.hid (by rw [← HE.out, HEE.out]; simp), HO6, HB6⟩
           case measure => simp [intOf]; omega
         | false =>
           have f3 : decide (0 ≤ fi) = false := f1
           clear f1
           have cx5 := CX5.out
           obtain ⟨p0, p1, p2, p3, p4, p5⟩ := cx5
           go_wp2_with fail
           refine (find_has (H1.out.below HB5.out rfl) N1.out (by omega) O1.out hox.out qs QS.out X HX.out).mono ?_
           rintro e w7 ⟨fj, rfl, g1, g2, hb7⟩
           have HB7 := Lib.hid (HB5.out.trans (hb7.mono HB5.out.size))
           have HO7 := Lib.hid (own_later HO5.out hb7 (Nat.le_refl _))
           have CX7 := Lib.hid (CX5.out.below hb7)
           clear p0 p1 p2 p3 p4 p5 hb7 g1 CX5 HO5 HB5
           cases qs with
           | true =>
             have g3 : decide (fj < 0) = false := g2
             clear g2
             go_wp2_with fail
             go_roundw
             case rel => exact ⟨i + 1, k, out, by go_num, rfl, by omega, by omega, HLA QB.out, Lib.hid (by rw [← HE.out, (HEA QB.out).out, QS.out]; rfl), HO7, HB7⟩
             case measure => simp [intOf]; omega
           | false =>
             have g3 : decide (fj < 0) = true := g2
             clear g2
             have HB5 := HB7
             have HO5 := HO7
             have CX5 := CX7
             have HBS := Lib.hid HB5.out.size
             obtain ⟨p0, p1, p2, p3, p4, p5⟩ := CX5.out
             go_upto_region 8 with (at_builtin; refine wpList_app rfl _ _ 22 22 rfl w.heap.size 47 _ 6 64 ET.out u7 out.length (elsV (out.map toV)) rfl (HO5.out.alloc _) _ 1 (elV X) rfl ((CellsAt.new w7 47 (0, 0) (elV X)).srcN rfl (fun u hu => elsV_one [X] u (by simpa [elsV] using hu)) Try.underlying22 1 (by decide)) (by omega) (by omega) (by have := HBS.out; simp; omega) ?_; intro v6 w6 hown _ hbel _)
             have HB6 := Lib.hid ((HB5.out.alloc HB5.out.size (.cells (elV X).toArray 47)).trans hbel)
             have HO6 : Hid (w6.ownsRow w.heap.size 47 6 v6 (out ++ [x]).length (elsV ((out ++ [x]).map toV))) := Lib.hid (by rw [← app_one, ← HX.out, List.length_append]; exact hown)
             clear hown hbel
             go_wp2_with fail
             go_roundw
             case rel => exact ⟨i + 1, k, out ++ [x], by go_num, rfl, by omega, by omega, HLA QB.out, Lib.hid (by rw [← HE.out, (HEA QB.out).out, QS.out]; simp), HO6, HB6⟩
             case measure => simp [intOf]; omega
     · obtain rfl : k = n3 := by omega
       have HDB : Hid (B.drop k = []) := Lib.hid (List.drop_of_length_le (by have := N3.out; omega))
       have HA0 := Lib.hid (left_a0 SA.out SB.out OK.out (show St.Left A B (x :: A.drop (i + 1)) [] from by rw [← HDA.out, ← HDB.out]; exact HL.out))
       have HNB : Hid (hasS B x.1 = false) := Lib.hid HA0.out.2
       have HLA : hasS B x.1 = false → Hid (St.Left A B (A.drop (i + 1)) (B.drop k)) := fun _ => Lib.hid (by rw [HDB.out]; exact HA0.out.1)
       have HEA : hasS B x.1 = false → Hid (elsF base A B (A.drop i) (B.drop k) = (if hasS base x.1 then [] else [x]) ++ elsF base A B (A.drop (i + 1)) (B.drop k)) := fun h => Lib.hid (by rw [HDA.out, HDB.out]; exact elsF_a0 _ _ _ _ _ h)
       have hd1 : decide ((k : Int) < (k : Int)) = false := by simp
       go_wp2_with fail
       go_quiet (fail)
       have hbe : Below wr.heap.size wr (wr.drewN nq) := below_drews (Below.refl _ _) _
       generalize wr.drewN nq = w4 at *
       have HB4 := Lib.hid (HB.out.trans ((hbe).mono HB.out.size))
       have HO4 := Lib.hid (own_later HO.out (hbe) (Nat.le_refl _))
       have CX4 := Lib.hid (CX.out.below hbe)
       have cx4 := CX4.out
       obtain ⟨p0, p1, p2, p3, p4, p5⟩ := cx4
       clear hbe
       go_wp2_with fail
       refine (find_has (H3.out.below HB4.out rfl) N3.out (by omega) O3.out hox.out qb QB.out X HX.out).mono ?_
       rintro e w5 ⟨fi, rfl, f1, f2, hb5⟩
       have HB5 := Lib.hid (HB4.out.trans (hb5.mono HB4.out.size))
       have HO5 := Lib.hid (own_later HO4.out hb5 (Nat.le_refl _))
       have CX5 := Lib.hid (CX4.out.below hb5)
       clear p0 p1 p2 p3 p4 p5 hb5 f2
       cases qb with
       | true =>
         exact absurd QB.out (by rw [HNB.out]; simp)
       | false =>
         have f3 : decide (0 ≤ fi) = false := f1
         clear f1
         have cx5 := CX5.out
         obtain ⟨p0, p1, p2, p3, p4, p5⟩ := cx5
         go_wp2_with fail
         refine (find_has (H1.out.below HB5.out rfl) N1.out (by omega) O1.out hox.out qs QS.out X HX.out).mono ?_
         rintro e w7 ⟨fj, rfl, g1, g2, hb7⟩
         have HB7 := Lib.hid (HB5.out.trans (hb7.mono HB5.out.size))
         have HO7 := Lib.hid (own_later HO5.out hb7 (Nat.le_refl _))
         have CX7 := Lib.hid (CX5.out.below hb7)
         clear p0 p1 p2 p3 p4 p5 hb7 g1 CX5 HO5 HB5
         cases qs with
         | true =>
           have g3 : decide (fj < 0) = false := g2
           clear g2
           go_wp2_with fail
           go_roundw
           case rel => exact ⟨i + 1, k, out, by go_num, rfl, by omega, by omega, HLA QB.out, Lib.hid (by rw [← HE.out, (HEA QB.out).out, QS.out]; rfl), HO7, HB7⟩
           case measure => simp [intOf]; omega
         | false =>
           have g3 : decide (fj < 0) = true := g2
           clear g2
           have HB5 := HB7
           have HO5 := HO7
           have CX5 := CX7
           have HBS := Lib.hid HB5.out.size
           obtain ⟨p0, p1, p2, p3, p4, p5⟩ := CX5.out
           go_upto_region 8 with (at_builtin; refine wpList_app rfl _ _ 22 22 rfl w.heap.size 47 _ 6 64 ET.out u7 out.length (elsV (out.map toV)) rfl (HO5.out.alloc _) _ 1 (elV X) rfl ((CellsAt.new w7 47 (0, 0) (elV X)).srcN rfl (fun u hu => elsV_one [X] u (by simpa [elsV] using hu)) Try.underlying22 1 (by decide)) (by omega) (by omega) (by have := HBS.out; simp; omega) ?_; intro v6 w6 hown _ hbel _)
           have HB6 := Lib.hid ((HB5.out.alloc HB5.out.size (.cells (elV X).toArray 47)).trans hbel)
           have HO6 : Hid (w6.ownsRow w.heap.size 47 6 v6 (out ++ [x]).length (elsV ((out ++ [x]).map toV))) := Lib.hid (by rw [← app_one, ← HX.out, List.length_append]; exact hown)
           clear hown hbel
           go_wp2_with fail
           go_roundw
           case rel => exact ⟨i + 1, k, out ++ [x], by go_num, rfl, by omega, by omega, HLA QB.out, Lib.hid (by rw [← HE.out, (HEA QB.out).out, QS.out]; simp), HO6, HB6⟩
           case measure => simp [intOf]; omega
   · obtain rfl : i = n2 := by omega
     have HDA : Hid (A.drop i = []) := Lib.hid (List.drop_of_length_le (by have := N2.out; omega))
     have hd0 : decide ((i : Int) < (i : Int)) = false := by simp
     by_cases hkb : k < n3
     · have hkB : k < B.length := by have := N3.out; omega
       have HDB := Lib.hid (List.drop_eq_getElem_cons hkB)
       have hoy : Hid (B[k].1.ok = true) := Lib.hid (O3.out _ (List.getElem_mem hkB))
       have HGB : Hid (∀ wx, CellsAt wx a3 (elsV (B.map toV)) → ∃ b off, a3 = some ⟨b, off, none⟩ ∧ ElCell wx b (off + k * 6) (toV B[k])) := Lib.hid (fun wx h => els_getE h k hkB)
       generalize B[k] = y at *
       obtain ⟨bY, oy, rfl, cy⟩ := HGB.out _ (H3.out.below HB.out rfl)
       obtain ⟨Y, hY⟩ : ∃ Y, Y = toV y := ⟨_, rfl⟩
       rw [← hY] at cy
       have CY := Lib.hid cy
       have HY := Lib.hid hY
       clear cy hY HGB
       have hkk : (k : Int) < (n3 : Int) := by omega
       have hkne : ((k : Int) == (n3 : Int)) = false := by simp; omega
       have hkne' : ¬ (k : Int) = (n3 : Int) := by omega
       have HLB := Lib.hid (show St.Left A B (A.drop i) (B.drop (k + 1)) from by rw [HDA.out]; exact left_b0 (by rw [← HDA.out, ← HDB.out]; exact HL.out))
       have HEB : Hid (elsF base A B (A.drop i) (B.drop k) = (if hasS base y.1 then [] else [y]) ++ elsF base A B (A.drop i) (B.drop (k + 1))) := Lib.hid (by rw [HDA.out, HDB.out]; exact elsF_0b _ _ _ _ _)
       go_wp2_with fail
       go_quiet (fail)
       have hbe : Below wr.heap.size wr (wr.drewN nq) := below_drews (Below.refl _ _) _
       generalize wr.drewN nq = w4 at *
       have HB4 := Lib.hid (HB.out.trans ((hbe).mono HB.out.size))
       have HO4 := Lib.hid (own_later HO.out (hbe) (Nat.le_refl _))
       obtain ⟨qy, hqy⟩ : ∃ q, hasS base y.1 = q := ⟨_, rfl⟩
       have QY := Lib.hid hqy
       clear hqy
       have CY4 := Lib.hid (CY.out.below hbe)
       have cy4 := CY4.out
       obtain ⟨q0, q1, q2, q3, q4, q5⟩ := cy4
       clear hbe
       go_wp2_with fail
       refine (find_has (H1.out.below HB4.out rfl) N1.out (by omega) O1.out hoy.out qy QY.out Y HY.out).mono ?_
       rintro e w5 ⟨fi, rfl, f1, f2, hb5⟩
       have HB5 := Lib.hid (HB4.out.trans (hb5.mono HB4.out.size))
       have HO5 := Lib.hid (own_later HO4.out hb5 (Nat.le_refl _))
       have CY5 := Lib.hid (CY4.out.below hb5)
       clear q0 q1 q2 q3 q4 q5 hb5 f1
       obtain ⟨q0, q1, q2, q3, q4, q5⟩ := CY5.out
       cases qy with
       | true =>
         have f3 : decide (fi < 0) = false := f2
         clear f2
         go_wp2_with fail
         go_roundw
         case rel => exact ⟨i, k + 1, out, rfl, by go_num, by omega, by omega, HLB, Lib.hid (by rw [← HE.out, HEB.out, QY.out]; rfl), HO5, HB5⟩
         case measure => simp [intOf]; omega
       | false =>
         have f3 : decide (fi < 0) = true := f2
         clear f2
         have HBS := Lib.hid HB5.out.size
         go_wp2_with (at_builtin; refine wpList_app rfl _ _ 22 22 rfl w.heap.size 47 _ 6 64 ET.out u7 out.length (elsV (out.map toV)) rfl (HO5.out.alloc _) _ 1 (elV Y) rfl ((CellsAt.new w5 47 (0, 0) (elV Y)).srcN rfl (fun u hu => elsV_one [Y] u (by simpa [elsV] using hu)) Try.underlying22 1 (by decide)) (by omega) (by omega) (by have := HBS.out; simp; omega) ?_; intro v6 w6 hown _ hbel _)
         have HB6 := Lib.hid ((HB5.out.alloc HB5.out.size (.cells (elV Y).toArray 47)).trans hbel)
         have HO6 : Hid (w6.ownsRow w.heap.size 47 6 v6 (out ++ [y]).length (elsV ((out ++ [y]).map toV))) := Lib.hid (by rw [← app_one, ← HY.out, List.length_append]; exact hown)
         clear hown hbel
         go_wp2_with fail
         go_roundw
         case rel => exact ⟨i, k + 1, out ++ [y], rfl, by go_num, by omega, by omega, HLB, Lib.hid (by rw [← HE.out, HEB.out, QY.out]; simp), HO6, HB6⟩
         case measure => simp [intOf]; omega
     · obtain rfl : k = n3 := by omega
       have HDB : Hid (B.drop k = []) := Lib.hid (List.drop_of_length_le (by have := N3.out; omega))
       have hd1 : decide ((k : Int) < (k : Int)) = false := by simp
       have HF : Hid (out = R) := Lib.hid (by rw [← HE.out, HDA.out, HDB.out, elsF_00, List.append_nil])
       go_wp2_with fail
       go_ret
       rw [← HF.out]
       exact ⟨_, rfl, HO.out, HB.out⟩
end Go.Proofs.Ytnpiepimajippaa
namespace Go.Proofs.Ytnpiepimajippaa
namespace St
open Pm
def putF (L : List Ev) : List (ByteArray × ByteArray) := L.foldl (fun m x => ins (keyB x.1.st) x.2 m) []
theorem putF_snoc (L : List Ev) (x : Ev) : putF (L ++ [x]) = ins (keyB x.1.st) x.2 (putF L) := by unfold putF; rw [List.foldl_append]; rfl
theorem putF_sort {L : List Ev} (h : mayV L = true) : (sortE (L.map toE)).map enc = putF L := by
 rw [(sortE_srt (mayV_E h)).2, List.foldl_map]
 rfl
theorem putF_srt {L : List Ev} (h : mayV L = true) : Srt (putF L) := by
 rw [← putF_sort h]
 exact (sortE_srt (mayV_E h)).1
theorem sortE_mem {l : List El} {x : El} : x ∈ sortE l ↔ x ∈ l := by
 have : ∀ (l o : List El), x ∈ (l.foldl (fun out x => insE x out) o) ↔ x ∈ l ∨ x ∈ o := by
   intro l
   induction l with
   | nil => intro o; simp
   | cons y l ih =>
     intro o
     rw [List.foldl_cons, ih, insE_mem, List.mem_cons]
     constructor
     · rintro (h | h | h)
       · exact .inl (.inr h)
       · exact .inl (.inl h)
       · exact .inr h
     · rintro ((h | h) | h)
       · exact .inr (.inl h)
       · exact .inl h
       · exact .inr (.inr h)
 have := this l []
 unfold sortE
 simpa using this
theorem key_in {L : List Ev} (h : mayV L = true) {x : Ev} (hx : x.1.ok = true) : (∃ p ∈ putF L, p.1 = keyB x.1.st) ↔ ∃ y ∈ L, y.1 = x.1 := by
 have ho := (mayV_iff.1 h).1
 rw [← putF_sort h]
 constructor
 · rintro ⟨p, hp, e⟩
   obtain ⟨z, hz, rfl⟩ := List.mem_map.1 hp
   obtain ⟨y, hy, rfl⟩ := List.mem_map.1 (sortE_mem.1 hz)
   have oy := (okV_iff.1 (ho y hy)).1
   exact ⟨y, hy, st_inj oy hx (keyB_inj (Sv.ok_st oy).1 (Sv.ok_st hx).1 e)⟩
 · rintro ⟨y, hy, e⟩
   exact ⟨enc (toE y), List.mem_map.2 ⟨_, sortE_mem.2 (List.mem_map.2 ⟨y, hy, rfl⟩), rfl⟩, by show keyB y.1.st = _; rw [e]⟩
end St
end Go.Proofs.Ytnpiepimajippaa
namespace Go.Proofs.Ytnpiepimajippaa
open Go.RowKit Pm
def AtS (w : World) : Tr ByteArray → Prop
 | .nil => True
 | .node b l k v r => w.heap[b]? = some (.cells #[.pointer (pa l), .pointer (pa r), .string k, .string v, .int .i64 (ht (.node b l k v r) : Int), .int .i64 (sz (.node b l k v r) : Int)] 110 (0, 0)) ∧ AtS w l ∧ AtS w r
theorem AtS.keep {w w' : World} {t : Tr ByteArray} (h : AtS w t) (hk : ∀ b o, w.heap[b]? = some o → b ∈ blocks t → w'.heap[b]? = some o) : AtS w' t := by
 induction t with
 | nil => trivial
 | node b l k v r ih1 ih2 =>
   obtain ⟨h1, h2, h3⟩ := h
   exact ⟨hk _ _ h1 (by simp [blocks]), ih1 h2 (fun b o hb hm => hk b o hb (by simp [blocks, hm])), ih2 h3 (fun b o hb hm => hk b o hb (by simp [blocks, hm]))⟩
theorem AtS.below {w w' : World} {t : Tr ByteArray} {B : Nat} (h : AtS w t) (hb : Below B w w') (hB : B = w.heap.size) : AtS w' t :=
 h.keep fun b o ho _ => (hb.block b (by rw [hB]; exact (Array.getElem?_eq_some_iff.1 ho).1)).trans ho
theorem AtS.lt {w : World} {t : Tr ByteArray} (h : AtS w t) : ∀ b ∈ blocks t, b < w.heap.size := by
 induction t with
 | nil => intro b hb; simp [blocks] at hb
 | node b l k v r ih1 ih2 =>
   obtain ⟨h1, h2, h3⟩ := h
   intro b' hb
   simp only [blocks, List.mem_append, List.mem_cons] at hb
   rcases hb with hb | rfl | hb
   · exact ih1 h2 b' hb
   · exact (Array.getElem?_eq_some_iff.1 h1).1
   · exact ih2 h3 b' hb
theorem AtS.cells {w : World} {b : Nat} {l r : Tr ByteArray} {k : ByteArray} {v : ByteArray} (h : AtS w (.node b l k v r)) :
   w.cell? ⟨b, 0, none⟩ = some (.pointer (pa l)) ∧ w.cell? ⟨b, 1, none⟩ = some (.pointer (pa r)) ∧ w.cell? ⟨b, 2, none⟩ = some (.string k) ∧ w.cell? ⟨b, 3, none⟩ = some (.string v) ∧
   w.cell? ⟨b, 4, none⟩ = some (.int .i64 (ht (.node b l k v r) : Int)) ∧ w.cell? ⟨b, 5, none⟩ = some (.int .i64 (sz (.node b l k v r) : Int)) :=
 ⟨cell_of_row _ _ _ _ _ _ h.1, cell_of_row _ _ _ _ _ _ h.1, cell_of_row _ _ _ _ _ _ h.1, cell_of_row _ _ _ _ _ _ h.1, cell_of_row _ _ _ _ _ _ h.1, cell_of_row _ _ _ _ _ _ h.1⟩
theorem AtS.cellsP {w : World} {b : Nat} {l r : Tr ByteArray} {k : ByteArray} {v : ByteArray} (pl pr : Option Addr) (h : AtS w (.node b l k v r)) (e1 : pa l = pl) (e2 : pa r = pr) :
   w.cell? ⟨b, 0, none⟩ = some (.pointer pl) ∧ w.cell? ⟨b, 1, none⟩ = some (.pointer pr) ∧ w.cell? ⟨b, 2, none⟩ = some (.string k) ∧ w.cell? ⟨b, 3, none⟩ = some (.string v) := by
 subst e1 e2
 obtain ⟨x0, x1, x2, x3, _⟩ := h.cells
 exact ⟨x0, x1, x2, x3⟩
theorem AtS.other {w : World} {t : Tr ByteArray} (h : AtS w t) {X : Nat} {cs : Array Value} {T : TypeId} {fr : Nat × Nat} (hx : w.heap[X]? = some (.cells cs T fr)) (hT : T ≠ 110) : X ∉ blocks t := by
 induction t with
 | nil => simp [blocks]
 | node b l k v r ih1 ih2 =>
   obtain ⟨h1, h2, h3⟩ := h
   simp only [blocks, List.mem_append, List.mem_cons]
   rintro (hm | rfl | hm)
   · exact ih1 h2 hm
   · rw [hx] at h1; cases h1; exact hT rfl
   · exact ih2 h3 hm
theorem AtS.setBox {w : World} {t : Tr ByteArray} (h : AtS w t) {X : Nat} {cs : Array Value} {T : TypeId} {fr : Nat × Nat} (hx : w.heap[X]? = some (.cells cs T fr)) (hT : T ≠ 110) (i : Nat) (u : Value) : AtS (w.setCell ⟨X, i, none⟩ u) t :=
 h.keep fun b o ho hm => (Below.heap_setCell _ _ _ _ (by intro e; have e2 : b = X := e; subst e2; exact h.other hx hT hm)).trans ho
def keyOr : Tr ByteArray → ByteArray
 | .nil => ⟨#[]⟩
 | .node _ _ k _ _ => k
def valOr : Tr ByteArray → ByteArray
 | .nil => (⟨#[]⟩ : ByteArray)
 | .node _ _ _ v _ => v
def leftOr : Tr ByteArray → Tr ByteArray
 | .nil => .nil
 | .node _ l _ _ _ => l
def rightOr : Tr ByteArray → Tr ByteArray
 | .nil => .nil
 | .node _ _ _ _ r => r
theorem pm_HeightS (t : Tr ByteArray) (w : World) (h : AtS w t) : Calls Try.prog 151 #[.pointer (pa t)] w fun e w' => e = .returned (.int .i64 (ht t : Int)) ∧ w = w' := by
 cases t with
 | nil =>
   show Calls Try.prog 151 #[.pointer none] w fun e w' => e = .returned (.int .i64 0) ∧ w = w'
   go_enter Try.func151, Try.ntmps151
   go_wp2_with fail
   go_ret
   exact ⟨rfl, rfl⟩
 | node b l k v r =>
   show Calls Try.prog 151 #[.pointer (some ⟨b, 0, none⟩)] w fun e w' => e = .returned (.int .i64 (ht (.node b l k v r) : Int)) ∧ w = w'
   obtain ⟨c0, c1, c2, c3, c4, c5⟩ := h.cells
   clear h
   go_enter Try.func151, Try.ntmps151
   go_wp2_with fail
   go_ret
   exact ⟨rfl, rfl⟩
theorem pm_LenS (t : Tr ByteArray) (w : World) (h : AtS w t) : Calls Try.prog 90 #[.pointer (pa t)] w fun e w' => e = .returned (.int .i64 (sz t : Int)) ∧ w = w' := by
 cases t with
 | nil =>
   show Calls Try.prog 90 #[.pointer none] w fun e w' => e = .returned (.int .i64 0) ∧ w = w'
   go_enter Try.func90, Try.ntmps90
   go_wp2_with fail
   go_ret
   exact ⟨rfl, rfl⟩
 | node b l k v r =>
   show Calls Try.prog 90 #[.pointer (some ⟨b, 0, none⟩)] w fun e w' => e = .returned (.int .i64 (sz (.node b l k v r) : Int)) ∧ w = w'
   obtain ⟨c0, c1, c2, c3, c4, c5⟩ := h.cells
   clear h
   go_enter Try.func90, Try.ntmps90
   go_wp2_with fail
   go_ret
   exact ⟨rfl, rfl⟩
theorem pm_KeyS (t : Tr ByteArray) (w : World) (h : AtS w t) : Calls Try.prog 142 #[.pointer (pa t)] w fun e w' => e = .returned (.string (keyOr t)) ∧ w = w' := by
 cases t with
 | nil =>
   show Calls Try.prog 142 #[.pointer none] w fun e w' => e = .returned (.string ⟨#[]⟩) ∧ w = w'
   go_enter Try.func142, Try.ntmps142
   go_wp2_with fail
   go_ret
   exact ⟨rfl, rfl⟩
 | node b l k v r =>
   show Calls Try.prog 142 #[.pointer (some ⟨b, 0, none⟩)] w fun e w' => e = .returned (.string k) ∧ w = w'
   obtain ⟨c0, c1, c2, c3, c4, c5⟩ := h.cells
   clear h
   go_enter Try.func142, Try.ntmps142
   go_wp2_with fail
   go_ret
   exact ⟨rfl, rfl⟩
theorem pm_ValueS (t : Tr ByteArray) (w : World) (h : AtS w t) : Calls Try.prog 106 #[.pointer (pa t)] w fun e w' => e = .returned (.string (valOr t)) ∧ w = w' := by
 cases t with
 | nil =>
   show Calls Try.prog 106 #[.pointer none] w fun e w' => e = .returned (.string (⟨#[]⟩ : ByteArray)) ∧ w = w'
   go_enter Try.func106, Try.ntmps106
   go_wp2_with fail
   go_ret
   exact ⟨rfl, rfl⟩
 | node b l k v r =>
   show Calls Try.prog 106 #[.pointer (some ⟨b, 0, none⟩)] w fun e w' => e = .returned (.string v) ∧ w = w'
   obtain ⟨c0, c1, c2, c3, c4, c5⟩ := h.cells
   clear h
   go_enter Try.func106, Try.ntmps106
   go_wp2_with fail
   go_ret
   exact ⟨rfl, rfl⟩
theorem pm_LeftS (t : Tr ByteArray) (w : World) (h : AtS w t) : Calls Try.prog 164 #[.pointer (pa t)] w fun e w' => e = .returned (.pointer (pa (leftOr t))) ∧ w = w' := by
 cases t with
 | nil =>
   show Calls Try.prog 164 #[.pointer none] w fun e w' => e = .returned (.pointer none) ∧ w = w'
   go_enter Try.func164, Try.ntmps164
   go_wp2_with fail
   go_ret
   exact ⟨rfl, rfl⟩
 | node b l k v r =>
   show Calls Try.prog 164 #[.pointer (some ⟨b, 0, none⟩)] w fun e w' => e = .returned (.pointer (pa l)) ∧ w = w'
   obtain ⟨c0, c1, c2, c3, c4, c5⟩ := h.cells
   clear h
   go_enter Try.func164, Try.ntmps164
   go_wp2_with fail
   go_ret
   exact ⟨rfl, rfl⟩
theorem pm_RightS (t : Tr ByteArray) (w : World) (h : AtS w t) : Calls Try.prog 122 #[.pointer (pa t)] w fun e w' => e = .returned (.pointer (pa (rightOr t))) ∧ w = w' := by
 cases t with
 | nil =>
   show Calls Try.prog 122 #[.pointer none] w fun e w' => e = .returned (.pointer none) ∧ w = w'
   go_enter Try.func122, Try.ntmps122
   go_wp2_with fail
   go_ret
   exact ⟨rfl, rfl⟩
 | node b l k v r =>
   show Calls Try.prog 122 #[.pointer (some ⟨b, 0, none⟩)] w fun e w' => e = .returned (.pointer (pa r)) ∧ w = w'
   obtain ⟨c0, c1, c2, c3, c4, c5⟩ := h.cells
   clear h
   go_enter Try.func122, Try.ntmps122
   go_wp2_with fail
   go_ret
   exact ⟨rfl, rfl⟩
theorem pm_nodeS (N : Nat) (l r : Tr ByteArray) (k : ByteArray) (v : ByteArray) (w : World) (hN : N ≤ w.heap.size) (hl : AtS w l) (hr : AtS w r) (hs : sz l + sz r + 1 ≤ 1099511627776) :
   Calls Try.prog 130 #[.pointer (pa l), .string k, .string v, .pointer (pa r)] w fun e w' =>
     ∃ b, N ≤ b ∧ e = .returned (.pointer (pa (Tr.node b l k v r))) ∧ AtS w' (.node b l k v r) ∧ Below w.heap.size w w' := by
 have hh1 := ht_le l
 have hh2 := ht_le r
 have HL := Lib.hid hl
 have HR := Lib.hid hr
 clear hl hr
 obtain ⟨n1, hn1⟩ : ∃ n, ht l = n := ⟨_, rfl⟩
 obtain ⟨n2, hn2⟩ : ∃ n, ht r = n := ⟨_, rfl⟩
 obtain ⟨m1, hm1⟩ : ∃ n, sz l = n := ⟨_, rfl⟩
 obtain ⟨m2, hm2⟩ : ∃ n, sz r = n := ⟨_, rfl⟩
 have HN : Hid (ht l = n1 ∧ ht r = n2 ∧ sz l = m1 ∧ sz r = m2) := Lib.hid ⟨hn1, hn2, hm1, hm2⟩
 rw [hn1, hm1] at hh1
 rw [hn2, hm2] at hh2
 rw [hm1, hm2] at hs
 clear hn1 hn2 hm1 hm2
 obtain ⟨mx, hmx⟩ : ∃ mx : Nat, mx = max n1 n2 := ⟨_, rfl⟩
 have hmi : (max (n1 : Int) (n2 : Int)) = (mx : Int) := by omega
 have hmb : mx ≤ 1099511627776 := by omega
 have HM := Lib.hid hmx
 clear hmx
 go_enter Try.func130, Try.ntmps130
 go_wp2_with fail
 refine (pm_HeightS l w HL.out).mono ?_
 rintro e w' ⟨rfl, rfl⟩
 rw [HN.out.1]
 go_wp2_with fail
 refine (pm_HeightS r w HR.out).mono ?_
 rintro e w' ⟨rfl, rfl⟩
 rw [HN.out.2.1]
 go_wp2_with fail
 refine (pm_LenS l w HL.out).mono ?_
 rintro e w' ⟨rfl, rfl⟩
 rw [HN.out.2.2.1]
 go_wp2_with fail
 refine (pm_LenS r w HR.out).mono ?_
 rintro e w' ⟨rfl, rfl⟩
 rw [HN.out.2.2.2]
 go_wp2_with fail
 go_ret
 refine ⟨w.heap.size, hN, rfl, ⟨?_, HL.out.below (below_new w _) rfl, HR.out.below (below_new w _) rfl⟩, below_new w _⟩
 rw [heap_alloc_new]
 simp only [ht, sz, HN.out.1, HN.out.2.1, HN.out.2.2.1, HN.out.2.2.2, ← HM.out]
 rfl
end Go.Proofs.Ytnpiepimajippaa
