/- Words, contracts and walks that the proof stands on (ElQ ElR EvP Cells CellsB KyE KyL KyM KyS KyT ElS EvQ PmW1S). -/
import Derived.Deep.CutBlock
import Derived.Deep.DeepCutAuto
import Derived.Laws.StructEq
import Derived.Test.YtnpiepimajippaaRK1
import Derived.Test.YtnpiepimajippaaRK3
namespace Go.Proofs.Ytnpiepimajippaa
namespace St
open Pm
def hasS (l : List El) (s : Stp) : Bool := l.any fun y => decide (y.1 = s)
theorem hasS_iff {l : List El} {s : Stp} : hasS l s = true ↔ ∃ y ∈ l, y.1 = s := by
 unfold hasS
 rw [List.any_eq_true]
 simp
def elsF (base A B : List El) : List El → List El → List El
 | [], [] => []
 | [], y :: b => (if hasS base y.1 then [] else [y]) ++ elsF base A B [] b
 | x :: a, [] => (if hasS B x.1 || !hasS base x.1 then [x] else []) ++ elsF base A B a []
 | x :: a, y :: b => if y.1.lt x.1 then (if hasS base y.1 then [] else [y]) ++ elsF base A B (x :: a) b
     else (if hasS B x.1 || !hasS base x.1 then [x] else []) ++ (if hasS B x.1 then elsF base A B a b else elsF base A B a (y :: b))
termination_by a b => a.length + b.length
structure Left (A B a b : List El) : Prop where
 ga : ∃ pa, A = pa ++ a ∧ ∀ x ∈ pa, ∀ y ∈ b, x.1.lt y.1 = true
 gb : ∃ pb, B = pb ++ b ∧ ∀ y ∈ pb, ∀ x ∈ a, y.1.lt x.1 = true
theorem lt_of {l : List El} {x : El} {m : List El} (h : SrtE (x :: m)) : ∀ y ∈ m, x.1.lt y.1 = true := (List.pairwise_cons.1 h).1
theorem els_mem (base A B : List El) (hok : ∀ x ∈ A ++ B, x.1.ok = true) : ∀ (n : Nat) (a b : List El), a.length + b.length ≤ n → SrtE A → SrtE B → Left A B a b → SrtE (elsF base A B a b) ∧
   ∀ x : El, x ∈ elsF base A B a b ↔ (x ∈ a ∧ (hasS B x.1 = true ∨ hasS base x.1 = false)) ∨ (x ∈ b ∧ hasS A x.1 = false ∧ hasS base x.1 = false) := by
 intro n
 induction n with
 | zero =>
   intro a b hn hA hB hL
   obtain rfl : a = [] := List.eq_nil_of_length_eq_zero (by omega)
   obtain rfl : b = [] := List.eq_nil_of_length_eq_zero (by omega)
   rw [elsF]
   exact ⟨List.Pairwise.nil, fun x => by simp⟩
 | succ n ih =>
   intro a b hn hA hB hL
   obtain ⟨pa, ea, la⟩ := hL.ga
   obtain ⟨pb, eb, lb⟩ := hL.gb
   have okA : ∀ x ∈ A, x.1.ok = true := fun x hx => hok x (List.mem_append_left _ hx)
   have okB : ∀ x ∈ B, x.1.ok = true := fun x hx => hok x (List.mem_append_right _ hx)
   have sA : SrtE a := by rw [ea] at hA; exact (List.pairwise_append.1 hA).2.1
   have sB : SrtE b := by rw [eb] at hB; exact (List.pairwise_append.1 hB).2.1
   have maA : ∀ x ∈ a, x ∈ A := fun x hx => by rw [ea]; exact List.mem_append_right _ hx
   have mbB : ∀ x ∈ b, x ∈ B := fun x hx => by rw [eb]; exact List.mem_append_right _ hx
   -- an element of the other list with the same stamp is what is left's
   have cons_srt : ∀ (x : El) (c : Bool) (l : List El), (∀ y ∈ l, x.1.lt y.1 = true) → SrtE l → SrtE ((if c = true then [x] else []) ++ l) := fun x c l h1 h2 => by
     cases c
     · exact h2
     · exact List.pairwise_cons.2 ⟨h1, h2⟩
   match a, b with
   | [], [] => rw [elsF]; exact ⟨List.Pairwise.nil, fun x => by simp⟩
   | [], y :: b =>
     have hL2 : Left A B [] b := ⟨⟨A, by simp, fun x hx z hz => la x (by rw [ea] at hx; simpa using hx) z (List.mem_cons_of_mem _ hz)⟩, ⟨pb ++ [y], by rw [eb]; simp, fun _ _ x hx => by cases hx⟩⟩
     obtain ⟨i1, i2⟩ := ih [] b (by simp at hn ⊢; omega) hA hB hL2
     have hyA : hasS A y.1 = false := by
       cases h : hasS A y.1 with
       | false => rfl
       | true =>
         obtain ⟨z, hz, e⟩ := hasS_iff.1 h
         have := la z (by rw [ea] at hz; simpa using hz) y List.mem_cons_self
         rw [e, lt_irrefl (okB y (mbB y List.mem_cons_self))] at this; cases this
     rw [elsF]
     refine ⟨?_, fun x => ?_⟩
     · have := cons_srt y (!hasS base y.1) _ (fun z hz => ?_) i1
       · cases h : hasS base y.1 <;> rw [h] at this <;> simpa using this
       · rcases (i2 z).1 hz with ⟨h, _⟩ | ⟨h, _⟩
         · cases h
         · exact lt_of (l := []) sB z h
     · rw [List.mem_append, i2]
       constructor
       · rintro (h | h | h)
         · cases hb : hasS base y.1 with
           | true => rw [hb] at h; cases h
           | false =>
             rw [hb] at h
             obtain rfl : x = y := by simpa using h
             exact .inr ⟨List.mem_cons_self, hyA, hb⟩
         · exact absurd h.1 (by simp)
         · exact .inr ⟨List.mem_cons_of_mem _ h.1, h.2⟩
       · rintro (h | ⟨h, h2⟩)
         · exact absurd h.1 (by simp)
         · rcases List.mem_cons.1 h with rfl | h
           · left; rw [h2.2]; simp
           · exact .inr (.inr ⟨h, h2⟩)
   | x :: a, [] =>
     have hL2 : Left A B a [] := ⟨⟨pa ++ [x], by rw [ea]; simp, fun _ _ y hy => by cases hy⟩, ⟨B, by simp, fun y hy z hz => lb y (by rw [eb] at hy; simpa using hy) z (List.mem_cons_of_mem _ hz)⟩⟩
     obtain ⟨i1, i2⟩ := ih a [] (by simp at hn ⊢; omega) hA hB hL2
     rw [elsF]
     refine ⟨cons_srt x _ _ (fun z hz => ?_) i1, fun z => ?_⟩
     · rcases (i2 z).1 hz with ⟨h, _⟩ | ⟨h, _⟩
       · exact lt_of (l := []) sA z h
       · cases h
     · rw [List.mem_append, i2]
       constructor
       · rintro (h | h | h)
         · cases hc : (hasS B x.1 || !hasS base x.1) with
           | false => rw [hc] at h; cases h
           | true =>
             rw [hc] at h
             obtain rfl : z = x := by simpa using h
             exact .inl ⟨List.mem_cons_self, by simpa using hc⟩
         · exact .inl ⟨List.mem_cons_of_mem _ h.1, h.2⟩
         · exact absurd h.1 (by simp)
       · rintro (⟨h, h2⟩ | h)
         · rcases List.mem_cons.1 h with rfl | h
           · left
             have : (hasS B z.1 || !hasS base z.1) = true := by simpa using h2
             rw [this]; simp
           · exact .inr (.inl ⟨h, h2⟩)
         · exact absurd h.1 (by simp)
   | x :: a, y :: b =>
     have ox := okA x (maA x List.mem_cons_self)
     have oy := okB y (mbB y List.mem_cons_self)
     rw [elsF]
     cases hyx : y.1.lt x.1 with
     | true =>
       rw [if_pos rfl]
       have hL2 : Left A B (x :: a) b := ⟨⟨pa, ea, fun z hz u hu => la z hz u (List.mem_cons_of_mem _ hu)⟩, ⟨pb ++ [y], by rw [eb]; simp, fun z hz u hu => by
         rcases List.mem_append.1 hz with hz | hz
         · exact lb z hz u hu
         · obtain rfl := List.mem_singleton.1 hz
           rcases List.mem_cons.1 hu with rfl | hu'
           · exact hyx
           · exact lt_trans oy ox (okA u (maA u hu)) hyx (lt_of (l := []) sA u hu')⟩⟩
       obtain ⟨i1, i2⟩ := ih (x :: a) b (by simp at hn ⊢; omega) hA hB hL2
       have hyA : hasS A y.1 = false := by
         cases h : hasS A y.1 with
         | false => rfl
         | true =>
           obtain ⟨z, hz, e⟩ := hasS_iff.1 h
           rw [ea] at hz
           rcases List.mem_append.1 hz with hz' | hz'
           · have := la z hz' y List.mem_cons_self
             rw [e, lt_irrefl oy] at this; cases this
           · have h1 : y.1.lt z.1 = true := by
               rcases List.mem_cons.1 hz' with rfl | hz''
               · exact hyx
               · exact lt_trans oy ox (okA z (maA z hz')) hyx (lt_of (l := []) sA z hz'')
             rw [e, lt_irrefl oy] at h1; cases h1
       refine ⟨?_, fun z => ?_⟩
       · have := cons_srt y (!hasS base y.1) _ (fun z hz => ?_) i1
         · cases h : hasS base y.1 <;> rw [h] at this <;> simpa using this
         · rcases (i2 z).1 hz with ⟨h, _⟩ | ⟨h, _⟩
           · rcases List.mem_cons.1 h with rfl | h'
             · exact hyx
             · exact lt_trans oy ox (okA z (maA z h)) hyx (lt_of (l := []) sA z h')
           · exact lt_of (l := []) sB z h
       · rw [List.mem_append, i2]
         constructor
         · rintro (h | h | h)
           · cases hb : hasS base y.1 with
             | true => rw [hb] at h; cases h
             | false =>
               rw [hb] at h
               obtain rfl : z = y := by simpa using h
               exact .inr ⟨List.mem_cons_self, hyA, hb⟩
           · exact .inl h
           · exact .inr ⟨List.mem_cons_of_mem _ h.1, h.2⟩
         · rintro (h | ⟨h, h2⟩)
           · exact .inr (.inl h)
           · rcases List.mem_cons.1 h with rfl | h
             · left; rw [h2.2]; simp
             · exact .inr (.inr ⟨h, h2⟩)
     | false =>
       rw [if_neg (by simp)]
       cases hxB : hasS B x.1 with
       | true =>
         have exy : x.1 = y.1 := by
           obtain ⟨z, hz, e⟩ := hasS_iff.1 hxB
           rw [eb] at hz
           rcases List.mem_append.1 hz with hz' | hz'
           · have := lb z hz' x List.mem_cons_self
             rw [e, lt_irrefl ox] at this; cases this
           · rcases List.mem_cons.1 hz' with rfl | hz''
             · exact e.symm
             · have := lt_of (l := []) sB z hz''
               rw [e, hyx] at this; cases this
         have hL2 : Left A B a b := ⟨⟨pa ++ [x], by rw [ea]; simp, fun z hz u hu => by
           rcases List.mem_append.1 hz with hz | hz
           · exact la z hz u (List.mem_cons_of_mem _ hu)
           · obtain rfl := List.mem_singleton.1 hz
             rw [exy]; exact lt_of (l := []) sB u hu⟩, ⟨pb ++ [y], by rw [eb]; simp, fun z hz u hu => by
           rcases List.mem_append.1 hz with hz | hz
           · exact lb z hz u (List.mem_cons_of_mem _ hu)
           · obtain rfl := List.mem_singleton.1 hz
             rw [← exy]; exact lt_of (l := []) sA u hu⟩⟩
         obtain ⟨i1, i2⟩ := ih a b (by simp at hn ⊢; omega) hA hB hL2
         have hyA : hasS A y.1 = true := hasS_iff.2 ⟨x, maA x List.mem_cons_self, exy⟩
         simp only [Bool.true_or, if_true]
         refine ⟨List.pairwise_cons.2 ⟨fun z hz => ?_, i1⟩, fun z => ?_⟩
         · rcases (i2 z).1 hz with ⟨h, _⟩ | ⟨h, _⟩
           · exact lt_of (l := []) sA z h
           · rw [exy]; exact lt_of (l := []) sB z h
         · rw [List.singleton_append, List.mem_cons, i2]
           constructor
           · rintro (rfl | h | h)
             · exact .inl ⟨List.mem_cons_self, .inl hxB⟩
             · exact .inl ⟨List.mem_cons_of_mem _ h.1, h.2⟩
             · exact .inr ⟨List.mem_cons_of_mem _ h.1, h.2⟩
           · rintro (⟨h, h2⟩ | ⟨h, h2⟩)
             · rcases List.mem_cons.1 h with rfl | h
               · exact .inl rfl
               · exact .inr (.inl ⟨h, h2⟩)
             · rcases List.mem_cons.1 h with rfl | h
               · rw [hyA] at h2; cases h2.1
               · exact .inr (.inr ⟨h, h2⟩)
       | false =>
         have hne : x.1 ≠ y.1 := fun e => by
           have : hasS B x.1 = true := hasS_iff.2 ⟨y, mbB y List.mem_cons_self, e.symm⟩
           rw [hxB] at this; cases this
         have hxy : x.1.lt y.1 = true := by
           cases h : x.1.lt y.1 with
           | true => rfl
           | false => exact absurd (lt_tri ox oy h hyx) hne
         have hL2 : Left A B a (y :: b) := ⟨⟨pa ++ [x], by rw [ea]; simp, fun z hz u hu => by
           rcases List.mem_append.1 hz with hz | hz
           · exact la z hz u hu
           · obtain rfl := List.mem_singleton.1 hz
             rcases List.mem_cons.1 hu with rfl | hu'
             · exact hxy
             · exact lt_trans ox oy (okB u (mbB u hu)) hxy (lt_of (l := []) sB u hu')⟩, ⟨pb, eb, fun z hz u hu => lb z hz u (List.mem_cons_of_mem _ hu)⟩⟩
         obtain ⟨i1, i2⟩ := ih a (y :: b) (by simp at hn ⊢; omega) hA hB hL2
         simp only [Bool.false_or, Bool.false_eq_true, if_false]
         refine ⟨cons_srt x _ _ (fun z hz => ?_) i1, fun z => ?_⟩
         · rcases (i2 z).1 hz with ⟨h, _⟩ | ⟨h, _⟩
           · exact lt_of (l := []) sA z h
           · rcases List.mem_cons.1 h with rfl | h'
             · exact hxy
             · exact lt_trans ox oy (okB z (mbB z h)) hxy (lt_of (l := []) sB z h')
         · rw [List.mem_append, i2]
           constructor
           · rintro (h | h | h)
             · cases hc : hasS base x.1 with
               | true => rw [hc] at h; cases h
               | false =>
                 rw [hc] at h
                 obtain rfl : z = x := by simpa using h
                 exact .inl ⟨List.mem_cons_self, .inr hc⟩
             · exact .inl ⟨List.mem_cons_of_mem _ h.1, h.2⟩
             · exact .inr h
           · rintro (⟨h, h2⟩ | h)
             · rcases List.mem_cons.1 h with rfl | h
               · left
                 rcases h2 with h2 | h2
                 · rw [hxB] at h2; cases h2
                 · rw [h2]; simp
               · exact .inr (.inl ⟨h, h2⟩)
             · exact .inr (.inr h)
end St
end Go.Proofs.Ytnpiepimajippaa
namespace Go.Proofs.Ytnpiepimajippaa
namespace St
open Pm
def keepG (z : ByteArray) (p q r : ByteArray × Bool) : ByteArray × Bool := if q.2 && r.2 then (q.1, true) else if q.2 && !p.2 then (q.1, true) else if r.2 && !q.2 && !p.2 then (r.1, true) else (z, false)
theorem srt_ext {α : Type} : ∀ {l l' : List (ByteArray × α)}, Srt l → Srt l' → (∀ x, x ∈ l ↔ x ∈ l') → l = l'
 | [], [], _, _, _ => rfl
 | [], y :: l', _, _, h => by have := (h y).2 List.mem_cons_self; cases this
 | x :: l, [], _, _, h => by have := (h x).1 List.mem_cons_self; cases this
 | x :: l, y :: l', h1, h2, h => by
   obtain ⟨a1, a2⟩ := srt_cons.1 h1
   obtain ⟨b1, b2⟩ := srt_cons.1 h2
   have e : x = y := by
     rcases List.mem_cons.1 ((h x).1 List.mem_cons_self) with e | hx
     · exact e
     · rcases List.mem_cons.1 ((h y).2 List.mem_cons_self) with e | hy
       · exact e.symm
       · have := klt_trans (b1 x hx) (a1 y hy)
         rw [klt_irrefl] at this; cases this
   subst e
   congr 1
   refine srt_ext a2 b2 fun u => ⟨fun hu => ?_, fun hu => ?_⟩
   · rcases List.mem_cons.1 ((h u).1 (List.mem_cons_of_mem _ hu)) with rfl | h'
     · have := a1 u hu; rw [klt_irrefl] at this; cases this
     · exact h'
   · rcases List.mem_cons.1 ((h u).2 (List.mem_cons_of_mem _ hu)) with rfl | h'
     · have := b1 u hu; rw [klt_irrefl] at this; cases this
     · exact h'
theorem lk_iff_mem {z : ByteArray} {l : List (ByteArray × ByteArray)} (hs : Srt l) (k v : ByteArray) : lk z l k = (v, true) ↔ (k, v) ∈ l := by
 constructor
 · intro h
   have h2 : (lk z l k).2 = true := by rw [h]
   obtain ⟨y, hy, e⟩ := lk_has.1 h2
   have h3 := lk_mem (z := z) hs (show (y.1, y.2) ∈ l from hy)
   rw [e, h] at h3
   have : y.2 = v := ((Prod.mk.inj h3).1).symm
   rw [← e, ← this]; exact hy
 · exact lk_mem hs
theorem enc_srt {l : List El} (hok : ∀ x ∈ l, x.1.ok = true) (h : SrtE l) : Srt (l.map enc) := by
 unfold Srt
 rw [List.pairwise_map]
 exact List.Pairwise.imp_of_mem (fun {a b} ha hb hlt => by rw [show (enc a).1 = keyB a.1 from rfl, show (enc b).1 = keyB b.1 from rfl, keyB_klt (hok a ha) (hok b hb)]; exact hlt) h
theorem srt_enc {l : List El} (hok : ∀ x ∈ l, x.1.ok = true) (h : Srt (l.map enc)) : SrtE l := by
 unfold Srt at h
 rw [List.pairwise_map] at h
 exact List.Pairwise.imp_of_mem (fun {a b} ha hb hlt => by
   have : klt (keyB a.1) (keyB b.1) = true := hlt
   rw [keyB_klt (hok a ha) (hok b hb)] at this
   exact this) h
theorem mem_enc {l : List El} {k v : ByteArray} : (k, v) ∈ l.map enc ↔ ∃ x ∈ l, keyB x.1 = k ∧ x.2 = v := by
 rw [List.mem_map]
 constructor
 · rintro ⟨x, hx, e⟩
   exact ⟨x, hx, (Prod.mk.inj e).1, (Prod.mk.inj e).2⟩
 · rintro ⟨x, hx, h1, h2⟩
   exact ⟨x, hx, Prod.ext h1 h2⟩
theorem has_enc {z : ByteArray} {l : List El} (hok : ∀ x ∈ l, x.1.ok = true) {s : Stp} (hs : s.ok = true) : (lk z (l.map enc) (keyB s)).2 = hasS l s := by
 rw [Bool.eq_iff_iff, lk_has, hasS_iff]
 constructor
 · rintro ⟨y, hy, e⟩
   obtain ⟨x, hx, rfl⟩ := List.mem_map.1 hy
   exact ⟨x, hx, keyB_inj (hok x hx) hs e⟩
 · rintro ⟨x, hx, rfl⟩
   exact ⟨enc x, List.mem_map.2 ⟨x, hx, rfl⟩, rfl⟩
theorem three_all {z : ByteArray} {s a o m : Tr ByteArray} {es ea eo : List El} {asked : List ByteArray} (hs : items s = es.map enc) (ha : items a = ea.map enc) (ho : items o = eo.map enc)
   (ks : ∀ x ∈ es, x.1.ok = true) (ka : ∀ x ∈ ea, x.1.ok = true) (ko : ∀ x ∈ eo, x.1.ok = true) (sa : SrtE ea) (so : SrtE eo)
   (h : WlkO z (fun k => keepG z (lk z (items s) k) (lk z (items a) k) (lk z (items o) k)) (lk z (items s)) (lk z (items a)) (lk z (items o)) (fun _ => True) s a o m asked)
   (hc : Dj s a ∨ ∀ k, (lk z (items a) k).2 = true → (lk z (items o) k).2 = true → (lk z (items a) k).1 = (lk z (items o) k).1) : items m = (elsF es ea eo ea eo).map enc := by
 have hall : ∀ k, lk z (items m) k = keepG z (lk z (items s) k) (lk z (items a) k) (lk z (items o) k) := fun k => by
   have np := nrm_lk (z := z) (l := items s) (k := k)
   have nq := nrm_lk (z := z) (l := items a) (k := k)
   have nr := nrm_lk (z := z) (l := items o) (k := k)
   have hn : nrm z (keepG z (lk z (items s) k) (lk z (items a) k) (lk z (items o) k)) = keepG z (lk z (items s) k) (lk z (items a) k) (lk z (items o) k) := by
     unfold keepG
     generalize lk z (items s) k = p
     generalize lk z (items a) k = q
     generalize lk z (items o) k = r
     cases hp : p.2 <;> cases hq : q.2 <;> cases hr : r.2 <;> simp [nrm]
   have hca := hc.imp id fun h' => h' k
   rw [h.all k trivial (fun hh => ?_) (fun hh => ?_)]
   · exact hn
   · rw [hn]
     unfold keepG
     generalize lk z (items s) k = p at *
     generalize lk z (items a) k = q at *
     generalize lk z (items o) k = r at *
     obtain ⟨p1, p2⟩ := p
     obtain ⟨q1, q2⟩ := q
     obtain ⟨r1, r2⟩ := r
     cases p2 <;> cases q2 <;> cases r2 <;> simp_all [nrm]
   · rw [hn]
     unfold keepG
     generalize lk z (items s) k = p at *
     generalize lk z (items a) k = q at *
     generalize lk z (items o) k = r at *
     obtain ⟨p1, p2⟩ := p
     obtain ⟨q1, q2⟩ := q
     obtain ⟨r1, r2⟩ := r
     rcases hca with hd | hg
     · cases p2 <;> cases q2 <;> cases r2 <;> simp_all [nrm]
     · left
       cases p2 <;> cases q2 <;> cases r2 <;> simp_all [nrm]
 obtain ⟨e1, e2⟩ := els_mem es ea eo (fun x hx => (List.mem_append.1 hx).elim (ka x) (ko x)) (ea.length + eo.length) ea eo (Nat.le_refl _) sa so ⟨⟨[], rfl, fun x hx => by cases hx⟩, ⟨[], rfl, fun x hx => by cases hx⟩⟩
 have ke : ∀ x ∈ elsF es ea eo ea eo, x.1.ok = true := fun x hx => by
   rcases (e2 x).1 hx with h | h
   · exact ka x h.1
   · exact ko x h.1
 have sA := enc_srt ka sa
 have sO := enc_srt ko so
 refine srt_ext h.srt (enc_srt ke e1) fun x => ?_
 obtain ⟨k, v⟩ := x
 rw [← lk_iff_mem (z := z) h.srt, hall k, mem_enc, hs, ha, ho]
 constructor
 · intro hk
   unfold keepG at hk
   split at hk
   · rename_i h1
     simp only [Bool.and_eq_true] at h1
     have hv : lk z (ea.map enc) k = (v, true) := Prod.ext (Prod.mk.inj hk).1 h1.1
     obtain ⟨x, hx, rfl, rfl⟩ := mem_enc.1 ((lk_iff_mem sA k v).1 hv)
     refine ⟨x, (e2 x).2 (.inl ⟨hx, .inl ?_⟩), rfl, rfl⟩
     rw [← has_enc (z := z) ko (ka x hx)]; exact h1.2
   · split at hk
     · rename_i h1
       simp only [Bool.and_eq_true, Bool.not_eq_true'] at h1
       have hv : lk z (ea.map enc) k = (v, true) := Prod.ext (Prod.mk.inj hk).1 h1.1
       obtain ⟨x, hx, rfl, rfl⟩ := mem_enc.1 ((lk_iff_mem sA k v).1 hv)
       refine ⟨x, (e2 x).2 (.inl ⟨hx, .inr ?_⟩), rfl, rfl⟩
       rw [← has_enc (z := z) ks (ka x hx)]; exact h1.2
     · split at hk
       · rename_i h1
         simp only [Bool.and_eq_true, Bool.not_eq_true'] at h1
         have hv : lk z (eo.map enc) k = (v, true) := Prod.ext (Prod.mk.inj hk).1 h1.1.1
         obtain ⟨x, hx, rfl, rfl⟩ := mem_enc.1 ((lk_iff_mem sO k v).1 hv)
         refine ⟨x, (e2 x).2 (.inr ⟨hx, ?_, ?_⟩), rfl, rfl⟩
         · rw [← has_enc (z := z) ka (ko x hx)]; exact h1.1.2
         · rw [← has_enc (z := z) ks (ko x hx)]; exact h1.2
       · cases (Prod.mk.inj hk).2
 · rintro ⟨x, hx, rfl, rfl⟩
   have hxk := ke x hx
   rcases (e2 x).1 hx with ⟨hxa, hb⟩ | ⟨hxo, hb1, hb2⟩
   · have hv : lk z (ea.map enc) (keyB x.1) = (x.2, true) := (lk_iff_mem sA _ _).2 (mem_enc.2 ⟨x, hxa, rfl, rfl⟩)
     rw [← has_enc (z := z) ko hxk, ← has_enc (z := z) ks hxk] at hb
     unfold keepG
     rw [hv]
     rcases hb with hb | hb
     · rw [hb]; rfl
     · rw [hb]; cases (lk z (eo.map enc) (keyB x.1)).2 <;> rfl
   · have hv : lk z (eo.map enc) (keyB x.1) = (x.2, true) := (lk_iff_mem sO _ _).2 (mem_enc.2 ⟨x, hxo, rfl, rfl⟩)
     rw [← has_enc (z := z) ka hxk] at hb1
     rw [← has_enc (z := z) ks hxk] at hb2
     unfold keepG
     rw [hv, hb1, hb2]
     rfl
end St
end Go.Proofs.Ytnpiepimajippaa
namespace Go.Proofs.Ytnpiepimajippaa
namespace St
open Pm
abbrev Ev := Sv × ByteArray
def toV (e : El) : Ev := (e.1.sv, e.2)
def toE (e : Ev) : El := (e.1.st, e.2)
def okV (e : Ev) : Bool := e.1.ok && decide (e.2.size ≤ 256)
theorem okE_iff {e : El} : okE e = true ↔ e.1.ok = true ∧ e.2.size ≤ 256 := by
 unfold okE
 simp only [Bool.and_eq_true, decide_eq_true_eq]
theorem okV_iff {e : Ev} : okV e = true ↔ e.1.ok = true ∧ e.2.size ≤ 256 := by
 unfold okV
 simp only [Bool.and_eq_true, decide_eq_true_eq]
theorem okV_toE {e : Ev} (h : okV e = true) : okE (toE e) = true ∧ toV (toE e) = e := by
 obtain ⟨h1, h2⟩ := okV_iff.1 h
 obtain ⟨k1, k2⟩ := Sv.ok_st h1
 exact ⟨okE_iff.2 ⟨k1, h2⟩, by unfold toV toE; rw [k2]⟩
theorem okE_toV {e : El} (h : okE e = true) : okV (toV e) = true ∧ toE (toV e) = e := by
 obtain ⟨h1, h2⟩ := okE_iff.1 h
 obtain ⟨k1, k2⟩ := Stp.ok_sv h1
 exact ⟨okV_iff.2 ⟨k1, h2⟩, by unfold toV toE; rw [k2]⟩
theorem map_toV {l : List Ev} (h : ∀ x ∈ l, okV x = true) : (l.map toE).map toV = l := by
 rw [List.map_map]
 conv => rhs; rw [← List.map_id l]
 exact List.map_congr_left fun x hx => (okV_toE (h x hx)).2
theorem okE_map {l : List Ev} (h : ∀ x ∈ l, okV x = true) : ∀ x ∈ l.map toE, okE x = true := fun x hx => by
 obtain ⟨y, hy, rfl⟩ := List.mem_map.1 hx
 exact (okV_toE (h y hy)).1
theorem okV_map {l : List El} (h : ∀ x ∈ l, okE x = true) : ∀ x ∈ l.map toV, okV x = true := fun x hx => by
 obtain ⟨y, hy, rfl⟩ := List.mem_map.1 hx
 exact (okE_toV (h y hy)).1
def mayV (l : List Ev) : Bool := l.all okV && decide ((l.map (·.1)).Nodup)
theorem mayV_iff {l : List Ev} : mayV l = true ↔ (∀ x ∈ l, okV x = true) ∧ (l.map (·.1)).Nodup := by
 unfold mayV
 simp only [Bool.and_eq_true, List.all_eq_true, decide_eq_true_eq]
theorem mayV_nil : mayV [] = true := by simp [mayV]
theorem mayV_snoc {l : List Ev} {x : Ev} : mayV (l ++ [x]) = true ↔ mayV l = true ∧ okV x = true ∧ ∀ y ∈ l, y.1 ≠ x.1 := by
 rw [mayV_iff, mayV_iff]
 simp only [List.mem_append, List.mem_singleton, List.map_append, List.map_cons, List.map_nil, List.nodup_append, List.mem_map]
 constructor
 · rintro ⟨h1, h2, _, h3⟩
   exact ⟨⟨fun y hy => h1 y (.inl hy), h2⟩, h1 x (.inr rfl), fun y hy => h3 _ ⟨y, hy, rfl⟩ _ rfl⟩
 · rintro ⟨⟨h1, h2⟩, h3, h4⟩
   refine ⟨fun y hy => ?_, h2, by simp, ?_⟩
   · rcases hy with hy | rfl
     · exact h1 y hy
     · exact h3
   · rintro _ ⟨y, hy, rfl⟩ _ rfl
     exact h4 y hy
theorem mayV_left {l m : List Ev} (h : mayV (l ++ m) = true) : mayV l = true := by
 rw [mayV_iff] at h ⊢
 rw [List.map_append, List.nodup_append] at h
 exact ⟨fun x hx => h.1 x (List.mem_append_left _ hx), h.2.1⟩
theorem mayE_iff {l : List El} : mayE l = true ↔ (∀ x ∈ l, okE x = true) ∧ (l.map (·.1)).Nodup := by
 constructor
 · exact mayE_mem
 · rintro ⟨h1, h2⟩
   induction l with
   | nil => rfl
   | cons x l ih =>
     rw [List.map_cons, List.nodup_cons] at h2
     simp only [mayE, Bool.and_eq_true, List.all_eq_true, decide_eq_true_eq]
     exact ⟨⟨h1 x List.mem_cons_self, fun y hy e => h2.1 (List.mem_map.2 ⟨y, hy, e⟩)⟩, ih (fun y hy => h1 y (List.mem_cons_of_mem _ hy)) h2.2⟩
theorem mayV_E {l : List Ev} (h : mayV l = true) : mayE (l.map toE) = true := by
 obtain ⟨h1, h2⟩ := mayV_iff.1 h
 refine mayE_iff.2 ⟨okE_map h1, ?_⟩
 rw [List.map_map]
 rw [List.nodup_iff_pairwise_ne, List.pairwise_map] at h2 ⊢
 refine List.Pairwise.imp_of_mem (fun {a b} ha hb hne e => hne ?_) h2
 exact st_inj (okV_iff.1 (h1 a ha)).1 (okV_iff.1 (h1 b hb)).1 e
def aheadV (x y : Ev) : Bool := decide (svC y.1 x.1 < 0) || (decide (y.1 = x.1) && klt y.2 x.2)
def insV (x : Ev) (l : List Ev) : List Ev := l.takeWhile (aheadV x) ++ x :: l.dropWhile (aheadV x)
def sortV (l : List Ev) : List Ev := l.foldl (fun out x => insV x out) []
theorem aheadV_E {x y : Ev} (hx : x.1.ok = true) (hy : y.1.ok = true) : aheadV x y = aheadE (toE x) (toE y) := by
 unfold aheadV aheadE toE
 rw [svC_lt hy hx]
 congr 2
 rw [decide_eq_decide]
 exact ⟨fun h => by rw [h], fun h => st_inj hy hx h⟩
theorem insV_E {x : Ev} {l : List Ev} (hx : x.1.ok = true) (hl : ∀ y ∈ l, y.1.ok = true) : (insV x l).map toE = insE (toE x) (l.map toE) := by
 unfold insV insE
 have e : ∀ y ∈ l, aheadV x y = (aheadE (toE x) ∘ toE) y := fun y hy => aheadV_E hx (hl y hy)
 have t1 : l.takeWhile (aheadV x) = l.takeWhile (aheadE (toE x) ∘ toE) := by
   clear hl
   induction l with
   | nil => rfl
   | cons y l ih =>
     rw [List.takeWhile_cons, List.takeWhile_cons, e y List.mem_cons_self, ih fun z hz => e z (List.mem_cons_of_mem _ hz)]
 have t2 : l.dropWhile (aheadV x) = l.dropWhile (aheadE (toE x) ∘ toE) := by
   clear hl t1
   induction l with
   | nil => rfl
   | cons y l ih =>
     rw [List.dropWhile_cons, List.dropWhile_cons, e y List.mem_cons_self, ih fun z hz => e z (List.mem_cons_of_mem _ hz)]
 rw [List.map_append, List.map_cons, t1, t2, List.takeWhile_map, List.dropWhile_map]
theorem insV_mem {x y : Ev} {l : List Ev} : y ∈ insV x l ↔ y = x ∨ y ∈ l := by
 unfold insV
 rw [List.mem_append, List.mem_cons]
 constructor
 · rintro (h | h | h)
   · exact .inr ((List.takeWhile_prefix _).subset h)
   · exact .inl h
   · exact .inr ((List.dropWhile_suffix _).subset h)
 · rintro (h | h)
   · exact .inr (.inl h)
   · rw [← List.takeWhile_append_dropWhile (p := aheadV x) (l := l)] at h
     rcases List.mem_append.1 h with h | h
     · exact .inl h
     · exact .inr (.inr h)
theorem insV_length (x : Ev) (l : List Ev) : (insV x l).length = l.length + 1 := by
 unfold insV
 have := congrArg List.length (List.takeWhile_append_dropWhile (p := aheadV x) (l := l))
 rw [List.length_append] at this
 rw [List.length_append, List.length_cons]
 omega
theorem sortV_length (l : List Ev) : (sortV l).length = l.length := by
 have : ∀ (l o : List Ev), (l.foldl (fun out x => insV x out) o).length = o.length + l.length := by
   intro l
   induction l with
   | nil => intro o; simp
   | cons x l ih => intro o; rw [List.foldl_cons, ih, insV_length, List.length_cons]; omega
 have := this l []
 unfold sortV
 simpa using this
theorem sortV_mem {l : List Ev} {x : Ev} : x ∈ sortV l ↔ x ∈ l := by
 have : ∀ (l o : List Ev), x ∈ (l.foldl (fun out x => insV x out) o) ↔ x ∈ l ∨ x ∈ o := by
   intro l
   induction l with
   | nil => intro o; simp
   | cons y l ih =>
     intro o
     rw [List.foldl_cons, ih, insV_mem, List.mem_cons]
     constructor
     · rintro (h | h | h)
       · exact .inl (.inr h)
       · exact .inl (.inl h)
       · exact .inr h
     · rintro ((h | h) | h)
       · exact .inr (.inl h)
       · exact .inl h
       · exact .inr (.inr h)
 have := this l []
 unfold sortV
 simpa using this
theorem sortV_E {l : List Ev} (h : ∀ x ∈ l, x.1.ok = true) : (sortV l).map toE = sortE (l.map toE) := by
 have : ∀ (l o : List Ev), (∀ x ∈ l, x.1.ok = true) → (∀ x ∈ o, x.1.ok = true) → (l.foldl (fun out x => insV x out) o).map toE = (l.map toE).foldl (fun out x => insE x out) (o.map toE) := by
   intro l
   induction l with
   | nil => intro o _ _; rfl
   | cons x l ih =>
     intro o h1 h2
     rw [List.foldl_cons, List.map_cons, List.foldl_cons, ← insV_E (h1 x List.mem_cons_self) h2]
     refine ih _ (fun y hy => h1 y (List.mem_cons_of_mem _ hy)) fun y hy => ?_
     rcases insV_mem.1 hy with rfl | hy
     · exact h1 _ List.mem_cons_self
     · exact h2 y hy
 exact this l [] h (fun x hx => by cases hx)
theorem sortV_V {l : List Ev} (h : ∀ x ∈ l, okV x = true) : sortV l = (sortE (l.map toE)).map toV := by
 rw [← sortV_E fun x hx => (okV_iff.1 (h x hx)).1]
 exact (map_toV fun x hx => h x (sortV_mem.1 hx)).symm
def behindV (l : List Ev) (s : Sv) : Bool := match l.getLast? with
 | none => true
 | some x => decide (svC x.1 s < 0)
end St
end Go.Proofs.Ytnpiepimajippaa
namespace Go.Proofs.Ytnpiepimajippaa
open Go.RowKit
def CellsAt (w : World) (a : Option Addr) (vs : List Value) : Prop := ∀ i (h : i < vs.length), ∃ b off, a = some ⟨b, off, none⟩ ∧ w.cell? ⟨b, off + i, none⟩ = some vs[i]
theorem CellsAt.nil (w : World) (a : Option Addr) : CellsAt w a [] := fun i h => by simp at h
theorem CellsAt.below {w w' : World} {a : Option Addr} {vs : List Value} {B : Nat} (h : CellsAt w a vs) (hb : Below B w w') (hB : B = w.heap.size) : CellsAt w' a vs := by
 intro i hi
 obtain ⟨b, off, rfl, hc⟩ := h i hi
 have hl := cell_lt hc
 exact ⟨b, off, rfl, by rw [hb.cell (p := ⟨b, off + i, none⟩) (by simpa [hB] using hl)]; exact hc⟩
theorem CellsAt.new (w : World) (t : TypeId) (fr : Nat × Nat) (vs : List Value) : CellsAt (w.alloc (.cells vs.toArray t fr)) (some ⟨w.heap.size, 0, none⟩) vs := by
 intro i hi
 refine ⟨w.heap.size, 0, rfl, ?_⟩
 rw [Nat.zero_add, cell_new]
 simp
theorem CellsAt.get {w : World} {a : Option Addr} {vs : List Value} (h : CellsAt w a vs) (i : Nat) (v : Value) (hi : vs[i]? = some v) : ∃ b off, a = some ⟨b, off, none⟩ ∧ w.cell? ⟨b, off + i, none⟩ = some v := by
 obtain ⟨hlt, e⟩ := List.getElem?_eq_some_iff.1 hi
 obtain ⟨b, off, h1, h2⟩ := h i hlt
 exact ⟨b, off, h1, by rw [h2, e]⟩
theorem CellsAt.own {w : World} {base n : Nat} {e : TypeId} {a : Option Addr} {len cap : Nat} {vs : List Value} (h : w.ownsRow base e 1 (.slice a len cap) n vs) : CellsAt w a vs := by
 intro i hi
 obtain ⟨g, rfl, _, hc, _⟩ := own_cell h i vs[i] (by simp [hi])
 exact ⟨g, 0, rfl, by rw [Nat.zero_add]; exact hc⟩
end Go.Proofs.Ytnpiepimajippaa
namespace Go.Proofs.Ytnpiepimajippaa
open Go.RowKit
theorem CellsAt.take {w : World} {a : Option Addr} {vs : List Value} (h : CellsAt w a vs) (k : Nat) : CellsAt w a (vs.take k) := by
 intro i hi
 obtain ⟨b, off, e, c⟩ := h i (by simp at hi; omega)
 exact ⟨b, off, e, by rw [c]; simp⟩
theorem CellsAt.drop {w : World} {a : Option Addr} {vs : List Value} (h : CellsAt w a vs) (k : Nat) : CellsAt w (Option.map (fun x => x.add k) a) (vs.drop k) := by
 intro i hi
 obtain ⟨b, off, rfl, c⟩ := h (k + i) (by simp at hi; omega)
 exact ⟨b, off + k, by simp [Addr_add], by rw [show off + k + i = off + (k + i) by omega, c]; simp⟩
theorem CellsAt.src {P : Program} {w : World} {a : Option Addr} {vs : List Value} {size n : Nat} (h : CellsAt w a vs) (hlen : vs.length = n * size) (hone : ∀ u ∈ vs, u.oneCell' = true) {tx e' : TypeId} (hk : P.underlying tx = some (.slice e')) (cap : Nat) (hsz : size = 1 ∨ size = 2) : Src P size tx (.slice a n cap) n vs w := by
 cases a with
 | none =>
   have : vs = [] := by
     cases vs with
     | nil => rfl
     | cons c r => obtain ⟨b, off, hh, _⟩ := h 0 (by simp); cases hh
   subst this
   have hn : n = 0 := by rcases hsz with rfl | rfl <;> (simp only [List.length_nil] at hlen; omega)
   subst hn
   exact Src.ofNil w hk cap
 | some a =>
   refine Src.ofSlice w hk a _ cap vs hlen (fun j u hu => ?_) hone
   obtain ⟨hj, he⟩ := List.getElem?_eq_some_iff.1 hu
   obtain ⟨b, off, hh, hc⟩ := h j hj
   cases hh
   rw [Addr_add, hc, he]
theorem CellsAt.one {P : Program} (w : World) (t : TypeId) (v : Value) (hv : v.oneCell' = true) {tx e' : TypeId} (hk : P.underlying tx = some (.slice e')) : Src P 1 tx (.slice (some ⟨w.heap.size, 0, none⟩) 1 1) 1 [v] (w.alloc (.cells #[v] t)) :=
 (CellsAt.new w t (0, 0) [v]).src (n := 1) rfl (by simp [hv]) hk 1 (Or.inl rfl)
end Go.Proofs.Ytnpiepimajippaa
namespace Go.Proofs.Ytnpiepimajippaa
open Go.RowKit St
def elV (e : Ev) : List Value := [.int .i64 e.1.g, .int .i64 e.1.r, .string e.1.l, .int .i64 e.1.n, .int .i64 e.1.i, .string e.2]
def elsV (l : List Ev) : List Value := l.flatMap elV
theorem elsV_nil : elsV [] = [] := rfl
theorem elsV_cons (e : Ev) (l : List Ev) : elsV (e :: l) = elV e ++ elsV l := rfl
theorem elsV_one (l : List Ev) : ∀ u ∈ elsV l, u.oneCell' = true := fun u hu => by
 unfold elsV at hu
 obtain ⟨e, _, hu⟩ := List.mem_flatMap.1 hu
 simp only [elV, List.mem_cons, List.not_mem_nil, or_false] at hu
 rcases hu with rfl | rfl | rfl | rfl | rfl | rfl <;> rfl
theorem elsV_drop (l : List Ev) (k : Nat) : elsV (l.drop k) = (elsV l).drop (k * 6) := by
 induction l generalizing k with
 | nil => simp [elsV_nil]
 | cons e l ih =>
   cases k with
   | zero => simp
   | succ k =>
     rw [List.drop_succ_cons, elsV_cons, ih, List.drop_append, show (elV e).length = 6 from rfl, show (k + 1) * 6 - 6 = k * 6 by omega, List.drop_of_length_le (l := elV e) (by show 6 ≤ _; omega), List.nil_append]
theorem elsV_get (l : List Ev) (k j : Nat) (hk : k < l.length) (hj : j < 6) : (elsV l)[k * 6 + j]? = (elV l[k])[j]? := by
 have h1 : (elsV l).drop (k * 6) = elV l[k] ++ elsV (l.drop (k + 1)) := by rw [← elsV_drop, List.drop_eq_getElem_cons hk, elsV_cons]
 rw [← List.getElem?_drop, h1, List.getElem?_append_left (by show j < 6; exact hj)]
structure ElCell (w : World) (b o : Nat) (e : Ev) : Prop where
 c0 : w.cell? ⟨b, o, none⟩ = some (.int .i64 e.1.g)
 c1 : w.cell? ⟨b, o + 1, none⟩ = some (.int .i64 e.1.r)
 c2 : w.cell? ⟨b, o + 2, none⟩ = some (.string e.1.l)
 c3 : w.cell? ⟨b, o + 3, none⟩ = some (.int .i64 e.1.n)
 c4 : w.cell? ⟨b, o + 4, none⟩ = some (.int .i64 e.1.i)
 c5 : w.cell? ⟨b, o + 5, none⟩ = some (.string e.2)
theorem els_get {w : World} {a : Option Addr} {l : List Ev} (h : CellsAt w a (elsV l)) (k : Nat) (hk : k < l.length) : ∃ b off, a = some ⟨b, off, none⟩ ∧ ElCell w b (off + k * 6) l[k] := by
 have g : ∀ j v, j < 6 → (elV l[k])[j]? = some v → ∃ b off, a = some ⟨b, off, none⟩ ∧ w.cell? ⟨b, off + (k * 6 + j), none⟩ = some v := fun j v hj hv => h.get _ v (by rw [elsV_get l k j hk hj, hv])
 obtain ⟨b, off, rfl, q0⟩ := g 0 _ (by omega) rfl
 refine ⟨b, off, rfl, ?_⟩
 obtain ⟨_, _, e1, q1⟩ := g 1 _ (by omega) rfl
 obtain ⟨_, _, e2, q2⟩ := g 2 _ (by omega) rfl
 obtain ⟨_, _, e3, q3⟩ := g 3 _ (by omega) rfl
 obtain ⟨_, _, e4, q4⟩ := g 4 _ (by omega) rfl
 obtain ⟨_, _, e5, q5⟩ := g 5 _ (by omega) rfl
 cases e1; cases e2; cases e3; cases e4; cases e5
 exact ⟨by simpa using q0, by simpa [Nat.add_assoc] using q1, by simpa [Nat.add_assoc] using q2, by simpa [Nat.add_assoc] using q3, by simpa [Nat.add_assoc] using q4, by simpa [Nat.add_assoc] using q5⟩
theorem CellsAt.srcN {P : Program} {w : World} {a : Option Addr} {vs : List Value} {size n : Nat} (h : CellsAt w a vs) (hlen : vs.length = n * size) (hone : ∀ u ∈ vs, u.oneCell' = true) {tx e' : TypeId} (hk : P.underlying tx = some (.slice e')) (cap : Nat) (hsz : 0 < size) : Src P size tx (.slice a n cap) n vs w := by
 cases a with
 | none =>
   have : vs = [] := by
     cases vs with
     | nil => rfl
     | cons c r => obtain ⟨b, off, hh, _⟩ := h 0 (by simp); cases hh
   subst this
   have hn : n = 0 := by
     rw [List.length_nil] at hlen
     rcases Nat.eq_zero_or_pos n with h0 | h0
     · exact h0
     · have := Nat.mul_pos h0 hsz; omega
   subst hn
   exact Src.ofNil w hk cap
 | some a =>
   refine Src.ofSlice w hk a _ cap vs hlen (fun j u hu => ?_) hone
   obtain ⟨hj, he⟩ := List.getElem?_eq_some_iff.1 hu
   obtain ⟨b, off, hh, hc⟩ := h j hj
   cases hh
   rw [Addr_add, hc, he]
theorem CellsAt.ownN {w : World} {base n size : Nat} {e : TypeId} {a : Option Addr} {len cap : Nat} {vs : List Value} (h : w.ownsRow base e size (.slice a len cap) n vs) : CellsAt w a vs := by
 intro i hi
 rcases h.2 with ⟨hv, hn⟩ | ⟨g, cap', cur, hv, hb, hg, hnc, _, hcs, ht⟩
 · have := h.1
   rw [hn] at this
   omega
 · cases hv
   refine ⟨g, 0, rfl, ?_⟩
   rw [Nat.zero_add]
   have h1 := cell_of_row w g i cur e (0, 0) hg
   rw [h1]
   have h2 : cur.toList.take vs.length = vs := by have := h.1; first | exact ht | (rw [this]; exact ht)
   have h3 : (cur.toList.take vs.length)[i]? = some vs[i] := by rw [h2]; simp [hi]
   rw [List.getElem?_take_of_lt hi] at h3
   simpa using h3
theorem elT : ElemT Try.prog 22 47 (.agg #[.int .i64 0, .int .i64 0, .string ⟨#[]⟩, .int .i64 0, .int .i64 0, .string ⟨#[]⟩]) 6 64 := ElemT.mk Try.underlying22 (by kernel_rfl) (by simp [Value.cells])
end Go.Proofs.Ytnpiepimajippaa
namespace Go.Proofs.Ytnpiepimajippaa
open Go.RowKit St
theorem toList_iff (a b : ByteArray) : (a.toList = b.toList) = (a = b) := propext ⟨fun h => Pm.key_ext (by rw [← ByteArray.toList_eq, ← ByteArray.toList_eq]; exact h), fun h => by rw [h]⟩
theorem sv_eql (s t : Sv) (w : World) : (binOp .eql 41 (.agg #[.int .i64 s.g, .int .i64 s.r, .string s.l, .int .i64 s.n, .int .i64 s.i]) (.agg #[.int .i64 t.g, .int .i64 t.r, .string t.l, .int .i64 t.n, .int .i64 t.i])).run Try.prog w = .ok (.bool (decide (s = t))) w := by
 rw [run_eql_struct]
 simp [go_sem, Try.underlying41]
 obtain ⟨g, r, l, n, i⟩ := s
 obtain ⟨g', r', l', n', i'⟩ := t
 simp only [toList_iff, Sv.mk.injEq]
 by_cases h1 : g = g' <;> by_cases h2 : r = r' <;> by_cases h3 : l = l' <;> by_cases h4 : n = n' <;> by_cases h5 : i = i' <;> simp [h1, h2, h3, h4, h5]
theorem sv_neq (s t : Sv) (w : World) : (binOp .neq 41 (.agg #[.int .i64 s.g, .int .i64 s.r, .string s.l, .int .i64 s.n, .int .i64 s.i]) (.agg #[.int .i64 t.g, .int .i64 t.r, .string t.l, .int .i64 t.n, .int .i64 t.i])).run Try.prog w = .ok (.bool (!decide (s = t))) w := by
 rw [run_neq_struct]
 simp [go_sem, Try.underlying41]
 obtain ⟨g, r, l, n, i⟩ := s
 obtain ⟨g', r', l', n', i'⟩ := t
 simp only [toList_iff, Sv.mk.injEq]
 by_cases h1 : g = g' <;> by_cases h2 : r = r' <;> by_cases h3 : l = l' <;> by_cases h4 : n = n' <;> by_cases h5 : i = i' <;> simp [h1, h2, h3, h4, h5]
theorem ev_eql (s t : Ev) (w : World) : (binOp .eql 47 (.agg #[.int .i64 s.1.g, .int .i64 s.1.r, .string s.1.l, .int .i64 s.1.n, .int .i64 s.1.i, .string s.2]) (.agg #[.int .i64 t.1.g, .int .i64 t.1.r, .string t.1.l, .int .i64 t.1.n, .int .i64 t.1.i, .string t.2])).run Try.prog w = .ok (.bool (decide (s = t))) w := by
 rw [run_eql_struct]
 simp [go_sem, Try.underlying47]
 obtain ⟨⟨g, r, l, n, i⟩, x⟩ := s
 obtain ⟨⟨g', r', l', n', i'⟩, x'⟩ := t
 simp only [toList_iff, Sv.mk.injEq, Prod.mk.injEq]
 by_cases h1 : g = g' <;> by_cases h2 : r = r' <;> by_cases h3 : l = l' <;> by_cases h4 : n = n' <;> by_cases h5 : i = i' <;> by_cases h6 : x = x' <;> simp [h1, h2, h3, h4, h5, h6]
theorem ne_at {α : Type} [DecidableEq α] {l m : List α} {k : Nat} (h1 : k < l.length) (h2 : k < m.length) (h : l[k] ≠ m[k]) : decide (l = m) = false := by
 rw [decide_eq_false_iff_not]
 intro e
 subst e
 exact h rfl
theorem eq_all {α : Type} [DecidableEq α] {l m : List α} (hl : l.length = m.length) (h : l.take l.length = m.take l.length) : decide (l = m) = true := by
 rw [decide_eq_true_eq]
 rw [List.take_length, hl, List.take_length] at h
 exact h
theorem take_eq {α : Type} {l m : List α} {k : Nat} (h1 : k < l.length) (h2 : k < m.length) (h : l.take k = m.take k) (e : l[k] = m[k]) : l.take (k + 1) = m.take (k + 1) := by
 rw [List.take_succ_eq_append_getElem h1, List.take_succ_eq_append_getElem h2, h, e]
end Go.Proofs.Ytnpiepimajippaa
namespace Go.Proofs.Ytnpiepimajippaa
open Go.RowKit St
theorem take_none {α : Type} {l : List α} {k : Nat} {p : α → Prop} (hk : k < l.length) (h : ∀ y ∈ l.take k, p y) (hx : p l[k]) : ∀ y ∈ l.take (k + 1), p y := by
 intro y hy
 rw [List.take_succ_eq_append_getElem hk, List.mem_append, List.mem_singleton] at hy
 rcases hy with hy | rfl
 · exact h y hy
 · exact hx
theorem mayV_bad {l : List Ev} {k : Nat} (h : mayV (l.take k) = false) : mayV l = false := by
 cases e : mayV l with
 | false => rfl
 | true =>
   rw [← List.take_append_drop k l] at e
   rw [mayV_left e] at h
   exact h
theorem mayV_next {l : List Ev} {k : Nat} (hk : k < l.length) : mayV (l.take (k + 1)) = true ↔ mayV (l.take k) = true ∧ okV l[k] = true ∧ ∀ y ∈ l.take k, y.1 ≠ l[k].1 := by
 rw [List.take_succ_eq_append_getElem hk, mayV_snoc]
set_option maxRecDepth 100000 in
set_option maxHeartbeats 4000000 in
theorem ref11_May (l : List Ev) (a : Option Addr) (n c : Nat) (w : World) (hl : CellsAt w a (elsV l)) (hn : n = l.length) (hb : n ≤ 9223372036854775807) (hsz : ∀ e ∈ l, e.1.l.size ≤ 9223372036854775807) :
   Calls Try.prog 89 #[.slice a n c] w fun e w' => e = .returned (.bool (mayV l)) ∧ Below w.heap.size w w' := by
 have HL := Lib.hid hl
 have HSZ := Lib.hid hsz
 clear hl hsz
 have EN := sv_eql
 have F0 : Hid (∀ k (hk : k < l.length), (okV l[k] = false ∨ ∃ y ∈ l.take k, y.1 = l[k].1) → mayV l = false) := Lib.hid (fun k hk h => mayV_bad (k := k + 1) (by
   cases e : mayV (l.take (k + 1)) with
   | false => rfl
   | true =>
     obtain ⟨_, h2, h3⟩ := (mayV_next hk).1 e
     rcases h with h | ⟨y, hy, h⟩
     · rw [h2] at h; cases h
     · exact absurd h (h3 y hy)))
 have F1 : Hid (∀ k (hk : k < l.length), mayV (l.take k) = true → okV l[k] = true → (∀ y ∈ l.take k, y.1 ≠ l[k].1) → mayV (l.take (k + 1)) = true) := Lib.hid (fun k hk h1 h2 h3 => (mayV_next hk).2 ⟨h1, h2, h3⟩)
 have F2 : Hid (mayV (l.take n) = true → mayV l = true) := Lib.hid (fun h => by rw [hn, List.take_length] at h; exact h)
 generalize mayV l = res at *
 have HNN := Lib.hid hn
 clear hn
 go_enter Try.func89, Try.ntmps89
 go_wp2_with fail
 go_loopw [3] (fun i wr => ∃ k : Nat, k ≤ n ∧ i = .int .i64 (k : Int) ∧ Hid (mayV (l.take k) = true) ∧ Hid (Below w.heap.size w wr)) (fun i _ => n - (intOf i).toNat)
 case atStart => exact ⟨0, Nat.zero_le _, rfl, Lib.hid (by rw [List.take_zero]; exact mayV_nil), Lib.hid (Below.refl _ _)⟩
 case round =>
   obtain ⟨i, hi, rfl, HT, HB⟩ := hrel
   by_cases hlt : i < n
   · have hk1 : i < l.length := by have := HNN.out; omega
     have HC := Lib.hid (HL.out.below HB.out rfl)
     obtain ⟨ba, oa, rfl, ca⟩ := els_get HC.out i hk1
     obtain ⟨p0, p1, p2, p3, p4, p5⟩ := ca
     have GB := Lib.hid (F0.out i hk1)
     have GS := Lib.hid (F1.out i hk1 HT.out)
     have HZ : Hid (l[i].1.l.size ≤ 9223372036854775807) := Lib.hid (HSZ.out _ (List.getElem_mem hk1))
     have hki : (i : Int) < (n : Int) := by omega
     have hget : ∀ k (hk : k < i), l[k]'(by omega) ∈ l.take i := fun k hk => by rw [List.mem_take_iff_getElem]; exact ⟨k, by omega, rfl⟩
     have OKX : Hid (okV l[i] = (l[i].1.ok && decide (l[i].2.size ≤ 256))) := Lib.hid rfl
     have HG := Lib.hid hget
     clear hget
     generalize hx : l[i] = x at *
     have HX := Lib.hid hx
     clear hx
     go_wp2_with fail
     refine (ref5_Text x.2 _).mono ?_
     rintro e w1 ⟨rfl, rfl⟩
     by_cases hfit : x.2.size ≤ 256
     · have hd : decide (x.2.size ≤ 256) = true := decide_eq_true hfit
       go_wp2_with fail
       refine (ref6_Stamp x.1 _ HZ.out).mono ?_
       rintro e w2 ⟨rfl, hbb⟩
       have HC2 := Lib.hid (HC.out.below hbb rfl)
       have HB2 := Lib.hid (HB.out.trans (hbb.mono HB.out.size))
       clear p0 p1 p2 p3 p4 p5 hbb HC HB
       cases hok : x.1.ok with
       | false =>
         have hr := Lib.hid (GB.out (.inl (by rw [OKX.out, hok]; rfl)))
         clear hok
         go_wp2_with fail
         go_ret
         rw [hr.out]
         exact ⟨rfl, HB2.out⟩
       | true =>
         have hokx := Lib.hid (show okV x = true by rw [OKX.out, hok, hd]; rfl)
         clear hok OKX hd hfit
         go_wp2_with fail
         go_loopw [4] (fun j wr => ∃ k : Nat, k ≤ i ∧ j = .int .i64 (k : Int) ∧ Hid (∀ y ∈ l.take k, y.1 ≠ x.1) ∧ Hid (CellsAt wr (some ⟨ba, oa, none⟩) (elsV l)) ∧ Hid (Below w.heap.size w wr)) (fun j _ => i - (intOf j).toNat)
         case atStart => exact ⟨0, Nat.zero_le _, rfl, Lib.hid (fun y hy => (by cases hy)), HC2, HB2⟩
         clear HC2 HB2
         case round =>
           obtain ⟨k, hk, rfl, HT2, HC, HB⟩ := hrel
           by_cases hlt2 : k < i
           · obtain ⟨_, _, e1, ca⟩ := els_get HC.out i hk1
             cases e1
             obtain ⟨_, _, e2, cb⟩ := els_get HC.out k (by omega)
             cases e2
             rw [HX.out] at ca
             obtain ⟨p0, p1, p2, p3, p4, p5⟩ := ca
             obtain ⟨q0, q1, q2, q3, q4, q5⟩ := cb
             have hki2 : (k : Int) < (n : Int) := by omega
             have hkl : k < l.length := by omega
             have G1 : Hid (l[k].1 = x.1 → res = false) := Lib.hid (fun h => GB.out (.inr ⟨l[k], HG.out k hlt2, h⟩))
             have G2 : Hid (l[k].1 ≠ x.1 → ∀ y ∈ l.take (k + 1), y.1 ≠ x.1) := Lib.hid (fun h => take_none hkl HT2.out h)
             generalize l[k] = y at *
             by_cases hxy : y.1 = x.1
             · have hr := Lib.hid (G1.out hxy)
               have hd : decide (y.1 = x.1) = true := decide_eq_true hxy
               clear hxy
               go_wp2_with fail
               go_quiet (fail)
               go_wp2_with fail
               go_ret
               rw [hr.out]
               exact ⟨rfl, below_drews HB.out _⟩
             · have H := Lib.hid (G2.out hxy)
               have hd : decide (y.1 = x.1) = false := decide_eq_false hxy
               clear hxy
               go_wp2_with fail
               go_quiet (fail)
               go_wp2_with fail
               go_roundw
               case rel => exact ⟨k + 1, by omega, by go_num, H, Lib.hid (HC.out.below ((Below.refl _ _) |> fun h => below_drews h _) rfl), Lib.hid (below_drews HB.out _)⟩
               case measure => simp [intOf]; omega
           · obtain rfl : k = i := by omega
             have H := Lib.hid (GS.out hokx.out HT2.out)
             go_wp2_with fail
             go_roundw
             case rel => exact ⟨k + 1, by omega, by go_num, H, HB⟩
             case measure => simp [intOf]; omega
     · have hd : decide (x.2.size ≤ 256) = false := decide_eq_false hfit
       have hr := Lib.hid (GB.out (.inl (by rw [OKX.out, hd]; simp)))
       go_wp2_with fail
       go_ret
       rw [hr.out]
       exact ⟨rfl, HB.out⟩
   · obtain rfl : i = n := by omega
     have hr := Lib.hid (F2.out HT.out)
     go_wp2_with fail
     go_ret
     rw [hr.out]
     exact ⟨rfl, HB.out⟩
end Go.Proofs.Ytnpiepimajippaa
namespace Go.Proofs.Ytnpiepimajippaa
open Go.RowKit St
theorem ElCell.below {w w' : World} {b o : Nat} {e : Ev} (h : ElCell w b o e) (hb : Below w.heap.size w w') : ElCell w' b o e := by
 have hl : b < w.heap.size := cell_lt h.c0
 have k : ∀ j, w'.cell? ⟨b, j, none⟩ = w.cell? ⟨b, j, none⟩ := fun j => hb.cell (p := ⟨b, j, none⟩) hl
 exact ⟨by rw [k]; exact h.c0, by rw [k]; exact h.c1, by rw [k]; exact h.c2, by rw [k]; exact h.c3, by rw [k]; exact h.c4, by rw [k]; exact h.c5⟩
end Go.Proofs.Ytnpiepimajippaa
namespace Go.Proofs.Ytnpiepimajippaa
open Go.RowKit St
def txV (l : List ByteArray) : List Value := l.map Value.string
theorem tx_get {w : World} {a : Option Addr} {l : List ByteArray} (h : CellsAt w a (txV l)) (k : Nat) (hk : k < l.length) : ∃ b off, a = some ⟨b, off, none⟩ ∧ w.cell? ⟨b, off + k, none⟩ = some (.string l[k]) := h.get k _ (by simp [txV, hk])
set_option maxRecDepth 100000 in
set_option maxHeartbeats 2000000 in
theorem ref9_SameTexts (l m : List ByteArray) (a b : Option Addr) (n1 n2 c1 c2 : Nat) (w : World) (hl : CellsAt w a (txV l)) (hm : CellsAt w b (txV m)) (hn1 : n1 = l.length) (hn2 : n2 = m.length) (hb : n1 ≤ 9223372036854775807) :
   Calls Try.prog 86 #[.slice a n1 c1, .slice b n2 c2] w fun e w' => e = .returned (.bool (decide (l = m))) ∧ Below w.heap.size w w' := by
 have HL := Lib.hid hl
 have HM := Lib.hid hm
 clear hl hm
 go_enter Try.func86, Try.ntmps86
 by_cases hlen : n1 = n2
 · subst hlen
   have hN : Hid (l.length = m.length) := Lib.hid (by omega)
   have E : Hid (l.take n1 = m.take n1 → decide (l = m) = true) := Lib.hid (fun h => eq_all hN.out (by rw [← hn1]; exact h))
   have F : Hid (∀ k (h1 : k < l.length) (h2 : k < m.length), l[k] ≠ m[k] → decide (l = m) = false) := Lib.hid (fun k h1 h2 h => ne_at h1 h2 h)
   generalize decide (l = m) = res at *
   go_wp2_with fail
   go_loopw [5] (fun i wr => ∃ k : Nat, k ≤ n1 ∧ i = .int .i64 (k : Int) ∧ Hid (l.take k = m.take k) ∧ Hid (Below w.heap.size w wr)) (fun i _ => n1 - (intOf i).toNat)
   case atStart => exact ⟨0, Nat.zero_le _, rfl, Lib.hid rfl, Lib.hid (Below.refl _ _)⟩
   case round =>
     obtain ⟨k, hk, rfl, HT, HB⟩ := hrel
     by_cases hlt : k < n1
     · have hk1 : k < l.length := by omega
       have hk2 : k < m.length := by omega
       obtain ⟨ba, oa, rfl, ca⟩ := tx_get (HL.out.below HB.out rfl) k hk1
       obtain ⟨bb, ob, rfl, cb⟩ := tx_get (HM.out.below HB.out rfl) k hk2
       have G1 : Hid (l[k] ≠ m[k] → res = false) := Lib.hid (F.out k hk1 hk2)
       have G2 : Hid (l[k] = m[k] → l.take (k + 1) = m.take (k + 1)) := Lib.hid (take_eq hk1 hk2 HT.out)
       generalize l[k] = x at *
       generalize m[k] = y at *
       have hki : (k : Int) < (n1 : Int) := by omega
       by_cases hxy : x = y
       · have H := Lib.hid (G2.out hxy)
         have hd : (x.toList == y.toList) = true := by rw [Pm.eq_iff]; simpa using hxy
         clear hxy
         go_wp2_with fail
         go_quiet (fail)
         go_wp2_with fail
         refine ⟨⟨k + 1, by omega, by go_num, H, Lib.hid (below_drews HB.out _)⟩, by simp [intOf]; omega⟩
       · have hr := Lib.hid (G1.out hxy)
         have hd : (x.toList == y.toList) = false := by rw [Pm.eq_iff]; simpa using hxy
         clear hxy
         go_wp2_with fail
         go_quiet (fail)
         go_wp2_with fail
         go_ret
         rw [hr.out]
         exact ⟨rfl, below_drews HB.out _⟩
     · obtain rfl : k = n1 := by omega
       have hr := Lib.hid (E.out HT.out)
       go_wp2_with fail
       go_ret
       rw [hr.out]
       exact ⟨rfl, HB.out⟩
 · have hr : Hid (decide (l = m) = false) := Lib.hid (by rw [decide_eq_false_iff_not]; rintro rfl; omega)
   have hne : ((n1 : Int) == (n2 : Int)) = false := by simp; omega
   have hne' : ¬ (n1 : Int) = (n2 : Int) := by omega
   generalize decide (l = m) = res at *
   go_wp2_with fail
   go_ret
   rw [hr.out]
   exact ⟨rfl, Below.refl _ _⟩
end Go.Proofs.Ytnpiepimajippaa
namespace Go.Proofs.Ytnpiepimajippaa
namespace St
open Pm
theorem left_start (A B : List El) : Left A B A B := ⟨⟨[], rfl, fun x hx => by cases hx⟩, ⟨[], rfl, fun x hx => by cases hx⟩⟩
section
variable {A B a b : List El} {x y : El}
end
theorem elsF_00 (base A B : List El) : elsF base A B [] [] = [] := by rw [elsF]
theorem elsF_0b (base A B b : List El) (y : El) : elsF base A B [] (y :: b) = (if hasS base y.1 then [] else [y]) ++ elsF base A B [] b := by rw [elsF]
theorem elsF_lt (base A B a b : List El) (x y : El) (h : y.1.lt x.1 = true) : elsF base A B (x :: a) (y :: b) = (if hasS base y.1 then [] else [y]) ++ elsF base A B (x :: a) b := by rw [elsF, if_pos h]
theorem elsF_both (base A B a b : List El) (x y : El) (h : y.1.lt x.1 = false) (hb : hasS B x.1 = true) : elsF base A B (x :: a) (y :: b) = [x] ++ elsF base A B a b := by
 rw [elsF, if_neg (by rw [h]; simp), hb]
 simp
theorem elsF_not (base A B a b : List El) (x y : El) (h : y.1.lt x.1 = false) (hb : hasS B x.1 = false) : elsF base A B (x :: a) (y :: b) = (if hasS base x.1 then [] else [x]) ++ elsF base A B a (y :: b) := by
 rw [elsF, if_neg (by rw [h]; simp), hb]
 cases hasS base x.1 <;> simp
theorem elsF_length (base A B : List El) : ∀ (n : Nat) (a b : List El), a.length + b.length ≤ n → (elsF base A B a b).length ≤ a.length + b.length := by
 intro n
 induction n with
 | zero =>
   intro a b h
   obtain rfl : a = [] := List.eq_nil_of_length_eq_zero (by omega)
   obtain rfl : b = [] := List.eq_nil_of_length_eq_zero (by omega)
   rw [elsF_00]; simp
 | succ n ih =>
   intro a b h
   have hi : ∀ (c : Bool) (z : El), (if c = true then [] else [z]).length ≤ 1 := fun c z => by cases c <;> simp
   match a, b, h with
   | [], [], _ => rw [elsF_00]; simp
   | [], y :: b, h =>
     rw [elsF_0b, List.length_append]
     have := ih [] b (by simp at h ⊢; omega)
     have := hi (hasS base y.1) y
     simp at *; omega
   | x :: a, [], h =>
     rw [elsF, List.length_append]
     have := ih a [] (by simp at h ⊢; omega)
     have h2 : (if (hasS B x.1 || !hasS base x.1) = true then [x] else []).length ≤ 1 := by split <;> simp
     simp at *; omega
   | x :: a, y :: b, h =>
     cases e : y.1.lt x.1 with
     | true =>
       rw [elsF_lt _ _ _ _ _ _ _ e, List.length_append]
       have := ih (x :: a) b (by simp at h ⊢; omega)
       have := hi (hasS base y.1) y
       simp at *; omega
     | false =>
       cases e2 : hasS B x.1 with
       | true =>
         rw [elsF_both _ _ _ _ _ _ _ e e2, List.length_append]
         have := ih a b (by simp at h ⊢; omega)
         simp at *; omega
       | false =>
         rw [elsF_not _ _ _ _ _ _ _ e e2, List.length_append]
         have := ih a (y :: b) (by simp at h ⊢; omega)
         have := hi (hasS base x.1) x
         simp at *; omega
end St
end Go.Proofs.Ytnpiepimajippaa
namespace Go.Proofs.Ytnpiepimajippaa
namespace St
open Pm
def putF (L : List Ev) : List (ByteArray × ByteArray) := L.foldl (fun m x => ins (keyB x.1.st) x.2 m) []
theorem putF_snoc (L : List Ev) (x : Ev) : putF (L ++ [x]) = ins (keyB x.1.st) x.2 (putF L) := by unfold putF; rw [List.foldl_append]; rfl
theorem putF_sort {L : List Ev} (h : mayV L = true) : (sortE (L.map toE)).map enc = putF L := by
 rw [(sortE_srt (mayV_E h)).2, List.foldl_map]
 rfl
theorem putF_srt {L : List Ev} (h : mayV L = true) : Srt (putF L) := by
 rw [← putF_sort h]
 exact (sortE_srt (mayV_E h)).1
theorem sortE_mem {l : List El} {x : El} : x ∈ sortE l ↔ x ∈ l := by
 have : ∀ (l o : List El), x ∈ (l.foldl (fun out x => insE x out) o) ↔ x ∈ l ∨ x ∈ o := by
   intro l
   induction l with
   | nil => intro o; simp
   | cons y l ih =>
     intro o
     rw [List.foldl_cons, ih, insE_mem, List.mem_cons]
     constructor
     · rintro (h | h | h)
       · exact .inl (.inr h)
       · exact .inl (.inl h)
       · exact .inr h
     · rintro ((h | h) | h)
       · exact .inr (.inl h)
       · exact .inl h
       · exact .inr (.inr h)
 have := this l []
 unfold sortE
 simpa using this
theorem key_in {L : List Ev} (h : mayV L = true) {x : Ev} (hx : x.1.ok = true) : (∃ p ∈ putF L, p.1 = keyB x.1.st) ↔ ∃ y ∈ L, y.1 = x.1 := by
 have ho := (mayV_iff.1 h).1
 rw [← putF_sort h]
 constructor
 · rintro ⟨p, hp, e⟩
   obtain ⟨z, hz, rfl⟩ := List.mem_map.1 hp
   obtain ⟨y, hy, rfl⟩ := List.mem_map.1 (sortE_mem.1 hz)
   have oy := (okV_iff.1 (ho y hy)).1
   exact ⟨y, hy, st_inj oy hx (keyB_inj (Sv.ok_st oy).1 (Sv.ok_st hx).1 e)⟩
 · rintro ⟨y, hy, e⟩
   exact ⟨enc (toE y), List.mem_map.2 ⟨_, sortE_mem.2 (List.mem_map.2 ⟨y, hy, rfl⟩), rfl⟩, by show keyB y.1.st = _; rw [e]⟩
end St
end Go.Proofs.Ytnpiepimajippaa
namespace Go.Proofs.Ytnpiepimajippaa
open Go.RowKit Pm
def AtS (w : World) : Tr ByteArray → Prop
 | .nil => True
 | .node b l k v r => w.heap[b]? = some (.cells #[.pointer (pa l), .pointer (pa r), .string k, .string v, .int .i64 (ht (.node b l k v r) : Int), .int .i64 (sz (.node b l k v r) : Int)] 110 (0, 0)) ∧ AtS w l ∧ AtS w r
theorem AtS.keep {w w' : World} {t : Tr ByteArray} (h : AtS w t) (hk : ∀ b o, w.heap[b]? = some o → b ∈ blocks t → w'.heap[b]? = some o) : AtS w' t := by
 induction t with
 | nil => trivial
 | node b l k v r ih1 ih2 =>
   obtain ⟨h1, h2, h3⟩ := h
   exact ⟨hk _ _ h1 (by simp [blocks]), ih1 h2 (fun b o hb hm => hk b o hb (by simp [blocks, hm])), ih2 h3 (fun b o hb hm => hk b o hb (by simp [blocks, hm]))⟩
theorem AtS.below {w w' : World} {t : Tr ByteArray} {B : Nat} (h : AtS w t) (hb : Below B w w') (hB : B = w.heap.size) : AtS w' t :=
 h.keep fun b o ho _ => (hb.block b (by rw [hB]; exact (Array.getElem?_eq_some_iff.1 ho).1)).trans ho
theorem AtS.lt {w : World} {t : Tr ByteArray} (h : AtS w t) : ∀ b ∈ blocks t, b < w.heap.size := by
 induction t with
 | nil => intro b hb; simp [blocks] at hb
 | node b l k v r ih1 ih2 =>
   obtain ⟨h1, h2, h3⟩ := h
   intro b' hb
   simp only [blocks, List.mem_append, List.mem_cons] at hb
   rcases hb with hb | rfl | hb
   · exact ih1 h2 b' hb
   · exact (Array.getElem?_eq_some_iff.1 h1).1
   · exact ih2 h3 b' hb
theorem AtS.cells {w : World} {b : Nat} {l r : Tr ByteArray} {k : ByteArray} {v : ByteArray} (h : AtS w (.node b l k v r)) :
   w.cell? ⟨b, 0, none⟩ = some (.pointer (pa l)) ∧ w.cell? ⟨b, 1, none⟩ = some (.pointer (pa r)) ∧ w.cell? ⟨b, 2, none⟩ = some (.string k) ∧ w.cell? ⟨b, 3, none⟩ = some (.string v) ∧
   w.cell? ⟨b, 4, none⟩ = some (.int .i64 (ht (.node b l k v r) : Int)) ∧ w.cell? ⟨b, 5, none⟩ = some (.int .i64 (sz (.node b l k v r) : Int)) :=
 ⟨cell_of_row _ _ _ _ _ _ h.1, cell_of_row _ _ _ _ _ _ h.1, cell_of_row _ _ _ _ _ _ h.1, cell_of_row _ _ _ _ _ _ h.1, cell_of_row _ _ _ _ _ _ h.1, cell_of_row _ _ _ _ _ _ h.1⟩
theorem AtS.cellsP {w : World} {b : Nat} {l r : Tr ByteArray} {k : ByteArray} {v : ByteArray} (pl pr : Option Addr) (h : AtS w (.node b l k v r)) (e1 : pa l = pl) (e2 : pa r = pr) :
   w.cell? ⟨b, 0, none⟩ = some (.pointer pl) ∧ w.cell? ⟨b, 1, none⟩ = some (.pointer pr) ∧ w.cell? ⟨b, 2, none⟩ = some (.string k) ∧ w.cell? ⟨b, 3, none⟩ = some (.string v) := by
 subst e1 e2
 obtain ⟨x0, x1, x2, x3, _⟩ := h.cells
 exact ⟨x0, x1, x2, x3⟩
theorem AtS.other {w : World} {t : Tr ByteArray} (h : AtS w t) {X : Nat} {cs : Array Value} {T : TypeId} {fr : Nat × Nat} (hx : w.heap[X]? = some (.cells cs T fr)) (hT : T ≠ 110) : X ∉ blocks t := by
 induction t with
 | nil => simp [blocks]
 | node b l k v r ih1 ih2 =>
   obtain ⟨h1, h2, h3⟩ := h
   simp only [blocks, List.mem_append, List.mem_cons]
   rintro (hm | rfl | hm)
   · exact ih1 h2 hm
   · rw [hx] at h1; cases h1; exact hT rfl
   · exact ih2 h3 hm
theorem AtS.setBox {w : World} {t : Tr ByteArray} (h : AtS w t) {X : Nat} {cs : Array Value} {T : TypeId} {fr : Nat × Nat} (hx : w.heap[X]? = some (.cells cs T fr)) (hT : T ≠ 110) (i : Nat) (u : Value) : AtS (w.setCell ⟨X, i, none⟩ u) t :=
 h.keep fun b o ho hm => (Below.heap_setCell _ _ _ _ (by intro e; have e2 : b = X := e; subst e2; exact h.other hx hT hm)).trans ho
def keyOr : Tr ByteArray → ByteArray
 | .nil => ⟨#[]⟩
 | .node _ _ k _ _ => k
def valOr : Tr ByteArray → ByteArray
 | .nil => (⟨#[]⟩ : ByteArray)
 | .node _ _ _ v _ => v
def leftOr : Tr ByteArray → Tr ByteArray
 | .nil => .nil
 | .node _ l _ _ _ => l
def rightOr : Tr ByteArray → Tr ByteArray
 | .nil => .nil
 | .node _ _ _ _ r => r
theorem pm_HeightS (t : Tr ByteArray) (w : World) (h : AtS w t) : Calls Try.prog 151 #[.pointer (pa t)] w fun e w' => e = .returned (.int .i64 (ht t : Int)) ∧ w = w' := by
 cases t with
 | nil =>
   show Calls Try.prog 151 #[.pointer none] w fun e w' => e = .returned (.int .i64 0) ∧ w = w'
   go_enter Try.func151, Try.ntmps151
   go_wp2_with fail
   go_ret
   exact ⟨rfl, rfl⟩
 | node b l k v r =>
   show Calls Try.prog 151 #[.pointer (some ⟨b, 0, none⟩)] w fun e w' => e = .returned (.int .i64 (ht (.node b l k v r) : Int)) ∧ w = w'
   obtain ⟨c0, c1, c2, c3, c4, c5⟩ := h.cells
   clear h
   go_enter Try.func151, Try.ntmps151
   go_wp2_with fail
   go_ret
   exact ⟨rfl, rfl⟩
theorem pm_LenS (t : Tr ByteArray) (w : World) (h : AtS w t) : Calls Try.prog 90 #[.pointer (pa t)] w fun e w' => e = .returned (.int .i64 (sz t : Int)) ∧ w = w' := by
 cases t with
 | nil =>
   show Calls Try.prog 90 #[.pointer none] w fun e w' => e = .returned (.int .i64 0) ∧ w = w'
   go_enter Try.func90, Try.ntmps90
   go_wp2_with fail
   go_ret
   exact ⟨rfl, rfl⟩
 | node b l k v r =>
   show Calls Try.prog 90 #[.pointer (some ⟨b, 0, none⟩)] w fun e w' => e = .returned (.int .i64 (sz (.node b l k v r) : Int)) ∧ w = w'
   obtain ⟨c0, c1, c2, c3, c4, c5⟩ := h.cells
   clear h
   go_enter Try.func90, Try.ntmps90
   go_wp2_with fail
   go_ret
   exact ⟨rfl, rfl⟩
theorem pm_KeyS (t : Tr ByteArray) (w : World) (h : AtS w t) : Calls Try.prog 142 #[.pointer (pa t)] w fun e w' => e = .returned (.string (keyOr t)) ∧ w = w' := by
 cases t with
 | nil =>
   show Calls Try.prog 142 #[.pointer none] w fun e w' => e = .returned (.string ⟨#[]⟩) ∧ w = w'
   go_enter Try.func142, Try.ntmps142
   go_wp2_with fail
   go_ret
   exact ⟨rfl, rfl⟩
 | node b l k v r =>
   show Calls Try.prog 142 #[.pointer (some ⟨b, 0, none⟩)] w fun e w' => e = .returned (.string k) ∧ w = w'
   obtain ⟨c0, c1, c2, c3, c4, c5⟩ := h.cells
   clear h
   go_enter Try.func142, Try.ntmps142
   go_wp2_with fail
   go_ret
   exact ⟨rfl, rfl⟩
theorem pm_ValueS (t : Tr ByteArray) (w : World) (h : AtS w t) : Calls Try.prog 106 #[.pointer (pa t)] w fun e w' => e = .returned (.string (valOr t)) ∧ w = w' := by
 cases t with
 | nil =>
   show Calls Try.prog 106 #[.pointer none] w fun e w' => e = .returned (.string (⟨#[]⟩ : ByteArray)) ∧ w = w'
   go_enter Try.func106, Try.ntmps106
   go_wp2_with fail
   go_ret
   exact ⟨rfl, rfl⟩
 | node b l k v r =>
   show Calls Try.prog 106 #[.pointer (some ⟨b, 0, none⟩)] w fun e w' => e = .returned (.string v) ∧ w = w'
   obtain ⟨c0, c1, c2, c3, c4, c5⟩ := h.cells
   clear h
   go_enter Try.func106, Try.ntmps106
   go_wp2_with fail
   go_ret
   exact ⟨rfl, rfl⟩
theorem pm_LeftS (t : Tr ByteArray) (w : World) (h : AtS w t) : Calls Try.prog 164 #[.pointer (pa t)] w fun e w' => e = .returned (.pointer (pa (leftOr t))) ∧ w = w' := by
 cases t with
 | nil =>
   show Calls Try.prog 164 #[.pointer none] w fun e w' => e = .returned (.pointer none) ∧ w = w'
   go_enter Try.func164, Try.ntmps164
   go_wp2_with fail
   go_ret
   exact ⟨rfl, rfl⟩
 | node b l k v r =>
   show Calls Try.prog 164 #[.pointer (some ⟨b, 0, none⟩)] w fun e w' => e = .returned (.pointer (pa l)) ∧ w = w'
   obtain ⟨c0, c1, c2, c3, c4, c5⟩ := h.cells
   clear h
   go_enter Try.func164, Try.ntmps164
   go_wp2_with fail
   go_ret
   exact ⟨rfl, rfl⟩
theorem pm_RightS (t : Tr ByteArray) (w : World) (h : AtS w t) : Calls Try.prog 122 #[.pointer (pa t)] w fun e w' => e = .returned (.pointer (pa (rightOr t))) ∧ w = w' := by
 cases t with
 | nil =>
   show Calls Try.prog 122 #[.pointer none] w fun e w' => e = .returned (.pointer none) ∧ w = w'
   go_enter Try.func122, Try.ntmps122
   go_wp2_with fail
   go_ret
   exact ⟨rfl, rfl⟩
 | node b l k v r =>
   show Calls Try.prog 122 #[.pointer (some ⟨b, 0, none⟩)] w fun e w' => e = .returned (.pointer (pa r)) ∧ w = w'
   obtain ⟨c0, c1, c2, c3, c4, c5⟩ := h.cells
   clear h
   go_enter Try.func122, Try.ntmps122
   go_wp2_with fail
   go_ret
   exact ⟨rfl, rfl⟩
theorem pm_nodeS (N : Nat) (l r : Tr ByteArray) (k : ByteArray) (v : ByteArray) (w : World) (hN : N ≤ w.heap.size) (hl : AtS w l) (hr : AtS w r) (hs : sz l + sz r + 1 ≤ 1099511627776) :
   Calls Try.prog 130 #[.pointer (pa l), .string k, .string v, .pointer (pa r)] w fun e w' =>
     ∃ b, N ≤ b ∧ e = .returned (.pointer (pa (Tr.node b l k v r))) ∧ AtS w' (.node b l k v r) ∧ Below w.heap.size w w' := by
 have hh1 := ht_le l
 have hh2 := ht_le r
 have HL := Lib.hid hl
 have HR := Lib.hid hr
 clear hl hr
 obtain ⟨n1, hn1⟩ : ∃ n, ht l = n := ⟨_, rfl⟩
 obtain ⟨n2, hn2⟩ : ∃ n, ht r = n := ⟨_, rfl⟩
 obtain ⟨m1, hm1⟩ : ∃ n, sz l = n := ⟨_, rfl⟩
 obtain ⟨m2, hm2⟩ : ∃ n, sz r = n := ⟨_, rfl⟩
 have HN : Hid (ht l = n1 ∧ ht r = n2 ∧ sz l = m1 ∧ sz r = m2) := Lib.hid ⟨hn1, hn2, hm1, hm2⟩
 rw [hn1, hm1] at hh1
 rw [hn2, hm2] at hh2
 rw [hm1, hm2] at hs
 clear hn1 hn2 hm1 hm2
 obtain ⟨mx, hmx⟩ : ∃ mx : Nat, mx = max n1 n2 := ⟨_, rfl⟩
 have hmi : (max (n1 : Int) (n2 : Int)) = (mx : Int) := by omega
 have hmb : mx ≤ 1099511627776 := by omega
 have HM := Lib.hid hmx
 clear hmx
 go_enter Try.func130, Try.ntmps130
 go_wp2_with fail
 refine (pm_HeightS l w HL.out).mono ?_
 rintro e w' ⟨rfl, rfl⟩
 rw [HN.out.1]
 go_wp2_with fail
 refine (pm_HeightS r w HR.out).mono ?_
 rintro e w' ⟨rfl, rfl⟩
 rw [HN.out.2.1]
 go_wp2_with fail
 refine (pm_LenS l w HL.out).mono ?_
 rintro e w' ⟨rfl, rfl⟩
 rw [HN.out.2.2.1]
 go_wp2_with fail
 refine (pm_LenS r w HR.out).mono ?_
 rintro e w' ⟨rfl, rfl⟩
 rw [HN.out.2.2.2]
 go_wp2_with fail
 go_ret
 refine ⟨w.heap.size, hN, rfl, ⟨?_, HL.out.below (below_new w _) rfl, HR.out.below (below_new w _) rfl⟩, below_new w _⟩
 rw [heap_alloc_new]
 simp only [ht, sz, HN.out.1, HN.out.2.1, HN.out.2.2.1, HN.out.2.2.2, ← HM.out]
 rfl
end Go.Proofs.Ytnpiepimajippaa
