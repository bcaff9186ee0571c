/- Words, contracts and walks that the proof stands on (KnZ KoA RelO RelP KoB KnL KnQ). -/
import Derived.Shelf.SlSortCmp.NoneTotal
import Derived.Shelf.SlSortCmp.WholeK
import Derived.Test.YtjlliohjeiclaaaDoorKB2
import Derived.Test.YtjlliohjeiclaaaDoorKB5
import Derived.Test.YtjlliohjeiclaaaDoorKB6
import Derived.Test.YtjlliohjeiclaaaDoorKB7
namespace Go.Proofs.YtjlliohjeiclaaaDoor
namespace Kn
open St Pm
structure Opv where
 p : List ByteArray
 k : Int
 x : ByteArray
 d : Int
 m : Int
 t : ByteArray
def Opv.ce (o : Opv) : Int := checkK o.p o.k o.x o.d o.m o.t
structure Vl where
 k : Int
 m : Int
 l : List Ev
def Vl.ok (v : Vl) : Bool := valG v.k v.m v.l
def stpG (g : Int) (lab : ByteArray) : Sv := ⟨g, 0, lab, 1, 0⟩
def goG (v : Vl) (s : Sv) (o : Opv) : Int × Int × List Ev × Int := applyG v.k v.m v.l s o.ce o.k o.d o.m o.t
def stpVl (lab : ByteArray) (g : Int) (v : Vl) (o : Opv) : Vl := if (goG v (stpG g lab) o).2.2.2 = 0 then ⟨(goG v (stpG g lab) o).1, (goG v (stpG g lab) o).2.1, (goG v (stpG g lab) o).2.2.1⟩ else v
def doneG (lab : ByteArray) (g : Int) (l : List Opv) (v : Vl) : Nat → Vl
 | 0 => v
 | i + 1 => match l[i]? with
  | none => doneG lab g l v i
  | some o => stpVl lab (g + i) (doneG lab g l v i) o
theorem go_zero {v : Vl} {s : Sv} {o : Opv} (h : (goG v s o).2.2.2 = 0) : goG v s o = (v.k, IntKind.i64.wrap (v.m + o.m), newG o.d o.t s v.l, 0) ∧ v.ok = true ∧ s.ok = true ∧ lastGe v.l s = false ∧ o.ce = 0 ∧ o.k = v.k := by
 unfold goG applyG at *
 split at h
 · cases h
 · rename_i h1
   split at h
   · cases h
   · rename_i h2
     rw [if_neg h1, if_neg h2]
     have a1 : valG v.k v.m v.l = true := by
      cases h3 : valG v.k v.m v.l with
      | true => rfl
      | false => exact absurd (.inr (.inl h3)) h1
     have a2 : s.ok = true := by
      cases h3 : s.ok with
      | true => rfl
      | false => exact absurd (.inr (.inr (.inl h3))) h1
     have a3 : lastGe v.l s = false := by
      cases h3 : lastGe v.l s with
      | false => rfl
      | true => exact absurd (.inr (.inr (.inr h3))) h1
     have a4 : o.ce = 0 := by
      by_cases h3 : o.ce = 0
      · exact h3
      · exact absurd (.inl h3) h2
     have a5 : o.k = v.k := by
      by_cases h3 : o.k = v.k
      · exact h3
      · exact absurd (.inr h3) h2
     exact ⟨rfl, a1, a2, a3, a4, a5⟩
theorem ce_zero {o : Opv} (h : o.ce = 0) : o.t.size ≤ 256 ∧ kindK o.d = o.k ∧ (o.d ≠ 1 → o.m = 0) := by
 unfold Opv.ce checkK at h
 split at h
 · rename_i h1
   split at h
   · rename_i h2
     split at h
     · rename_i h3
       refine ⟨?_, h3, fun hd => ?_⟩
       · unfold okK at h1
         simp only [Bool.and_eq_true, decide_eq_true_eq] at h1
         exact h1.2.2.2.2
       · unfold bareK at h2
         rw [if_neg hd] at h2
         simp only [Bool.and_eq_true, decide_eq_true_eq] at h2
         exact h2.1
     · cases h
   · cases h
 · cases h
theorem base_sub (d : Int) (t : ByteArray) (l : List Ev) : List.Sublist (baseG d t l) l := by
 unfold baseG
 split
 · exact List.filter_sublist
 · split
   · exact List.nil_sublist _
   · split
     · exact List.drop_sublist _ _
     · exact List.Sublist.refl _
theorem new_mem {d : Int} {t : ByteArray} {s : Sv} {l : List Ev} {x : Ev} (h : x ∈ newG d t s l) : x ∈ l ∨ x = (s, t) := by
 unfold newG at h
 rcases List.mem_append.1 h with h | h
 · exact .inl ((base_sub d t l).subset h)
 · split at h
   · exact .inr (by simpa using h)
   · cases h
theorem new_len (d : Int) (t : ByteArray) (s : Sv) (l : List Ev) : (newG d t s l).length ≤ l.length + 1 := by
 unfold newG
 rw [List.length_append]
 have h1 := (base_sub d t l).length_le
 split
 · simpa using h1
 · simp; omega
theorem last_lt {l : List Ev} (h : Rise l) {s : Sv} (hs : lastGe l s = false) : ∀ x ∈ l, svC x.1 s < 0 := by
 intro x hx
 rcases List.eq_nil_or_concat l with rfl | ⟨L, y, rfl⟩
 · cases hx
 · have h1 : svC y.1 s < 0 := by
    unfold lastGe at hs
    simp at hs
    exact hs
   rw [List.concat_eq_append] at *
   rcases List.mem_append.1 hx with hx | hx
   · have h2 := (List.pairwise_append.1 h).2.2 x hx y (by simp)
     exact sv_lt_trans h2 h1
   · obtain rfl : x = y := by simpa using hx
     exact h1
theorem new_right {d : Int} {t : ByteArray} {s : Sv} {l : List Ev} (h : Right l) (hs : s.ok = true) (ht : t.size ≤ 256) (hl : lastGe l s = false) : Right (newG d t s l) := by
 refine ⟨fun x hx => ?_, ?_⟩
 · rcases new_mem hx with hx | rfl
   · exact h.1 x hx
   · exact okV_iff.2 ⟨hs, ht⟩
 · have hlt := last_lt h.2 hl
   unfold newG Rise
   rw [List.pairwise_append]
   refine ⟨List.Pairwise.sublist (base_sub d t l) h.2, ?_, fun a ha b hb => ?_⟩
   · split
     · exact List.pairwise_singleton _ _
     · exact List.Pairwise.nil
   · split at hb
     · obtain rfl : b = (s, t) := by simpa using hb
       exact hlt a ((base_sub d t l).subset ha)
     · cases hb
theorem val_iff {k m : Int} {l : List Ev} : valG k m l = true ↔ thingG k = true ∧ (k = 1 → l = []) ∧ (k ≠ 1 → m = 0 ∧ Right l) := by
 unfold valG
 rw [Bool.and_eq_true]
 by_cases h : k = 1
 · rw [if_pos h]
   constructor
   · rintro ⟨h1, h2⟩
     exact ⟨h1, fun _ => List.length_eq_zero_iff.1 (of_decide_eq_true h2), fun h3 => absurd h h3⟩
   · rintro ⟨h1, h2, _⟩
     exact ⟨h1, by rw [h2 h]; rfl⟩
 · rw [if_neg h, Bool.and_eq_true, right_iff, decide_eq_true_eq]
   constructor
   · rintro ⟨h1, h2, h3⟩
     exact ⟨h1, fun h4 => absurd h4 h, fun _ => ⟨h2, h3⟩⟩
   · rintro ⟨h1, _, h2⟩
     exact ⟨h1, h2 h⟩
theorem wrap0 : IntKind.i64.wrap 0 = 0 := by decide
theorem wrap_w (a : Int) : IntKind.i64.wrap (IntKind.i64.wrap a) = IntKind.i64.wrap a := by rw [IntKind.wrap_i64, IntKind.wrap_i64]; omega
theorem num_id {a c : Int} (h : IntKind.i64.wrap a = a) : IntKind.i64.wrap (IntKind.i64.wrap (a + c) - c) = a := by
 conv => rhs; rw [← h]
 rw [IntKind.wrap_i64, IntKind.wrap_i64, IntKind.wrap_i64]; omega
theorem num_id2 {a c : Int} (h : IntKind.i64.wrap a = a) : IntKind.i64.wrap (IntKind.i64.wrap (c + a) - c) = a := by rw [Int.add_comm]; exact num_id h
theorem num_sum (a b c : Int) : IntKind.i64.wrap (IntKind.i64.wrap (IntKind.i64.wrap (a + b) - c) - c) = IntKind.i64.wrap (IntKind.i64.wrap (IntKind.i64.wrap (a - c) + b) - c) := by
 simp only [IntKind.wrap_i64]; omega
theorem step_ok {lab : ByteArray} {g : Int} {v : Vl} {o : Opv} (hv : v.ok = true) (hm : IntKind.i64.wrap v.m = v.m) : (stpVl lab g v o).ok = true ∧ (stpVl lab g v o).k = v.k ∧ IntKind.i64.wrap (stpVl lab g v o).m = (stpVl lab g v o).m ∧ (stpVl lab g v o).l.length ≤ v.l.length + 1 ∧ (∀ x ∈ (stpVl lab g v o).l, x ∈ v.l ∨ x.1 = stpG g lab) := by
 unfold stpVl
 split
 · rename_i h
   obtain ⟨e, h1, h2, h3, h4, h5⟩ := go_zero h
   rw [e]
   obtain ⟨c1, c2, c3⟩ := ce_zero h4
   refine ⟨?_, rfl, wrap_w _, new_len _ _ _ _, fun x hx => ?_⟩
   · obtain ⟨t1, t2, t3⟩ := val_iff.1 hv
     refine val_iff.2 ⟨t1, fun hk => ?_, fun hk => ?_⟩
     · have hk' : v.k = 1 := hk
       have hd : kindK o.d = 1 := by rw [c2, h5, hk']
       have hd1 : o.d = 1 := by
        rcases of_cases o.d with (h | h | h | h | h | h | h) | h
        · exact h
        all_goals (first | (rw [h] at hd; exact absurd hd (by decide)) | (rw [kindK_none h] at hd; exact absurd hd (by decide)))
       show newG o.d o.t (stpG g lab) v.l = []
       rw [t2 hk', hd1]
       rfl
     · have hk' : v.k ≠ 1 := hk
       obtain ⟨m0, r0⟩ := t3 hk'
       have hd1 : o.d ≠ 1 := by
        intro hd
        rw [hd] at c2
        exact hk' (by rw [← h5, ← c2]; rfl)
       refine ⟨?_, new_right r0 h2 c1 h3⟩
       show IntKind.i64.wrap (v.m + o.m) = 0
       rw [m0, c3 hd1]
       exact wrap0
   · rcases new_mem hx with hx | rfl
     · exact .inl hx
     · exact .inr rfl
 · exact ⟨hv, rfl, hm, Nat.le_succ _, fun x hx => .inl hx⟩
theorem done_ok (lab : ByteArray) (g : Int) (l : List Opv) {v : Vl} (hv : v.ok = true) (hm : IntKind.i64.wrap v.m = v.m) : ∀ i, (doneG lab g l v i).ok = true ∧ (doneG lab g l v i).k = v.k ∧ IntKind.i64.wrap (doneG lab g l v i).m = (doneG lab g l v i).m ∧ (doneG lab g l v i).l.length ≤ v.l.length + i ∧ (∀ x ∈ (doneG lab g l v i).l, x ∈ v.l ∨ x.1.l = lab)
 | 0 => ⟨hv, rfl, hm, Nat.le_refl _, fun x hx => .inl hx⟩
 | i + 1 => by
  obtain ⟨h1, h2, h3, h4, h5⟩ := done_ok lab g l hv hm i
  unfold doneG
  split
  · exact ⟨h1, h2, h3, by omega, h5⟩
  · rename_i o ho
    obtain ⟨k1, k2, k3, k4, k5⟩ := step_ok (lab := lab) (g := g + i) (o := o) h1 h3
    refine ⟨k1, k2.trans h2, k3, by omega, fun x hx => ?_⟩
    rcases k5 x hx with hx | hx
    · exact h5 x hx
    · exact .inr (by rw [hx]; rfl)
theorem vl_right {k m : Int} {l : List Ev} (h : valG k m l = true) : Right l := by
 obtain ⟨_, h1, h2⟩ := val_iff.1 h
 by_cases hk : k = 1
 · rw [h1 hk]
   exact ⟨fun x hx => (by cases hx), List.Pairwise.nil⟩
 · exact (h2 hk).2
def Agree (A B : List Ev) : Prop := ∀ x ∈ A, ∀ y ∈ B, x.1 = y.1 → x = y
theorem Agree.symm {A B : List Ev} (h : Agree A B) : Agree B A := fun x hx y hy e => (h y hy x hx e.symm).symm
theorem rise_agree {l : List Ev} (h : Rise l) : Agree l l := by
 intro x hx y hy e
 obtain ⟨i, hi, rfl⟩ := List.getElem_of_mem hx
 obtain ⟨j, hj, rfl⟩ := List.getElem_of_mem hy
 have hp := List.pairwise_iff_getElem.1 h
 rcases Nat.lt_trichotomy i j with hij | rfl | hij
 · have := hp i j hi hj hij
   rw [e] at this
   exact absurd this (sv_irrefl _)
 · rfl
 · have := hp j i hj hi hij
   rw [e] at this
   exact absurd this (sv_irrefl _)
theorem has_iff {l : List Ev} {s : Sv} : hasG l s = true ↔ ∃ y ∈ l, y.1 = s := by
 unfold hasG
 rw [List.any_eq_true]
 constructor
 · rintro ⟨y, h1, h2⟩; exact ⟨y, h1, of_decide_eq_true h2⟩
 · rintro ⟨y, h1, h2⟩; exact ⟨y, h1, by simp [h2]⟩
theorem has_agree {A B : List Ev} (h : Agree A B) {x : Ev} (hx : x ∈ A) : hasG B x.1 = true ↔ x ∈ B := by
 rw [has_iff]
 constructor
 · rintro ⟨y, h1, h2⟩
   rw [h x hx y h1 h2.symm]
   exact h1
 · exact fun hb => ⟨x, hb, rfl⟩
theorem pick_iff {base A B : List Ev} (h : Agree A B) (x : Ev) : x ∈ pickG base A B ↔ (x ∈ A ∧ x ∈ B) ∨ ((x ∈ A ∨ x ∈ B) ∧ hasG base x.1 = false) := by
 unfold pickG
 rw [List.mem_append, List.mem_filter, List.mem_filter, Bool.or_eq_true, Bool.and_eq_true, Bool.not_eq_true', Bool.not_eq_true']
 constructor
 · rintro (⟨h1, h2 | h2⟩ | ⟨h1, h2, h3⟩)
   · exact .inl ⟨h1, (has_agree h h1).1 h2⟩
   · exact .inr ⟨.inl h1, h2⟩
   · exact .inr ⟨.inr h1, h3⟩
 · rintro (⟨h1, h2⟩ | ⟨h1 | h1, h2⟩)
   · exact .inl ⟨h1, .inl ((has_agree h h1).2 h2)⟩
   · exact .inl ⟨h1, .inr h2⟩
   · cases h3 : hasG A x.1 with
     | true => exact .inl ⟨(has_agree h.symm h1).1 h3, .inr h2⟩
     | false => exact .inr ⟨h1, rfl, h2⟩
theorem three_iff {base A B : List Ev} (hb : Right base) (hA : Right A) (hB : Right B) (h : Agree A B) (x : Ev) : x ∈ threeG base A B ↔ (x ∈ A ∧ x ∈ B) ∨ ((x ∈ A ∨ x ∈ B) ∧ hasG base x.1 = false) := by
 rw [(three_mem hb hA hB).2 x, pick_iff h]
theorem three_comm {base A B : List Ev} (hb : Right base) (hA : Right A) (hB : Right B) (h : Agree A B) : threeG base A B = threeG base B A := by
 refine rise_ext _ _ (three_right hb hA hB).2 (three_right hb hB hA).2 fun x => ?_
 rw [three_iff hb hA hB h, three_iff hb hB hA h.symm, and_comm (a := x ∈ A), or_comm (a := x ∈ A)]
theorem three_id {base A : List Ev} (hb : Right base) (hA : Right A) (h : Agree A base) : threeG base A base = A := by
 refine rise_ext _ _ (three_right hb hA hb).2 hA.2 fun x => ?_
 rw [three_iff hb hA hb h]
 constructor
 · rintro (⟨h1, _⟩ | ⟨h1 | h1, h2⟩)
   · exact h1
   · exact h1
   · rw [has_mem h1] at h2; cases h2
 · intro h1
   cases h2 : hasG base x.1 with
   | true => exact .inl ⟨h1, (has_agree h h1).1 h2⟩
   | false => exact .inr ⟨.inl h1, rfl⟩
def memG (l : List Ev) (x : Ev) : Bool := l.any fun e => decide (e = x)
theorem memG_iff {l : List Ev} {x : Ev} : memG l x = true ↔ x ∈ l := by
 unfold memG
 rw [List.any_eq_true]
 constructor
 · rintro ⟨y, h1, h2⟩
   rw [← of_decide_eq_true h2]
   exact h1
 · exact fun h => ⟨x, h, by simp⟩
def baseS : ByteArray := ⟨#[98, 97, 115, 101]⟩
def aS : ByteArray := ⟨#[97]⟩
def bS : ByteArray := ⟨#[98]⟩
theorem grown_agree {base A : List Ev} {lab : ByteArray} (hb : Rise base) (hbl : ∀ x ∈ base, x.1.l = baseS) (hA : ∀ x ∈ A, x ∈ base ∨ x.1.l = lab) (hl : lab ≠ baseS) : Agree A base := by
 intro x hx y hy e
 rcases hA x hx with h | h
 · exact rise_agree hb x h y hy e
 · exact absurd ((by rw [e] : x.1.l = y.1.l).symm.trans h |>.symm.trans (hbl y hy)) hl
theorem both_agree {base A B : List Ev} {la lb : ByteArray} (hb : Rise base) (hbl : ∀ x ∈ base, x.1.l = baseS) (hA : ∀ x ∈ A, x ∈ base ∨ x.1.l = la) (hB : ∀ x ∈ B, x ∈ base ∨ x.1.l = lb) (h1 : la ≠ baseS) (h2 : lb ≠ baseS) (h3 : la ≠ lb) : Agree A B := by
 intro x hx y hy e
 have hl : x.1.l = y.1.l := by rw [e]
 rcases hA x hx with h | h
 · exact (grown_agree hb hbl hB h2 y hy x h e.symm).symm
 · rcases hB y hy with k | k
   · exact absurd (h.symm.trans (hl.trans (hbl y k))) h1
   · exact absurd (h.symm.trans (hl.trans k)) h3
theorem new_bare {base A : List Ev} {lab : ByteArray} (hbl : ∀ x ∈ base, x.1.l = baseS) (hA : ∀ x ∈ A, x ∈ base ∨ x.1.l = lab) (hl : lab ≠ baseS) {x : Ev} (hx : x ∈ A) (hn : x ∉ base) : hasG base x.1 = false := by
 cases h : hasG base x.1 with
 | false => rfl
 | true =>
  obtain ⟨y, h1, h2⟩ := has_iff.1 h
  rcases hA x hx with k | k
  · exact absurd k hn
  · exact absurd (k.symm.trans ((by rw [h2] : y.1.l = x.1.l).symm.trans (hbl y h1))) hl
structure Tog (v a b : Vl) : Prop where
 ok : v.ok = true
 oka : a.ok = true
 okb : b.ok = true
 ka : a.k = v.k
 kb : b.k = v.k
 wa : IntKind.i64.wrap a.m = a.m
 wb : IntKind.i64.wrap b.m = b.m
 comm : threeG v.l b.l a.l = threeG v.l a.l b.l
 ida : threeG v.l a.l v.l = a.l
 idb : threeG v.l v.l b.l = b.l
 okm : valG v.k (IntKind.i64.wrap (IntKind.i64.wrap (a.m + b.m) - v.m)) (threeG v.l a.l b.l) = true
 keep : ∀ y ∈ threeG v.l a.l b.l, y ∈ v.l → y ∈ a.l ∧ y ∈ b.l
 new : ∀ y ∈ a.l, y ∉ v.l → y ∈ threeG v.l a.l b.l
theorem tog_mk {k : Int} (hk : thingG k = true) (X A B : List Opv) (i j q : Nat) (g1 g2 g3 : Int) : Tog (doneG baseS g1 X ⟨k, 0, []⟩ i) (doneG aS g2 A (doneG baseS g1 X ⟨k, 0, []⟩ i) j) (doneG bS g3 B (doneG baseS g1 X ⟨k, 0, []⟩ i) q) := by
 have h0 : (⟨k, 0, []⟩ : Vl).ok = true := val_iff.2 ⟨hk, fun _ => rfl, fun _ => ⟨rfl, fun x hx => (by cases hx), List.Pairwise.nil⟩⟩
 obtain ⟨v1, v2, v3, _, v5⟩ := done_ok baseS g1 X h0 wrap0 i
 generalize doneG baseS g1 X ⟨k, 0, []⟩ i = v at *
 obtain ⟨a1, a2, a3, _, a5⟩ := done_ok aS g2 A v1 v3 j
 obtain ⟨b1, b2, b3, _, b5⟩ := done_ok bS g3 B v1 v3 q
 generalize doneG aS g2 A v j = a at *
 generalize doneG bS g3 B v q = b at *
 have vl : ∀ x ∈ v.l, x.1.l = baseS := fun x hx => (v5 x hx).elim (fun h => by cases h) id
 have n1 : aS ≠ baseS := by decide
 have n2 : bS ≠ baseS := by decide
 have n3 : aS ≠ bS := by decide
 have rv := vl_right v1
 have ra := vl_right a1
 have rb := vl_right b1
 have gab := both_agree rv.2 vl a5 b5 n1 n2 n3
 have gav := grown_agree rv.2 vl a5 n1
 have gbv := grown_agree rv.2 vl b5 n2
 refine ⟨v1, a1, b1, a2, b2, a3, b3, (three_comm rv ra rb gab).symm, three_id rv ra gav, ?_, ?_, ?_, ?_⟩
 · rw [three_comm rv rv rb gbv.symm]; exact three_id rv rb gbv
 · obtain ⟨t1, t2, t3⟩ := val_iff.1 v1
   obtain ⟨p1, p2, p3⟩ := val_iff.1 a1
   obtain ⟨q1, q2, q3⟩ := val_iff.1 b1
   refine val_iff.2 ⟨t1, fun h => ?_, fun h => ⟨?_, three_right rv ra rb⟩⟩
   · rw [t2 h, p2 (a2.trans h), q2 (b2.trans h)]
     exact List.eq_nil_iff_forall_not_mem.2 fun x hx => by
      rcases (three_iff (base := []) (A := []) (B := []) ⟨fun x hx => (by cases hx), List.Pairwise.nil⟩ ⟨fun x hx => (by cases hx), List.Pairwise.nil⟩ ⟨fun x hx => (by cases hx), List.Pairwise.nil⟩ (fun x hx => by cases hx) x).1 hx with ⟨h, _⟩ | ⟨h | h, _⟩ <;> cases h
   · rw [(t3 h).1, (p3 (fun e => h (a2.symm.trans e))).1, (q3 (fun e => h (b2.symm.trans e))).1]
     decide
 · intro y hy hv
   rcases (three_iff rv ra rb gab y).1 hy with h | ⟨_, h⟩
   · exact h
   · rw [has_mem hv] at h; cases h
 · exact fun y hy hn => (three_iff rv ra rb gab y).2 (.inr ⟨.inl hy, new_bare vl a5 n1 hy hn⟩)
end Kn
end Go.Proofs.YtjlliohjeiclaaaDoor
namespace Go.Proofs.YtjlliohjeiclaaaDoor
open Go.RowKit St Pm Ku Kn
namespace Kn
structure Opc where
 o : Opv
 a : Option Addr
 n : Nat
 c : Nat
def opV (q : Opc) : List Value := [.slice q.a q.n q.c, .int .i64 q.o.k, .string q.o.x, .int .i64 q.o.d, .int .i64 q.o.m, .string q.o.t]
structure OpAt (w : World) (q : Opc) : Prop where
 p : CellsAt w q.a (txV q.o.p)
 n : q.n = q.o.p.length
 z : ∀ x ∈ q.o.p, x.size ≤ 9223372036854775807
 x : q.o.x.size ≤ 9223372036854775807
theorem OpAt.below {B : Nat} {w w' : World} {q : Opc} (h : OpAt w q) (hb : Below B w w') (hB : w.heap.size = B) : OpAt w' q := ⟨h.p.below hb hB.symm, h.n, h.z, h.x⟩
theorem opV_len (q : Opc) : (opV q).length = 6 := rfl
instance : Inhabited Opc := ⟨⟨⟨[], 0, ⟨#[]⟩, 0, 0, ⟨#[]⟩⟩, none, 0, 0⟩⟩
structure OpCell (w : World) (b o : Nat) (q : Opc) : Prop where
 c0 : w.cell? ⟨b, o, none⟩ = some (.slice q.a q.n q.c)
 c1 : w.cell? ⟨b, o + 1, none⟩ = some (.int .i64 q.o.k)
 c2 : w.cell? ⟨b, o + 2, none⟩ = some (.string q.o.x)
 c3 : w.cell? ⟨b, o + 3, none⟩ = some (.int .i64 q.o.d)
 c4 : w.cell? ⟨b, o + 4, none⟩ = some (.int .i64 q.o.m)
 c5 : w.cell? ⟨b, o + 5, none⟩ = some (.string q.o.t)
theorem opsV_get : ∀ (l : List Opc) (i r : Nat) (hi : i < l.length), r < 6 → (l.flatMap opV)[i * 6 + r]? = (opV l[i])[r]?
 | [], i, r, hi, _ => by simp at hi
 | x :: l, 0, r, _, hr => by
  rw [List.flatMap_cons, Nat.zero_mul, Nat.zero_add, List.getElem?_append_left (by rw [opV_len]; exact hr)]
  rfl
 | x :: l, i + 1, r, hi, hr => by
  rw [List.flatMap_cons, List.getElem?_append_right (by rw [opV_len, Nat.succ_mul]; omega), opV_len, Nat.succ_mul]
  rw [show i * 6 + 6 + r - 6 = i * 6 + r by omega, opsV_get l i r (by simpa using hi) hr]
  rfl
theorem ops_get {w : World} {a : Option Addr} {l : List Opc} (h : CellsAt w a (l.flatMap opV)) (k : Nat) (hk : k < l.length) : ∃ b off, a = some ⟨b, off, none⟩ ∧ OpCell w b (off + k * 6) l[k] := by
 have g : ∀ j v, j < 6 → (opV l[k])[j]? = some v → ∃ b off, a = some ⟨b, off, none⟩ ∧ w.cell? ⟨b, off + (k * 6 + j), none⟩ = some v := fun j v hj hv => h.get _ v (by rw [opsV_get l k j hk hj, hv])
 obtain ⟨b, off, rfl, q0⟩ := g 0 _ (by omega) rfl
 refine ⟨b, off, rfl, ?_⟩
 obtain ⟨_, _, e1, q1⟩ := g 1 _ (by omega) rfl
 obtain ⟨_, _, e2, q2⟩ := g 2 _ (by omega) rfl
 obtain ⟨_, _, e3, q3⟩ := g 3 _ (by omega) rfl
 obtain ⟨_, _, e4, q4⟩ := g 4 _ (by omega) rfl
 obtain ⟨_, _, e5, q5⟩ := g 5 _ (by omega) rfl
 cases e1; cases e2; cases e3; cases e4; cases e5
 exact ⟨by simpa using q0, by simpa [Nat.add_assoc] using q1, by simpa [Nat.add_assoc] using q2, by simpa [Nat.add_assoc] using q3, by simpa [Nat.add_assoc] using q4, by simpa [Nat.add_assoc] using q5⟩
end Kn
end Go.Proofs.YtjlliohjeiclaaaDoor
namespace Go.Proofs.YtjlliohjeiclaaaDoor
open Go.RowKit
section
variable {P : Program} {ops : Array Oper} {Q : Exit → Act → World → Prop} {id : Nat} {base : Array Value} {df : List Deferred} {slots : List Nat} {W0 : World}
theorem getD_some {t : Array Value} {k : Nat} {b : Bool} (h : t[k]?.getD undef = .bool b) : t[k]? = some (.bool b) := by
 cases e : t[k]? with
 | none => rw [e] at h; cases h
 | some x => rw [e] at h; exact congrArg some h
theorem ext_val (x : Value) (ix : Nat) : (∃ v, Instr.extract x ix = pure v) ∨ (∃ s, Instr.extract x ix = stuck s) := by
 unfold Instr.extract
 split
 · split
   · exact .inl ⟨_, rfl⟩
   · exact .inr ⟨_, rfl⟩
 · exact .inr ⟨_, rfl⟩
theorem wpOp_ext {i : Nat} {o : Oper} {t : Operand} {ix : Nat} (ho : ops[i]? = some o) (hg : o.guard = none) (hop : o.op = .extract t ix) {K : Act → World → Prop} {a : Act} {w : World} (h : wpOp P ops Q i K a w) :
 ∃ v, K (a.put (dstN ops i) v) w ∧ ∀ (K' : Act → World → Prop) (w2 : World), K' (a.put (dstN ops i) v) w2 → wpOp P ops Q i K' a w2 := by
 have hd : dstN ops i = o.dst := by unfold dstN; rw [ho]; rfl
 rw [hd]
 unfold wpOp at h ⊢
 rw [ho] at h ⊢
 simp only [wanted_none hg, if_true] at h ⊢
 rcases ext_val (a.eval t) ix with ⟨v, hv⟩ | ⟨s, hs⟩
 · have he : execOp a.eval o = pure (.value v) := by
    unfold execOp
    simp [hop, hv]
   refine ⟨v, ?_, fun K' w2 hK' => .inl ?_⟩
   · rcases h with h | ⟨h1, _⟩
     · unfold Oper.wp at h; rw [he] at h; exact h
     · unfold Oper.asks at h1
       rw [he] at h1
       have h2 : noRoomEvent ∈ (#[] : Array _) := h1.1
       cases (Array.not_mem_empty _ h2)
   · unfold Oper.wp; rw [he]; exact hK'
 · exfalso
   have he : execOp a.eval o = (stuck s : Sem Next) := by
    unfold execOp
    simp [hop, hs]
    rfl
   rcases h with h | ⟨h1, _⟩
   · unfold Oper.wp at h; rw [he] at h; exact h
   · unfold Oper.asks at h1
     rw [he] at h1
     have h2 : noRoomEvent ∈ (#[] : Array _) := h1.1
     cases (Array.not_mem_empty _ h2)
def freeB (ops : Array Oper) (i : Nat) : Bool := copyB ops i || match ops[i]? with
 | some o => o.guard.isNone && (match o.op with
  | .extract _ _ => true
  | _ => false)
 | none => false
theorem wpOp_free {i : Nat} (hf : freeB ops i = true) {K : Act → World → Prop} {a : Act} {w : World} (h : wpOp P ops Q i K a w) :
 ∃ v, K (a.put (dstN ops i) v) w ∧ ∀ (K' : Act → World → Prop) (w2 : World), K' (a.put (dstN ops i) v) w2 → wpOp P ops Q i K' a w2 := by
 unfold freeB at hf
 rw [Bool.or_eq_true] at hf
 rcases hf with hf | hf
 · obtain ⟨x, hx⟩ := wpOp_copy (P := P) (Q := Q) hf
   exact ⟨a.eval x, (hx _ _ _).1 h, fun K' w2 hK' => (hx _ _ _).2 hK'⟩
 · cases ho : ops[i]? with
   | none => rw [ho] at hf; cases hf
   | some o =>
    rw [ho] at hf
    simp only [Bool.and_eq_true] at hf
    have hg : o.guard = none := by simpa using hf.1
    have h2 := hf.2
    split at h2
    · rename_i t ix hop
      exact wpOp_ext ho hg hop h
    · cases h2
def blkOf : Value → Nat
 | .pointer (some a) => a.block
 | _ => 0
def ownOK (ops : Array Oper) (s x ix y iy : Nat) : Bool := decide (s < ops.size) && (dstN ops s == none) && (dstN ops ix == some x) && (dstN ops iy == some y) && needsN ops 6 s ix && needsN ops 6 s iy
def freeOK1 (ops : Array Oper) (s : Nat) : Bool := (List.range ops.size).all fun i => i == s || (freeB ops i || needsN ops 6 s i)
theorem relG_own {gs : List Pr} (s x ix y iy : Nat) (ps psS : List (Nat × Nat × Nat)) (hm : P.follows .mixedOrders = true) (hl : gs.length = ops.size) (hps : finOK ops ps = true) (hpsS : stoDeps ops [s] psS = true)
 (hS : ownOK ops s x ix y iy = true) (hfr : freeOK1 ops s = true)
 (hst : ∀ f w, Below W0.heap.size W0 w → FinF gs f w psS → ∀ K : Act → World → Prop, K { tmps := regT base slots f, defers := df } (w.setRow (blkOf (f x)) (f y).cells) → wpOp P ops Q s K { tmps := regT base slots f, defers := df } w)
 (h : ∀ f w, Below W0.heap.size W0 w → FinF gs f w ps → Q .normal { tmps := regT base slots f, defers := df } (w.setRow (blkOf (f x)) (f y).cells)) : RelG P ops Q id base df slots W0 [s] gs := by
 intro hup hsl hinj hsz hall
 have hpS : s < ops.size ∧ dstN ops s = none ∧ dstN ops ix = some x ∧ dstN ops iy = some y ∧ needsN ops 6 s ix = true ∧ needsN ops 6 s iy = true := by
  simp only [ownOK, Bool.and_eq_true, decide_eq_true_eq, beq_iff_eq] at hS
  exact ⟨hS.1.1.1.1.1, hS.1.1.1.1.2, hS.1.1.1.2, hS.1.1.2, hS.1.2, hS.2⟩
 obtain ⟨p1, p2, p3, p4, p5, p6⟩ := hpS
 have hfinS : ∀ (L : Nat → Bool) f w, ClosedL ops L → (∀ i d, dstN ops i = some d → L i = true → lkG gs i (f d) w) → (∀ k ∈ preOf ops s, L k = true) → FinF gs f w psS := by
  intro L f w hc hL hpre
  clear h hst
  induction psS with
  | nil => trivial
  | cons q psS ih =>
   simp only [stoDeps, List.all_cons, Bool.and_eq_true] at hpsS
   obtain ⟨⟨⟨h1, h2⟩, h4⟩, h3⟩ := hpsS
   have hj' : q.1 + q.2.2 + 1 = ops.size := by simpa using h1
   have h5 := hL q.1 q.2.1 (by simpa using h2) (needsN_out hc _ _ _ h4.1 hpre)
   unfold lkG at h5
   rw [if_pos (by omega), show gs.length - 1 - q.1 = q.2.2 by omega] at h5
   exact ⟨⟨f q.2.1, rfl, h5⟩, ih h3⟩
 refine region_inv (fun L a w => ClosedL ops L ∧ ∃ f w', a = { tmps := regT base slots f, defers := df } ∧ Below W0.heap.size W0 w' ∧ (∀ i d, dstN ops i = some d → L i = true → lkG gs i (f d) w') ∧ w = if L s = true then w'.setRow (blkOf (f x)) (f y).cells else w') hm hup
  ⟨(fun _ h => by cases h), fun k => base.getD k undef, W0.drew, by rw [regT_id], (Below.refl _ _).drew, fun _ _ _ h => (by cases h), by rw [if_neg (by simp)]⟩ ?_ ?_
 · rintro i hi L a w ⟨hc, f, w', rfl, hW, hL, rfl⟩ hLi hpre
   have hc' := closedL_next hc hpre
   by_cases his : i = s
   · subst his
     rw [if_neg (by rw [hLi]; simp)]
     refine hst f w' hW (hfinS L f w' hc hL hpre) _ ⟨hc', f, w', rfl, hW, fun j d e hj => ?_, by rw [if_pos (by simp)]⟩
     have hne : j ≠ i := fun e' => by rw [e', p2] at e; cases e
     exact hL j d e (by simpa [hne] using hj)
   · have hso : [s].contains i = false := by simpa using his
     obtain ⟨h1, h2⟩ := hall i (by omega) hso
     have hLs : (s == i || L s) = L s := by
      have : (s == i) = false := by simpa using fun e => his (Eq.symm e)
      rw [this]; rfl
     have hkeep : ∀ v w'', lkG gs i v w'' → Below w'.heap.size w' w'' → ∃ f1, ({ tmps := regT base slots f, defers := df : Act }.put (dstN ops i) v) = { tmps := regT base slots f1, defers := df } ∧ Below W0.heap.size W0 w'' ∧ (∀ j d, dstN ops j = some d → (j == i || L j) = true → lkG gs j (f1 d) w'') ∧ (L s = true → f1 x = f x ∧ f1 y = f y) := by
      intro v w'' hg hb
      have hW' := hW.trans (hb.mono hW.size)
      cases hdi : dstN ops i with
      | none =>
       refine ⟨f, rfl, hW', fun j d e hj => ?_, fun _ => ⟨rfl, rfl⟩⟩
       have hne : j ≠ i := fun e' => by rw [e', hdi] at e; cases e
       have hLj : L j = true := by simpa [hne] using hj
       have hjs : [s].contains j = false := by
        have : j ≠ s := fun e' => by rw [e', p2] at e; cases e
        simpa using this
       exact (hall j (by have := dstN_lt e; omega) hjs).1 _ _ _ (hL j d e hLj) hb
      | some di =>
       refine ⟨updF f di v, ?_, hW', fun j d e hj => ?_, fun hls => ?_⟩
       · show ({ tmps := (regT base slots f).setIfInBounds di v, defers := df } : Act) = _
         rw [regT_put _ _ _ _ _ (hsl i di hdi)]
       · unfold updF
         by_cases hne : j = i
         · subst hne
           rw [hdi] at e
           cases e
           rw [if_pos rfl]
           exact hg
         · have h3 : d ≠ di := fun e' => hne (hinj j i d e (e' ▸ hdi))
           rw [if_neg h3]
           have hLj : L j = true := by simpa [hne] using hj
           have hjs : [s].contains j = false := by
            have : j ≠ s := fun e' => by rw [e', p2] at e; cases e
            simpa using this
           exact (hall j (by have := dstN_lt e; omega) hjs).1 _ _ _ (hL j d e hLj) hb
       · have hix : L ix = true := needsN_out hc _ _ _ p5 (hc s hls)
         have hiy : L iy = true := needsN_out hc _ _ _ p6 (hc s hls)
         unfold updF
         constructor
         · rw [if_neg]
           intro e
           have := hinj ix i x p3 (e ▸ hdi)
           rw [this, hLi] at hix
           cases hix
         · rw [if_neg]
           intro e
           have := hinj iy i y p4 (e ▸ hdi)
           rw [this, hLi] at hiy
           cases hiy
     cases hls : L s with
     | false =>
      rw [if_neg (by simp)]
      refine h2 f w' hW (fun j hj d e => hL j d e (hpre j hj)) _ fun v w'' hg hb => ?_
      obtain ⟨f1, k2, k3, k4, _⟩ := hkeep v w'' hg hb
      exact ⟨hc', f1, w'', k2, k3, k4, by show w'' = if (s == i || L s) = true then w''.setRow (blkOf (f1 x)) (f1 y).cells else w''; rw [hLs, hls, if_neg (by simp)]⟩
     | true =>
      rw [if_pos rfl]
      have hf := List.all_eq_true.1 hfr i (List.mem_range.2 hi)
      simp only [Bool.or_eq_true] at hf
      have hcp : freeB ops i = true := by
       rcases hf with hf | hf | hf
       · exact absurd (by simpa using hf) his
       · exact hf
       · have := needsN_out hc _ _ _ hf (hc s hls)
         rw [hLi] at this
         cases this
      have h3 := h2 f w' hW (fun j hj d e => hL j d e (hpre j hj)) (fun a1 w1 => ∃ v, a1 = { tmps := regT base slots f, defers := df : Act }.put (dstN ops i) v ∧ lkG gs i v w1 ∧ Below w'.heap.size w' w1) (fun v w'' hg hb => ⟨v, rfl, hg, hb⟩)
      obtain ⟨v0, ⟨v, e1, e2, e3⟩, hgo⟩ := wpOp_free hcp h3
      refine hgo _ _ ?_
      rw [e1]
      obtain ⟨f1, k2, k3, k4, k5⟩ := hkeep v w' e2 e3
      obtain ⟨q1, q2⟩ := k5 hls
      exact ⟨hc', f1, w', k2, k3, k4, by show w'.setRow (blkOf (f x)) (f y).cells = if (s == i || L s) = true then w'.setRow (blkOf (f1 x)) (f1 y).cells else w'; rw [hLs, hls, if_pos rfl, q1, q2]⟩
 · rintro L a w ⟨hc, f, w', rfl, hW, hL, rfl⟩ hLall
   rw [if_pos (hLall _ p1)]
   exact h f w' hW (finF_of hl (fun j hj d e => hL j d e (hLall j hj)) hps)
theorem sto_own {i : Nat} {o : Oper} {f : Nat → Value} {w2 : World} {K : Act → World → Prop} (ty : TypeId) (x y : Nat) (b : Nat) (cells : Array Value) (t : TypeId) (old : Array Value) (ho : ops[i]? = some o) (hg : o.guard = none) (hd : o.dst = none) (hop : o.op = .store ty (.tmp x) (.tmp y))
 (hxs : slots.contains x = true) (hxz : decide (x < base.size) = true) (hx : f x = .pointer (some ⟨b, 0, none⟩)) (hys : slots.contains y = true) (hyz : decide (y < base.size) = true) (hy : f y = .agg cells) (hgr : w2.heap[b]? = some (.cells old t (0, 0))) (hi : (P.info? ty).map (·.size) = some cells.size) (hold : old.size = cells.size) (h1 : cells.all (·.oneCell') = true)
 (hK : K { tmps := regT base slots f, defers := df } (w2.setRow (blkOf (f x)) (f y).cells)) : wpOp P ops Q i K { tmps := regT base slots f, defers := df } w2 := by
 unfold wpOp
 rw [ho]
 simp only [wanted_none hg, if_true]
 have hx' : (regT base slots f).getD x undef = .pointer (some ⟨b, 0, none⟩) := (regT_in (by simpa using hxs) (of_decide_eq_true hxz)).trans hx
 have hy' : (regT base slots f).getD y undef = .agg cells := (regT_in (by simpa using hys) (of_decide_eq_true hyz)).trans hy
 refine .inl (wp_store_row ty (.tmp x) (.tmp y) hop b cells hx' hy' t old hgr hi hold h1 ?_)
 rw [hd]
 rw [hx, hy] at hK
 exact hK
end
end Go.Proofs.YtjlliohjeiclaaaDoor
namespace Go.Proofs.YtjlliohjeiclaaaDoor
open Go.RowKit
section
variable {P : Program} {ops : Array Oper} {Q : Exit → Act → World → Prop} {id : Nat} {base : Array Value} {df : List Deferred} {slots : List Nat} {W0 : World}
def oneOK (ops : Array Oper) (s y iy : Nat) : Bool := decide (s < ops.size) && (dstN ops s == none) && (dstN ops iy == some y) && needsN ops 6 s iy
theorem relG_one {gs : List Pr} (s b y iy : Nat) (ps psS : List (Nat × Nat × Nat)) (hm : P.follows .mixedOrders = true) (hl : gs.length = ops.size) (hps : finOK ops ps = true) (hpsS : stoDeps ops [s] psS = true)
 (hS : oneOK ops s y iy = true) (hfr : freeOK1 ops s = true)
 (hst : ∀ f w, Below W0.heap.size W0 w → FinF gs f w psS → ∀ K : Act → World → Prop, K { tmps := regT base slots f, defers := df } (w.setRow b (f y).cells) → wpOp P ops Q s K { tmps := regT base slots f, defers := df } w)
 (h : ∀ f w, Below W0.heap.size W0 w → FinF gs f w ps → Q .normal { tmps := regT base slots f, defers := df } (w.setRow b (f y).cells)) : RelG P ops Q id base df slots W0 [s] gs := by
 intro hup hsl hinj hsz hall
 have hpS : s < ops.size ∧ dstN ops s = none ∧ dstN ops iy = some y ∧ needsN ops 6 s iy = true := by
  simp only [oneOK, Bool.and_eq_true, decide_eq_true_eq, beq_iff_eq] at hS
  exact ⟨hS.1.1.1, hS.1.1.2, hS.1.2, hS.2⟩
 obtain ⟨p1, p2, p4, p6⟩ := hpS
 have hfinS : ∀ (L : Nat → Bool) f w, ClosedL ops L → (∀ i d, dstN ops i = some d → L i = true → lkG gs i (f d) w) → (∀ k ∈ preOf ops s, L k = true) → FinF gs f w psS := by
  intro L f w hc hL hpre
  clear h hst
  induction psS with
  | nil => trivial
  | cons q psS ih =>
   simp only [stoDeps, List.all_cons, Bool.and_eq_true] at hpsS
   obtain ⟨⟨⟨h1, h2⟩, h4⟩, h3⟩ := hpsS
   have hj' : q.1 + q.2.2 + 1 = ops.size := by simpa using h1
   have h5 := hL q.1 q.2.1 (by simpa using h2) (needsN_out hc _ _ _ h4.1 hpre)
   unfold lkG at h5
   rw [if_pos (by omega), show gs.length - 1 - q.1 = q.2.2 by omega] at h5
   exact ⟨⟨f q.2.1, rfl, h5⟩, ih h3⟩
 refine region_inv (fun L a w => ClosedL ops L ∧ ∃ f w', a = { tmps := regT base slots f, defers := df } ∧ Below W0.heap.size W0 w' ∧ (∀ i d, dstN ops i = some d → L i = true → lkG gs i (f d) w') ∧ w = if L s = true then w'.setRow b (f y).cells else w') hm hup
  ⟨(fun _ h => by cases h), fun k => base.getD k undef, W0.drew, by rw [regT_id], (Below.refl _ _).drew, fun _ _ _ h => (by cases h), by rw [if_neg (by simp)]⟩ ?_ ?_
 · rintro i hi L a w ⟨hc, f, w', rfl, hW, hL, rfl⟩ hLi hpre
   have hc' := closedL_next hc hpre
   by_cases his : i = s
   · subst his
     rw [if_neg (by rw [hLi]; simp)]
     refine hst f w' hW (hfinS L f w' hc hL hpre) _ ⟨hc', f, w', rfl, hW, fun j d e hj => ?_, by rw [if_pos (by simp)]⟩
     have hne : j ≠ i := fun e' => by rw [e', p2] at e; cases e
     exact hL j d e (by simpa [hne] using hj)
   · have hso : [s].contains i = false := by simpa using his
     obtain ⟨h1, h2⟩ := hall i (by omega) hso
     have hLs : (s == i || L s) = L s := by
      have : (s == i) = false := by simpa using fun e => his (Eq.symm e)
      rw [this]; rfl
     have hkeep : ∀ v w'', lkG gs i v w'' → Below w'.heap.size w' w'' → ∃ f1, ({ tmps := regT base slots f, defers := df : Act }.put (dstN ops i) v) = { tmps := regT base slots f1, defers := df } ∧ Below W0.heap.size W0 w'' ∧ (∀ j d, dstN ops j = some d → (j == i || L j) = true → lkG gs j (f1 d) w'') ∧ (L s = true → f1 y = f y) := by
      intro v w'' hg hb
      have hW' := hW.trans (hb.mono hW.size)
      cases hdi : dstN ops i with
      | none =>
       refine ⟨f, rfl, hW', fun j d e hj => ?_, fun _ => rfl⟩
       have hne : j ≠ i := fun e' => by rw [e', hdi] at e; cases e
       have hLj : L j = true := by simpa [hne] using hj
       have hjs : [s].contains j = false := by
        have : j ≠ s := fun e' => by rw [e', p2] at e; cases e
        simpa using this
       exact (hall j (by have := dstN_lt e; omega) hjs).1 _ _ _ (hL j d e hLj) hb
      | some di =>
       refine ⟨updF f di v, ?_, hW', fun j d e hj => ?_, fun hls => ?_⟩
       · show ({ tmps := (regT base slots f).setIfInBounds di v, defers := df } : Act) = _
         rw [regT_put _ _ _ _ _ (hsl i di hdi)]
       · unfold updF
         by_cases hne : j = i
         · subst hne
           rw [hdi] at e
           cases e
           rw [if_pos rfl]
           exact hg
         · have h3 : d ≠ di := fun e' => hne (hinj j i d e (e' ▸ hdi))
           rw [if_neg h3]
           have hLj : L j = true := by simpa [hne] using hj
           have hjs : [s].contains j = false := by
            have : j ≠ s := fun e' => by rw [e', p2] at e; cases e
            simpa using this
           exact (hall j (by have := dstN_lt e; omega) hjs).1 _ _ _ (hL j d e hLj) hb
       · have hiy : L iy = true := needsN_out hc _ _ _ p6 (hc s hls)
         unfold updF
         rw [if_neg]
         intro e
         have := hinj iy i y p4 (e ▸ hdi)
         rw [this, hLi] at hiy
         cases hiy
     cases hls : L s with
     | false =>
      rw [if_neg (by simp)]
      refine h2 f w' hW (fun j hj d e => hL j d e (hpre j hj)) _ fun v w'' hg hb => ?_
      obtain ⟨f1, k2, k3, k4, _⟩ := hkeep v w'' hg hb
      exact ⟨hc', f1, w'', k2, k3, k4, by show w'' = if (s == i || L s) = true then w''.setRow b (f1 y).cells else w''; rw [hLs, hls, if_neg (by simp)]⟩
     | true =>
      rw [if_pos rfl]
      have hf := List.all_eq_true.1 hfr i (List.mem_range.2 hi)
      simp only [Bool.or_eq_true] at hf
      have hcp : freeB ops i = true := by
       rcases hf with hf | hf | hf
       · exact absurd (by simpa using hf) his
       · exact hf
       · have := needsN_out hc _ _ _ hf (hc s hls)
         rw [hLi] at this
         cases this
      have h3 := h2 f w' hW (fun j hj d e => hL j d e (hpre j hj)) (fun a1 w1 => ∃ v, a1 = { tmps := regT base slots f, defers := df : Act }.put (dstN ops i) v ∧ lkG gs i v w1 ∧ Below w'.heap.size w' w1) (fun v w'' hg hb => ⟨v, rfl, hg, hb⟩)
      obtain ⟨v0, ⟨v, e1, e2, e3⟩, hgo⟩ := wpOp_free hcp h3
      refine hgo _ _ ?_
      rw [e1]
      obtain ⟨f1, k2, k3, k4, k5⟩ := hkeep v w' e2 e3
      have q2 := k5 hls
      exact ⟨hc', f1, w', k2, k3, k4, by show w'.setRow b (f y).cells = if (s == i || L s) = true then w'.setRow b (f1 y).cells else w'; rw [hLs, hls, if_pos rfl, q2]⟩
 · rintro L a w ⟨hc, f, w', rfl, hW, hL, rfl⟩ hLall
   rw [if_pos (hLall _ p1)]
   exact h f w' hW (finF_of hl (fun j hj d e => hL j d e (hLall j hj)) hps)
end
end Go.Proofs.YtjlliohjeiclaaaDoor
namespace Go.Proofs.YtjlliohjeiclaaaDoor
open Go.RowKit St Pm Ku Kn
set_option maxRecDepth 100000 in
set_option maxHeartbeats 2000000 in
theorem kn_has (k m : Int) (l : List Ev) (a : Option Addr) (n c : Nat) (x : Ev) (w : World) (hl : CellsAt w a (elsV l)) (hn : n = l.length) (hb : n ≤ 9223372036854775807) :
 Calls Tryd.prog 35 #[.agg #[.int .i64 k, .int .i64 m, .slice a n c], .agg #[.int .i64 x.1.g, .int .i64 x.1.r, .string x.1.l, .int .i64 x.1.n, .int .i64 x.1.i, .string x.2]] w fun e w' => e = .returned (.bool (memG l x)) ∧ Below w.heap.size w w' := by
 have HL := Lib.hid hl
 have HN := Lib.hid hn
 have EN := ev_eql
 obtain ⟨res, hres⟩ : ∃ r, memG l x = r := ⟨_, rfl⟩
 rw [hres]
 have RT : Hid (∀ i (h : i < l.length), l[i] = x → res = true) := Lib.hid (fun i h e => by rw [← hres]; exact memG_iff.2 (e ▸ List.getElem_mem h))
 have RF : Hid (memG (l.take n) x = false → res = false) := Lib.hid (fun h => by rw [← hres, ← h, HN.out, List.take_length])
 have RS : Hid (∀ i (h : i < l.length), memG (l.take i) x = false → l[i] ≠ x → memG (l.take (i + 1)) x = false) := Lib.hid (fun i h e hne => by
  cases hm : memG (l.take (i + 1)) x with
  | false => rfl
  | true =>
   have h1 := memG_iff.1 hm
   rw [List.take_succ_eq_append_getElem h] at h1
   rcases List.mem_append.1 h1 with h2 | h2
   · rw [memG_iff.2 h2] at e; cases e
   · exact absurd (by simpa using h2 : x = l[i]).symm hne)
 clear hl hn hres
 have HC : Hid (Chain [w] w) := Lib.hid (Chain.one w)
 go_enter Tryd.func35, Tryd.ntmps35
 go_upto_region 1 with (fail)
 obtain ⟨z, hz⟩ : ∃ c, w.heap.size = c := ⟨_, rfl⟩
 try rw [hz]
 obtain ⟨w1, hw1⟩ : ∃ X, allocs w [.cells #[.int .i64 k, .int .i64 m, .slice a n c] 49, .cells #[.int .i64 x.1.g, .int .i64 x.1.r, .string x.1.l, .int .i64 x.1.n, .int .i64 x.1.i, .string x.2] 33] = X := ⟨_, rfl⟩
 rw [show (w.alloc (.cells #[.int .i64 k, .int .i64 m, .slice a n c] 49)).alloc (.cells #[.int .i64 x.1.g, .int .i64 x.1.r, .string x.1.l, .int .i64 x.1.n, .int .i64 x.1.i, .string x.2] 33) = w1 from hw1]
 have hb : Below w.heap.size w w1 := by rw [← hw1]; exact allocs_below _ _
 have HV : Hid (w1.heap[z]? = some (.cells #[.int .i64 k, .int .i64 m, .slice a n c] 49 (0, 0))) := Lib.hid (by have := allocs_get [.cells #[.int .i64 k, .int .i64 m, .slice a n c] 49, .cells #[.int .i64 x.1.g, .int .i64 x.1.r, .string x.1.l, .int .i64 x.1.n, .int .i64 x.1.i, .string x.2] 33] w 0 _ rfl; rw [hw1, hz] at this; exact this)
 have HX : Hid (w1.heap[z + 1]? = some (.cells #[.int .i64 x.1.g, .int .i64 x.1.r, .string x.1.l, .int .i64 x.1.n, .int .i64 x.1.i, .string x.2] 33 (0, 0))) := Lib.hid (by have := allocs_get [.cells #[.int .i64 k, .int .i64 m, .slice a n c] 49, .cells #[.int .i64 x.1.g, .int .i64 x.1.r, .string x.1.l, .int .i64 x.1.n, .int .i64 x.1.i, .string x.2] 33] w 1 _ rfl; rw [hw1, hz] at this; exact this)
 have Sz : Hid (w.heap.size = z) := Lib.hid hz
 replace HC := Lib.hid (HC.out.push hb)
 clear hb hw1 hz
 go_wp2_with fail
 go_loopw [5] (fun u5 wr => ∃ (i : Nat) (wq : World), wq = wr ∧ u5 = .int .i64 (i : Int) ∧ i ≤ n ∧ Hid (memG (l.take i) x = false) ∧ Hid (Below w1.heap.size w1 wq)) (fun u5 _ => n - (intOf u5).toNat)
 case atStart => exact ⟨0, _, rfl, rfl, Nat.zero_le _, Lib.hid rfl, Lib.hid (Below.refl _ _)⟩
 case round =>
  obtain ⟨i, wq, rfl, rfl, hin, HM, HB⟩ := hrel
  have hb := HB.out
  replace HC := Lib.hid (HC.out.push hb)
  clear hb
  clear HB
  by_cases hlt : i < n
  · have hil : i < l.length := by have := HN.out; omega
    have hli : (i : Int) < (n : Int) := by omega
    obtain ⟨ba, oa, ha, pc⟩ := els_get (HL.out.below (HC.out.to w (by simp)) rfl) i hil
    subst ha
    obtain ⟨p0, p1, p2, p3, p4, p5⟩ := pc
    have RT1 := Lib.hid (RT.out i hil)
    have RS1 := Lib.hid (RS.out i hil)
    obtain ⟨y, hy⟩ : ∃ y, l[i] = y := ⟨_, rfl⟩
    rw [hy] at p0 p1 p2 p3 p4 p5 RT1 RS1
    clear hy RT RS
    have kV0 := cell_of_row _ _ 0 _ _ _ (boxStays HV.out (HC.out.to w1 (by simp)))
    have kV1 := cell_of_row _ _ 1 _ _ _ (boxStays HV.out (HC.out.to w1 (by simp)))
    have kV2 := cell_of_row _ _ 2 _ _ _ (boxStays HV.out (HC.out.to w1 (by simp)))
    have kX0 := cell_of_row _ _ 0 _ _ _ (boxStays HX.out (HC.out.to w1 (by simp)))
    have kX1 := cell_of_row _ _ 1 _ _ _ (boxStays HX.out (HC.out.to w1 (by simp)))
    have kX2 := cell_of_row _ _ 2 _ _ _ (boxStays HX.out (HC.out.to w1 (by simp)))
    have kX3 := cell_of_row _ _ 3 _ _ _ (boxStays HX.out (HC.out.to w1 (by simp)))
    have kX4 := cell_of_row _ _ 4 _ _ _ (boxStays HX.out (HC.out.to w1 (by simp)))
    have kX5 := cell_of_row _ _ 5 _ _ _ (boxStays HX.out (HC.out.to w1 (by simp)))
    by_cases he : y = x
    · have H := Lib.hid (RT1.out he)
      have hd : decide (y = x) = true := decide_eq_true he
      clear he RT1 RS1
      go_wp2_with fail
      go_quiet (fail)
      go_wp2_with fail
      go_ret
      rw [H.out]
      exact ⟨rfl, below_drews (HC.out.to w (by simp)) _⟩
    · have H := Lib.hid (RS1.out HM.out he)
      have hd : decide (y = x) = false := decide_eq_false he
      clear he RT1 RS1
      go_wp2_with fail
      go_quiet (fail)
      go_wp2_with fail
      go_roundw
      case rel => exact ⟨i + 1, _, rfl, by go_num, by omega, H, Lib.hid (below_drews (HC.out.to w1 (by simp)) _)⟩
      case measure => simp [intOf]; omega
  · obtain rfl : i = n := by omega
    have H := Lib.hid (RF.out HM.out)
    have hli : ¬ (i : Int) < (i : Int) := by omega
    have kV0 := cell_of_row _ _ 0 _ _ _ (boxStays HV.out (HC.out.to w1 (by simp)))
    have kV1 := cell_of_row _ _ 1 _ _ _ (boxStays HV.out (HC.out.to w1 (by simp)))
    have kV2 := cell_of_row _ _ 2 _ _ _ (boxStays HV.out (HC.out.to w1 (by simp)))
    go_wp2_with fail
    go_ret
    rw [H.out]
    exact ⟨rfl, (HC.out.to w (by simp))⟩
namespace Kn
structure DnI (z : Nat) (w W : World) (u : Vl) (a : Option Addr) (n c : Nat) : Prop where
 row : W.heap[z]? = some (.cells #[.int .i64 u.k, .int .i64 u.m, .slice a n c] 49 (0, 0))
 res : W.heap[z + 1]? = some (.cells #[.int .i64 0, .int .i64 0, .slice none 0 0] 49 (0, 0))
 els : CellsAt W a (elsV u.l)
 len : n = u.l.length
 cap : n ≤ c
 ne : u.l ≠ [] → ∀ ad, a = some ad → ad.block ≠ z ∧ ad.block ≠ z + 1
 bel : Below w.heap.size w W
theorem DnI.below {z : Nat} {w W W' : World} {u : Vl} {a : Option Addr} {n c : Nat} (h : DnI z w W u a n c) (hb : Below W.heap.size W W') : DnI z w W' u a n c :=
 ⟨boxStays h.row hb, boxStays h.res hb, h.els.below hb rfl, h.len, h.cap, h.ne, h.bel.trans (hb.mono h.bel.size)⟩
theorem cells_in {w : World} {a : Option Addr} {l : List Ev} (h : CellsAt w a (elsV l)) (hne : l ≠ []) : ∀ ad, a = some ad → ad.block < w.heap.size := by
 intro ad had
 cases l with
 | nil => exact absurd rfl hne
 | cons e l =>
  obtain ⟨b, off, e1, hc⟩ := h 0 (by simp [elsV, elV])
  rw [e1] at had
  cases had
  exact cell_lt hc
theorem ne_cellsG {w : World} {a : Option Addr} {e : Ev} {l : List Ev} {b : Nat} {t : TypeId} {g : Nat × Nat} (h : CellsAt w a (elsV (e :: l))) (hb : w.heap[b]? = some (.cells #[.int .i64 0, .int .i64 0, .slice none 0 0] t g)) : ∀ ad, a = some ad → ad.block ≠ b := fun ad had hbe => by
 obtain ⟨b', off, e1, hc⟩ := h 2 (by simp [elsV, elV])
 rw [e1] at had
 cases had
 simp only at hbe
 subst hbe
 unfold World.cell? at hc
 simp only [hb] at hc
 rcases Nat.eq_zero_or_pos off with h0 | h0
 · subst h0
   simp [elsV, elV] at hc
 · rw [Array.getElem?_eq_none (by simp; omega)] at hc
   cases hc
theorem cells_keep {w w' : World} {a : Option Addr} {l : List Ev} {g : Nat} (h : CellsAt w a (elsV l)) (hg : w.grownBy w' (some g)) (hne : l ≠ [] → ∀ ad, a = some ad → ad.block ≠ g) : CellsAt w' a (elsV l) := by
 by_cases h0 : l = []
 · subst h0
   exact CellsAt.nil _ _
 · exact cells_grown h hg (hne h0)
theorem done_step (lab : ByteArray) (g : Int) (l : List Opc) (v : Vl) (i : Nat) (h : i < l.length) : doneG lab g (l.map (·.o)) v (i + 1) = stpVl lab (g + i) (doneG lab g (l.map (·.o)) v i) l[i].o := by
 have e : (l.map (·.o))[i]? = some l[i].o := by rw [List.getElem?_map, List.getElem?_eq_getElem h]; rfl
 conv => lhs; unfold doneG
 rw [e]
end Kn
open Kn
theorem kn_numK (e : Int) (w : World) : Calls Tryd.prog 18 #[.int .i64 e] w fun r w' => r = .returned (.int .i64 e) ∧ w' = w := by
 go_enter Tryd.func18, Tryd.ntmps18
 go_wp2_with fail
 go_ret
 exact ⟨rfl, rfl⟩
set_option maxRecDepth 100000 in
set_option maxHeartbeats 8000000 in
theorem kn_done (v : Vl) (a : Option Addr) (n c : Nat) (ops : List Opc) (oa : Option Addr) (on oc : Nat) (g : Int) (lab : ByteArray) (w : World)
 (hv : v.ok = true) (hm : IntKind.i64.wrap v.m = v.m) (hl : CellsAt w a (elsV v.l)) (hn : n = v.l.length) (hnc : n ≤ c) (hb : n ≤ 1000) (hz : ∀ e ∈ v.l, e.1.l.size ≤ 9223372036854775807)
 (ho : CellsAt w oa (ops.flatMap opV)) (hon : on = ops.length) (hat : ∀ q ∈ ops, OpAt w q) (hg : 1 ≤ g) (hg2 : g ≤ 100) (hlab : lab.size ≤ 100) (hG : Glob w) :
 Calls Tryd.prog 31 #[.agg #[.int .i64 v.k, .int .i64 v.m, .slice a n c], .slice oa on oc, .int .i64 g, .string lab] w fun e w' =>
  ∃ (a' : Option Addr) (n' c' : Nat), e = .returned (.tuple #[.agg #[.int .i64 (doneG lab g (ops.map (·.o)) v (min on 40)).k, .int .i64 (doneG lab g (ops.map (·.o)) v (min on 40)).m, .slice a' n' c'], .bool true]) ∧ CellsAt w' a' (elsV (doneG lab g (ops.map (·.o)) v (min on 40)).l) ∧ n' = (doneG lab g (ops.map (·.o)) v (min on 40)).l.length ∧ n' ≤ c' ∧ Below w.heap.size w w' := by
 have DS : Hid (∀ i (h : i < ops.length), doneG lab g (ops.map (·.o)) v (i + 1) = stpVl lab (g + i) (doneG lab g (ops.map (·.o)) v i) ops[i].o) := Lib.hid (fun i h => done_step lab g ops v i h)
 have DK : Hid (∀ i, (doneG lab g (ops.map (·.o)) v i).ok = true ∧ (doneG lab g (ops.map (·.o)) v i).l.length ≤ v.l.length + i ∧ ∀ e ∈ (doneG lab g (ops.map (·.o)) v i).l, e.1.l.size ≤ 9223372036854775807) := Lib.hid (fun i => by
  obtain ⟨h1, _, _, h4, h5⟩ := done_ok lab g (ops.map (·.o)) hv hm i
  refine ⟨h1, h4, fun e he => ?_⟩
  rcases h5 e he with h | h
  · exact hz e h
  · rw [h]; omega)
 have D0 : Hid (doneG lab g (ops.map (·.o)) v 0 = v) := Lib.hid rfl
 generalize doneG lab g (ops.map (·.o)) v = D at *
 have HL := Lib.hid hl
 have HN := Lib.hid hn
 have HO := Lib.hid ho
 have HON := Lib.hid hon
 have HAT := Lib.hid hat
 have G := Lib.hid hG
 have DB : Hid (v.l.length ≤ 1000) := Lib.hid (by omega)
 have LAB : Hid (lab.size ≤ 9223372036854775807) := Lib.hid (by omega)
 clear hv hm hl hn hz ho hon hat hG hlab
 have HC : Hid (Chain [w] w) := Lib.hid (Chain.one w)
 go_enter Tryd.func31, Tryd.ntmps31
 go_upto_region 1 with (fail)
 obtain ⟨z, hz⟩ : ∃ c, w.heap.size = c := ⟨_, rfl⟩
 try rw [hz]
 obtain ⟨w1, hw1⟩ : ∃ X, allocs w [.cells #[.int .i64 v.k, .int .i64 v.m, .slice a n c] 49, .cells #[.int .i64 0, .int .i64 0, .slice none 0 0] 49] = X := ⟨_, rfl⟩
 rw [show (w.alloc (.cells #[.int .i64 v.k, .int .i64 v.m, .slice a n c] 49)).alloc (.cells #[.int .i64 0, .int .i64 0, .slice none 0 0] 49) = w1 from hw1]
 have hb : Below w.heap.size w w1 := by rw [← hw1]; exact allocs_below _ _
 have HV : Hid (w1.heap[z]? = some (.cells #[.int .i64 v.k, .int .i64 v.m, .slice a n c] 49 (0, 0))) := Lib.hid (by have := allocs_get [.cells #[.int .i64 v.k, .int .i64 v.m, .slice a n c] 49, .cells #[.int .i64 0, .int .i64 0, .slice none 0 0] 49] w 0 _ rfl; rw [hw1, hz] at this; exact this)
 have HR : Hid (w1.heap[z + 1]? = some (.cells #[.int .i64 0, .int .i64 0, .slice none 0 0] 49 (0, 0))) := Lib.hid (by have := allocs_get [.cells #[.int .i64 v.k, .int .i64 v.m, .slice a n c] 49, .cells #[.int .i64 0, .int .i64 0, .slice none 0 0] 49] w 1 _ rfl; rw [hw1, hz] at this; exact this)
 have Sz : Hid (w.heap.size = z) := Lib.hid hz
 replace HC := Lib.hid (HC.out.push hb)
 clear hb hw1 hz
 have I0 : Hid (DnI z w w1 (D 0) a n c) := Lib.hid (by
  rw [D0.out]
  refine ⟨HV.out, HR.out, HL.out.below (HC.out.to w (by simp)) rfl, HN.out, hnc, fun h0 ad had => ?_, (HC.out.to w (by simp))⟩
  have h1 := cells_in HL.out h0 ad had
  have h2 := Sz.out
  omega)
 have ZL : Hid (w.heap.size ≤ z) := Lib.hid (by have h2 := Sz.out; omega)
 clear HV HR HL HN D0
 go_wp2_with fail
 go_loopw [10] (fun u10 wr => ∃ (i : Nat) (wq : World) (ai : Option Addr) (ni ci : Nat), wq = wr ∧ u10 = .int .i64 (i : Int) ∧ i ≤ 40 ∧ i ≤ on ∧ Hid (DnI z w wq (D i) ai ni ci)) (fun u10 _ => on - (intOf u10).toNat)
 case atStart => exact ⟨0, _, a, n, c, rfl, rfl, Nat.zero_le _, Nat.zero_le _, I0⟩
 clear I0 HC
 case round =>
  obtain ⟨i, wq, ai, ni, ci, rfl, rfl, h40, hion, HI⟩ := hrel
  obtain ⟨u, hu⟩ : ∃ u, D i = u := ⟨_, rfl⟩
  have UK := Lib.hid (DK.out i)
  rw [hu] at HI UK
  have HU := Lib.hid hu
  clear hu
  have HC : Hid (Chain [wq] wq) := Lib.hid (Chain.one wq)
  have HV := Lib.hid HI.out.row
  by_cases hlt : i < on
  case neg =>
   have MN : Hid (min on 40 = i) := Lib.hid (by omega)
   have hli : ¬ (i : Int) < (on : Int) := by omega
   have HRX := HI.out.res
   have VZ := vz_one
   have kV0 := cell_of_row _ _ 0 _ _ _ HV.out
   have kV1 := cell_of_row _ _ 1 _ _ _ HV.out
   have kV2 := cell_of_row _ _ 2 _ _ _ HV.out
   go_wp2_with (refine wpList_store_row rfl 49 (.tmp 8) (.tmp 49) rfl (z + 1) #[.int .i64 u.k, .int .i64 u.m, .slice ai ni ci] rfl rfl 49 _ HRX (by kernel_rfl) rfl (by simp [Value.oneCell']) ?_)
   clear kV0 kV1 kV2
   have hx := setRow_heap _ _ _ #[.int .i64 u.k, .int .i64 u.m, .slice ai ni ci] _ _ HRX
   have r0 := cell_of_row _ _ 0 _ _ _ hx
   have r1 := cell_of_row _ _ 1 _ _ _ hx
   have r2 := cell_of_row _ _ 2 _ _ _ hx
   refine bodyPost_ret (v := .tuple #[.agg #[.int .i64 u.k, .int .i64 u.m, .slice ai ni ci], .bool true]) (by simp [results, Tryd.results31, go_sem, r0, r1, r2]) rfl ?_
   rw [MN.out, HU.out]
   exact ⟨ai, ni, ci, rfl, cells_keep HI.out.els (grown_setRow _ _ _) (fun h0 ad had => (HI.out.ne h0 ad had).2), HI.out.len, HI.out.cap, below_setRow HI.out.bel (by have := ZL.out; omega) _⟩
  have hli : (i : Int) < (on : Int) := by omega
  by_cases h4 : i < 40
  case neg =>
   have MN : Hid (min on 40 = i) := Lib.hid (by omega)
   have hl4 : ¬ (i : Int) < 40 := by omega
   have HRX := HI.out.res
   have VZ := vz_one
   have kV0 := cell_of_row _ _ 0 _ _ _ HV.out
   have kV1 := cell_of_row _ _ 1 _ _ _ HV.out
   have kV2 := cell_of_row _ _ 2 _ _ _ HV.out
   go_wp2_with (refine wpList_store_row rfl 49 (.tmp 8) (.tmp 49) rfl (z + 1) #[.int .i64 u.k, .int .i64 u.m, .slice ai ni ci] rfl rfl 49 _ HRX (by kernel_rfl) rfl (by simp [Value.oneCell']) ?_)
   clear kV0 kV1 kV2
   have hx := setRow_heap _ _ _ #[.int .i64 u.k, .int .i64 u.m, .slice ai ni ci] _ _ HRX
   have r0 := cell_of_row _ _ 0 _ _ _ hx
   have r1 := cell_of_row _ _ 1 _ _ _ hx
   have r2 := cell_of_row _ _ 2 _ _ _ hx
   refine bodyPost_ret (v := .tuple #[.agg #[.int .i64 u.k, .int .i64 u.m, .slice ai ni ci], .bool true]) (by simp [results, Tryd.results31, go_sem, r0, r1, r2]) rfl ?_
   rw [MN.out, HU.out]
   exact ⟨ai, ni, ci, rfl, cells_keep HI.out.els (grown_setRow _ _ _) (fun h0 ad had => (HI.out.ne h0 ad had).2), HI.out.len, HI.out.cap, below_setRow HI.out.bel (by have := ZL.out; omega) _⟩
  have hl4 : (i : Int) < 40 := by omega
  have hil : i < ops.length := by have := HON.out; omega
  obtain ⟨bo, oo, hoa, -⟩ := ops_get (HO.out.below HI.out.bel rfl) i hil
  subst hoa
  have PC : Hid (∀ W, Below w.heap.size w W → OpCell W bo (oo + i * 6) ops[i]) := Lib.hid (fun W hW => by
   obtain ⟨b', o', e, pc⟩ := ops_get (HO.out.below hW rfl) i hil
   cases e
   exact pc)
  have AQ : Hid (OpAt w ops[i]) := Lib.hid (HAT.out _ (List.getElem_mem hil))
  have DX : Hid (D (i + 1) = stpVl lab (g + i) u ops[i].o) := Lib.hid (by rw [DS.out i hil, HU.out])
  have DY : Hid ((D (i + 1)).ok = true) := Lib.hid (DK.out (i + 1)).1
  obtain ⟨q, hq⟩ : ∃ q, ops[i] = q := ⟨_, rfl⟩
  rw [hq] at PC AQ DX
  clear hq
  obtain ⟨gi, hgi⟩ : ∃ x : Int, g + (i : Int) = x := ⟨_, rfl⟩
  have hwr : IntKind.i64.wrap (g + (i : Int)) = gi := by rw [IntKind.wrap_i64]; omega
  rw [hgi] at DX
  clear hgi
  obtain ⟨rk, hrk⟩ : ∃ r, goG u (stpG gi lab) q.o = r := ⟨_, rfl⟩
  have AP : Hid (∀ (W : World) (ax : Option Addr) (nx cx : Nat), CellsAt W ax (elsV u.l) → nx = u.l.length → nx ≤ cx → Below w.heap.size w W → Calls Tryd.prog 54 #[.agg #[.int .i64 u.k, .int .i64 u.m, .slice ax nx cx], .agg #[.int .i64 gi, .int .i64 0, .string lab, .int .i64 1, .int .i64 0], .agg #[.slice q.a q.n q.c, .int .i64 q.o.k, .string q.o.x, .int .i64 q.o.d, .int .i64 q.o.m, .string q.o.t]] W fun e w' => ValOut W w' rk e) := Lib.hid (fun W ax nx cx h1 h2 h3 h4 => by
   have := kn_Apply u.k u.m u.l ax nx cx (stpG gi lab) q.o.p q.o.k q.o.x q.o.d q.o.m q.o.t q.a q.n q.c W h1 h2 h3 (by have := UK.out.2.1; have := DB.out; omega) UK.out.2.2 LAB.out (AQ.out.p.below h4 rfl) AQ.out.n AQ.out.z AQ.out.x (G.out.below h4)
   have e : applyG u.k u.m u.l (stpG gi lab) (checkK q.o.p q.o.k q.o.x q.o.d q.o.m q.o.t) q.o.k q.o.d q.o.m q.o.t = rk := hrk
   rw [e] at this
   exact this)
  have DX2 : Hid (D (i + 1) = if rk.2.2.2 = 0 then ⟨rk.1, rk.2.1, rk.2.2.1⟩ else u) := Lib.hid (by rw [DX.out]; unfold stpVl; rw [hrk])
  clear hrk DX
  obtain ⟨r1, r2, r3, r4⟩ := rk
  go_upto_region 5 with (fail)
  obtain ⟨zs, hzs⟩ : ∃ c, wq.heap.size = c := ⟨_, rfl⟩
  try rw [hzs]
  obtain ⟨w4, hw4⟩ : ∃ X, allocs wq [.cells #[.int .i64 gi, .int .i64 0, .string lab, .int .i64 1, .int .i64 0] 27] = X := ⟨_, rfl⟩
  rw [show wq.alloc (.cells #[.int .i64 gi, .int .i64 0, .string lab, .int .i64 1, .int .i64 0] 27) = w4 from hw4]
  have hb : Below wq.heap.size wq w4 := by rw [← hw4]; exact allocs_below _ _
  have HS : Hid (w4.heap[zs]? = some (.cells #[.int .i64 gi, .int .i64 0, .string lab, .int .i64 1, .int .i64 0] 27 (0, 0))) := Lib.hid (by have := allocs_get [.cells #[.int .i64 gi, .int .i64 0, .string lab, .int .i64 1, .int .i64 0] 27] wq 0 _ rfl; rw [hw4, hzs] at this; exact this)
  have Szs : Hid (wq.heap.size = zs) := Lib.hid hzs
  replace HC := Lib.hid (HC.out.push hb)
  clear hb hw4 hzs
  have BW := Lib.hid (HI.out.bel.trans ((HC.out.to wq (by simp)).mono HI.out.bel.size))
  have BQ := Lib.hid (HC.out.to wq (by simp))
  have HV4 := Lib.hid (boxStays HV.out (HC.out.to wq (by simp)))
  have CL : Hid (∀ W, Below w4.heap.size w4 W → CellsAt W ai (elsV u.l)) := Lib.hid (fun W hW => (HI.out.els.below BQ.out rfl).below hW rfl)
  have NL : Hid (ni = u.l.length ∧ ni ≤ ci) := Lib.hid ⟨HI.out.len, HI.out.cap⟩
  refine relG_start (slots := [32, 33, 34, 35, 36, 37, 38, 31, 39, 40, 12, 13]) (so := [11]) (by kernel_rfl) (by kernel_rfl) (by rfl) ?_
  refine relG_pure (i := 0) (o := ⟨some 32, _, _, _, _, _⟩) (v := ?v1) [] [4] rfl rfl (by kernel_rfl) (by kernel_rfl) (fun t w1 hB hf hbf => ?y1) ?n1
  case y1 =>
   simp only [BasF] at hbf
   clear hf
   obtain ⟨⟨b4, k4⟩, _⟩ := hbf
   have hv := boxStays HV4.out hB
   have k0 := cell_of_row _ z 0 _ _ _ hv
   have k1 := cell_of_row _ z 1 _ _ _ hv
   have k2 := cell_of_row _ z 2 _ _ _ hv
   have hs := boxStays HS.out hB
   have s0 := cell_of_row _ zs 0 _ _ _ hs
   have s1 := cell_of_row _ zs 1 _ _ _ hs
   have s2 := cell_of_row _ zs 2 _ _ _ hs
   have s3 := cell_of_row _ zs 3 _ _ _ hs
   have s4 := cell_of_row _ zs 4 _ _ _ hs
   clear hv hs
   obtain ⟨p0, p1, p2, p3, p4, p5⟩ := PC.out w1 (BW.out.trans (hB.mono BW.out.size))
   refine Or.inl ⟨wanted_none rfl, ?_⟩
   rintro _ rfl
   go_simp <;> with_reducible rfl
  refine relG_pure (i := 1) (o := ⟨some 33, _, _, _, _, _⟩) (v := ?v2) [] [11] rfl rfl (by kernel_rfl) (by kernel_rfl) (fun t w1 hB hf hbf => ?y2) ?n2
  case y2 =>
   simp only [BasF] at hbf
   clear hf
   obtain ⟨⟨b11, k11⟩, _⟩ := hbf
   have hv := boxStays HV4.out hB
   have k0 := cell_of_row _ z 0 _ _ _ hv
   have k1 := cell_of_row _ z 1 _ _ _ hv
   have k2 := cell_of_row _ z 2 _ _ _ hv
   have hs := boxStays HS.out hB
   have s0 := cell_of_row _ zs 0 _ _ _ hs
   have s1 := cell_of_row _ zs 1 _ _ _ hs
   have s2 := cell_of_row _ zs 2 _ _ _ hs
   have s3 := cell_of_row _ zs 3 _ _ _ hs
   have s4 := cell_of_row _ zs 4 _ _ _ hs
   clear hv hs
   obtain ⟨p0, p1, p2, p3, p4, p5⟩ := PC.out w1 (BW.out.trans (hB.mono BW.out.size))
   refine Or.inl ⟨wanted_none rfl, ?_⟩
   rintro _ rfl
   go_simp <;> with_reducible rfl
  refine relG_pure (i := 2) (o := ⟨some 34, _, _, _, _, _⟩) (v := ?v3) [] [1] rfl rfl (by kernel_rfl) (by kernel_rfl) (fun t w1 hB hf hbf => ?y3) ?n3
  case y3 =>
   simp only [BasF] at hbf
   clear hf
   obtain ⟨⟨b1, k1⟩, _⟩ := hbf
   have hv := boxStays HV4.out hB
   have k0 := cell_of_row _ z 0 _ _ _ hv
   have k1 := cell_of_row _ z 1 _ _ _ hv
   have k2 := cell_of_row _ z 2 _ _ _ hv
   have hs := boxStays HS.out hB
   have s0 := cell_of_row _ zs 0 _ _ _ hs
   have s1 := cell_of_row _ zs 1 _ _ _ hs
   have s2 := cell_of_row _ zs 2 _ _ _ hs
   have s3 := cell_of_row _ zs 3 _ _ _ hs
   have s4 := cell_of_row _ zs 4 _ _ _ hs
   clear hv hs
   obtain ⟨p0, p1, p2, p3, p4, p5⟩ := PC.out w1 (BW.out.trans (hB.mono BW.out.size))
   refine Or.inl ⟨wanted_none rfl, ?_⟩
   rintro _ rfl
   go_simp <;> with_reducible rfl
  refine relG_pure (i := 3) (o := ⟨some 35, _, _, _, _, _⟩) (v := ?v4) [] [10] rfl rfl (by kernel_rfl) (by kernel_rfl) (fun t w1 hB hf hbf => ?y4) ?n4
  case y4 =>
   simp only [BasF] at hbf
   clear hf
   obtain ⟨⟨b10, k10⟩, _⟩ := hbf
   have hv := boxStays HV4.out hB
   have k0 := cell_of_row _ z 0 _ _ _ hv
   have k1 := cell_of_row _ z 1 _ _ _ hv
   have k2 := cell_of_row _ z 2 _ _ _ hv
   have hs := boxStays HS.out hB
   have s0 := cell_of_row _ zs 0 _ _ _ hs
   have s1 := cell_of_row _ zs 1 _ _ _ hs
   have s2 := cell_of_row _ zs 2 _ _ _ hs
   have s3 := cell_of_row _ zs 3 _ _ _ hs
   have s4 := cell_of_row _ zs 4 _ _ _ hs
   clear hv hs
   obtain ⟨p0, p1, p2, p3, p4, p5⟩ := PC.out w1 (BW.out.trans (hB.mono BW.out.size))
   refine Or.inl ⟨wanted_none rfl, ?_⟩
   rintro _ rfl
   go_simp <;> with_reducible rfl
  refine relG_pure (i := 4) (o := ⟨some 36, _, _, _, _, _⟩) (v := ?v5) [(2, 34, 1), (3, 35, 0)] [] rfl rfl (by kernel_rfl) (by kernel_rfl) (fun t w1 hB hf hbf => ?y5) ?n5
  case y5 =>
   simp only [DepF, List.getD_cons_zero, List.getD_cons_succ] at hf
   obtain ⟨⟨_, ⟨e34, i34⟩, rfl⟩, ⟨_, ⟨e35, i35⟩, rfl⟩, _⟩ := hf
   clear hbf
   have hv := boxStays HV4.out hB
   have k0 := cell_of_row _ z 0 _ _ _ hv
   have k1 := cell_of_row _ z 1 _ _ _ hv
   have k2 := cell_of_row _ z 2 _ _ _ hv
   have hs := boxStays HS.out hB
   have s0 := cell_of_row _ zs 0 _ _ _ hs
   have s1 := cell_of_row _ zs 1 _ _ _ hs
   have s2 := cell_of_row _ zs 2 _ _ _ hs
   have s3 := cell_of_row _ zs 3 _ _ _ hs
   have s4 := cell_of_row _ zs 4 _ _ _ hs
   clear hv hs
   obtain ⟨p0, p1, p2, p3, p4, p5⟩ := PC.out w1 (BW.out.trans (hB.mono BW.out.size))
   refine Or.inl ⟨wanted_none rfl, ?_⟩
   rintro _ rfl
   go_simp <;> with_reducible rfl
  refine relG_pure (i := 5) (o := ⟨some 37, _, _, _, _, _⟩) (v := ?v6) [(4, 36, 0)] [] rfl rfl (by kernel_rfl) (by kernel_rfl) (fun t w1 hB hf hbf => ?y6) ?n6
  case y6 =>
   simp only [DepF, List.getD_cons_zero] at hf
   obtain ⟨⟨_, ⟨e36, i36⟩, rfl⟩, _⟩ := hf
   clear hbf
   have hv := boxStays HV4.out hB
   have k0 := cell_of_row _ z 0 _ _ _ hv
   have k1 := cell_of_row _ z 1 _ _ _ hv
   have k2 := cell_of_row _ z 2 _ _ _ hv
   have hs := boxStays HS.out hB
   have s0 := cell_of_row _ zs 0 _ _ _ hs
   have s1 := cell_of_row _ zs 1 _ _ _ hs
   have s2 := cell_of_row _ zs 2 _ _ _ hs
   have s3 := cell_of_row _ zs 3 _ _ _ hs
   have s4 := cell_of_row _ zs 4 _ _ _ hs
   clear hv hs
   obtain ⟨p0, p1, p2, p3, p4, p5⟩ := PC.out w1 (BW.out.trans (hB.mono BW.out.size))
   refine Or.inl ⟨wanted_none rfl, ?_⟩
   rintro _ rfl
   go_simp <;> with_reducible rfl
  refine relG_call (i := 6) (o := ⟨some 38, _, _, _, _, _⟩) ((fun v w' => ∃ (a : Option Addr) (n c : Nat), v = .tuple #[.agg #[.int .i64 r1, .int .i64 r2, .slice a n c], .int .i64 r4] ∧ CellsAt w' a (elsV r3) ∧ Hid (n = r3.length) ∧ n ≤ c ∧ (∀ ad, a = some ad → w4.heap.size ≤ ad.block))) [(0, 32, 5), (1, 33, 4), (5, 37, 0)] [] rfl rfl (by kernel_rfl) (by kernel_rfl) ((fun v w' w'' h hb => by obtain ⟨a, n, c, e1, e2, e3, e4, e5⟩ := h; exact ⟨a, n, c, e1, e2.below hb rfl, e3, e4, e5⟩)) ?_ ?_
  · intro t w1 hB hf hbf K hK
    simp only [DepF, List.getD_cons_zero, List.getD_cons_succ] at hf
    obtain ⟨⟨_, ⟨e32, i32⟩, rfl⟩, ⟨_, ⟨e33, i33⟩, rfl⟩, ⟨_, ⟨e37, i37⟩, rfl⟩, _⟩ := hf
    clear hbf
    have hv := boxStays HV4.out hB
    have k0 := cell_of_row _ z 0 _ _ _ hv
    have k1 := cell_of_row _ z 1 _ _ _ hv
    have k2 := cell_of_row _ z 2 _ _ _ hv
    have hs := boxStays HS.out hB
    have s0 := cell_of_row _ zs 0 _ _ _ hs
    have s1 := cell_of_row _ zs 1 _ _ _ hs
    have s2 := cell_of_row _ zs 2 _ _ _ hs
    have s3 := cell_of_row _ zs 3 _ _ _ hs
    have s4 := cell_of_row _ zs 4 _ _ _ hs
    clear hv hs
    obtain ⟨p0, p1, p2, p3, p4, p5⟩ := PC.out w1 (BW.out.trans (hB.mono BW.out.size))
    refine ⟨wanted_none rfl, ?_⟩
    go_simp
    refine (AP.out w1 ai ni ci (CL.out w1 hB) NL.out.1 NL.out.2 (BW.out.trans (hB.mono BW.out.size))).mono ?_
    rintro e w2 ⟨a', n', c', rfl, h1, h2, h3, h4, hb⟩
    exact hK.out _ w2 (⟨a', n', c', rfl, h1, Lib.hid h2, h3, fun ad had => Nat.le_trans hB.size (h4 ad had)⟩) hb
  refine relG_call (i := 7) (o := ⟨some 31, _, _, _, _, _⟩) ((fun v w' => ∃ (a : Option Addr) (n c : Nat), v = .tuple #[.agg #[.int .i64 r1, .int .i64 r2, .slice a n c], .int .i64 r4] ∧ CellsAt w' a (elsV r3) ∧ Hid (n = r3.length) ∧ n ≤ c ∧ (∀ ad, a = some ad → w4.heap.size ≤ ad.block))) [(6, 38, 0)] [] rfl rfl (by kernel_rfl) (by kernel_rfl) ((fun v w' w'' h hb => by obtain ⟨a, n, c, e1, e2, e3, e4, e5⟩ := h; exact ⟨a, n, c, e1, e2.below hb rfl, e3, e4, e5⟩)) ?_ ?_
  · intro t w1 hB hf hbf K hK
    simp only [DepF, List.getD_cons_zero] at hf
    obtain ⟨⟨_, ⟨e38, i38⟩, ⟨a', n', c', rfl, h1, h2, h3, h4⟩⟩, _⟩ := hf
    clear hbf
    have hv := boxStays HV4.out hB
    have k0 := cell_of_row _ z 0 _ _ _ hv
    have k1 := cell_of_row _ z 1 _ _ _ hv
    have k2 := cell_of_row _ z 2 _ _ _ hv
    have hs := boxStays HS.out hB
    have s0 := cell_of_row _ zs 0 _ _ _ hs
    have s1 := cell_of_row _ zs 1 _ _ _ hs
    have s2 := cell_of_row _ zs 2 _ _ _ hs
    have s3 := cell_of_row _ zs 3 _ _ _ hs
    have s4 := cell_of_row _ zs 4 _ _ _ hs
    clear hv hs
    obtain ⟨p0, p1, p2, p3, p4, p5⟩ := PC.out w1 (BW.out.trans (hB.mono BW.out.size))
    refine ⟨wanted_none rfl, ?_⟩
    go_simp
    exact hK.out _ _ (⟨a', n', c', rfl, h1, h2, h3, h4⟩) (Below.refl _ _)
  refine relG_call (i := 8) (o := ⟨some 39, _, _, _, _, _⟩) ((fun v w' => ∃ (a : Option Addr) (n c : Nat), v = .agg #[.int .i64 r1, .int .i64 r2, .slice a n c] ∧ CellsAt w' a (elsV r3) ∧ Hid (n = r3.length) ∧ n ≤ c ∧ (∀ ad, a = some ad → w4.heap.size ≤ ad.block))) [(7, 31, 0)] [] rfl rfl (by kernel_rfl) (by kernel_rfl) ((fun v w' w'' h hb => by obtain ⟨a, n, c, e1, e2, e3, e4, e5⟩ := h; exact ⟨a, n, c, e1, e2.below hb rfl, e3, e4, e5⟩)) ?_ ?_
  · intro t w1 hB hf hbf K hK
    simp only [DepF, List.getD_cons_zero] at hf
    obtain ⟨⟨_, ⟨e31, i31⟩, ⟨a', n', c', rfl, h1, h2, h3, h4⟩⟩, _⟩ := hf
    clear hbf
    have hv := boxStays HV4.out hB
    have k0 := cell_of_row _ z 0 _ _ _ hv
    have k1 := cell_of_row _ z 1 _ _ _ hv
    have k2 := cell_of_row _ z 2 _ _ _ hv
    have hs := boxStays HS.out hB
    have s0 := cell_of_row _ zs 0 _ _ _ hs
    have s1 := cell_of_row _ zs 1 _ _ _ hs
    have s2 := cell_of_row _ zs 2 _ _ _ hs
    have s3 := cell_of_row _ zs 3 _ _ _ hs
    have s4 := cell_of_row _ zs 4 _ _ _ hs
    clear hv hs
    obtain ⟨p0, p1, p2, p3, p4, p5⟩ := PC.out w1 (BW.out.trans (hB.mono BW.out.size))
    refine ⟨wanted_none rfl, ?_⟩
    go_simp
    exact hK.out _ _ (⟨a', n', c', rfl, h1, h2, h3, h4⟩) (Below.refl _ _)
  refine relG_pure (i := 9) (o := ⟨some 40, _, _, _, _, _⟩) (v := ?v7) [(7, 31, 1)] [] rfl rfl (by kernel_rfl) (by kernel_rfl) (fun t w1 hB hf hbf => ?y7) ?n7
  case y7 =>
   simp only [DepF, List.getD_cons_zero, List.getD_cons_succ] at hf
   obtain ⟨⟨_, ⟨e31, i31⟩, ⟨a', n', c', rfl, h1, h2, h3, h4⟩⟩, _⟩ := hf
   clear hbf
   have hv := boxStays HV4.out hB
   have k0 := cell_of_row _ z 0 _ _ _ hv
   have k1 := cell_of_row _ z 1 _ _ _ hv
   have k2 := cell_of_row _ z 2 _ _ _ hv
   have hs := boxStays HS.out hB
   have s0 := cell_of_row _ zs 0 _ _ _ hs
   have s1 := cell_of_row _ zs 1 _ _ _ hs
   have s2 := cell_of_row _ zs 2 _ _ _ hs
   have s3 := cell_of_row _ zs 3 _ _ _ hs
   have s4 := cell_of_row _ zs 4 _ _ _ hs
   clear hv hs
   obtain ⟨p0, p1, p2, p3, p4, p5⟩ := PC.out w1 (BW.out.trans (hB.mono BW.out.size))
   refine Or.inl ⟨wanted_none rfl, ?_⟩
   rintro _ rfl
   go_simp <;> with_reducible rfl
  refine relG_call (i := 10) (o := ⟨some 12, _, _, _, _, _⟩) ((fun v w' => ∃ b, v = .pointer (some ⟨b, 0, none⟩) ∧ w4.heap.size ≤ b ∧ w'.heap[b]? = some (.cells #[.int .i64 0, .int .i64 0, .slice none 0 0] 49 (0, 0)))) [] [] rfl rfl (by kernel_rfl) (by kernel_rfl) ((fun v w' w'' h hb => by obtain ⟨b, e1, e2, e3⟩ := h; exact ⟨b, e1, e2, boxStays e3 hb⟩)) ?_ ?_
  · intro t w1 hB hf hbf K hK
    clear hf
    clear hbf
    have hv := boxStays HV4.out hB
    have k0 := cell_of_row _ z 0 _ _ _ hv
    have k1 := cell_of_row _ z 1 _ _ _ hv
    have k2 := cell_of_row _ z 2 _ _ _ hv
    have hs := boxStays HS.out hB
    have s0 := cell_of_row _ zs 0 _ _ _ hs
    have s1 := cell_of_row _ zs 1 _ _ _ hs
    have s2 := cell_of_row _ zs 2 _ _ _ hs
    have s3 := cell_of_row _ zs 3 _ _ _ hs
    have s4 := cell_of_row _ zs 4 _ _ _ hs
    clear hv hs
    obtain ⟨p0, p1, p2, p3, p4, p5⟩ := PC.out w1 (BW.out.trans (hB.mono BW.out.size))
    refine ⟨wanted_none rfl, ?_⟩
    go_simp
    exact hK.out _ _ (⟨_, rfl, hB.size, heap_alloc_new _ _⟩) (below_new _ _)
  refine relG_skip 11 rfl (by rfl) ?_ (by kernel_rfl)
  refine relG_pure (i := 12) (o := ⟨some 13, _, _, _, _, _⟩) (v := ?v8) [(9, 40, 2)] [] rfl rfl (by kernel_rfl) (by kernel_rfl) (fun t w1 hB hf hbf => ?y8) ?n8
  case y8 =>
   simp only [DepF, List.getD_cons_zero, List.getD_cons_succ] at hf
   obtain ⟨⟨_, ⟨e40, i40⟩, rfl⟩, _⟩ := hf
   clear hbf
   have hv := boxStays HV4.out hB
   have k0 := cell_of_row _ z 0 _ _ _ hv
   have k1 := cell_of_row _ z 1 _ _ _ hv
   have k2 := cell_of_row _ z 2 _ _ _ hv
   have hs := boxStays HS.out hB
   have s0 := cell_of_row _ zs 0 _ _ _ hs
   have s1 := cell_of_row _ zs 1 _ _ _ hs
   have s2 := cell_of_row _ zs 2 _ _ _ hs
   have s3 := cell_of_row _ zs 3 _ _ _ hs
   have s4 := cell_of_row _ zs 4 _ _ _ hs
   clear hv hs
   obtain ⟨p0, p1, p2, p3, p4, p5⟩ := PC.out w1 (BW.out.trans (hB.mono BW.out.size))
   refine Or.inl ⟨wanted_none rfl, ?_⟩
   rintro _ rfl
   go_simp <;> with_reducible rfl
  refine relG_own 11 12 10 39 8 [(0, 32, 12), (1, 33, 11), (2, 34, 10), (3, 35, 9), (4, 36, 8), (5, 37, 7), (6, 38, 6), (7, 31, 5), (8, 39, 4), (9, 40, 3), (10, 12, 2), (12, 13, 0)] [(0, 32, 12), (1, 33, 11), (2, 34, 10), (3, 35, 9), (4, 36, 8), (5, 37, 7), (6, 38, 6), (7, 31, 5), (8, 39, 4), (10, 12, 2)] (by kernel_rfl) rfl (by kernel_rfl) (by kernel_rfl) (by kernel_rfl) (by kernel_rfl) ?_ (fun f wE hB hf => ?_)
  · intro f w1 hB hf K hK
    simp only [FinF, List.getD_cons_zero, List.getD_cons_succ] at hf
    obtain ⟨⟨_, e32, rfl⟩, ⟨_, e33, rfl⟩, ⟨_, e34, rfl⟩, ⟨_, e35, rfl⟩, ⟨_, e36, rfl⟩, ⟨_, e37, rfl⟩, ⟨_, e38, ⟨a', n', c', rfl, h1, h2, h3, h4⟩⟩, ⟨_, e31, ⟨a', n', c', rfl, h1, h2, h3, h4⟩⟩, ⟨_, e39, ⟨a5, n5, c5, rfl, h1, h2, h3, h4⟩⟩, ⟨_, e12, ⟨zb5, rfl, hbb, hbr⟩⟩, _⟩ := hf
    have hv := boxStays HV4.out hB
    have k0 := cell_of_row _ z 0 _ _ _ hv
    have k1 := cell_of_row _ z 1 _ _ _ hv
    have k2 := cell_of_row _ z 2 _ _ _ hv
    have hs := boxStays HS.out hB
    have s0 := cell_of_row _ zs 0 _ _ _ hs
    have s1 := cell_of_row _ zs 1 _ _ _ hs
    have s2 := cell_of_row _ zs 2 _ _ _ hs
    have s3 := cell_of_row _ zs 3 _ _ _ hs
    have s4 := cell_of_row _ zs 4 _ _ _ hs
    clear hv hs
    obtain ⟨p0, p1, p2, p3, p4, p5⟩ := PC.out w1 (BW.out.trans (hB.mono BW.out.size))
    refine sto_own (i := 11) 49 12 39 zb5 (#[.int .i64 r1, .int .i64 r2, .slice a5 n5 c5]) _ _ rfl rfl rfl rfl (by rfl) (by rfl) e12 (by rfl) (by rfl) e39 (hbr) (by kernel_rfl) rfl ((by simp [Value.oneCell'])) hK
  simp only [FinF, List.getD_cons_zero, List.getD_cons_succ] at hf
  obtain ⟨⟨_, e32, rfl⟩, ⟨_, e33, rfl⟩, ⟨_, e34, rfl⟩, ⟨_, e35, rfl⟩, ⟨_, e36, rfl⟩, ⟨_, e37, rfl⟩, ⟨_, e38, ⟨a', n', c', rfl, h1, h2, h3, h4⟩⟩, ⟨_, e31, ⟨a', n', c', rfl, h1, h2, h3, h4⟩⟩, ⟨_, e39, ⟨a5, n5, c5, rfl, h1, h2, h3, h4⟩⟩, ⟨_, e40, rfl⟩, ⟨_, e12, ⟨zb5, rfl, hbb, hbr⟩⟩, ⟨_, e13, rfl⟩, _⟩ := hf
  simp only [blkOf, Value.cells, regT, List.foldl_cons, List.foldl_nil, List.setIfInBounds_toArray, List.set_cons_zero, List.set_cons_succ, e32, e33, e34, e35, e36, e37, e38, e31, e39, e40, e12, e13]
  clear e32 e33 e34 e35 e36 e37 e38 e31 e39 e40 e12 e13
  have hEL : CellsAt (wE.setRow zb5 #[.int .i64 r1, .int .i64 r2, .slice a5 n5 c5]) a5 (elsV r3) := cells_keep h1 (grown_setRow _ _ _) (fun h0 => by
   cases r3 with
   | nil => exact absurd rfl h0
   | cons e r3 => exact ne_cellsG h1 hbr)
  have EL5 := Lib.hid hEL
  have X5 := Lib.hid (setRow_heap _ _ _ #[.int .i64 r1, .int .i64 r2, .slice a5 n5 c5] _ _ hbr)
  have F5 := Lib.hid h4
  have N5 : Hid (n5 = r3.length ∧ n5 ≤ c5) := Lib.hid ⟨h2.out, h3⟩
  have QC : Below w4.heap.size w4 (wE.setRow zb5 #[.int .i64 r1, .int .i64 r2, .slice a5 n5 c5]) := below_setRow hB hbb #[.int .i64 r1, .int .i64 r2, .slice a5 n5 c5]
  clear h1 h2 h3 h4 hbr hB hbb hEL
  generalize wE.setRow zb5 #[.int .i64 r1, .int .i64 r2, .slice a5 n5 c5] = w5 at *
  have hb := QC
  replace HC := Lib.hid (HC.out.push hb)
  clear hb
  clear QC
  have I5 : Hid (DnI z w w5 u ai ni ci) := Lib.hid (HI.out.below (HC.out.to wq (by simp)))
  have ZQ : Hid (z + 1 < w4.heap.size) := Lib.hid (by have h1 := (Array.getElem?_eq_some_iff.1 HI.out.res).1; have h2 := BQ.out.size; omega)
  clear CL NL HI BQ HV4 HV PC AQ AP HU UK HC
  by_cases h0 : r4 = 0
  · have DX3 : Hid (D (i + 1) = ⟨r1, r2, r3⟩) := Lib.hid (by rw [DX2.out, if_pos h0])
    have HZ5 := I5.out.row
    have x0 := cell_of_row _ zb5 0 _ _ _ X5.out
    have x1 := cell_of_row _ zb5 1 _ _ _ X5.out
    have x2 := cell_of_row _ zb5 2 _ _ _ X5.out
    subst h0
    go_wp2_with fail
    refine (kn_numK _ _).mono ?_
    rintro _ w9 ⟨rfl, hw9⟩
    rw [hw9]
    clear hw9 w9
    go_upto_region 8 with (refine wpList_store_row rfl 49 (.tmp 4) (.tmp 44) rfl z #[.int .i64 r1, .int .i64 r2, .slice a5 n5 c5] rfl rfl 49 _ HZ5 (by kernel_rfl) rfl (by simp [Value.oneCell']) ?_)
    clear x0 x1 x2
    have I6 : Hid (DnI z w (w5.setRow z #[.int .i64 r1, .int .i64 r2, .slice a5 n5 c5]) (D (i + 1)) a5 n5 c5) := Lib.hid (by
     rw [DX3.out]
     refine ⟨setRow_heap _ _ _ _ _ _ HZ5, (setRow_other _ _ _ _ (by omega)).trans I5.out.res, cells_keep EL5.out (grown_setRow _ _ _) (fun _ ad had => by have h1 := F5.out ad had; have h2 := ZQ.out; omega), N5.out.1, N5.out.2, fun _ ad had => by have h1 := F5.out ad had; have h2 := ZQ.out; omega, below_setRow I5.out.bel ZL.out _⟩)
    have DL : Hid ((D (i + 1)).l.length ≤ 2000) := Lib.hid (by have h1 := (DK.out (i + 1)).2.1; have h2 := DB.out; omega)
    have DZ := Lib.hid (DK.out (i + 1)).2.2
    have DY2 : Hid (valG (D (i + 1)).k (D (i + 1)).m (D (i + 1)).l = true) := Lib.hid DY.out
    clear HZ5 I5 EL5 X5 DX2 DX3 F5 N5 hwr
    generalize w5.setRow z #[.int .i64 r1, .int .i64 r2, .slice a5 n5 c5] = w6 at *
    have hrow := I6.out.row
    have k0 := cell_of_row _ z 0 _ _ _ hrow
    have k1 := cell_of_row _ z 1 _ _ _ hrow
    have k2 := cell_of_row _ z 2 _ _ _ hrow
    go_wp2_with fail
    clear hrow k0 k1 k2
    refine (kn_Value _ _ _ _ _ _ _ I6.out.els I6.out.len (by have := I6.out.len; have := DL.out; omega) DZ.out).mono ?_
    rintro _ w7 ⟨rfl, hb⟩
    rw [DY2.out]
    have I7 := Lib.hid (I6.out.below hb)
    clear hb I6
    go_wp2_with fail
    go_roundw
    case rel => exact ⟨i + 1, w7, _, _, _, rfl, by go_num, by omega, by omega, I7⟩
    case measure => simp [intOf]; omega
  · have DX3 : Hid (D (i + 1) = u) := Lib.hid (by rw [DX2.out, if_neg h0])
    have h0b : (r4 == 0) = false := by simp [h0]
    have I6 : Hid (DnI z w w5 (D (i + 1)) ai ni ci) := Lib.hid (by rw [DX3.out]; exact I5.out)
    have DL : Hid ((D (i + 1)).l.length ≤ 2000) := Lib.hid (by have h1 := (DK.out (i + 1)).2.1; have h2 := DB.out; omega)
    have DZ := Lib.hid (DK.out (i + 1)).2.2
    have DY2 : Hid (valG (D (i + 1)).k (D (i + 1)).m (D (i + 1)).l = true) := Lib.hid DY.out
    clear I5 EL5 X5 DX2 DX3 F5 N5 hwr
    go_wp2_with fail
    refine (kn_numK _ _).mono ?_
    rintro _ w9 ⟨rfl, hw9⟩
    rw [hw9]
    clear hw9 w9
    have hrow := I6.out.row
    have k0 := cell_of_row _ z 0 _ _ _ hrow
    have k1 := cell_of_row _ z 1 _ _ _ hrow
    have k2 := cell_of_row _ z 2 _ _ _ hrow
    go_wp2_with fail
    clear hrow k0 k1 k2
    refine (kn_Value _ _ _ _ _ _ _ I6.out.els I6.out.len (by have := I6.out.len; have := DL.out; omega) DZ.out).mono ?_
    rintro _ w7 ⟨rfl, hb⟩
    rw [DY2.out]
    have I7 := Lib.hid (I6.out.below hb)
    clear hb I6
    go_wp2_with fail
    go_roundw
    case rel => exact ⟨i + 1, w7, _, _, _, rfl, by go_num, by omega, by omega, I7⟩
    case measure => simp [intOf]; omega
end Go.Proofs.YtjlliohjeiclaaaDoor
namespace Go.Proofs.YtjlliohjeiclaaaDoor
open Go.RowKit Go.Sort St Pm Kn
def layF0_ren : Go.Shelf.Ren := ⟨fun | 6 => 66 | 14 => 92 | 15 => 93 | 20 => 111 | 21 => 112 | 22 => 113 | 23 => 114 | 24 => 115 | 25 => 116 | 26 => 117 | 27 => 118 | 28 => 119 | 29 => 120 | 46 => 147 | 47 => 148 | 48 => 149 | 49 => 150 | 50 => 151 | 57 => 166 | n => n, fun | 0 => 0 | 3 => 3 | 4 => 4 | 5 => 5 | 9 => 9 | 22 => 47 | 24 => 33 | 25 => 120 | 39 => 147 | 45 => 173 | 46 => 174 | 50 => 178 | 53 => 181 | 55 => 183 | 66 => 210 | 70 => 214 | 76 => 222 | 77 => 223 | n => n, fun n => n⟩
theorem layF0 : Go.Proofs.SlLaysF0.n6 Tryd.prog layF0_ren := {
 mixed := by kernel_rfl
 f6 := ⟨"slices.SortFunc[[]estuary/api.Element,estuary/api.Element]", by decide, Tryd.func66.trans (congrArg some (by kernel_rfl))⟩
 f14 := ⟨"slices.pdqsortCmpFunc[estuary/api.Element]", by decide, Tryd.func92.trans (congrArg some (by kernel_rfl))⟩
 f15 := Tryd.func93.trans (congrArg some (by kernel_rfl))
 f20 := ⟨"slices.insertionSortCmpFunc[estuary/api.Element]", by decide, Tryd.func111.trans (congrArg some (by kernel_rfl))⟩
 f21 := ⟨"slices.heapSortCmpFunc[estuary/api.Element]", by decide, Tryd.func112.trans (congrArg some (by kernel_rfl))⟩
 f22 := ⟨"slices.breakPatternsCmpFunc[estuary/api.Element]", by decide, Tryd.func113.trans (congrArg some (by kernel_rfl))⟩
 f23 := ⟨"slices.choosePivotCmpFunc[estuary/api.Element]", by decide, Tryd.func114.trans (congrArg some (by kernel_rfl))⟩
 f24 := ⟨"slices.reverseRangeCmpFunc[estuary/api.Element]", by decide, Tryd.func115.trans (congrArg some (by kernel_rfl))⟩
 f25 := ⟨"slices.partialInsertionSortCmpFunc[estuary/api.Element]", by decide, Tryd.func116.trans (congrArg some (by kernel_rfl))⟩
 f26 := ⟨"slices.partitionEqualCmpFunc[estuary/api.Element]", by decide, Tryd.func117.trans (congrArg some (by kernel_rfl))⟩
 f27 := ⟨"slices.partitionCmpFunc[estuary/api.Element]", by decide, Tryd.func118.trans (congrArg some (by kernel_rfl))⟩
 f28 := Tryd.func119.trans (congrArg some (by kernel_rfl))
 f29 := Tryd.func120.trans (congrArg some (by kernel_rfl))
 f46 := ⟨"slices.siftDownCmpFunc[estuary/api.Element]", by decide, Tryd.func147.trans (congrArg some (by kernel_rfl))⟩
 f47 := Tryd.func148.trans (congrArg some (by kernel_rfl))
 f48 := Tryd.func149.trans (congrArg some (by kernel_rfl))
 f49 := ⟨"slices.medianAdjacentCmpFunc[estuary/api.Element]", by decide, Tryd.func150.trans (congrArg some (by kernel_rfl))⟩
 f50 := ⟨"slices.medianCmpFunc[estuary/api.Element]", by decide, Tryd.func151.trans (congrArg some (by kernel_rfl))⟩
 f57 := ⟨"slices.order2CmpFunc[estuary/api.Element]", by decide, Tryd.func166.trans (congrArg some (by kernel_rfl))⟩
 t0 := Tryd.underlying0
 a0 := Tryd.isAgg0
 z0 := Tryd.sizeOf0
 v0 := Tryd.zeroValue0
 t3 := Tryd.underlying3
 a3 := Tryd.isAgg3
 z3 := Tryd.sizeOf3
 v3 := Tryd.zeroValue3
 t4 := Tryd.underlying4
 a4 := Tryd.isAgg4
 z4 := Tryd.sizeOf4
 v4 := Tryd.zeroValue4
 t5 := Tryd.underlying5
 a5 := Tryd.isAgg5
 z5 := Tryd.sizeOf5
 v5 := Tryd.zeroValue5
 t9 := Tryd.underlying9
 a9 := Tryd.isAgg9
 z9 := Tryd.sizeOf9
 v9 := Tryd.zeroValue9
 t22 := Tryd.underlying47
 a22 := Tryd.isAgg47
 z22 := Tryd.sizeOf47
 v22 := Tryd.zeroValue47
 t25 := Tryd.underlying120
 a25 := Tryd.isAgg120
 z25 := Tryd.sizeOf120
 v25 := Tryd.zeroValue120
 t39 := Tryd.underlying147
 a39 := Tryd.isAgg147
 z39 := Tryd.sizeOf147
 v39 := Tryd.zeroValue147
 t45 := Tryd.underlying173
 a45 := Tryd.isAgg173
 z45 := Tryd.sizeOf173
 v45 := Tryd.zeroValue173
 t46 := Tryd.underlying174
 a46 := Tryd.isAgg174
 z46 := Tryd.sizeOf174
 v46 := Tryd.zeroValue174
 t50 := Tryd.underlying178
 a50 := Tryd.isAgg178
 z50 := Tryd.sizeOf178
 v50 := Tryd.zeroValue178
 t53 := Tryd.underlying181
 a53 := Tryd.isAgg181
 z53 := Tryd.sizeOf181
 v53 := Tryd.zeroValue181
 t55 := Tryd.underlying183
 a55 := Tryd.isAgg183
 z55 := Tryd.sizeOf183
 v55 := Tryd.zeroValue183
 t66 := Tryd.underlying210
 a66 := Tryd.isAgg210
 z66 := Tryd.sizeOf210
 v66 := Tryd.zeroValue210
 t70 := Tryd.underlying214
 a70 := Tryd.isAgg214
 z70 := Tryd.sizeOf214
 v70 := Tryd.zeroValue214
 t76 := Tryd.underlying222
 a76 := Tryd.isAgg222
 z76 := Tryd.sizeOf222
 v76 := Tryd.zeroValue222
 t77 := Tryd.underlying223
 a77 := Tryd.isAgg223
 z77 := Tryd.sizeOf223
 v77 := Tryd.zeroValue223
}
instance : Inhabited Ev := ⟨(⟨0, 0, ⟨#[]⟩, 0, 0⟩, ⟨#[]⟩)⟩
theorem flat_els (d : Array Ev) : flatK elV 6 d = (elsV d.toList).toArray := by
 have hs : (flatK elV 6 d).size = (elsV d.toList).toArray.size := by simp [elsV_length]
 refine ext_get! hs fun t ht => ?_
 rw [size_flatK] at ht
 rw [get_flatK _ _ _ _ ht]
 have h1 : t / 6 < d.toList.length := by rw [Array.length_toList]; omega
 have h2 := elsV_get d.toList (t / 6) (t % 6) h1 (by omega)
 have e : t / 6 * 6 + t % 6 = t := by omega
 rw [e] at h2
 have h3 : d[t / 6]! = d.toList[t / 6] := by rw [getElem!_pos d (t / 6) (by simpa using h1)]; rfl
 have hl : t < (elsV d.toList).length := by rw [elsV_length, Array.length_toList]; exact ht
 have h5 : (elV d.toList[t / 6]).length = 6 := rfl
 rw [h3, getElem!_pos _ (t % 6) (by rw [h5]; omega), getElem!_pos _ t (by simpa using hl)]
 rw [List.getElem?_eq_getElem hl, List.getElem?_eq_getElem (by rw [h5]; omega)] at h2
 exact (Option.some.inj h2).symm
theorem holds_own {w : World} {base n g c : Nat} {e : TypeId} {l : List Ev} (h : w.ownsRow base e 6 (.slice (some ⟨g, 0, none⟩) n c) n (elsV l)) : HoldsK elV 6 w g 0 l.toArray := by
 intro j hj
 rw [flat_els] at hj ⊢
 have hl : j < (elsV l).length := by simpa using hj
 obtain ⟨h1, h2⟩ := own_cellM h j hl
 rw [Nat.zero_add]
 refine ⟨?_, h2⟩
 rw [h1, getElem!_pos _ j (by simpa using hl)]
 rfl
theorem cells_holds {w : World} {g : Nat} {d : Array Ev} (h : HoldsK elV 6 w g 0 d) : CellsAt w (some ⟨g, 0, none⟩) (elsV d.toList) := by
 intro j hj
 have h1 := (h j (by rw [flat_els]; simpa using hj)).1
 refine ⟨g, 0, rfl, ?_⟩
 rw [h1, flat_els, getElem!_pos _ j (by simpa using hj)]
 rfl
theorem sortWorld_grown (w : World) (g n : Nat) (d : Array Ev) (os : Array Obj) : w.grownBy (sortWorldK elV 6 w g 0 n d os) (some g) := by
 refine ⟨rfl, rfl, rfl, ?_, fun k hk hne => ?_⟩
 · simp [sortWorldK, Sort.grow, putRowK, putRow, mapBlock]
 · have hne' : g ≠ k := fun e => hne (by rw [e])
   show (((Sort.ahead w n).heap.modify g _) ++ os)[k]? = _
   rw [Array.getElem?_append_left (by simpa using hk), Array.getElem?_modify, if_neg hne']
   rfl
theorem sl_SortEl (l : List Ev) (g n c base : Nat) (e0 : TypeId) (w : World) (hn : n = l.length) (hb : n ≤ 1000000) (hown : w.ownsRow base e0 6 (.slice (some ⟨g, 0, none⟩) n c) n (elsV l)) :
 Calls Tryd.prog 66 #[.slice (some ⟨g, 0, none⟩) n c, .func (.func 67) #[] #[]] w fun e w' => e = .returned (.tuple #[]) ∧
  ∃ r : List Ev, r.Perm l ∧ (r.Pairwise fun x y => ¬ svC y.1 x.1 < 0) ∧ CellsAt w' (some ⟨g, 0, none⟩) (elsV r) ∧ w.grownBy w' (some g) := by
 subst hn
 have hH := holds_own hown
 have hblk : g < w.heap.size := (hown.lt _ rfl).2
 refine (AnyQ.slices_SortFunc layF0 6 Tryd.isAgg33 Tryd.sizeOf33 elV (fun _ => rfl) (fun x v hv => elsV_one [x] v (by simpa [elsV] using hv)) evC evSWO 67 #[] g 0 c l.toArray w (enters_of Tryd.func67 (by kernel_rfl) rfl) ?_ hH hblk (by simp; omega)).mono ?_
 · intro m os dk _ x y
   refine (kn_Three1 x y _).mono ?_
   rintro e w' ⟨h1, q, os', h2⟩
   exact ⟨h1, q, os', h2⟩
 · rintro e w' ⟨rfl, d', m, os, hp, hs, rfl⟩
   have hsz : d'.size = l.toArray.size := hp.1
   refine ⟨rfl, d'.toList, ?_, ?_, ?_, sortWorld_grown w g m d' os⟩
   · have h := hp.2.2
     rw [Array.extract_eq_self_of_le (Nat.le_refl _)] at h
     rwa [Array.extract_eq_self_of_le (by rw [hsz]; exact Nat.le_refl _)] at h
   · rw [List.pairwise_iff_getElem]
     intro i j hi hj hij
     have hj2 : j < d'.size := by simpa using hj
     have h := hs i j (Nat.zero_le _) hij (by rw [← hsz]; exact hj2)
     rw [getElem!_pos d' j hj2, getElem!_pos d' i (by omega)] at h
     exact of_decide_eq_false h
   · exact cells_holds (SWK.holds ⟨m, os, rfl⟩ hblk hH hsz)
end Go.Proofs.YtjlliohjeiclaaaDoor
namespace Go.Proofs.YtjlliohjeiclaaaDoor
open Go.RowKit Go.Sort St Pm Kn
theorem sl_SortNil (a : Option Addr) (c : Nat) (fv : Value) (w : World) : Calls Tryd.prog 66 #[.slice a 0 c, fv] w fun e w' => e = .returned (.tuple #[]) ∧ w' = w := AnyF.slices_SortFunc_none layF0 a c fv w
end Go.Proofs.YtjlliohjeiclaaaDoor
