/- Words, contracts and walks that the proof stands on (TrW ElQ ElR EvP Cells CellsB KyE KyL KyM). -/
import Derived.Laws.StructEq
import Derived.Test.YtnpiepimajippaaRH1
import Derived.Test.YtnpiepimajippaaRH3
namespace Go.Proofs.Ytnpiepimajippaa
namespace Pm
section
variable {α : Type}
def lk (z : α) : List (ByteArray × α) → ByteArray → α × Bool
 | [], _ => (z, false)
 | x :: l, k => if x.1 = k then (x.2, true) else lk z l k
theorem lk_none {z : α} {l : List (ByteArray × α)} {k : ByteArray} (h : ∀ x ∈ l, x.1 ≠ k) : lk z l k = (z, false) := by
 induction l with
 | nil => rfl
 | cons x l ih =>
   simp only [lk]
   rw [if_neg (h x List.mem_cons_self)]
   exact ih fun y hy => h y (List.mem_cons_of_mem _ hy)
theorem lk_left {z : α} {l m : List (ByteArray × α)} {k : ByteArray} (h : ∀ x ∈ m, x.1 ≠ k) : lk z (l ++ m) k = lk z l k := by
 induction l with
 | nil => exact lk_none h
 | cons x l ih =>
   simp only [List.cons_append, lk]
   rw [ih]
theorem lk_right {z : α} {l m : List (ByteArray × α)} {k : ByteArray} (h : ∀ x ∈ l, x.1 ≠ k) : lk z (l ++ m) k = lk z m k := by
 induction l with
 | nil => rfl
 | cons x l ih =>
   simp only [List.cons_append, lk]
   rw [if_neg (h x List.mem_cons_self)]
   exact ih fun y hy => h y (List.mem_cons_of_mem _ hy)
theorem lk_has {z : α} {l : List (ByteArray × α)} {k : ByteArray} : (lk z l k).2 = true ↔ ∃ x ∈ l, x.1 = k := by
 induction l with
 | nil => simp [lk]
 | cons x l ih =>
   simp only [lk]
   by_cases h : x.1 = k
   · rw [if_pos h]; exact ⟨fun _ => ⟨x, List.mem_cons_self, h⟩, fun _ => rfl⟩
   · rw [if_neg h, ih]
     constructor
     · rintro ⟨y, hy, e⟩; exact ⟨y, List.mem_cons_of_mem _ hy, e⟩
     · rintro ⟨y, hy, e⟩
       rcases List.mem_cons.1 hy with rfl | hy
       · exact absurd e h
       · exact ⟨y, hy, e⟩
theorem lk_not {z : α} {l : List (ByteArray × α)} {k : ByteArray} (h : (lk z l k).2 = false) : lk z l k = (z, false) :=
 lk_none fun x hx e => by
   have := (lk_has (z := z)).2 ⟨x, hx, e⟩
   rw [h] at this; cases this
theorem lk_mem {z : α} {l : List (ByteArray × α)} {k : ByteArray} {v : α} (hs : Srt l) (h : (k, v) ∈ l) : lk z l k = (v, true) := by
 induction l with
 | nil => cases h
 | cons x l ih =>
   obtain ⟨s1, s2⟩ := srt_cons.1 hs
   simp only [lk]
   rcases List.mem_cons.1 h with h | h
   · rw [if_pos (by rw [← h]), ← h]
   · rw [if_neg (klt_ne (s1 _ h)), ih s2 h]
def nrm (z : α) (p : α × Bool) : α × Bool := if p.2 = true then p else (z, false)
theorem nrm_lk {z : α} {l : List (ByteArray × α)} {k : ByteArray} : nrm z (lk z l k) = lk z l k := by
 unfold nrm
 by_cases h : (lk z l k).2 = true
 · rw [if_pos h]
 · rw [if_neg h, lk_not (by simpa using h)]
theorem split_lt {N : Nat} {k : ByteArray} {t a x c : Tr α} (h : SplitR N k t a x c) (hs : Srt (items t)) : (∀ y ∈ items a, klt y.1 k = true) ∧ (∀ y ∈ items c, klt k y.1 = true) := by
 induction h with
 | nil => exact ⟨fun y hy => (by cases hy), fun y hy => (by cases hy)⟩
 | lt h1 h2 h3 ih =>
   obtain ⟨s1, s2, s3⟩ := srt_append.1 hs
   obtain ⟨s4, s5⟩ := srt_cons.1 s2
   obtain ⟨i1, i2⟩ := ih s1
   refine ⟨i1, fun y hy => ?_⟩
   rw [h3.items] at hy
   rcases List.mem_append.1 hy with hy | hy
   · exact i2 y hy
   · rcases List.mem_cons.1 hy with rfl | hy
     · exact h1
     · exact klt_trans h1 (s4 y hy)
 | gt h1 h2 h3 ih =>
   obtain ⟨s1, s2, s3⟩ := srt_append.1 hs
   obtain ⟨s4, s5⟩ := srt_cons.1 s2
   obtain ⟨i1, i2⟩ := ih s5
   refine ⟨fun y hy => ?_, i2⟩
   rw [h3.items] at hy
   rcases List.mem_append.1 hy with hy | hy
   · exact klt_trans (s3 y hy _ List.mem_cons_self) h1
   · rcases List.mem_cons.1 hy with rfl | hy
     · exact h1
     · exact i1 y hy
 | eq h1 =>
   subst h1
   obtain ⟨s1, s2, s3⟩ := srt_append.1 hs
   obtain ⟨s4, s5⟩ := srt_cons.1 s2
   exact ⟨fun y hy => s3 y hy _ List.mem_cons_self, fun y hy => s4 y hy⟩
theorem split_mid {N : Nat} {k : ByteArray} {t a x c : Tr α} (h : SplitR N k t a x c) : here x = [] ∨ ∃ v, here x = [(k, v)] := by
 rw [h.seek]
 cases e : Pm.seek k t with
 | nil => exact .inl rfl
 | node b l k0 v0 r =>
   obtain ⟨rfl, _⟩ := seek_some e
   exact .inr ⟨v0, rfl⟩
structure Parts (z : α) (k : ByteArray) (t a x c : Tr α) : Prop where
 sa : Srt (items a)
 sc : Srt (items c)
 la : ∀ y ∈ items a, klt y.1 k = true
 lc : ∀ y ∈ items c, klt k y.1 = true
 ea : ∀ q, klt q k = true → lk z (items a) q = lk z (items t) q
 ec : ∀ q, klt k q = true → lk z (items c) q = lk z (items t) q
 ma : ∀ y ∈ items a, y ∈ items t
 mc : ∀ y ∈ items c, y ∈ items t
 ex : lk z (items t) k = lk z (here x) k
 sz : sz t = sz a + (here x).length + sz c
theorem SplitR.parts {N : Nat} {k : ByteArray} {t a x c : Tr α} (z : α) (h : SplitR N k t a x c) (hs : Srt (Pm.items t)) : Parts z k t a x c := by
 obtain ⟨h1, h2⟩ := split_lt h hs
 have hi := h.items
 have hm := split_mid h
 have hx : ∀ y ∈ here x, y.1 = k := by
   rcases hm with e | ⟨v, e⟩
   · rw [e]; intro y hy; cases hy
   · rw [e]; intro y hy; rw [List.mem_singleton.1 hy]
 have hs0 := hs
 rw [hi, List.append_assoc] at hs
 obtain ⟨s1, s2, _⟩ := srt_append.1 hs
 obtain ⟨_, s3, _⟩ := srt_append.1 s2
 refine ⟨s1, s3, h1, h2, fun q hq => ?_, fun q hq => ?_, fun y hy => ?_, fun y hy => ?_, ?_, ?_⟩
 · rw [hi, List.append_assoc, lk_left]
   intro y hy
   rcases List.mem_append.1 hy with hy | hy
   · rw [hx y hy]; exact Ne.symm (klt_ne hq)
   · exact Ne.symm (klt_ne (klt_trans hq (h2 y hy)))
 · rw [hi, lk_right]
   intro y hy
   rcases List.mem_append.1 hy with hy | hy
   · exact klt_ne (klt_trans (h1 y hy) hq)
   · rw [hx y hy]; exact klt_ne hq
 · rw [hi]; exact List.mem_append_left _ (List.mem_append_left _ hy)
 · rw [hi]; exact List.mem_append_right _ hy
 · rw [hi, List.append_assoc, lk_right (fun y hy => klt_ne (h1 y hy)), lk_left (fun y hy => Ne.symm (klt_ne (h2 y hy)))]
 · rw [← sz_items, hi, ← sz_items a, ← sz_items c]; simp; omega
def Dj (s a : Tr α) : Prop := ∀ b ∈ blocks s, b ∉ blocks a
structure WlkI (z : α) (B0 A0 O0 : ByteArray → α × Bool) (C : ByteArray → Prop) (s a o : Tr α) : Prop where
 ss : Srt (items s)
 sa : Srt (items a)
 so : Srt (items o)
 bs : Bal s
 ba : Bal a
 bo : Bal o
 es : ∀ k, C k → lk z (items s) k = B0 k
 ea : ∀ k, C k → lk z (items a) k = A0 k
 eo : ∀ k, C k → lk z (items o) k = O0 k
 ins : ∀ x ∈ items s, C x.1
 ina : ∀ x ∈ items a, C x.1
 ino : ∀ x ∈ items o, C x.1
structure WlkO (z : α) (R B0 A0 O0 : ByteArray → α × Bool) (C : ByteArray → Prop) (s a o m : Tr α) (asked : List ByteArray) : Prop where
 srt : Srt (items m)
 bal : Bal m
 inC : ∀ x ∈ items m, C x.1
 nd : asked.Nodup
 sub : ∀ k ∈ asked, C k ∧ ((A0 k).2 = true ∨ (O0 k).2 = true)
 len : asked.length ≤ sz a + sz o
 siz : sz m ≤ sz a + sz o
 ans : ∀ k, C k → (k ∈ asked ∧ lk z (items m) k = nrm z (R k)) ∨ (k ∉ asked ∧ (((A0 k = O0 k ∨ B0 k = O0 k) ∧ lk z (items m) k = A0 k) ∨ (B0 k = A0 k ∧ lk z (items m) k = O0 k ∧ (Dj s a → (B0 k).2 = false))))
variable {z : α} {R B0 A0 O0 : ByteArray → α × Bool} {C : ByteArray → Prop} {s a o : Tr α}
theorem WlkI.keepA (h : WlkI z B0 A0 O0 C s a o) (hq : ∀ k, C k → A0 k = O0 k ∨ B0 k = O0 k) : WlkO z R B0 A0 O0 C s a o a [] :=
 ⟨h.sa, h.ba, h.ina, List.nodup_nil, fun k hk => (by cases hk), Nat.zero_le _, Nat.le_add_right _ _, fun k hk => .inr ⟨by simp, .inl ⟨hq k hk, h.ea k hk⟩⟩⟩
theorem WlkI.same_ao (h : WlkI z B0 A0 O0 C s a o) (e : a = o) : WlkO z R B0 A0 O0 C s a o a [] :=
 h.keepA fun k hk => .inl (by rw [← h.ea k hk, ← h.eo k hk, e])
theorem WlkI.same_so (h : WlkI z B0 A0 O0 C s a o) (e : s = o) : WlkO z R B0 A0 O0 C s a o a [] :=
 h.keepA fun k hk => .inr (by rw [← h.es k hk, ← h.eo k hk, e])
theorem WlkI.same_sa (h : WlkI z B0 A0 O0 C s a o) (e : s = a) : WlkO z R B0 A0 O0 C s a o o [] :=
 ⟨h.so, h.bo, h.ino, List.nodup_nil, fun k hk => (by cases hk), Nat.zero_le _, Nat.le_add_left _ _, fun k hk => .inr ⟨by simp, .inr ⟨by rw [← h.es k hk, ← h.ea k hk, e], h.eo k hk, fun hd => by
   rw [← h.es k hk]
   cases s with
   | nil => rfl
   | node b l k v r => subst e; exact absurd (by simp [blocks]) (hd b (by simp [blocks]))⟩⟩⟩
theorem WlkI.left {key : ByteArray} {sl sx sr al ax ar ol ox or' : Tr α} {N1 N2 N3 : Nat} (h : WlkI z B0 A0 O0 C s a o) (h1 : SplitR N1 key s sl sx sr) (h2 : SplitR N2 key a al ax ar) (h3 : SplitR N3 key o ol ox or') :
   WlkI z B0 A0 O0 (fun k => C k ∧ klt k key = true) sl al ol ∧ WlkI z B0 A0 O0 (fun k => C k ∧ klt key k = true) sr ar or' := by
 have p1 := h1.parts z h.ss
 have p2 := h2.parts z h.sa
 have p3 := h3.parts z h.so
 exact ⟨⟨p1.sa, p2.sa, p3.sa, (h1.bal h.bs).1, (h2.bal h.ba).1, (h3.bal h.bo).1, fun k hk => (p1.ea k hk.2).trans (h.es k hk.1), fun k hk => (p2.ea k hk.2).trans (h.ea k hk.1), fun k hk => (p3.ea k hk.2).trans (h.eo k hk.1),
   fun x hx => ⟨h.ins x (p1.ma x hx), p1.la x hx⟩, fun x hx => ⟨h.ina x (p2.ma x hx), p2.la x hx⟩, fun x hx => ⟨h.ino x (p3.ma x hx), p3.la x hx⟩⟩,
   ⟨p1.sc, p2.sc, p3.sc, (h1.bal h.bs).2, (h2.bal h.ba).2, (h3.bal h.bo).2, fun k hk => (p1.ec k hk.2).trans (h.es k hk.1), fun k hk => (p2.ec k hk.2).trans (h.ea k hk.1), fun k hk => (p3.ec k hk.2).trans (h.eo k hk.1),
   fun x hx => ⟨h.ins x (p1.mc x hx), p1.lc x hx⟩, fun x hx => ⟨h.ina x (p2.mc x hx), p2.lc x hx⟩, fun x hx => ⟨h.ino x (p3.mc x hx), p3.lc x hx⟩⟩⟩
theorem said_up {m l : List (ByteArray × α)} {asked ks : List ByteArray} {s a s' a' : Tr α} {k : ByteArray} (hl : lk z m k = lk z l k) (ha : k ∈ asked ↔ k ∈ ks) (hd : Dj s a → Dj s' a')
   (h : (k ∈ ks ∧ lk z l k = nrm z (R k)) ∨ (k ∉ ks ∧ (((A0 k = O0 k ∨ B0 k = O0 k) ∧ lk z l k = A0 k) ∨ (B0 k = A0 k ∧ lk z l k = O0 k ∧ (Dj s' a' → (B0 k).2 = false))))) :
   (k ∈ asked ∧ lk z m k = nrm z (R k)) ∨ (k ∉ asked ∧ (((A0 k = O0 k ∨ B0 k = O0 k) ∧ lk z m k = A0 k) ∨ (B0 k = A0 k ∧ lk z m k = O0 k ∧ (Dj s a → (B0 k).2 = false)))) := by
 rw [hl, ha]
 rcases h with h | ⟨h1, h | ⟨h2, h3, h4⟩⟩
 · exact .inl h
 · exact .inr ⟨h1, .inl h⟩
 · exact .inr ⟨h1, .inr ⟨h2, h3, fun h => h4 (hd h)⟩⟩
theorem WlkO.step {key : ByteArray} {sl sx sr al ax ar ol ox or' l r m : Tr α} {as1 as2 : List ByteArray} {N1 N2 N3 : Nat} (h : WlkI z B0 A0 O0 C s a o) (hk : C key)
   (hx : 1 ≤ (here ax).length + (here ox).length)
   (h1 : SplitR N1 key s sl sx sr) (h2 : SplitR N2 key a al ax ar) (h3 : SplitR N3 key o ol ox or') (hd : Dj s a → Dj sl al ∧ Dj sr ar)
   (o1 : WlkO z R B0 A0 O0 (fun k => C k ∧ klt k key = true) sl al ol l as1) (o2 : WlkO z R B0 A0 O0 (fun k => C k ∧ klt key k = true) sr ar or' r as2)
   (hm : items m = items l ++ ((if (R key).2 = true then [(key, (R key).1)] else []) ++ items r)) (hb : Bal m) : WlkO z R B0 A0 O0 C s a o m (as1 ++ as2 ++ [key]) := by
 have p2 := h2.parts z h.sa
 have p3 := h3.parts z h.so
 have l1 : ∀ k ∈ as1, klt k key = true := fun k hk => (o1.sub k hk).1.2
 have l2 : ∀ k ∈ as2, klt key k = true := fun k hk => (o2.sub k hk).1.2
 have hmid : ∀ y ∈ (if (R key).2 = true then [(key, (R key).1)] else [] : List (ByteArray × α)), y.1 = key := by
   intro y hy
   split at hy
   · rw [List.mem_singleton.1 hy]
   · cases hy
 have hml : (if (R key).2 = true then [(key, (R key).1)] else [] : List (ByteArray × α)).length ≤ 1 := by split <;> simp
 generalize hq : (if (R key).2 = true then [(key, (R key).1)] else [] : List (ByteArray × α)) = mid at *
 refine ⟨?_, hb, ?_, ?_, ?_, ?_, ?_, ?_⟩
 · rw [hm]
   refine srt_append.2 ⟨o1.srt, srt_append.2 ⟨?_, o2.srt, fun x hx y hy => ?_⟩, fun x hx y hy => ?_⟩
   · rw [← hq]; split <;> simp [Srt]
   · rw [hmid x hx]; exact (o2.inC y hy).2
   · rcases List.mem_append.1 hy with hy | hy
     · rw [hmid y hy]; exact (o1.inC x hx).2
     · exact klt_trans (o1.inC x hx).2 (o2.inC y hy).2
 · intro x hx
   rw [hm] at hx
   rcases List.mem_append.1 hx with hx | hx
   · exact (o1.inC x hx).1
   · rcases List.mem_append.1 hx with hx | hx
     · rw [hmid x hx]; exact hk
     · exact (o2.inC x hx).1
 · rw [List.nodup_append, List.nodup_append]
   refine ⟨⟨o1.nd, o2.nd, fun x hx y hy e => ?_⟩, by simp, fun x hx y hy e => ?_⟩
   · subst e; have := klt_trans (l1 x hx) (l2 x hy); rw [klt_irrefl] at this; cases this
   · rw [List.mem_singleton.1 hy] at e
     subst e
     rcases List.mem_append.1 hx with hx | hx
     · have := l1 x hx; rw [klt_irrefl] at this; cases this
     · have := l2 x hx; rw [klt_irrefl] at this; cases this
 · intro k hk'
   rcases List.mem_append.1 hk' with hk' | hk'
   · rcases List.mem_append.1 hk' with hk' | hk'
     · exact ⟨(o1.sub k hk').1.1, (o1.sub k hk').2⟩
     · exact ⟨(o2.sub k hk').1.1, (o2.sub k hk').2⟩
   · rw [List.mem_singleton.1 hk']
     refine ⟨hk, ?_⟩
     have e2 : lk z (here ax) key = A0 key := by rw [← p2.ex]; exact h.ea key hk
     have e3 : lk z (here ox) key = O0 key := by rw [← p3.ex]; exact h.eo key hk
     rcases split_mid h2 with e | ⟨v, e⟩
     · rcases split_mid h3 with e' | ⟨v, e'⟩
       · rw [e, e'] at hx; simp at hx
       · right; rw [← e3, e']; simp [lk]
     · left; rw [← e2, e]; simp [lk]
 · have := o1.len; have := o2.len; have := p2.sz; have := p3.sz
   simp only [List.length_append, List.length_cons, List.length_nil]
   omega
 · have e1 : sz m = sz l + mid.length + sz r := by rw [← sz_items, hm, ← sz_items l, ← sz_items r]; simp; omega
   have := o1.siz; have := o2.siz; have := p2.sz; have := p3.sz
   omega
 · intro k hC
   by_cases hlt : klt k key = true
   · refine said_up (l := items l) (ks := as1) ?_ ?_ (fun h => (hd h).1) (o1.ans k ⟨hC, hlt⟩)
     · rw [hm, lk_left]
       intro y hy
       rcases List.mem_append.1 hy with hy | hy
       · rw [hmid y hy]; exact Ne.symm (klt_ne hlt)
       · exact Ne.symm (klt_ne (klt_trans hlt (o2.inC y hy).2))
     · simp only [List.mem_append, List.mem_singleton]
       constructor
       · rintro ((h | h) | h)
         · exact h
         · have := klt_trans hlt (l2 k h); rw [klt_irrefl] at this; cases this
         · exact absurd h (klt_ne hlt)
       · intro h; exact .inl (.inl h)
   · by_cases hgt : klt key k = true
     · refine said_up (l := items r) (ks := as2) ?_ ?_ (fun h => (hd h).2) (o2.ans k ⟨hC, hgt⟩)
       · rw [hm, lk_right (fun y hy => klt_ne (klt_trans (o1.inC y hy).2 hgt)), lk_right]
         intro y hy; rw [hmid y hy]; exact klt_ne hgt
       · simp only [List.mem_append, List.mem_singleton]
         constructor
         · rintro ((h | h) | h)
           · have := klt_trans (l1 k h) hgt; rw [klt_irrefl] at this; cases this
           · exact h
           · exact absurd h.symm (klt_ne hgt)
         · intro h; exact .inl (.inr h)
     · have e := klt_tri (by simpa using hlt) (by simpa using hgt)
       subst e
       refine .inl ⟨by simp, ?_⟩
       rw [hm, lk_right (fun y hy => klt_ne (o1.inC y hy).2), lk_left (fun y hy => Ne.symm (klt_ne (o2.inC y hy).2)), ← hq]
       unfold nrm
       split
       · simp [lk]; exact Prod.ext rfl (by simpa using (‹(R k).2 = true›).symm)
       · rfl
theorem WlkO.all {m : Tr α} {asked : List ByteArray} (h : WlkO z R B0 A0 O0 C s a o m asked) (k : ByteArray) (hk : C k) (h1 : A0 k = O0 k ∨ B0 k = O0 k → nrm z (R k) = A0 k) (h2 : B0 k = A0 k → nrm z (R k) = O0 k ∨ (Dj s a ∧ (B0 k).2 = true)) : lk z (items m) k = nrm z (R k) := by
 rcases h.ans k hk with ⟨_, h⟩ | ⟨_, ⟨h3, h4⟩ | ⟨h3, h4, h5⟩⟩
 · exact h
 · rw [h4, h1 h3]
 · rcases h2 h3 with h6 | ⟨h6, h7⟩
   · rw [h4, h6]
   · rw [h5 h6] at h7; cases h7
end
end Pm
end Go.Proofs.Ytnpiepimajippaa
namespace Go.Proofs.Ytnpiepimajippaa
namespace St
open Pm
def hasS (l : List El) (s : Stp) : Bool := l.any fun y => decide (y.1 = s)
theorem hasS_iff {l : List El} {s : Stp} : hasS l s = true ↔ ∃ y ∈ l, y.1 = s := by
 unfold hasS
 rw [List.any_eq_true]
 simp
def elsF (base A B : List El) : List El → List El → List El
 | [], [] => []
 | [], y :: b => (if hasS base y.1 then [] else [y]) ++ elsF base A B [] b
 | x :: a, [] => (if hasS B x.1 || !hasS base x.1 then [x] else []) ++ elsF base A B a []
 | x :: a, y :: b => if y.1.lt x.1 then (if hasS base y.1 then [] else [y]) ++ elsF base A B (x :: a) b
     else (if hasS B x.1 || !hasS base x.1 then [x] else []) ++ (if hasS B x.1 then elsF base A B a b else elsF base A B a (y :: b))
termination_by a b => a.length + b.length
structure Left (A B a b : List El) : Prop where
 ga : ∃ pa, A = pa ++ a ∧ ∀ x ∈ pa, ∀ y ∈ b, x.1.lt y.1 = true
 gb : ∃ pb, B = pb ++ b ∧ ∀ y ∈ pb, ∀ x ∈ a, y.1.lt x.1 = true
theorem lt_of {l : List El} {x : El} {m : List El} (h : SrtE (x :: m)) : ∀ y ∈ m, x.1.lt y.1 = true := (List.pairwise_cons.1 h).1
theorem els_mem (base A B : List El) (hok : ∀ x ∈ A ++ B, x.1.ok = true) : ∀ (n : Nat) (a b : List El), a.length + b.length ≤ n → SrtE A → SrtE B → Left A B a b → SrtE (elsF base A B a b) ∧
   ∀ x : El, x ∈ elsF base A B a b ↔ (x ∈ a ∧ (hasS B x.1 = true ∨ hasS base x.1 = false)) ∨ (x ∈ b ∧ hasS A x.1 = false ∧ hasS base x.1 = false) := by
 intro n
 induction n with
 | zero =>
   intro a b hn hA hB hL
   obtain rfl : a = [] := List.eq_nil_of_length_eq_zero (by omega)
   obtain rfl : b = [] := List.eq_nil_of_length_eq_zero (by omega)
   rw [elsF]
   exact ⟨List.Pairwise.nil, fun x => by simp⟩
 | succ n ih =>
   intro a b hn hA hB hL
   obtain ⟨pa, ea, la⟩ := hL.ga
   obtain ⟨pb, eb, lb⟩ := hL.gb
   have okA : ∀ x ∈ A, x.1.ok = true := fun x hx => hok x (List.mem_append_left _ hx)
   have okB : ∀ x ∈ B, x.1.ok = true := fun x hx => hok x (List.mem_append_right _ hx)
   have sA : SrtE a := by rw [ea] at hA; exact (List.pairwise_append.1 hA).2.1
   have sB : SrtE b := by rw [eb] at hB; exact (List.pairwise_append.1 hB).2.1
   have maA : ∀ x ∈ a, x ∈ A := fun x hx => by rw [ea]; exact List.mem_append_right _ hx
   have mbB : ∀ x ∈ b, x ∈ B := fun x hx => by rw [eb]; exact List.mem_append_right _ hx
   -- an element of the other list with the same stamp is what is left's
   have cons_srt : ∀ (x : El) (c : Bool) (l : List El), (∀ y ∈ l, x.1.lt y.1 = true) → SrtE l → SrtE ((if c = true then [x] else []) ++ l) := fun x c l h1 h2 => by
     cases c
     · exact h2
     · exact List.pairwise_cons.2 ⟨h1, h2⟩
   match a, b with
   | [], [] => rw [elsF]; exact ⟨List.Pairwise.nil, fun x => by simp⟩
   | [], y :: b =>
     have hL2 : Left A B [] b := ⟨⟨A, by simp, fun x hx z hz => la x (by rw [ea] at hx; simpa using hx) z (List.mem_cons_of_mem _ hz)⟩, ⟨pb ++ [y], by rw [eb]; simp, fun _ _ x hx => by cases hx⟩⟩
     obtain ⟨i1, i2⟩ := ih [] b (by simp at hn ⊢; omega) hA hB hL2
     have hyA : hasS A y.1 = false := by
       cases h : hasS A y.1 with
       | false => rfl
       | true =>
         obtain ⟨z, hz, e⟩ := hasS_iff.1 h
         have := la z (by rw [ea] at hz; simpa using hz) y List.mem_cons_self
         rw [e, lt_irrefl (okB y (mbB y List.mem_cons_self))] at this; cases this
     rw [elsF]
     refine ⟨?_, fun x => ?_⟩
     · have := cons_srt y (!hasS base y.1) _ (fun z hz => ?_) i1
       · cases h : hasS base y.1 <;> rw [h] at this <;> simpa using this
       · rcases (i2 z).1 hz with ⟨h, _⟩ | ⟨h, _⟩
         · cases h
         · exact lt_of (l := []) sB z h
     · rw [List.mem_append, i2]
       constructor
       · rintro (h | h | h)
         · cases hb : hasS base y.1 with
           | true => rw [hb] at h; cases h
           | false =>
             rw [hb] at h
             obtain rfl : x = y := by simpa using h
             exact .inr ⟨List.mem_cons_self, hyA, hb⟩
         · exact absurd h.1 (by simp)
         · exact .inr ⟨List.mem_cons_of_mem _ h.1, h.2⟩
       · rintro (h | ⟨h, h2⟩)
         · exact absurd h.1 (by simp)
         · rcases List.mem_cons.1 h with rfl | h
           · left; rw [h2.2]; simp
           · exact .inr (.inr ⟨h, h2⟩)
   | x :: a, [] =>
     have hL2 : Left A B a [] := ⟨⟨pa ++ [x], by rw [ea]; simp, fun _ _ y hy => by cases hy⟩, ⟨B, by simp, fun y hy z hz => lb y (by rw [eb] at hy; simpa using hy) z (List.mem_cons_of_mem _ hz)⟩⟩
     obtain ⟨i1, i2⟩ := ih a [] (by simp at hn ⊢; omega) hA hB hL2
     rw [elsF]
     refine ⟨cons_srt x _ _ (fun z hz => ?_) i1, fun z => ?_⟩
     · rcases (i2 z).1 hz with ⟨h, _⟩ | ⟨h, _⟩
       · exact lt_of (l := []) sA z h
       · cases h
     · rw [List.mem_append, i2]
       constructor
       · rintro (h | h | h)
         · cases hc : (hasS B x.1 || !hasS base x.1) with
           | false => rw [hc] at h; cases h
           | true =>
             rw [hc] at h
             obtain rfl : z = x := by simpa using h
             exact .inl ⟨List.mem_cons_self, by simpa using hc⟩
         · exact .inl ⟨List.mem_cons_of_mem _ h.1, h.2⟩
         · exact absurd h.1 (by simp)
       · rintro (⟨h, h2⟩ | h)
         · rcases List.mem_cons.1 h with rfl | h
           · left
             have : (hasS B z.1 || !hasS base z.1) = true := by simpa using h2
             rw [this]; simp
           · exact .inr (.inl ⟨h, h2⟩)
         · exact absurd h.1 (by simp)
   | x :: a, y :: b =>
     have ox := okA x (maA x List.mem_cons_self)
     have oy := okB y (mbB y List.mem_cons_self)
     rw [elsF]
     cases hyx : y.1.lt x.1 with
     | true =>
       rw [if_pos rfl]
       have hL2 : Left A B (x :: a) b := ⟨⟨pa, ea, fun z hz u hu => la z hz u (List.mem_cons_of_mem _ hu)⟩, ⟨pb ++ [y], by rw [eb]; simp, fun z hz u hu => by
         rcases List.mem_append.1 hz with hz | hz
         · exact lb z hz u hu
         · obtain rfl := List.mem_singleton.1 hz
           rcases List.mem_cons.1 hu with rfl | hu'
           · exact hyx
           · exact lt_trans oy ox (okA u (maA u hu)) hyx (lt_of (l := []) sA u hu')⟩⟩
       obtain ⟨i1, i2⟩ := ih (x :: a) b (by simp at hn ⊢; omega) hA hB hL2
       have hyA : hasS A y.1 = false := by
         cases h : hasS A y.1 with
         | false => rfl
         | true =>
           obtain ⟨z, hz, e⟩ := hasS_iff.1 h
           rw [ea] at hz
           rcases List.mem_append.1 hz with hz' | hz'
           · have := la z hz' y List.mem_cons_self
             rw [e, lt_irrefl oy] at this; cases this
           · have h1 : y.1.lt z.1 = true := by
               rcases List.mem_cons.1 hz' with rfl | hz''
               · exact hyx
               · exact lt_trans oy ox (okA z (maA z hz')) hyx (lt_of (l := []) sA z hz'')
             rw [e, lt_irrefl oy] at h1; cases h1
       refine ⟨?_, fun z => ?_⟩
       · have := cons_srt y (!hasS base y.1) _ (fun z hz => ?_) i1
         · cases h : hasS base y.1 <;> rw [h] at this <;> simpa using this
         · rcases (i2 z).1 hz with ⟨h, _⟩ | ⟨h, _⟩
           · rcases List.mem_cons.1 h with rfl | h'
             · exact hyx
             · exact lt_trans oy ox (okA z (maA z h)) hyx (lt_of (l := []) sA z h')
           · exact lt_of (l := []) sB z h
       · rw [List.mem_append, i2]
         constructor
         · rintro (h | h | h)
           · cases hb : hasS base y.1 with
             | true => rw [hb] at h; cases h
             | false =>
               rw [hb] at h
               obtain rfl : z = y := by simpa using h
               exact .inr ⟨List.mem_cons_self, hyA, hb⟩
           · exact .inl h
           · exact .inr ⟨List.mem_cons_of_mem _ h.1, h.2⟩
         · rintro (h | ⟨h, h2⟩)
           · exact .inr (.inl h)
           · rcases List.mem_cons.1 h with rfl | h
             · left; rw [h2.2]; simp
             · exact .inr (.inr ⟨h, h2⟩)
     | false =>
       rw [if_neg (by simp)]
       cases hxB : hasS B x.1 with
       | true =>
         have exy : x.1 = y.1 := by
           obtain ⟨z, hz, e⟩ := hasS_iff.1 hxB
           rw [eb] at hz
           rcases List.mem_append.1 hz with hz' | hz'
           · have := lb z hz' x List.mem_cons_self
             rw [e, lt_irrefl ox] at this; cases this
           · rcases List.mem_cons.1 hz' with rfl | hz''
             · exact e.symm
             · have := lt_of (l := []) sB z hz''
               rw [e, hyx] at this; cases this
         have hL2 : Left A B a b := ⟨⟨pa ++ [x], by rw [ea]; simp, fun z hz u hu => by
           rcases List.mem_append.1 hz with hz | hz
           · exact la z hz u (List.mem_cons_of_mem _ hu)
           · obtain rfl := List.mem_singleton.1 hz
             rw [exy]; exact lt_of (l := []) sB u hu⟩, ⟨pb ++ [y], by rw [eb]; simp, fun z hz u hu => by
           rcases List.mem_append.1 hz with hz | hz
           · exact lb z hz u (List.mem_cons_of_mem _ hu)
           · obtain rfl := List.mem_singleton.1 hz
             rw [← exy]; exact lt_of (l := []) sA u hu⟩⟩
         obtain ⟨i1, i2⟩ := ih a b (by simp at hn ⊢; omega) hA hB hL2
         have hyA : hasS A y.1 = true := hasS_iff.2 ⟨x, maA x List.mem_cons_self, exy⟩
         simp only [Bool.true_or, if_true]
         refine ⟨List.pairwise_cons.2 ⟨fun z hz => ?_, i1⟩, fun z => ?_⟩
         · rcases (i2 z).1 hz with ⟨h, _⟩ | ⟨h, _⟩
           · exact lt_of (l := []) sA z h
           · rw [exy]; exact lt_of (l := []) sB z h
         · rw [List.singleton_append, List.mem_cons, i2]
           constructor
           · rintro (rfl | h | h)
             · exact .inl ⟨List.mem_cons_self, .inl hxB⟩
             · exact .inl ⟨List.mem_cons_of_mem _ h.1, h.2⟩
             · exact .inr ⟨List.mem_cons_of_mem _ h.1, h.2⟩
           · rintro (⟨h, h2⟩ | ⟨h, h2⟩)
             · rcases List.mem_cons.1 h with rfl | h
               · exact .inl rfl
               · exact .inr (.inl ⟨h, h2⟩)
             · rcases List.mem_cons.1 h with rfl | h
               · rw [hyA] at h2; cases h2.1
               · exact .inr (.inr ⟨h, h2⟩)
       | false =>
         have hne : x.1 ≠ y.1 := fun e => by
           have : hasS B x.1 = true := hasS_iff.2 ⟨y, mbB y List.mem_cons_self, e.symm⟩
           rw [hxB] at this; cases this
         have hxy : x.1.lt y.1 = true := by
           cases h : x.1.lt y.1 with
           | true => rfl
           | false => exact absurd (lt_tri ox oy h hyx) hne
         have hL2 : Left A B a (y :: b) := ⟨⟨pa ++ [x], by rw [ea]; simp, fun z hz u hu => by
           rcases List.mem_append.1 hz with hz | hz
           · exact la z hz u hu
           · obtain rfl := List.mem_singleton.1 hz
             rcases List.mem_cons.1 hu with rfl | hu'
             · exact hxy
             · exact lt_trans ox oy (okB u (mbB u hu)) hxy (lt_of (l := []) sB u hu')⟩, ⟨pb, eb, fun z hz u hu => lb z hz u (List.mem_cons_of_mem _ hu)⟩⟩
         obtain ⟨i1, i2⟩ := ih a (y :: b) (by simp at hn ⊢; omega) hA hB hL2
         simp only [Bool.false_or, Bool.false_eq_true, if_false]
         refine ⟨cons_srt x _ _ (fun z hz => ?_) i1, fun z => ?_⟩
         · rcases (i2 z).1 hz with ⟨h, _⟩ | ⟨h, _⟩
           · exact lt_of (l := []) sA z h
           · rcases List.mem_cons.1 h with rfl | h'
             · exact hxy
             · exact lt_trans ox oy (okB z (mbB z h)) hxy (lt_of (l := []) sB z h')
         · rw [List.mem_append, i2]
           constructor
           · rintro (h | h | h)
             · cases hc : hasS base x.1 with
               | true => rw [hc] at h; cases h
               | false =>
                 rw [hc] at h
                 obtain rfl : z = x := by simpa using h
                 exact .inl ⟨List.mem_cons_self, .inr hc⟩
             · exact .inl ⟨List.mem_cons_of_mem _ h.1, h.2⟩
             · exact .inr h
           · rintro (⟨h, h2⟩ | h)
             · rcases List.mem_cons.1 h with rfl | h
               · left
                 rcases h2 with h2 | h2
                 · rw [hxB] at h2; cases h2
                 · rw [h2]; simp
               · exact .inr (.inl ⟨h, h2⟩)
             · exact .inr (.inr h)
end St
end Go.Proofs.Ytnpiepimajippaa
namespace Go.Proofs.Ytnpiepimajippaa
namespace St
open Pm
def keepG (z : ByteArray) (p q r : ByteArray × Bool) : ByteArray × Bool := if q.2 && r.2 then (q.1, true) else if q.2 && !p.2 then (q.1, true) else if r.2 && !q.2 && !p.2 then (r.1, true) else (z, false)
theorem srt_ext {α : Type} : ∀ {l l' : List (ByteArray × α)}, Srt l → Srt l' → (∀ x, x ∈ l ↔ x ∈ l') → l = l'
 | [], [], _, _, _ => rfl
 | [], y :: l', _, _, h => by have := (h y).2 List.mem_cons_self; cases this
 | x :: l, [], _, _, h => by have := (h x).1 List.mem_cons_self; cases this
 | x :: l, y :: l', h1, h2, h => by
   obtain ⟨a1, a2⟩ := srt_cons.1 h1
   obtain ⟨b1, b2⟩ := srt_cons.1 h2
   have e : x = y := by
     rcases List.mem_cons.1 ((h x).1 List.mem_cons_self) with e | hx
     · exact e
     · rcases List.mem_cons.1 ((h y).2 List.mem_cons_self) with e | hy
       · exact e.symm
       · have := klt_trans (b1 x hx) (a1 y hy)
         rw [klt_irrefl] at this; cases this
   subst e
   congr 1
   refine srt_ext a2 b2 fun u => ⟨fun hu => ?_, fun hu => ?_⟩
   · rcases List.mem_cons.1 ((h u).1 (List.mem_cons_of_mem _ hu)) with rfl | h'
     · have := a1 u hu; rw [klt_irrefl] at this; cases this
     · exact h'
   · rcases List.mem_cons.1 ((h u).2 (List.mem_cons_of_mem _ hu)) with rfl | h'
     · have := b1 u hu; rw [klt_irrefl] at this; cases this
     · exact h'
theorem lk_iff_mem {z : ByteArray} {l : List (ByteArray × ByteArray)} (hs : Srt l) (k v : ByteArray) : lk z l k = (v, true) ↔ (k, v) ∈ l := by
 constructor
 · intro h
   have h2 : (lk z l k).2 = true := by rw [h]
   obtain ⟨y, hy, e⟩ := lk_has.1 h2
   have h3 := lk_mem (z := z) hs (show (y.1, y.2) ∈ l from hy)
   rw [e, h] at h3
   have : y.2 = v := ((Prod.mk.inj h3).1).symm
   rw [← e, ← this]; exact hy
 · exact lk_mem hs
theorem enc_srt {l : List El} (hok : ∀ x ∈ l, x.1.ok = true) (h : SrtE l) : Srt (l.map enc) := by
 unfold Srt
 rw [List.pairwise_map]
 exact List.Pairwise.imp_of_mem (fun {a b} ha hb hlt => by rw [show (enc a).1 = keyB a.1 from rfl, show (enc b).1 = keyB b.1 from rfl, keyB_klt (hok a ha) (hok b hb)]; exact hlt) h
theorem srt_enc {l : List El} (hok : ∀ x ∈ l, x.1.ok = true) (h : Srt (l.map enc)) : SrtE l := by
 unfold Srt at h
 rw [List.pairwise_map] at h
 exact List.Pairwise.imp_of_mem (fun {a b} ha hb hlt => by
   have : klt (keyB a.1) (keyB b.1) = true := hlt
   rw [keyB_klt (hok a ha) (hok b hb)] at this
   exact this) h
theorem mem_enc {l : List El} {k v : ByteArray} : (k, v) ∈ l.map enc ↔ ∃ x ∈ l, keyB x.1 = k ∧ x.2 = v := by
 rw [List.mem_map]
 constructor
 · rintro ⟨x, hx, e⟩
   exact ⟨x, hx, (Prod.mk.inj e).1, (Prod.mk.inj e).2⟩
 · rintro ⟨x, hx, h1, h2⟩
   exact ⟨x, hx, Prod.ext h1 h2⟩
theorem has_enc {z : ByteArray} {l : List El} (hok : ∀ x ∈ l, x.1.ok = true) {s : Stp} (hs : s.ok = true) : (lk z (l.map enc) (keyB s)).2 = hasS l s := by
 rw [Bool.eq_iff_iff, lk_has, hasS_iff]
 constructor
 · rintro ⟨y, hy, e⟩
   obtain ⟨x, hx, rfl⟩ := List.mem_map.1 hy
   exact ⟨x, hx, keyB_inj (hok x hx) hs e⟩
 · rintro ⟨x, hx, rfl⟩
   exact ⟨enc x, List.mem_map.2 ⟨x, hx, rfl⟩, rfl⟩
theorem three_all {z : ByteArray} {s a o m : Tr ByteArray} {es ea eo : List El} {asked : List ByteArray} (hs : items s = es.map enc) (ha : items a = ea.map enc) (ho : items o = eo.map enc)
   (ks : ∀ x ∈ es, x.1.ok = true) (ka : ∀ x ∈ ea, x.1.ok = true) (ko : ∀ x ∈ eo, x.1.ok = true) (sa : SrtE ea) (so : SrtE eo)
   (h : WlkO z (fun k => keepG z (lk z (items s) k) (lk z (items a) k) (lk z (items o) k)) (lk z (items s)) (lk z (items a)) (lk z (items o)) (fun _ => True) s a o m asked)
   (hc : Dj s a ∨ ∀ k, (lk z (items a) k).2 = true → (lk z (items o) k).2 = true → (lk z (items a) k).1 = (lk z (items o) k).1) : items m = (elsF es ea eo ea eo).map enc := by
 have hall : ∀ k, lk z (items m) k = keepG z (lk z (items s) k) (lk z (items a) k) (lk z (items o) k) := fun k => by
   have np := nrm_lk (z := z) (l := items s) (k := k)
   have nq := nrm_lk (z := z) (l := items a) (k := k)
   have nr := nrm_lk (z := z) (l := items o) (k := k)
   have hn : nrm z (keepG z (lk z (items s) k) (lk z (items a) k) (lk z (items o) k)) = keepG z (lk z (items s) k) (lk z (items a) k) (lk z (items o) k) := by
     unfold keepG
     generalize lk z (items s) k = p
     generalize lk z (items a) k = q
     generalize lk z (items o) k = r
     cases hp : p.2 <;> cases hq : q.2 <;> cases hr : r.2 <;> simp [nrm]
   have hca := hc.imp id fun h' => h' k
   rw [h.all k trivial (fun hh => ?_) (fun hh => ?_)]
   · exact hn
   · rw [hn]
     unfold keepG
     generalize lk z (items s) k = p at *
     generalize lk z (items a) k = q at *
     generalize lk z (items o) k = r at *
     obtain ⟨p1, p2⟩ := p
     obtain ⟨q1, q2⟩ := q
     obtain ⟨r1, r2⟩ := r
     cases p2 <;> cases q2 <;> cases r2 <;> simp_all [nrm]
   · rw [hn]
     unfold keepG
     generalize lk z (items s) k = p at *
     generalize lk z (items a) k = q at *
     generalize lk z (items o) k = r at *
     obtain ⟨p1, p2⟩ := p
     obtain ⟨q1, q2⟩ := q
     obtain ⟨r1, r2⟩ := r
     rcases hca with hd | hg
     · cases p2 <;> cases q2 <;> cases r2 <;> simp_all [nrm]
     · left
       cases p2 <;> cases q2 <;> cases r2 <;> simp_all [nrm]
 obtain ⟨e1, e2⟩ := els_mem es ea eo (fun x hx => (List.mem_append.1 hx).elim (ka x) (ko x)) (ea.length + eo.length) ea eo (Nat.le_refl _) sa so ⟨⟨[], rfl, fun x hx => by cases hx⟩, ⟨[], rfl, fun x hx => by cases hx⟩⟩
 have ke : ∀ x ∈ elsF es ea eo ea eo, x.1.ok = true := fun x hx => by
   rcases (e2 x).1 hx with h | h
   · exact ka x h.1
   · exact ko x h.1
 have sA := enc_srt ka sa
 have sO := enc_srt ko so
 refine srt_ext h.srt (enc_srt ke e1) fun x => ?_
 obtain ⟨k, v⟩ := x
 rw [← lk_iff_mem (z := z) h.srt, hall k, mem_enc, hs, ha, ho]
 constructor
 · intro hk
   unfold keepG at hk
   split at hk
   · rename_i h1
     simp only [Bool.and_eq_true] at h1
     have hv : lk z (ea.map enc) k = (v, true) := Prod.ext (Prod.mk.inj hk).1 h1.1
     obtain ⟨x, hx, rfl, rfl⟩ := mem_enc.1 ((lk_iff_mem sA k v).1 hv)
     refine ⟨x, (e2 x).2 (.inl ⟨hx, .inl ?_⟩), rfl, rfl⟩
     rw [← has_enc (z := z) ko (ka x hx)]; exact h1.2
   · split at hk
     · rename_i h1
       simp only [Bool.and_eq_true, Bool.not_eq_true'] at h1
       have hv : lk z (ea.map enc) k = (v, true) := Prod.ext (Prod.mk.inj hk).1 h1.1
       obtain ⟨x, hx, rfl, rfl⟩ := mem_enc.1 ((lk_iff_mem sA k v).1 hv)
       refine ⟨x, (e2 x).2 (.inl ⟨hx, .inr ?_⟩), rfl, rfl⟩
       rw [← has_enc (z := z) ks (ka x hx)]; exact h1.2
     · split at hk
       · rename_i h1
         simp only [Bool.and_eq_true, Bool.not_eq_true'] at h1
         have hv : lk z (eo.map enc) k = (v, true) := Prod.ext (Prod.mk.inj hk).1 h1.1.1
         obtain ⟨x, hx, rfl, rfl⟩ := mem_enc.1 ((lk_iff_mem sO k v).1 hv)
         refine ⟨x, (e2 x).2 (.inr ⟨hx, ?_, ?_⟩), rfl, rfl⟩
         · rw [← has_enc (z := z) ka (ko x hx)]; exact h1.1.2
         · rw [← has_enc (z := z) ks (ko x hx)]; exact h1.2
       · cases (Prod.mk.inj hk).2
 · rintro ⟨x, hx, rfl, rfl⟩
   have hxk := ke x hx
   rcases (e2 x).1 hx with ⟨hxa, hb⟩ | ⟨hxo, hb1, hb2⟩
   · have hv : lk z (ea.map enc) (keyB x.1) = (x.2, true) := (lk_iff_mem sA _ _).2 (mem_enc.2 ⟨x, hxa, rfl, rfl⟩)
     rw [← has_enc (z := z) ko hxk, ← has_enc (z := z) ks hxk] at hb
     unfold keepG
     rw [hv]
     rcases hb with hb | hb
     · rw [hb]; rfl
     · rw [hb]; cases (lk z (eo.map enc) (keyB x.1)).2 <;> rfl
   · have hv : lk z (eo.map enc) (keyB x.1) = (x.2, true) := (lk_iff_mem sO _ _).2 (mem_enc.2 ⟨x, hxo, rfl, rfl⟩)
     rw [← has_enc (z := z) ka hxk] at hb1
     rw [← has_enc (z := z) ks hxk] at hb2
     unfold keepG
     rw [hv, hb1, hb2]
     rfl
end St
end Go.Proofs.Ytnpiepimajippaa
namespace Go.Proofs.Ytnpiepimajippaa
namespace St
open Pm
abbrev Ev := Sv × ByteArray
def toV (e : El) : Ev := (e.1.sv, e.2)
def toE (e : Ev) : El := (e.1.st, e.2)
def okV (e : Ev) : Bool := e.1.ok && decide (e.2.size ≤ 256)
theorem okE_iff {e : El} : okE e = true ↔ e.1.ok = true ∧ e.2.size ≤ 256 := by
 unfold okE
 simp only [Bool.and_eq_true, decide_eq_true_eq]
theorem okV_iff {e : Ev} : okV e = true ↔ e.1.ok = true ∧ e.2.size ≤ 256 := by
 unfold okV
 simp only [Bool.and_eq_true, decide_eq_true_eq]
theorem okV_toE {e : Ev} (h : okV e = true) : okE (toE e) = true ∧ toV (toE e) = e := by
 obtain ⟨h1, h2⟩ := okV_iff.1 h
 obtain ⟨k1, k2⟩ := Sv.ok_st h1
 exact ⟨okE_iff.2 ⟨k1, h2⟩, by unfold toV toE; rw [k2]⟩
theorem okE_toV {e : El} (h : okE e = true) : okV (toV e) = true ∧ toE (toV e) = e := by
 obtain ⟨h1, h2⟩ := okE_iff.1 h
 obtain ⟨k1, k2⟩ := Stp.ok_sv h1
 exact ⟨okV_iff.2 ⟨k1, h2⟩, by unfold toV toE; rw [k2]⟩
theorem map_toV {l : List Ev} (h : ∀ x ∈ l, okV x = true) : (l.map toE).map toV = l := by
 rw [List.map_map]
 conv => rhs; rw [← List.map_id l]
 exact List.map_congr_left fun x hx => (okV_toE (h x hx)).2
theorem okE_map {l : List Ev} (h : ∀ x ∈ l, okV x = true) : ∀ x ∈ l.map toE, okE x = true := fun x hx => by
 obtain ⟨y, hy, rfl⟩ := List.mem_map.1 hx
 exact (okV_toE (h y hy)).1
theorem okV_map {l : List El} (h : ∀ x ∈ l, okE x = true) : ∀ x ∈ l.map toV, okV x = true := fun x hx => by
 obtain ⟨y, hy, rfl⟩ := List.mem_map.1 hx
 exact (okE_toV (h y hy)).1
def mayV (l : List Ev) : Bool := l.all okV && decide ((l.map (·.1)).Nodup)
theorem mayV_iff {l : List Ev} : mayV l = true ↔ (∀ x ∈ l, okV x = true) ∧ (l.map (·.1)).Nodup := by
 unfold mayV
 simp only [Bool.and_eq_true, List.all_eq_true, decide_eq_true_eq]
theorem mayV_nil : mayV [] = true := by simp [mayV]
theorem mayV_snoc {l : List Ev} {x : Ev} : mayV (l ++ [x]) = true ↔ mayV l = true ∧ okV x = true ∧ ∀ y ∈ l, y.1 ≠ x.1 := by
 rw [mayV_iff, mayV_iff]
 simp only [List.mem_append, List.mem_singleton, List.map_append, List.map_cons, List.map_nil, List.nodup_append, List.mem_map]
 constructor
 · rintro ⟨h1, h2, _, h3⟩
   exact ⟨⟨fun y hy => h1 y (.inl hy), h2⟩, h1 x (.inr rfl), fun y hy => h3 _ ⟨y, hy, rfl⟩ _ rfl⟩
 · rintro ⟨⟨h1, h2⟩, h3, h4⟩
   refine ⟨fun y hy => ?_, h2, by simp, ?_⟩
   · rcases hy with hy | rfl
     · exact h1 y hy
     · exact h3
   · rintro _ ⟨y, hy, rfl⟩ _ rfl
     exact h4 y hy
theorem mayV_left {l m : List Ev} (h : mayV (l ++ m) = true) : mayV l = true := by
 rw [mayV_iff] at h ⊢
 rw [List.map_append, List.nodup_append] at h
 exact ⟨fun x hx => h.1 x (List.mem_append_left _ hx), h.2.1⟩
theorem mayE_iff {l : List El} : mayE l = true ↔ (∀ x ∈ l, okE x = true) ∧ (l.map (·.1)).Nodup := by
 constructor
 · exact mayE_mem
 · rintro ⟨h1, h2⟩
   induction l with
   | nil => rfl
   | cons x l ih =>
     rw [List.map_cons, List.nodup_cons] at h2
     simp only [mayE, Bool.and_eq_true, List.all_eq_true, decide_eq_true_eq]
     exact ⟨⟨h1 x List.mem_cons_self, fun y hy e => h2.1 (List.mem_map.2 ⟨y, hy, e⟩)⟩, ih (fun y hy => h1 y (List.mem_cons_of_mem _ hy)) h2.2⟩
theorem mayV_E {l : List Ev} (h : mayV l = true) : mayE (l.map toE) = true := by
 obtain ⟨h1, h2⟩ := mayV_iff.1 h
 refine mayE_iff.2 ⟨okE_map h1, ?_⟩
 rw [List.map_map]
 rw [List.nodup_iff_pairwise_ne, List.pairwise_map] at h2 ⊢
 refine List.Pairwise.imp_of_mem (fun {a b} ha hb hne e => hne ?_) h2
 exact st_inj (okV_iff.1 (h1 a ha)).1 (okV_iff.1 (h1 b hb)).1 e
def aheadV (x y : Ev) : Bool := decide (svC y.1 x.1 < 0) || (decide (y.1 = x.1) && klt y.2 x.2)
def insV (x : Ev) (l : List Ev) : List Ev := l.takeWhile (aheadV x) ++ x :: l.dropWhile (aheadV x)
def sortV (l : List Ev) : List Ev := l.foldl (fun out x => insV x out) []
theorem aheadV_E {x y : Ev} (hx : x.1.ok = true) (hy : y.1.ok = true) : aheadV x y = aheadE (toE x) (toE y) := by
 unfold aheadV aheadE toE
 rw [svC_lt hy hx]
 congr 2
 rw [decide_eq_decide]
 exact ⟨fun h => by rw [h], fun h => st_inj hy hx h⟩
theorem insV_E {x : Ev} {l : List Ev} (hx : x.1.ok = true) (hl : ∀ y ∈ l, y.1.ok = true) : (insV x l).map toE = insE (toE x) (l.map toE) := by
 unfold insV insE
 have e : ∀ y ∈ l, aheadV x y = (aheadE (toE x) ∘ toE) y := fun y hy => aheadV_E hx (hl y hy)
 have t1 : l.takeWhile (aheadV x) = l.takeWhile (aheadE (toE x) ∘ toE) := by
   clear hl
   induction l with
   | nil => rfl
   | cons y l ih =>
     rw [List.takeWhile_cons, List.takeWhile_cons, e y List.mem_cons_self, ih fun z hz => e z (List.mem_cons_of_mem _ hz)]
 have t2 : l.dropWhile (aheadV x) = l.dropWhile (aheadE (toE x) ∘ toE) := by
   clear hl t1
   induction l with
   | nil => rfl
   | cons y l ih =>
     rw [List.dropWhile_cons, List.dropWhile_cons, e y List.mem_cons_self, ih fun z hz => e z (List.mem_cons_of_mem _ hz)]
 rw [List.map_append, List.map_cons, t1, t2, List.takeWhile_map, List.dropWhile_map]
theorem insV_mem {x y : Ev} {l : List Ev} : y ∈ insV x l ↔ y = x ∨ y ∈ l := by
 unfold insV
 rw [List.mem_append, List.mem_cons]
 constructor
 · rintro (h | h | h)
   · exact .inr ((List.takeWhile_prefix _).subset h)
   · exact .inl h
   · exact .inr ((List.dropWhile_suffix _).subset h)
 · rintro (h | h)
   · exact .inr (.inl h)
   · rw [← List.takeWhile_append_dropWhile (p := aheadV x) (l := l)] at h
     rcases List.mem_append.1 h with h | h
     · exact .inl h
     · exact .inr (.inr h)
theorem insV_length (x : Ev) (l : List Ev) : (insV x l).length = l.length + 1 := by
 unfold insV
 have := congrArg List.length (List.takeWhile_append_dropWhile (p := aheadV x) (l := l))
 rw [List.length_append] at this
 rw [List.length_append, List.length_cons]
 omega
theorem sortV_snoc (l : List Ev) (x : Ev) : sortV (l ++ [x]) = insV x (sortV l) := by
 unfold sortV
 rw [List.foldl_append]
 rfl
theorem sortV_length (l : List Ev) : (sortV l).length = l.length := by
 have : ∀ (l o : List Ev), (l.foldl (fun out x => insV x out) o).length = o.length + l.length := by
   intro l
   induction l with
   | nil => intro o; simp
   | cons x l ih => intro o; rw [List.foldl_cons, ih, insV_length, List.length_cons]; omega
 have := this l []
 unfold sortV
 simpa using this
theorem sortV_mem {l : List Ev} {x : Ev} : x ∈ sortV l ↔ x ∈ l := by
 have : ∀ (l o : List Ev), x ∈ (l.foldl (fun out x => insV x out) o) ↔ x ∈ l ∨ x ∈ o := by
   intro l
   induction l with
   | nil => intro o; simp
   | cons y l ih =>
     intro o
     rw [List.foldl_cons, ih, insV_mem, List.mem_cons]
     constructor
     · rintro (h | h | h)
       · exact .inl (.inr h)
       · exact .inl (.inl h)
       · exact .inr h
     · rintro ((h | h) | h)
       · exact .inr (.inl h)
       · exact .inl h
       · exact .inr (.inr h)
 have := this l []
 unfold sortV
 simpa using this
theorem sortV_E {l : List Ev} (h : ∀ x ∈ l, x.1.ok = true) : (sortV l).map toE = sortE (l.map toE) := by
 have : ∀ (l o : List Ev), (∀ x ∈ l, x.1.ok = true) → (∀ x ∈ o, x.1.ok = true) → (l.foldl (fun out x => insV x out) o).map toE = (l.map toE).foldl (fun out x => insE x out) (o.map toE) := by
   intro l
   induction l with
   | nil => intro o _ _; rfl
   | cons x l ih =>
     intro o h1 h2
     rw [List.foldl_cons, List.map_cons, List.foldl_cons, ← insV_E (h1 x List.mem_cons_self) h2]
     refine ih _ (fun y hy => h1 y (List.mem_cons_of_mem _ hy)) fun y hy => ?_
     rcases insV_mem.1 hy with rfl | hy
     · exact h1 _ List.mem_cons_self
     · exact h2 y hy
 exact this l [] h (fun x hx => by cases hx)
theorem sortV_V {l : List Ev} (h : ∀ x ∈ l, okV x = true) : sortV l = (sortE (l.map toE)).map toV := by
 rw [← sortV_E fun x hx => (okV_iff.1 (h x hx)).1]
 exact (map_toV fun x hx => h x (sortV_mem.1 hx)).symm
def behindV (l : List Ev) (s : Sv) : Bool := match l.getLast? with
 | none => true
 | some x => decide (svC x.1 s < 0)
end St
end Go.Proofs.Ytnpiepimajippaa
namespace Go.Proofs.Ytnpiepimajippaa
open Go.RowKit
def CellsAt (w : World) (a : Option Addr) (vs : List Value) : Prop := ∀ i (h : i < vs.length), ∃ b off, a = some ⟨b, off, none⟩ ∧ w.cell? ⟨b, off + i, none⟩ = some vs[i]
theorem CellsAt.nil (w : World) (a : Option Addr) : CellsAt w a [] := fun i h => by simp at h
theorem CellsAt.below {w w' : World} {a : Option Addr} {vs : List Value} {B : Nat} (h : CellsAt w a vs) (hb : Below B w w') (hB : B = w.heap.size) : CellsAt w' a vs := by
 intro i hi
 obtain ⟨b, off, rfl, hc⟩ := h i hi
 have hl := cell_lt hc
 exact ⟨b, off, rfl, by rw [hb.cell (p := ⟨b, off + i, none⟩) (by simpa [hB] using hl)]; exact hc⟩
theorem CellsAt.new (w : World) (t : TypeId) (fr : Nat × Nat) (vs : List Value) : CellsAt (w.alloc (.cells vs.toArray t fr)) (some ⟨w.heap.size, 0, none⟩) vs := by
 intro i hi
 refine ⟨w.heap.size, 0, rfl, ?_⟩
 rw [Nat.zero_add, cell_new]
 simp
theorem CellsAt.get {w : World} {a : Option Addr} {vs : List Value} (h : CellsAt w a vs) (i : Nat) (v : Value) (hi : vs[i]? = some v) : ∃ b off, a = some ⟨b, off, none⟩ ∧ w.cell? ⟨b, off + i, none⟩ = some v := by
 obtain ⟨hlt, e⟩ := List.getElem?_eq_some_iff.1 hi
 obtain ⟨b, off, h1, h2⟩ := h i hlt
 exact ⟨b, off, h1, by rw [h2, e]⟩
theorem CellsAt.own {w : World} {base n : Nat} {e : TypeId} {a : Option Addr} {len cap : Nat} {vs : List Value} (h : w.ownsRow base e 1 (.slice a len cap) n vs) : CellsAt w a vs := by
 intro i hi
 obtain ⟨g, rfl, _, hc, _⟩ := own_cell h i vs[i] (by simp [hi])
 exact ⟨g, 0, rfl, by rw [Nat.zero_add]; exact hc⟩
end Go.Proofs.Ytnpiepimajippaa
namespace Go.Proofs.Ytnpiepimajippaa
open Go.RowKit
theorem CellsAt.take {w : World} {a : Option Addr} {vs : List Value} (h : CellsAt w a vs) (k : Nat) : CellsAt w a (vs.take k) := by
 intro i hi
 obtain ⟨b, off, e, c⟩ := h i (by simp at hi; omega)
 exact ⟨b, off, e, by rw [c]; simp⟩
theorem CellsAt.drop {w : World} {a : Option Addr} {vs : List Value} (h : CellsAt w a vs) (k : Nat) : CellsAt w (Option.map (fun x => x.add k) a) (vs.drop k) := by
 intro i hi
 obtain ⟨b, off, rfl, c⟩ := h (k + i) (by simp at hi; omega)
 exact ⟨b, off + k, by simp [Addr_add], by rw [show off + k + i = off + (k + i) by omega, c]; simp⟩
theorem CellsAt.src {P : Program} {w : World} {a : Option Addr} {vs : List Value} {size n : Nat} (h : CellsAt w a vs) (hlen : vs.length = n * size) (hone : ∀ u ∈ vs, u.oneCell' = true) {tx e' : TypeId} (hk : P.underlying tx = some (.slice e')) (cap : Nat) (hsz : size = 1 ∨ size = 2) : Src P size tx (.slice a n cap) n vs w := by
 cases a with
 | none =>
   have : vs = [] := by
     cases vs with
     | nil => rfl
     | cons c r => obtain ⟨b, off, hh, _⟩ := h 0 (by simp); cases hh
   subst this
   have hn : n = 0 := by rcases hsz with rfl | rfl <;> (simp only [List.length_nil] at hlen; omega)
   subst hn
   exact Src.ofNil w hk cap
 | some a =>
   refine Src.ofSlice w hk a _ cap vs hlen (fun j u hu => ?_) hone
   obtain ⟨hj, he⟩ := List.getElem?_eq_some_iff.1 hu
   obtain ⟨b, off, hh, hc⟩ := h j hj
   cases hh
   rw [Addr_add, hc, he]
def subN (a : Option Addr) (cap l size : Nat) : Option Addr := if cap = l then a else a.map (·.add (l * size))
theorem run_from {P : Program} (w : World) (t e : TypeId) (ht : P.underlying t = some (.slice e)) (size : Nat) (hz : ∀ w, (Go.sizeOf e).run P w = .ok size w) (a : Option Addr) (len cap l : Nat) (x : Int) (hx : x = (l : Int)) (hl : l ≤ len) :
   (Instr.slice t (.slice a len cap) (some (.int .i64 x)) none none).run P w = .ok (.slice (subN a cap l size) (len - l) (cap - l)) w := by
 have ht' : P.underlying t = some (.slice (P.elem t)) := by simp [Program.elem, ht]
 have he : P.elem t = e := by simp [Program.elem, ht]
 subst hx
 rw [run_slice_l w t _ _ _ ht' .i64 _ (by omega) (by omega), he, hz]
 simp [Result.andThen, sliced, subN]
theorem CellsAt.one {P : Program} (w : World) (t : TypeId) (v : Value) (hv : v.oneCell' = true) {tx e' : TypeId} (hk : P.underlying tx = some (.slice e')) : Src P 1 tx (.slice (some ⟨w.heap.size, 0, none⟩) 1 1) 1 [v] (w.alloc (.cells #[v] t)) :=
 (CellsAt.new w t (0, 0) [v]).src (n := 1) rfl (by simp [hv]) hk 1 (Or.inl rfl)
end Go.Proofs.Ytnpiepimajippaa
namespace Go.Proofs.Ytnpiepimajippaa
open Go.RowKit St
def elV (e : Ev) : List Value := [.int .i64 e.1.g, .int .i64 e.1.r, .string e.1.l, .int .i64 e.1.n, .int .i64 e.1.i, .string e.2]
def elsV (l : List Ev) : List Value := l.flatMap elV
theorem elsV_nil : elsV [] = [] := rfl
theorem elsV_cons (e : Ev) (l : List Ev) : elsV (e :: l) = elV e ++ elsV l := rfl
theorem elsV_append (l m : List Ev) : elsV (l ++ m) = elsV l ++ elsV m := by unfold elsV; rw [List.flatMap_append]
theorem elsV_length (l : List Ev) : (elsV l).length = l.length * 6 := by
 induction l with
 | nil => rfl
 | cons e l ih => rw [elsV_cons, List.length_append, ih, List.length_cons]; simp [elV]; omega
theorem elsV_one (l : List Ev) : ∀ u ∈ elsV l, u.oneCell' = true := fun u hu => by
 unfold elsV at hu
 obtain ⟨e, _, hu⟩ := List.mem_flatMap.1 hu
 simp only [elV, List.mem_cons, List.not_mem_nil, or_false] at hu
 rcases hu with rfl | rfl | rfl | rfl | rfl | rfl <;> rfl
theorem elsV_take (l : List Ev) (k : Nat) : elsV (l.take k) = (elsV l).take (k * 6) := by
 induction l generalizing k with
 | nil => simp [elsV_nil]
 | cons e l ih =>
   cases k with
   | zero => simp [elsV_nil]
   | succ k =>
     rw [List.take_succ_cons, elsV_cons, elsV_cons, ih, List.take_append, show (elV e).length = 6 from rfl, show (k + 1) * 6 - 6 = k * 6 by omega, List.take_of_length_le (l := elV e) (by show 6 ≤ _; omega)]
theorem elsV_drop (l : List Ev) (k : Nat) : elsV (l.drop k) = (elsV l).drop (k * 6) := by
 induction l generalizing k with
 | nil => simp [elsV_nil]
 | cons e l ih =>
   cases k with
   | zero => simp
   | succ k =>
     rw [List.drop_succ_cons, elsV_cons, ih, List.drop_append, show (elV e).length = 6 from rfl, show (k + 1) * 6 - 6 = k * 6 by omega, List.drop_of_length_le (l := elV e) (by show 6 ≤ _; omega), List.nil_append]
theorem elsV_get (l : List Ev) (k j : Nat) (hk : k < l.length) (hj : j < 6) : (elsV l)[k * 6 + j]? = (elV l[k])[j]? := by
 have h1 : (elsV l).drop (k * 6) = elV l[k] ++ elsV (l.drop (k + 1)) := by rw [← elsV_drop, List.drop_eq_getElem_cons hk, elsV_cons]
 rw [← List.getElem?_drop, h1, List.getElem?_append_left (by show j < 6; exact hj)]
structure ElCell (w : World) (b o : Nat) (e : Ev) : Prop where
 c0 : w.cell? ⟨b, o, none⟩ = some (.int .i64 e.1.g)
 c1 : w.cell? ⟨b, o + 1, none⟩ = some (.int .i64 e.1.r)
 c2 : w.cell? ⟨b, o + 2, none⟩ = some (.string e.1.l)
 c3 : w.cell? ⟨b, o + 3, none⟩ = some (.int .i64 e.1.n)
 c4 : w.cell? ⟨b, o + 4, none⟩ = some (.int .i64 e.1.i)
 c5 : w.cell? ⟨b, o + 5, none⟩ = some (.string e.2)
theorem els_get {w : World} {a : Option Addr} {l : List Ev} (h : CellsAt w a (elsV l)) (k : Nat) (hk : k < l.length) : ∃ b off, a = some ⟨b, off, none⟩ ∧ ElCell w b (off + k * 6) l[k] := by
 have g : ∀ j v, j < 6 → (elV l[k])[j]? = some v → ∃ b off, a = some ⟨b, off, none⟩ ∧ w.cell? ⟨b, off + (k * 6 + j), none⟩ = some v := fun j v hj hv => h.get _ v (by rw [elsV_get l k j hk hj, hv])
 obtain ⟨b, off, rfl, q0⟩ := g 0 _ (by omega) rfl
 refine ⟨b, off, rfl, ?_⟩
 obtain ⟨_, _, e1, q1⟩ := g 1 _ (by omega) rfl
 obtain ⟨_, _, e2, q2⟩ := g 2 _ (by omega) rfl
 obtain ⟨_, _, e3, q3⟩ := g 3 _ (by omega) rfl
 obtain ⟨_, _, e4, q4⟩ := g 4 _ (by omega) rfl
 obtain ⟨_, _, e5, q5⟩ := g 5 _ (by omega) rfl
 cases e1; cases e2; cases e3; cases e4; cases e5
 exact ⟨by simpa using q0, by simpa [Nat.add_assoc] using q1, by simpa [Nat.add_assoc] using q2, by simpa [Nat.add_assoc] using q3, by simpa [Nat.add_assoc] using q4, by simpa [Nat.add_assoc] using q5⟩
theorem CellsAt.srcN {P : Program} {w : World} {a : Option Addr} {vs : List Value} {size n : Nat} (h : CellsAt w a vs) (hlen : vs.length = n * size) (hone : ∀ u ∈ vs, u.oneCell' = true) {tx e' : TypeId} (hk : P.underlying tx = some (.slice e')) (cap : Nat) (hsz : 0 < size) : Src P size tx (.slice a n cap) n vs w := by
 cases a with
 | none =>
   have : vs = [] := by
     cases vs with
     | nil => rfl
     | cons c r => obtain ⟨b, off, hh, _⟩ := h 0 (by simp); cases hh
   subst this
   have hn : n = 0 := by
     rw [List.length_nil] at hlen
     rcases Nat.eq_zero_or_pos n with h0 | h0
     · exact h0
     · have := Nat.mul_pos h0 hsz; omega
   subst hn
   exact Src.ofNil w hk cap
 | some a =>
   refine Src.ofSlice w hk a _ cap vs hlen (fun j u hu => ?_) hone
   obtain ⟨hj, he⟩ := List.getElem?_eq_some_iff.1 hu
   obtain ⟨b, off, hh, hc⟩ := h j hj
   cases hh
   rw [Addr_add, hc, he]
theorem CellsAt.ownN {w : World} {base n size : Nat} {e : TypeId} {a : Option Addr} {len cap : Nat} {vs : List Value} (h : w.ownsRow base e size (.slice a len cap) n vs) : CellsAt w a vs := by
 intro i hi
 rcases h.2 with ⟨hv, hn⟩ | ⟨g, cap', cur, hv, hb, hg, hnc, _, hcs, ht⟩
 · have := h.1
   rw [hn] at this
   omega
 · cases hv
   refine ⟨g, 0, rfl, ?_⟩
   rw [Nat.zero_add]
   have h1 := cell_of_row w g i cur e (0, 0) hg
   rw [h1]
   have h2 : cur.toList.take vs.length = vs := by have := h.1; first | exact ht | (rw [this]; exact ht)
   have h3 : (cur.toList.take vs.length)[i]? = some vs[i] := by rw [h2]; simp [hi]
   rw [List.getElem?_take_of_lt hi] at h3
   simpa using h3
theorem elT : ElemT Try.prog 22 47 (.agg #[.int .i64 0, .int .i64 0, .string ⟨#[]⟩, .int .i64 0, .int .i64 0, .string ⟨#[]⟩]) 6 64 := ElemT.mk Try.underlying22 (by kernel_rfl) (by simp [Value.cells])
theorem step_app {P : Program} {w : World} {ops : Array Oper} {o : Oper} {a : Act} {K : Act → World → Prop} {Q : Exit → Act → World → Prop} {E : Prop} (hgd : o.guard = none) (s x : Operand) (t tx : TypeId)
   (ho : o.op = .call { callee := .builtin .append, args := #[s, x], argTypes := #[t, tx] })
   (base : Nat) (e : TypeId) (z : Value) (size bytes : Nat) (ht : ElemT P t e z size bytes)
   (v : Value) (n : Nat) (xs : List Value) (hv : a.eval s = v) (hown : w.ownsRow base e size v n xs)
   (xv : Value) (m : Nat) (news : List Value) (hx : a.eval x = xv) (hs : Src P size tx xv m news w)
   (hlen : n + m ≤ maxLen) (hby : (n + m) * bytes ≤ 140737488355328) (hbase : base ≤ w.heap.size)
   (h : ∀ v' w', w'.ownsRow base e size v' (n + m) (xs ++ news) → w.grownBy w' v.ownBlock → Below base w w' → (v'.ownBlock = v.ownBlock ∨ v'.ownBlock = some w.heap.size) → K (a.put o.dst v') w') :
   if Region.wanted o (yielded ops a.tmps) = true then Oper.wp P o a w K Q else E := by
 have hw : Region.wanted o (yielded ops a.tmps) = true := by simp [Region.wanted, hgd]
 rw [if_pos hw]
 obtain ⟨h1, i, h2, h3, h4, h5, h6⟩ := ht
 obtain ⟨v', w', hr, g2, g3, g4, _⟩ := run_append_own_src (P := P) w base t tx o.type e i z size bytes h1 h2 h3 h4 h5 h6 v n xs hown xv m news hs hlen hby hbase
 unfold Oper.wp execOp
 simp only [ho, resolve, invoke, builtin, Sem.run_bind, Sem.run_pure, Result.andThen_ok, List.map_toArray, List.map_cons, List.map_nil, hv, hx, hr]
 exact h v' w' g2 g3 (below_of_grown hown hbase g3) g4
end Go.Proofs.Ytnpiepimajippaa
namespace Go.Proofs.Ytnpiepimajippaa
open Go.RowKit St
theorem toList_iff (a b : ByteArray) : (a.toList = b.toList) = (a = b) := propext ⟨fun h => Pm.key_ext (by rw [← ByteArray.toList_eq, ← ByteArray.toList_eq]; exact h), fun h => by rw [h]⟩
theorem sv_eql (s t : Sv) (w : World) : (binOp .eql 41 (.agg #[.int .i64 s.g, .int .i64 s.r, .string s.l, .int .i64 s.n, .int .i64 s.i]) (.agg #[.int .i64 t.g, .int .i64 t.r, .string t.l, .int .i64 t.n, .int .i64 t.i])).run Try.prog w = .ok (.bool (decide (s = t))) w := by
 rw [run_eql_struct]
 simp [go_sem, Try.underlying41]
 obtain ⟨g, r, l, n, i⟩ := s
 obtain ⟨g', r', l', n', i'⟩ := t
 simp only [toList_iff, Sv.mk.injEq]
 by_cases h1 : g = g' <;> by_cases h2 : r = r' <;> by_cases h3 : l = l' <;> by_cases h4 : n = n' <;> by_cases h5 : i = i' <;> simp [h1, h2, h3, h4, h5]
theorem sv_neq (s t : Sv) (w : World) : (binOp .neq 41 (.agg #[.int .i64 s.g, .int .i64 s.r, .string s.l, .int .i64 s.n, .int .i64 s.i]) (.agg #[.int .i64 t.g, .int .i64 t.r, .string t.l, .int .i64 t.n, .int .i64 t.i])).run Try.prog w = .ok (.bool (!decide (s = t))) w := by
 rw [run_neq_struct]
 simp [go_sem, Try.underlying41]
 obtain ⟨g, r, l, n, i⟩ := s
 obtain ⟨g', r', l', n', i'⟩ := t
 simp only [toList_iff, Sv.mk.injEq]
 by_cases h1 : g = g' <;> by_cases h2 : r = r' <;> by_cases h3 : l = l' <;> by_cases h4 : n = n' <;> by_cases h5 : i = i' <;> simp [h1, h2, h3, h4, h5]
theorem ev_eql (s t : Ev) (w : World) : (binOp .eql 47 (.agg #[.int .i64 s.1.g, .int .i64 s.1.r, .string s.1.l, .int .i64 s.1.n, .int .i64 s.1.i, .string s.2]) (.agg #[.int .i64 t.1.g, .int .i64 t.1.r, .string t.1.l, .int .i64 t.1.n, .int .i64 t.1.i, .string t.2])).run Try.prog w = .ok (.bool (decide (s = t))) w := by
 rw [run_eql_struct]
 simp [go_sem, Try.underlying47]
 obtain ⟨⟨g, r, l, n, i⟩, x⟩ := s
 obtain ⟨⟨g', r', l', n', i'⟩, x'⟩ := t
 simp only [toList_iff, Sv.mk.injEq, Prod.mk.injEq]
 by_cases h1 : g = g' <;> by_cases h2 : r = r' <;> by_cases h3 : l = l' <;> by_cases h4 : n = n' <;> by_cases h5 : i = i' <;> by_cases h6 : x = x' <;> simp [h1, h2, h3, h4, h5, h6]
theorem ev_neq (s t : Ev) (w : World) : (binOp .neq 47 (.agg #[.int .i64 s.1.g, .int .i64 s.1.r, .string s.1.l, .int .i64 s.1.n, .int .i64 s.1.i, .string s.2]) (.agg #[.int .i64 t.1.g, .int .i64 t.1.r, .string t.1.l, .int .i64 t.1.n, .int .i64 t.1.i, .string t.2])).run Try.prog w = .ok (.bool (!decide (s = t))) w := by
 rw [run_neq_struct]
 simp [go_sem, Try.underlying47]
 obtain ⟨⟨g, r, l, n, i⟩, x⟩ := s
 obtain ⟨⟨g', r', l', n', i'⟩, x'⟩ := t
 simp only [toList_iff, Sv.mk.injEq, Prod.mk.injEq]
 by_cases h1 : g = g' <;> by_cases h2 : r = r' <;> by_cases h3 : l = l' <;> by_cases h4 : n = n' <;> by_cases h5 : i = i' <;> by_cases h6 : x = x' <;> simp [h1, h2, h3, h4, h5, h6]
theorem ne_at {α : Type} [DecidableEq α] {l m : List α} {k : Nat} (h1 : k < l.length) (h2 : k < m.length) (h : l[k] ≠ m[k]) : decide (l = m) = false := by
 rw [decide_eq_false_iff_not]
 intro e
 subst e
 exact h rfl
theorem eq_all {α : Type} [DecidableEq α] {l m : List α} (hl : l.length = m.length) (h : l.take l.length = m.take l.length) : decide (l = m) = true := by
 rw [decide_eq_true_eq]
 rw [List.take_length, hl, List.take_length] at h
 exact h
theorem take_eq {α : Type} {l m : List α} {k : Nat} (h1 : k < l.length) (h2 : k < m.length) (h : l.take k = m.take k) (e : l[k] = m[k]) : l.take (k + 1) = m.take (k + 1) := by
 rw [List.take_succ_eq_append_getElem h1, List.take_succ_eq_append_getElem h2, h, e]
set_option maxRecDepth 100000 in
set_option maxHeartbeats 2000000 in
theorem ref9_SameElements (l m : List Ev) (a b : Option Addr) (n1 n2 c1 c2 : Nat) (w : World) (hl : CellsAt w a (elsV l)) (hm : CellsAt w b (elsV m)) (hn1 : n1 = l.length) (hn2 : n2 = m.length) (hb : n1 ≤ 9223372036854775807) :
   Calls Try.prog 43 #[.slice a n1 c1, .slice b n2 c2] w fun e w' => e = .returned (.bool (decide (l = m))) ∧ Below w.heap.size w w' := by
 have HL := Lib.hid hl
 have HM := Lib.hid hm
 clear hl hm
 have EN := ev_neq
 go_enter Try.func43, Try.ntmps43
 by_cases hlen : n1 = n2
 · subst hlen
   have hN : Hid (l.length = m.length) := Lib.hid (by omega)
   have E : Hid (l.take n1 = m.take n1 → decide (l = m) = true) := Lib.hid (fun h => eq_all hN.out (by rw [← hn1]; exact h))
   have F : Hid (∀ k (h1 : k < l.length) (h2 : k < m.length), l[k] ≠ m[k] → decide (l = m) = false) := Lib.hid (fun k h1 h2 h => ne_at h1 h2 h)
   generalize decide (l = m) = res at *
   go_wp2_with fail
   go_loopw [5] (fun i wr => ∃ k : Nat, k ≤ n1 ∧ i = .int .i64 (k : Int) ∧ Hid (l.take k = m.take k) ∧ Hid (Below w.heap.size w wr)) (fun i _ => n1 - (intOf i).toNat)
   case atStart => exact ⟨0, Nat.zero_le _, rfl, Lib.hid rfl, Lib.hid (Below.refl _ _)⟩
   case round =>
     obtain ⟨k, hk, rfl, HT, HB⟩ := hrel
     by_cases hlt : k < n1
     · have hk1 : k < l.length := by omega
       have hk2 : k < m.length := by omega
       obtain ⟨ba, oa, rfl, ca⟩ := els_get (HL.out.below HB.out rfl) k hk1
       obtain ⟨bb, ob, rfl, cb⟩ := els_get (HM.out.below HB.out rfl) k hk2
       obtain ⟨p0, p1, p2, p3, p4, p5⟩ := ca
       obtain ⟨q0, q1, q2, q3, q4, q5⟩ := cb
       have G1 : Hid (l[k] ≠ m[k] → res = false) := Lib.hid (F.out k hk1 hk2)
       have G2 : Hid (l[k] = m[k] → l.take (k + 1) = m.take (k + 1)) := Lib.hid (take_eq hk1 hk2 HT.out)
       generalize l[k] = x at *
       generalize m[k] = y at *
       have hki : (k : Int) < (n1 : Int) := by omega
       by_cases hxy : x = y
       · have H := Lib.hid (G2.out hxy)
         have hd : decide (x = y) = true := decide_eq_true hxy
         clear hxy
         go_wp2_with fail
         go_quiet (fail)
         go_wp2_with fail
         refine ⟨⟨k + 1, by omega, by go_num, H, Lib.hid (below_drews HB.out _)⟩, by simp [intOf]; omega⟩
       · have hr := Lib.hid (G1.out hxy)
         have hd : decide (x = y) = false := decide_eq_false hxy
         clear hxy
         go_wp2_with fail
         go_quiet (fail)
         go_wp2_with fail
         go_ret
         rw [hr.out]
         exact ⟨rfl, below_drews HB.out _⟩
     · obtain rfl : k = n1 := by omega
       have hr := Lib.hid (E.out HT.out)
       go_wp2_with fail
       go_ret
       rw [hr.out]
       exact ⟨rfl, HB.out⟩
 · have hr : Hid (decide (l = m) = false) := Lib.hid (by rw [decide_eq_false_iff_not]; rintro rfl; omega)
   have hne : ((n1 : Int) == (n2 : Int)) = false := by simp; omega
   have hne' : ¬ (n1 : Int) = (n2 : Int) := by omega
   generalize decide (l = m) = res at *
   go_wp2_with fail
   go_ret
   rw [hr.out]
   exact ⟨rfl, Below.refl _ _⟩
end Go.Proofs.Ytnpiepimajippaa
namespace Go.Proofs.Ytnpiepimajippaa
open Go.RowKit St
def hasV (l : List Ev) (s : Sv) : Bool := l.any fun y => decide (y.1 = s)
theorem hasV_none {l : List Ev} {s : Sv} (h : ∀ y ∈ l, y.1 ≠ s) : hasV l s = false := by
 unfold hasV
 rw [List.any_eq_false]
 intro y hy
 simpa using h y hy
theorem hasV_some {l : List Ev} {s : Sv} {k : Nat} (hk : k < l.length) (h : l[k].1 = s) : hasV l s = true := by
 unfold hasV
 rw [List.any_eq_true]
 exact ⟨l[k], List.getElem_mem hk, by simpa using h⟩
theorem take_none {α : Type} {l : List α} {k : Nat} {p : α → Prop} (hk : k < l.length) (h : ∀ y ∈ l.take k, p y) (hx : p l[k]) : ∀ y ∈ l.take (k + 1), p y := by
 intro y hy
 rw [List.take_succ_eq_append_getElem hk, List.mem_append, List.mem_singleton] at hy
 rcases hy with hy | rfl
 · exact h y hy
 · exact hx
set_option maxRecDepth 100000 in
set_option maxHeartbeats 2000000 in
theorem ref9_find (l : List Ev) (s : Sv) (a : Option Addr) (n c : Nat) (w : World) (hl : CellsAt w a (elsV l)) (hn : n = l.length) (hb : n ≤ 9223372036854775807) :
   Calls Try.prog 129 #[.slice a n c, .agg #[.int .i64 s.g, .int .i64 s.r, .string s.l, .int .i64 s.n, .int .i64 s.i]] w fun e w' => ∃ i : Int, e = .returned (.int .i64 i) ∧ (decide (0 ≤ i) = hasV l s) ∧ Below w.heap.size w w' := by
 have X := heap_alloc_new w (.cells #[.int .i64 s.g, .int .i64 s.r, .string s.l, .int .i64 s.n, .int .i64 s.i] 41)
 have B0 := below_new w (.cells #[.int .i64 s.g, .int .i64 s.r, .string s.l, .int .i64 s.n, .int .i64 s.i] 41)
 have HL := Lib.hid (hl.below B0 rfl)
 clear hl
 have EN := sv_eql
 have F0 : Hid ((∀ y ∈ l.take n, y.1 ≠ s) → hasV l s = false) := Lib.hid (fun h => hasV_none (by rw [hn, List.take_length] at h; exact h))
 have F1 : Hid (∀ k (h1 : k < l.length), l[k].1 = s → hasV l s = true) := Lib.hid (fun k h1 h => hasV_some h1 h)
 generalize hasV l s = res at *
 go_enter Try.func129, Try.ntmps129
 go_wp2_with fail
 generalize w.alloc (.cells #[.int .i64 s.g, .int .i64 s.r, .string s.l, .int .i64 s.n, .int .i64 s.i] 41) = W at *
 have X0 := Lib.hid X
 have B1 := Lib.hid B0
 clear X B0
 go_loopw [5] (fun i wr => ∃ k : Nat, k ≤ n ∧ i = .int .i64 (k : Int) ∧ Hid (∀ y ∈ l.take k, y.1 ≠ s) ∧ Hid (Below W.heap.size W wr)) (fun i _ => n - (intOf i).toNat)
 case atStart => exact ⟨0, Nat.zero_le _, rfl, Lib.hid (fun y hy => (by cases hy)), Lib.hid (Below.refl _ _)⟩
 case round =>
   obtain ⟨k, hk, rfl, HT, HB⟩ := hrel
   by_cases hlt : k < n
   · have hk1 : k < l.length := by omega
     obtain ⟨ba, oa, rfl, ca⟩ := els_get (HL.out.below HB.out rfl) k hk1
     obtain ⟨p0, p1, p2, p3, p4, p5⟩ := ca
     have G1 : Hid (l[k].1 = s → res = true) := Lib.hid (F1.out k hk1)
     have G2 : Hid (l[k].1 ≠ s → ∀ y ∈ l.take (k + 1), y.1 ≠ s) := Lib.hid (fun h => take_none hk1 HT.out h)
     generalize l[k] = x at *
     have y1 := boxStays X0.out HB.out
     have q0 := cell_of_row _ _ 0 _ _ _ y1
     have q1 := cell_of_row _ _ 1 _ _ _ y1
     have q2 := cell_of_row _ _ 2 _ _ _ y1
     have q3 := cell_of_row _ _ 3 _ _ _ y1
     have q4 := cell_of_row _ _ 4 _ _ _ y1
     clear y1
     have hki : (k : Int) < (n : Int) := by omega
     by_cases hxy : x.1 = s
     · have hr := Lib.hid (G1.out hxy)
       have hd : decide (x.1 = s) = true := decide_eq_true hxy
       clear hxy
       go_wp2_with fail
       go_quiet (fail)
       go_wp2_with fail
       go_ret
       refine ⟨(k : Int), rfl, by rw [hr.out]; simp, B1.out.trans ((below_drews HB.out _).mono B1.out.size)⟩
     · have H := Lib.hid (G2.out hxy)
       have hd : decide (x.1 = s) = false := decide_eq_false hxy
       clear hxy
       go_wp2_with fail
       go_quiet (fail)
       go_wp2_with fail
       refine ⟨⟨k + 1, by omega, by go_num, H, Lib.hid (below_drews HB.out _)⟩, by simp [intOf]; omega⟩
   · obtain rfl : k = n := by omega
     have hr := Lib.hid (F0.out HT.out)
     go_wp2_with fail
     go_ret
     refine ⟨-1, rfl, by rw [hr.out]; decide, B1.out.trans (HB.out.mono B1.out.size)⟩
theorem mayV_bad {l : List Ev} {k : Nat} (h : mayV (l.take k) = false) : mayV l = false := by
 cases e : mayV l with
 | false => rfl
 | true =>
   rw [← List.take_append_drop k l] at e
   rw [mayV_left e] at h
   exact h
theorem mayV_next {l : List Ev} {k : Nat} (hk : k < l.length) : mayV (l.take (k + 1)) = true ↔ mayV (l.take k) = true ∧ okV l[k] = true ∧ ∀ y ∈ l.take k, y.1 ≠ l[k].1 := by
 rw [List.take_succ_eq_append_getElem hk, mayV_snoc]
set_option maxRecDepth 100000 in
set_option maxHeartbeats 4000000 in
theorem ref11_May (l : List Ev) (a : Option Addr) (n c : Nat) (w : World) (hl : CellsAt w a (elsV l)) (hn : n = l.length) (hb : n ≤ 9223372036854775807) (hsz : ∀ e ∈ l, e.1.l.size ≤ 9223372036854775807) :
   Calls Try.prog 89 #[.slice a n c] w fun e w' => e = .returned (.bool (mayV l)) ∧ Below w.heap.size w w' := by
 have HL := Lib.hid hl
 have HSZ := Lib.hid hsz
 clear hl hsz
 have EN := sv_eql
 have F0 : Hid (∀ k (hk : k < l.length), (okV l[k] = false ∨ ∃ y ∈ l.take k, y.1 = l[k].1) → mayV l = false) := Lib.hid (fun k hk h => mayV_bad (k := k + 1) (by
   cases e : mayV (l.take (k + 1)) with
   | false => rfl
   | true =>
     obtain ⟨_, h2, h3⟩ := (mayV_next hk).1 e
     rcases h with h | ⟨y, hy, h⟩
     · rw [h2] at h; cases h
     · exact absurd h (h3 y hy)))
 have F1 : Hid (∀ k (hk : k < l.length), mayV (l.take k) = true → okV l[k] = true → (∀ y ∈ l.take k, y.1 ≠ l[k].1) → mayV (l.take (k + 1)) = true) := Lib.hid (fun k hk h1 h2 h3 => (mayV_next hk).2 ⟨h1, h2, h3⟩)
 have F2 : Hid (mayV (l.take n) = true → mayV l = true) := Lib.hid (fun h => by rw [hn, List.take_length] at h; exact h)
 generalize mayV l = res at *
 have HNN := Lib.hid hn
 clear hn
 go_enter Try.func89, Try.ntmps89
 go_wp2_with fail
 go_loopw [3] (fun i wr => ∃ k : Nat, k ≤ n ∧ i = .int .i64 (k : Int) ∧ Hid (mayV (l.take k) = true) ∧ Hid (Below w.heap.size w wr)) (fun i _ => n - (intOf i).toNat)
 case atStart => exact ⟨0, Nat.zero_le _, rfl, Lib.hid (by rw [List.take_zero]; exact mayV_nil), Lib.hid (Below.refl _ _)⟩
 case round =>
   obtain ⟨i, hi, rfl, HT, HB⟩ := hrel
   by_cases hlt : i < n
   · have hk1 : i < l.length := by have := HNN.out; omega
     have HC := Lib.hid (HL.out.below HB.out rfl)
     obtain ⟨ba, oa, rfl, ca⟩ := els_get HC.out i hk1
     obtain ⟨p0, p1, p2, p3, p4, p5⟩ := ca
     have GB := Lib.hid (F0.out i hk1)
     have GS := Lib.hid (F1.out i hk1 HT.out)
     have HZ : Hid (l[i].1.l.size ≤ 9223372036854775807) := Lib.hid (HSZ.out _ (List.getElem_mem hk1))
     have hki : (i : Int) < (n : Int) := by omega
     have hget : ∀ k (hk : k < i), l[k]'(by omega) ∈ l.take i := fun k hk => by rw [List.mem_take_iff_getElem]; exact ⟨k, by omega, rfl⟩
     have OKX : Hid (okV l[i] = (l[i].1.ok && decide (l[i].2.size ≤ 256))) := Lib.hid rfl
     have HG := Lib.hid hget
     clear hget
     generalize hx : l[i] = x at *
     have HX := Lib.hid hx
     clear hx
     go_wp2_with fail
     refine (ref5_Text x.2 _).mono ?_
     rintro e w1 ⟨rfl, rfl⟩
     by_cases hfit : x.2.size ≤ 256
     · have hd : decide (x.2.size ≤ 256) = true := decide_eq_true hfit
       go_wp2_with fail
       refine (ref6_Stamp x.1 _ HZ.out).mono ?_
       rintro e w2 ⟨rfl, hbb⟩
       have HC2 := Lib.hid (HC.out.below hbb rfl)
       have HB2 := Lib.hid (HB.out.trans (hbb.mono HB.out.size))
       clear p0 p1 p2 p3 p4 p5 hbb HC HB
       cases hok : x.1.ok with
       | false =>
         have hr := Lib.hid (GB.out (.inl (by rw [OKX.out, hok]; rfl)))
         clear hok
         go_wp2_with fail
         go_ret
         rw [hr.out]
         exact ⟨rfl, HB2.out⟩
       | true =>
         have hokx := Lib.hid (show okV x = true by rw [OKX.out, hok, hd]; rfl)
         clear hok OKX hd hfit
         go_wp2_with fail
         go_loopw [4] (fun j wr => ∃ k : Nat, k ≤ i ∧ j = .int .i64 (k : Int) ∧ Hid (∀ y ∈ l.take k, y.1 ≠ x.1) ∧ Hid (CellsAt wr (some ⟨ba, oa, none⟩) (elsV l)) ∧ Hid (Below w.heap.size w wr)) (fun j _ => i - (intOf j).toNat)
         case atStart => exact ⟨0, Nat.zero_le _, rfl, Lib.hid (fun y hy => (by cases hy)), HC2, HB2⟩
         clear HC2 HB2
         case round =>
           obtain ⟨k, hk, rfl, HT2, HC, HB⟩ := hrel
           by_cases hlt2 : k < i
           · obtain ⟨_, _, e1, ca⟩ := els_get HC.out i hk1
             cases e1
             obtain ⟨_, _, e2, cb⟩ := els_get HC.out k (by omega)
             cases e2
             rw [HX.out] at ca
             obtain ⟨p0, p1, p2, p3, p4, p5⟩ := ca
             obtain ⟨q0, q1, q2, q3, q4, q5⟩ := cb
             have hki2 : (k : Int) < (n : Int) := by omega
             have hkl : k < l.length := by omega
             have G1 : Hid (l[k].1 = x.1 → res = false) := Lib.hid (fun h => GB.out (.inr ⟨l[k], HG.out k hlt2, h⟩))
             have G2 : Hid (l[k].1 ≠ x.1 → ∀ y ∈ l.take (k + 1), y.1 ≠ x.1) := Lib.hid (fun h => take_none hkl HT2.out h)
             generalize l[k] = y at *
             by_cases hxy : y.1 = x.1
             · have hr := Lib.hid (G1.out hxy)
               have hd : decide (y.1 = x.1) = true := decide_eq_true hxy
               clear hxy
               go_wp2_with fail
               go_quiet (fail)
               go_wp2_with fail
               go_ret
               rw [hr.out]
               exact ⟨rfl, below_drews HB.out _⟩
             · have H := Lib.hid (G2.out hxy)
               have hd : decide (y.1 = x.1) = false := decide_eq_false hxy
               clear hxy
               go_wp2_with fail
               go_quiet (fail)
               go_wp2_with fail
               go_roundw
               case rel => exact ⟨k + 1, by omega, by go_num, H, Lib.hid (HC.out.below ((Below.refl _ _) |> fun h => below_drews h _) rfl), Lib.hid (below_drews HB.out _)⟩
               case measure => simp [intOf]; omega
           · obtain rfl : k = i := by omega
             have H := Lib.hid (GS.out hokx.out HT2.out)
             go_wp2_with fail
             go_roundw
             case rel => exact ⟨k + 1, by omega, by go_num, H, HB⟩
             case measure => simp [intOf]; omega
     · have hd : decide (x.2.size ≤ 256) = false := decide_eq_false hfit
       have hr := Lib.hid (GB.out (.inl (by rw [OKX.out, hd]; simp)))
       go_wp2_with fail
       go_ret
       rw [hr.out]
       exact ⟨rfl, HB.out⟩
   · obtain rfl : i = n := by omega
     have hr := Lib.hid (F2.out HT.out)
     go_wp2_with fail
     go_ret
     rw [hr.out]
     exact ⟨rfl, HB.out⟩
end Go.Proofs.Ytnpiepimajippaa
