
/- Plain: three maps run together: which keys are asked, what comes of it. No program in sight. -/
import Derived.Test.YtdodkhhlbjamhaaTrC
namespace Go.Proofs.Ytdodkhhlbjamhaa
namespace Pm
section
variable {α : Type}
/-- What a list has under a key. -/
def lk (z : α) : List (ByteArray × α) → ByteArray → α × Bool
  | [], _ => (z, false)
  | x :: l, k => if x.1 = k then (x.2, true) else lk z l k
theorem lk_none {z : α} {l : List (ByteArray × α)} {k : ByteArray} (h : ∀ x ∈ l, x.1 ≠ k) : lk z l k = (z, false) := by
  induction l with
  | nil => rfl
  | cons x l ih =>
    simp only [lk]
    rw [if_neg (h x List.mem_cons_self)]
    exact ih fun y hy => h y (List.mem_cons_of_mem _ hy)
theorem lk_left {z : α} {l m : List (ByteArray × α)} {k : ByteArray} (h : ∀ x ∈ m, x.1 ≠ k) : lk z (l ++ m) k = lk z l k := by
  induction l with
  | nil => exact lk_none h
  | cons x l ih =>
    simp only [List.cons_append, lk]
    rw [ih]
theorem lk_right {z : α} {l m : List (ByteArray × α)} {k : ByteArray} (h : ∀ x ∈ l, x.1 ≠ k) : lk z (l ++ m) k = lk z m k := by
  induction l with
  | nil => rfl
  | cons x l ih =>
    simp only [List.cons_append, lk]
    rw [if_neg (h x List.mem_cons_self)]
    exact ih fun y hy => h y (List.mem_cons_of_mem _ hy)
theorem lk_has {z : α} {l : List (ByteArray × α)} {k : ByteArray} : (lk z l k).2 = true ↔ ∃ x ∈ l, x.1 = k := by
  induction l with
  | nil => simp [lk]
  | cons x l ih =>
    simp only [lk]
    by_cases h : x.1 = k
    · rw [if_pos h]; exact ⟨fun _ => ⟨x, List.mem_cons_self, h⟩, fun _ => rfl⟩
    · rw [if_neg h, ih]
      constructor
      · rintro ⟨y, hy, e⟩; exact ⟨y, List.mem_cons_of_mem _ hy, e⟩
      · rintro ⟨y, hy, e⟩
        rcases List.mem_cons.1 hy with rfl | hy
        · exact absurd e h
        · exact ⟨y, hy, e⟩
theorem lk_not {z : α} {l : List (ByteArray × α)} {k : ByteArray} (h : (lk z l k).2 = false) : lk z l k = (z, false) :=
  lk_none fun x hx e => by
    have := (lk_has (z := z)).2 ⟨x, hx, e⟩
    rw [h] at this; cases this
theorem lk_mem {z : α} {l : List (ByteArray × α)} {k : ByteArray} {v : α} (hs : Srt l) (h : (k, v) ∈ l) : lk z l k = (v, true) := by
  induction l with
  | nil => cases h
  | cons x l ih =>
    obtain ⟨s1, s2⟩ := srt_cons.1 hs
    simp only [lk]
    rcases List.mem_cons.1 h with h | h
    · rw [if_pos (by rw [← h]), ← h]
    · rw [if_neg (klt_ne (s1 _ h)), ih s2 h]
def nrm (z : α) (p : α × Bool) : α × Bool := if p.2 = true then p else (z, false)
theorem nrm_lk {z : α} {l : List (ByteArray × α)} {k : ByteArray} : nrm z (lk z l k) = lk z l k := by
  unfold nrm
  by_cases h : (lk z l k).2 = true
  · rw [if_pos h]
  · rw [if_neg h, lk_not (by simpa using h)]
/-! ### The pieces of a tree that is split -/
theorem split_lt {N : Nat} {k : ByteArray} {t a x c : Tr α} (h : SplitR N k t a x c) (hs : Srt (items t)) : (∀ y ∈ items a, klt y.1 k = true) ∧ (∀ y ∈ items c, klt k y.1 = true) := by
  induction h with
  | nil => exact ⟨fun y hy => (by cases hy), fun y hy => (by cases hy)⟩
  | lt h1 h2 h3 ih =>
    obtain ⟨s1, s2, s3⟩ := srt_append.1 hs
    obtain ⟨s4, s5⟩ := srt_cons.1 s2
    obtain ⟨i1, i2⟩ := ih s1
    refine ⟨i1, fun y hy => ?_⟩
    rw [h3.items] at hy
    rcases List.mem_append.1 hy with hy | hy
    · exact i2 y hy
    · rcases List.mem_cons.1 hy with rfl | hy
      · exact h1
      · exact klt_trans h1 (s4 y hy)
  | gt h1 h2 h3 ih =>
    obtain ⟨s1, s2, s3⟩ := srt_append.1 hs
    obtain ⟨s4, s5⟩ := srt_cons.1 s2
    obtain ⟨i1, i2⟩ := ih s5
    refine ⟨fun y hy => ?_, i2⟩
    rw [h3.items] at hy
    rcases List.mem_append.1 hy with hy | hy
    · exact klt_trans (s3 y hy _ List.mem_cons_self) h1
    · rcases List.mem_cons.1 hy with rfl | hy
      · exact h1
      · exact i1 y hy
  | eq h1 =>
    subst h1
    obtain ⟨s1, s2, s3⟩ := srt_append.1 hs
    obtain ⟨s4, s5⟩ := srt_cons.1 s2
    exact ⟨fun y hy => s3 y hy _ List.mem_cons_self, fun y hy => s4 y hy⟩
theorem split_mid {N : Nat} {k : ByteArray} {t a x c : Tr α} (h : SplitR N k t a x c) : here x = [] ∨ ∃ v, here x = [(k, v)] := by
  rw [h.seek]
  cases e : Pm.seek k t with
  | nil => exact .inl rfl
  | node b l k0 v0 r =>
    obtain ⟨rfl, _⟩ := seek_some e
    exact .inr ⟨v0, rfl⟩
/-- What there is of a tree behind its splitting. -/
structure Parts (z : α) (k : ByteArray) (t a x c : Tr α) : Prop where
  sa : Srt (items a)
  sc : Srt (items c)
  la : ∀ y ∈ items a, klt y.1 k = true
  lc : ∀ y ∈ items c, klt k y.1 = true
  ea : ∀ q, klt q k = true → lk z (items a) q = lk z (items t) q
  ec : ∀ q, klt k q = true → lk z (items c) q = lk z (items t) q
  ma : ∀ y ∈ items a, y ∈ items t
  mc : ∀ y ∈ items c, y ∈ items t
  ex : lk z (items t) k = lk z (here x) k
  sz : sz t = sz a + (here x).length + sz c
theorem SplitR.parts {N : Nat} {k : ByteArray} {t a x c : Tr α} (z : α) (h : SplitR N k t a x c) (hs : Srt (Pm.items t)) : Parts z k t a x c := by
  obtain ⟨h1, h2⟩ := split_lt h hs
  have hi := h.items
  have hm := split_mid h
  have hx : ∀ y ∈ here x, y.1 = k := by
    rcases hm with e | ⟨v, e⟩
    · rw [e]; intro y hy; cases hy
    · rw [e]; intro y hy; rw [List.mem_singleton.1 hy]
  have hs0 := hs
  rw [hi, List.append_assoc] at hs
  obtain ⟨s1, s2, _⟩ := srt_append.1 hs
  obtain ⟨_, s3, _⟩ := srt_append.1 s2
  refine ⟨s1, s3, h1, h2, fun q hq => ?_, fun q hq => ?_, fun y hy => ?_, fun y hy => ?_, ?_, ?_⟩
  · rw [hi, List.append_assoc, lk_left]
    intro y hy
    rcases List.mem_append.1 hy with hy | hy
    · rw [hx y hy]; exact Ne.symm (klt_ne hq)
    · exact Ne.symm (klt_ne (klt_trans hq (h2 y hy)))
  · rw [hi, lk_right]
    intro y hy
    rcases List.mem_append.1 hy with hy | hy
    · exact klt_ne (klt_trans (h1 y hy) hq)
    · rw [hx y hy]; exact klt_ne hq
  · rw [hi]; exact List.mem_append_left _ (List.mem_append_left _ hy)
  · rw [hi]; exact List.mem_append_right _ hy
  · rw [hi, List.append_assoc, lk_right (fun y hy => klt_ne (h1 y hy)), lk_left (fun y hy => Ne.symm (klt_ne (h2 y hy)))]
  · rw [← sz_items, hi, ← sz_items a, ← sz_items c]; simp; omega
/-! ### The walk -/
def Dj (s a : Tr α) : Prop := ∀ b ∈ blocks s, b ∉ blocks a
/-- What goes in. -/
structure WlkI (z : α) (B0 A0 O0 : ByteArray → α × Bool) (C : ByteArray → Prop) (s a o : Tr α) : Prop where
  ss : Srt (items s)
  sa : Srt (items a)
  so : Srt (items o)
  bs : Bal s
  ba : Bal a
  bo : Bal o
  es : ∀ k, C k → lk z (items s) k = B0 k
  ea : ∀ k, C k → lk z (items a) k = A0 k
  eo : ∀ k, C k → lk z (items o) k = O0 k
  ins : ∀ x ∈ items s, C x.1
  ina : ∀ x ∈ items a, C x.1
  ino : ∀ x ∈ items o, C x.1
/-- What comes out: m, when these keys were asked. -/
structure WlkO (z : α) (R B0 A0 O0 : ByteArray → α × Bool) (C : ByteArray → Prop) (s a o m : Tr α) (asked : List ByteArray) : Prop where
  srt : Srt (items m)
  bal : Bal m
  inC : ∀ x ∈ items m, C x.1
  nd : asked.Nodup
  sub : ∀ k ∈ asked, C k ∧ ((A0 k).2 = true ∨ (O0 k).2 = true)
  len : asked.length ≤ sz a + sz o
  siz : sz m ≤ sz a + sz o
  ans : ∀ k, C k → (k ∈ asked ∧ lk z (items m) k = nrm z (R k)) ∨ (k ∉ asked ∧ (((A0 k = O0 k ∨ B0 k = O0 k) ∧ lk z (items m) k = A0 k) ∨ (B0 k = A0 k ∧ lk z (items m) k = O0 k ∧ (Dj s a → (B0 k).2 = false))))
variable {z : α} {R B0 A0 O0 : ByteArray → α × Bool} {C : ByteArray → Prop} {s a o : Tr α}
theorem WlkI.keepA (h : WlkI z B0 A0 O0 C s a o) (hq : ∀ k, C k → A0 k = O0 k ∨ B0 k = O0 k) : WlkO z R B0 A0 O0 C s a o a [] :=
  ⟨h.sa, h.ba, h.ina, List.nodup_nil, fun k hk => (by cases hk), Nat.zero_le _, Nat.le_add_right _ _, fun k hk => .inr ⟨by simp, .inl ⟨hq k hk, h.ea k hk⟩⟩⟩
theorem WlkI.same_ao (h : WlkI z B0 A0 O0 C s a o) (e : a = o) : WlkO z R B0 A0 O0 C s a o a [] :=
  h.keepA fun k hk => .inl (by rw [← h.ea k hk, ← h.eo k hk, e])
theorem WlkI.same_so (h : WlkI z B0 A0 O0 C s a o) (e : s = o) : WlkO z R B0 A0 O0 C s a o a [] :=
  h.keepA fun k hk => .inr (by rw [← h.es k hk, ← h.eo k hk, e])
theorem WlkI.same_sa (h : WlkI z B0 A0 O0 C s a o) (e : s = a) : WlkO z R B0 A0 O0 C s a o o [] :=
  ⟨h.so, h.bo, h.ino, List.nodup_nil, fun k hk => (by cases hk), Nat.zero_le _, Nat.le_add_left _ _, fun k hk => .inr ⟨by simp, .inr ⟨by rw [← h.es k hk, ← h.ea k hk, e], h.eo k hk, fun hd => by
    rw [← h.es k hk]
    cases s with
    | nil => rfl
    | node b l k v r => subst e; exact absurd (by simp [blocks]) (hd b (by simp [blocks]))⟩⟩⟩
theorem WlkI.left {key : ByteArray} {sl sx sr al ax ar ol ox or' : Tr α} {N1 N2 N3 : Nat} (h : WlkI z B0 A0 O0 C s a o) (h1 : SplitR N1 key s sl sx sr) (h2 : SplitR N2 key a al ax ar) (h3 : SplitR N3 key o ol ox or') :
    WlkI z B0 A0 O0 (fun k => C k ∧ klt k key = true) sl al ol ∧ WlkI z B0 A0 O0 (fun k => C k ∧ klt key k = true) sr ar or' := by
  have p1 := h1.parts z h.ss
  have p2 := h2.parts z h.sa
  have p3 := h3.parts z h.so
  exact ⟨⟨p1.sa, p2.sa, p3.sa, (h1.bal h.bs).1, (h2.bal h.ba).1, (h3.bal h.bo).1, fun k hk => (p1.ea k hk.2).trans (h.es k hk.1), fun k hk => (p2.ea k hk.2).trans (h.ea k hk.1), fun k hk => (p3.ea k hk.2).trans (h.eo k hk.1),
    fun x hx => ⟨h.ins x (p1.ma x hx), p1.la x hx⟩, fun x hx => ⟨h.ina x (p2.ma x hx), p2.la x hx⟩, fun x hx => ⟨h.ino x (p3.ma x hx), p3.la x hx⟩⟩,
    ⟨p1.sc, p2.sc, p3.sc, (h1.bal h.bs).2, (h2.bal h.ba).2, (h3.bal h.bo).2, fun k hk => (p1.ec k hk.2).trans (h.es k hk.1), fun k hk => (p2.ec k hk.2).trans (h.ea k hk.1), fun k hk => (p3.ec k hk.2).trans (h.eo k hk.1),
    fun x hx => ⟨h.ins x (p1.mc x hx), p1.lc x hx⟩, fun x hx => ⟨h.ina x (p2.mc x hx), p2.lc x hx⟩, fun x hx => ⟨h.ino x (p3.mc x hx), p3.lc x hx⟩⟩⟩
/-- What is said of a key, handed up. -/
theorem said_up {m l : List (ByteArray × α)} {asked ks : List ByteArray} {s a s' a' : Tr α} {k : ByteArray} (hl : lk z m k = lk z l k) (ha : k ∈ asked ↔ k ∈ ks) (hd : Dj s a → Dj s' a')
    (h : (k ∈ ks ∧ lk z l k = nrm z (R k)) ∨ (k ∉ ks ∧ (((A0 k = O0 k ∨ B0 k = O0 k) ∧ lk z l k = A0 k) ∨ (B0 k = A0 k ∧ lk z l k = O0 k ∧ (Dj s' a' → (B0 k).2 = false))))) :
    (k ∈ asked ∧ lk z m k = nrm z (R k)) ∨ (k ∉ asked ∧ (((A0 k = O0 k ∨ B0 k = O0 k) ∧ lk z m k = A0 k) ∨ (B0 k = A0 k ∧ lk z m k = O0 k ∧ (Dj s a → (B0 k).2 = false)))) := by
  rw [hl, ha]
  rcases h with h | ⟨h1, h | ⟨h2, h3, h4⟩⟩
  · exact .inl h
  · exact .inr ⟨h1, .inl h⟩
  · exact .inr ⟨h1, .inr ⟨h2, h3, fun h => h4 (hd h)⟩⟩
theorem WlkO.step {key : ByteArray} {sl sx sr al ax ar ol ox or' l r m : Tr α} {as1 as2 : List ByteArray} {N1 N2 N3 : Nat} (h : WlkI z B0 A0 O0 C s a o) (hk : C key)
    (hx : 1 ≤ (here ax).length + (here ox).length)
    (h1 : SplitR N1 key s sl sx sr) (h2 : SplitR N2 key a al ax ar) (h3 : SplitR N3 key o ol ox or') (hd : Dj s a → Dj sl al ∧ Dj sr ar)
    (o1 : WlkO z R B0 A0 O0 (fun k => C k ∧ klt k key = true) sl al ol l as1) (o2 : WlkO z R B0 A0 O0 (fun k => C k ∧ klt key k = true) sr ar or' r as2)
    (hm : items m = items l ++ ((if (R key).2 = true then [(key, (R key).1)] else []) ++ items r)) (hb : Bal m) : WlkO z R B0 A0 O0 C s a o m (as1 ++ as2 ++ [key]) := by
  have p2 := h2.parts z h.sa
  have p3 := h3.parts z h.so
  have l1 : ∀ k ∈ as1, klt k key = true := fun k hk => (o1.sub k hk).1.2
  have l2 : ∀ k ∈ as2, klt key k = true := fun k hk => (o2.sub k hk).1.2
  have hmid : ∀ y ∈ (if (R key).2 = true then [(key, (R key).1)] else [] : List (ByteArray × α)), y.1 = key := by
    intro y hy
    split at hy
    · rw [List.mem_singleton.1 hy]
    · cases hy
  have hml : (if (R key).2 = true then [(key, (R key).1)] else [] : List (ByteArray × α)).length ≤ 1 := by split <;> simp
  generalize hq : (if (R key).2 = true then [(key, (R key).1)] else [] : List (ByteArray × α)) = mid at *
  refine ⟨?_, hb, ?_, ?_, ?_, ?_, ?_, ?_⟩
  · rw [hm]
    refine srt_append.2 ⟨o1.srt, srt_append.2 ⟨?_, o2.srt, fun x hx y hy => ?_⟩, fun x hx y hy => ?_⟩
    · rw [← hq]; split <;> simp [Srt]
    · rw [hmid x hx]; exact (o2.inC y hy).2
    · rcases List.mem_append.1 hy with hy | hy
      · rw [hmid y hy]; exact (o1.inC x hx).2
      · exact klt_trans (o1.inC x hx).2 (o2.inC y hy).2
  · intro x hx
    rw [hm] at hx
    rcases List.mem_append.1 hx with hx | hx
    · exact (o1.inC x hx).1
    · rcases List.mem_append.1 hx with hx | hx
      · rw [hmid x hx]; exact hk
      · exact (o2.inC x hx).1
  · rw [List.nodup_append, List.nodup_append]
    refine ⟨⟨o1.nd, o2.nd, fun x hx y hy e => ?_⟩, by simp, fun x hx y hy e => ?_⟩
    · subst e; have := klt_trans (l1 x hx) (l2 x hy); rw [klt_irrefl] at this; cases this
    · rw [List.mem_singleton.1 hy] at e
      subst e
      rcases List.mem_append.1 hx with hx | hx
      · have := l1 x hx; rw [klt_irrefl] at this; cases this
      · have := l2 x hx; rw [klt_irrefl] at this; cases this
  · intro k hk'
    rcases List.mem_append.1 hk' with hk' | hk'
    · rcases List.mem_append.1 hk' with hk' | hk'
      · exact ⟨(o1.sub k hk').1.1, (o1.sub k hk').2⟩
      · exact ⟨(o2.sub k hk').1.1, (o2.sub k hk').2⟩
    · rw [List.mem_singleton.1 hk']
      refine ⟨hk, ?_⟩
      have e2 : lk z (here ax) key = A0 key := by rw [← p2.ex]; exact h.ea key hk
      have e3 : lk z (here ox) key = O0 key := by rw [← p3.ex]; exact h.eo key hk
      rcases split_mid h2 with e | ⟨v, e⟩
      · rcases split_mid h3 with e' | ⟨v, e'⟩
        · rw [e, e'] at hx; simp at hx
        · right; rw [← e3, e']; simp [lk]
      · left; rw [← e2, e]; simp [lk]
  · have := o1.len; have := o2.len; have := p2.sz; have := p3.sz
    simp only [List.length_append, List.length_cons, List.length_nil]
    omega
  · have e1 : sz m = sz l + mid.length + sz r := by rw [← sz_items, hm, ← sz_items l, ← sz_items r]; simp; omega
    have := o1.siz; have := o2.siz; have := p2.sz; have := p3.sz
    omega
  · intro k hC
    by_cases hlt : klt k key = true
    · refine said_up (l := items l) (ks := as1) ?_ ?_ (fun h => (hd h).1) (o1.ans k ⟨hC, hlt⟩)
      · rw [hm, lk_left]
        intro y hy
        rcases List.mem_append.1 hy with hy | hy
        · rw [hmid y hy]; exact Ne.symm (klt_ne hlt)
        · exact Ne.symm (klt_ne (klt_trans hlt (o2.inC y hy).2))
      · simp only [List.mem_append, List.mem_singleton]
        constructor
        · rintro ((h | h) | h)
          · exact h
          · have := klt_trans hlt (l2 k h); rw [klt_irrefl] at this; cases this
          · exact absurd h (klt_ne hlt)
        · intro h; exact .inl (.inl h)
    · by_cases hgt : klt key k = true
      · refine said_up (l := items r) (ks := as2) ?_ ?_ (fun h => (hd h).2) (o2.ans k ⟨hC, hgt⟩)
        · rw [hm, lk_right (fun y hy => klt_ne (klt_trans (o1.inC y hy).2 hgt)), lk_right]
          intro y hy; rw [hmid y hy]; exact klt_ne hgt
        · simp only [List.mem_append, List.mem_singleton]
          constructor
          · rintro ((h | h) | h)
            · have := klt_trans (l1 k h) hgt; rw [klt_irrefl] at this; cases this
            · exact h
            · exact absurd h.symm (klt_ne hgt)
          · intro h; exact .inl (.inr h)
      · have e := klt_tri (by simpa using hlt) (by simpa using hgt)
        subst e
        refine .inl ⟨by simp, ?_⟩
        rw [hm, lk_right (fun y hy => klt_ne (o1.inC y hy).2), lk_left (fun y hy => Ne.symm (klt_ne (o2.inC y hy).2)), ← hq]
        unfold nrm
        split
        · simp [lk]; exact Prod.ext rfl (by simpa using (‹(R k).2 = true›).symm)
        · rfl
/-- A rule that answers what two of them alike must come to, says it all. -/
theorem WlkO.all {m : Tr α} {asked : List ByteArray} (h : WlkO z R B0 A0 O0 C s a o m asked) (k : ByteArray) (hk : C k) (h1 : A0 k = O0 k ∨ B0 k = O0 k → nrm z (R k) = A0 k) (h2 : B0 k = A0 k → nrm z (R k) = O0 k ∨ (Dj s a ∧ (B0 k).2 = true)) : lk z (items m) k = nrm z (R k) := by
  rcases h.ans k hk with ⟨_, h⟩ | ⟨_, ⟨h3, h4⟩ | ⟨h3, h4, h5⟩⟩
  · exact h
  · rw [h4, h1 h3]
  · rcases h2 h3 with h6 | ⟨h6, h7⟩
    · rw [h4, h6]
    · rw [h5 h6] at h7; cases h7
end
end Pm
end Go.Proofs.Ytdodkhhlbjamhaa
