
/- Plain: how many of a tree's nodes are new. -/
import Derived.Test.YtdodkhhlbjamhaaTr
namespace Go.Proofs.Ytdodkhhlbjamhaa
namespace Pm
section
variable {α : Type}
/-- How many nodes lie at blocks from N on. -/
def nw (N : Nat) : Tr α → Nat
  | .nil => 0
  | .node b l _ _ r => nw N l + nw N r + if N ≤ b then 1 else 0
/-- A tree that is none, or whose root is new. -/
def rn (N : Nat) : Tr α → Prop
  | .nil => False
  | .node b _ _ _ _ => N ≤ b
theorem nw_old {N : Nat} : ∀ {t : Tr α}, (∀ b ∈ blocks t, b < N) → nw N t = 0
  | .nil, _ => rfl
  | .node b l k v r, h => by
    have h1 := nw_old (t := l) fun x hx => h x (by simp [blocks, hx])
    have h2 := nw_old (t := r) fun x hx => h x (by simp [blocks, hx])
    have h3 := h b (by simp [blocks])
    simp only [nw, h1, h2]
    rw [if_neg (by omega)]
theorem nw_filter (N : Nat) : ∀ (t : Tr α), nw N t = ((blocks t).filter fun b => decide (N ≤ b)).length
  | .nil => rfl
  | .node b l k v r => by
    simp only [nw, blocks, List.filter_append, List.length_append, List.filter_cons, nw_filter N l, nw_filter N r]
    by_cases h : N ≤ b
    · simp [h]; omega
    · simp [h]
theorem bal_rn {N : Nat} {l r t : Tr α} {k : ByteArray} {v : α} (h : BalR N l k v r t) : rn N t := by
  cases h with
  | same _ _ h => exact h
  | ll _ _ h _ => exact h
  | lr _ _ h _ _ => exact h
  | rr _ _ h _ => exact h
  | rl _ _ h _ _ => exact h
theorem bal_nw3 {N : Nat} {l r t : Tr α} {k : ByteArray} {v : α} (h : BalR N l k v r t) : nw N t ≤ nw N l + nw N r + 3 := by
  cases h <;> simp only [nw] <;> (repeat' split) <;> omega
/-- Where the taller side's root is new: two at most. -/
theorem bal_nw2 {N : Nat} {l r t : Tr α} {k : ByteArray} {v : α} (h : BalR N l k v r t) (hl : ht r + 1 < ht l → rn N l) (hr : ht l + 1 < ht r → rn N r) : nw N t ≤ nw N l + nw N r + 2 := by
  cases h with
  | same h1 h2 h3 => simp only [nw]; split <;> omega
  | ll h1 h2 h3 h4 =>
    have := hl h1
    simp only [rn] at this
    simp only [nw]
    rw [if_pos h3, if_pos h4, if_pos this]; omega
  | lr h1 h2 h3 h4 h5 =>
    have := hl h1
    simp only [rn] at this
    simp only [nw]
    rw [if_pos h3, if_pos h4, if_pos h5, if_pos this]; omega
  | rr h1 h2 h3 h4 =>
    have := hr h1
    simp only [rn] at this
    simp only [nw]
    rw [if_pos h3, if_pos h4, if_pos this]; omega
  | rl h1 h2 h3 h4 h5 =>
    have := hr h1
    simp only [rn] at this
    simp only [nw]
    rw [if_pos h3, if_pos h4, if_pos h5, if_pos this]; omega
/-- A tree of two unlike sides, of which the taller one is new. -/
def hv (N : Nat) : Tr α → Prop
  | .nil => False
  | .node _ l _ _ r => (ht r < ht l ∧ rn N l) ∨ (ht l < ht r ∧ rn N r)
/-- .. and its taller one's root is new, one that is heavy on a new side: one at most. -/
theorem bal_nw1 {N : Nat} {l r t : Tr α} {k : ByteArray} {v : α} (h : BalR N l k v r t) (hl : ht r + 1 < ht l → rn N l ∧ hv N l) (hr : ht l + 1 < ht r → rn N r ∧ hv N r) : nw N t ≤ nw N l + nw N r + 1 := by
  cases h with
  | same h1 h2 h3 => simp only [nw]; split <;> omega
  | ll h1 h2 h3 h4 =>
    have := (hl h1).1
    simp only [rn] at this
    simp only [nw]
    rw [if_pos h3, if_pos h4, if_pos this]; omega
  | @lr bl bm ll ml mr r lk mk k lv mv v b1 b2 b3 h1 h2 h3 h4 h5 =>
    obtain ⟨h6, h7⟩ := hl h1
    simp only [rn] at h6
    have h8 : N ≤ bm := by
      rcases h7 with ⟨h7, _⟩ | ⟨_, h7⟩
      · omega
      · exact h7
    simp only [nw]
    rw [if_pos h3, if_pos h4, if_pos h5, if_pos h6, if_pos h8]; omega
  | rr h1 h2 h3 h4 =>
    have := (hr h1).1
    simp only [rn] at this
    simp only [nw]
    rw [if_pos h3, if_pos h4, if_pos this]; omega
  | @rl br bm l ml mr rr rk mk k rv mv v b1 b2 b3 h1 h2 h3 h4 h5 =>
    obtain ⟨h6, h7⟩ := hr h1
    simp only [rn] at h6
    have h8 : N ≤ bm := by
      rcases h7 with ⟨_, h7⟩ | ⟨h7, _⟩
      · exact h7
      · omega
    simp only [nw]
    rw [if_pos h3, if_pos h4, if_pos h5, if_pos h6, if_pos h8]; omega
/-- What a balanced node keeps: each of its nodes is new, or one of its sides'. -/
theorem bal_blocks {N : Nat} {l r t : Tr α} {k : ByteArray} {v : α} (h : BalR N l k v r t) : ∀ b ∈ blocks t, N ≤ b ∨ b ∈ blocks l ∨ b ∈ blocks r := by
  intro b hb
  cases h <;> simp only [blocks, List.mem_append, List.mem_cons] at hb ⊢ <;> grind
theorem put_blocks {N : Nat} {k : ByteArray} {v : α} {t t' : Tr α} (h : PutR N k v t t') : ∀ b ∈ blocks t', N ≤ b ∨ b ∈ blocks t := by
  induction h with
  | nil h => intro b hb; simp [blocks] at hb; subst hb; exact .inl h
  | lt h1 h2 h3 ih =>
    intro b hb
    rcases bal_blocks h3 b hb with h | h | h
    · exact .inl h
    · rcases ih b h with h | h
      · exact .inl h
      · exact .inr (by simp [blocks, h])
    · exact .inr (by simp [blocks, h])
  | gt h1 h2 h3 ih =>
    intro b hb
    rcases bal_blocks h3 b hb with h | h | h
    · exact .inl h
    · exact .inr (by simp [blocks, h])
    · rcases ih b h with h | h
      · exact .inl h
      · exact .inr (by simp [blocks, h])
  | eq h1 h2 =>
    intro b hb
    simp only [blocks, List.mem_append, List.mem_cons] at hb
    rcases hb with h | rfl | h
    · exact .inr (by simp [blocks, h])
    · exact .inl h2
    · exact .inr (by simp [blocks, h])
theorem put_rn {N : Nat} {k : ByteArray} {v : α} {t t' : Tr α} (h : PutR N k v t t') : rn N t' := by
  cases h with
  | nil h => exact h
  | lt h1 h2 h3 => exact bal_rn h3
  | gt h1 h2 h3 => exact bal_rn h3
  | eq h1 h2 => exact h2
/-- A tree that grew is heavy on a new side, if it was one. -/
theorem put_hv {N : Nat} {k : ByteArray} {v : α} {t t' : Tr α} (h : PutR N k v t t') (hb : Bal t) (hg : ht t' = ht t + 1) (hn : t ≠ .nil) : hv N t' := by
  induction h with
  | nil h => exact absurd rfl hn
  | @lt b l r l' t k0 v0 h1 h2 h3 ih =>
    obtain ⟨b1, b2, b3, b4⟩ := hb
    obtain ⟨p1, p2⟩ := h2.bal b1
    have p3 := put_rn h2
    have p4 : ht r + 1 < ht l' → hv N l' := fun h => ih b1 (by omega) (fun e => by subst e; cases h2; simp only [ht] at h; omega)
    cases h3 with
    | same q1 q2 q3 =>
      simp only [ht] at hg
      exact .inl ⟨by omega, p3⟩
    | ll q1 q2 => have p5 := p4 q1; simp only [hv, ht] at *; rcases p5 with p5 | p5 <;> omega
    | lr q1 q2 => simp only [Bal, ht] at *; omega
    | rr q1 q2 => simp only [Bal, ht] at *; omega
    | rl q1 q2 => simp only [Bal, ht] at *; omega
  | @gt b l r r' t k0 v0 h1 h2 h3 ih =>
    obtain ⟨b1, b2, b3, b4⟩ := hb
    obtain ⟨p1, p2⟩ := h2.bal b2
    have p3 := put_rn h2
    have p4 : ht l + 1 < ht r' → hv N r' := fun h => ih b2 (by omega) (fun e => by subst e; cases h2; simp only [ht] at h; omega)
    cases h3 with
    | same q1 q2 q3 =>
      simp only [ht] at hg
      exact .inr ⟨by omega, p3⟩
    | ll q1 q2 => simp only [Bal, ht] at *; omega
    | lr q1 q2 => simp only [Bal, ht] at *; omega
    | rr q1 q2 => have p5 := p4 q1; simp only [hv, ht] at *; rcases p5 with p5 | p5 <;> omega
    | rl q1 q2 => simp only [Bal, ht] at *; omega
  | eq h1 h2 => simp only [ht] at hg; omega
theorem put_nw {N : Nat} {k : ByteArray} {v : α} {t t' : Tr α} (h : PutR N k v t t') (hb : Bal t) (ho : ∀ b ∈ blocks t, b < N) : nw N t' ≤ ht t + 1 ∧ (seek k t ≠ .nil → nw N t' ≤ ht t) := by
  induction h with
  | nil h => exact ⟨by simp [nw, ht, h], fun h => absurd rfl h⟩
  | @lt b l r l' t k0 v0 h1 h2 h3 ih =>
    have hb0 := hb
    obtain ⟨b1, b2, b3, b4⟩ := hb
    have i0 := ih b1 fun x hx => ho x (by simp [blocks, hx])
    have o2 := nw_old (t := r) (N := N) fun x hx => ho x (by simp [blocks, hx])
    obtain ⟨p1, p2⟩ := h2.bal b1
    have hc : nw N t ≤ nw N l' + nw N r + 1 := bal_nw1 h3 (fun h => ⟨put_rn h2, put_hv h2 b1 (by omega) (fun e => by subst e; cases h2; simp only [ht] at h; omega)⟩) (fun h => by omega)
    simp only [ht]
    refine ⟨by omega, fun hs => ?_⟩
    simp only [seek, if_pos h1] at hs
    have := i0.2 hs
    omega
  | @gt b l r r' t k0 v0 h1 h2 h3 ih =>
    obtain ⟨b1, b2, b3, b4⟩ := hb
    have i0 := ih b2 fun x hx => ho x (by simp [blocks, hx])
    have o2 := nw_old (t := l) (N := N) fun x hx => ho x (by simp [blocks, hx])
    obtain ⟨p1, p2⟩ := h2.bal b2
    have hc : nw N t ≤ nw N l + nw N r' + 1 := bal_nw1 h3 (fun h => by omega) (fun h => ⟨put_rn h2, put_hv h2 b2 (by omega) (fun e => by subst e; cases h2; simp only [ht] at h; omega)⟩)
    simp only [ht]
    refine ⟨by omega, fun hs => ?_⟩
    simp only [seek, if_neg (show ¬ klt k k0 = true by rw [klt_asymm h1]; simp), if_pos h1] at hs
    have := i0.2 hs
    omega
  | @eq b b' l r k0 v0 h1 h2 =>
    have o1 := nw_old (t := l) (N := N) fun x hx => ho x (by simp [blocks, hx])
    have o2 := nw_old (t := r) (N := N) fun x hx => ho x (by simp [blocks, hx])
    simp only [nw, ht, o1, o2, if_pos h2]
    omega
theorem first_blocks {N : Nat} {t t' : Tr α} {k : ByteArray} {v : α} (h : FirstR N t k v t') : ∀ b ∈ blocks t', N ≤ b ∨ b ∈ blocks t := by
  induction h with
  | here => intro b hb; exact .inr (by simp [blocks, hb])
  | left h1 h2 ih =>
    intro b hb
    rcases bal_blocks h2 b hb with h | h | h
    · exact .inl h
    · rcases ih b h with h | h
      · exact .inl h
      · exact .inr (by simp [blocks, h])
    · exact .inr (by simp [blocks, h])
theorem first_nw {N : Nat} {t t' : Tr α} {k : ByteArray} {v : α} (h : FirstR N t k v t') (ho : ∀ b ∈ blocks t, b < N) : nw N t' ≤ 3 * ht t := by
  induction h with
  | @here b k v r =>
    have o2 := nw_old (t := r) (N := N) fun x hx => ho x (by simp [blocks, hx])
    omega
  | @left b l r l' t k k1 v v1 h1 h2 ih =>
    have i0 := ih fun x hx => ho x (by simp [blocks, hx])
    have o2 := nw_old (t := r) (N := N) fun x hx => ho x (by simp [blocks, hx])
    have := bal_nw3 h2
    simp only [ht]
    omega
theorem take_blocks {N : Nat} {k : ByteArray} {t t' : Tr α} (h : TakeR N k t t') : ∀ b ∈ blocks t', N ≤ b ∨ b ∈ blocks t := by
  induction h with
  | lt h1 h2 h3 ih =>
    intro b hb
    rcases bal_blocks h3 b hb with h | h | h
    · exact .inl h
    · rcases ih b h with h | h
      · exact .inl h
      · exact .inr (by simp [blocks, h])
    · exact .inr (by simp [blocks, h])
  | gt h1 h2 h3 ih =>
    intro b hb
    rcases bal_blocks h3 b hb with h | h | h
    · exact .inl h
    · exact .inr (by simp [blocks, h])
    · rcases ih b h with h | h
      · exact .inl h
      · exact .inr (by simp [blocks, h])
  | last h1 => intro b hb; exact .inr (by simp [blocks, hb])
  | eq h1 h2 h3 =>
    intro b hb
    rcases bal_blocks h3 b hb with h | h | h
    · exact .inl h
    · exact .inr (by simp [blocks, h])
    · rcases first_blocks h2 b h with h | h
      · exact .inl h
      · exact .inr (by simp [blocks, h])
theorem take_nw {N : Nat} {k : ByteArray} {t t' : Tr α} (h : TakeR N k t t') (ho : ∀ b ∈ blocks t, b < N) : nw N t' ≤ 3 * ht t := by
  induction h with
  | @lt b l r l' t k0 v0 h1 h2 h3 ih =>
    have i0 := ih fun x hx => ho x (by simp [blocks, hx])
    have o2 := nw_old (t := r) (N := N) fun x hx => ho x (by simp [blocks, hx])
    have := bal_nw3 h3
    simp only [ht]; omega
  | @gt b l r r' t k0 v0 h1 h2 h3 ih =>
    have i0 := ih fun x hx => ho x (by simp [blocks, hx])
    have o2 := nw_old (t := l) (N := N) fun x hx => ho x (by simp [blocks, hx])
    have := bal_nw3 h3
    simp only [ht]; omega
  | @last b l k0 v0 h1 =>
    have o2 := nw_old (t := l) (N := N) fun x hx => ho x (by simp [blocks, hx])
    omega
  | @eq b l r r' t k0 k1 v0 v1 h1 h2 h3 =>
    have i0 := first_nw h2 fun x hx => ho x (by simp [blocks, hx])
    have o2 := nw_old (t := l) (N := N) fun x hx => ho x (by simp [blocks, hx])
    have := bal_nw3 h3
    simp only [ht]; omega
theorem join_rn {N : Nat} {k : ByteArray} {v : α} {l r t : Tr α} (h : JoinR N k v l r t) : rn N t := by
  cases h with
  | left h1 h2 h3 => exact bal_rn h3
  | right h1 h2 h3 => exact bal_rn h3
  | same h1 h2 h3 => exact h3
theorem join_blocks {N : Nat} {k : ByteArray} {v : α} {l r t : Tr α} (h : JoinR N k v l r t) : ∀ b ∈ blocks t, N ≤ b ∨ b ∈ blocks l ∨ b ∈ blocks r := by
  induction h with
  | left h1 h2 h3 ih =>
    intro b hb
    rcases bal_blocks h3 b hb with h | h | h
    · exact .inl h
    · exact .inr (.inl (by simp [blocks, h]))
    · rcases ih b h with h | h | h
      · exact .inl h
      · exact .inr (.inl (by simp [blocks, h]))
      · exact .inr (.inr h)
  | right h1 h2 h3 ih =>
    intro b hb
    rcases bal_blocks h3 b hb with h | h | h
    · exact .inl h
    · rcases ih b h with h | h | h
      · exact .inl h
      · exact .inr (.inl h)
      · exact .inr (.inr (by simp [blocks, h]))
    · exact .inr (.inr (by simp [blocks, h]))
  | same h1 h2 h3 =>
    intro b hb
    simp only [blocks, List.mem_append, List.mem_cons] at hb
    rcases hb with h | rfl | h
    · exact .inr (.inl h)
    · exact .inl h3
    · exact .inr (.inr h)
theorem join_nwL {N : Nat} {k : ByteArray} {v : α} {l r t : Tr α} (h : JoinR N k v l r t) (hl : Bal l) (hr : Bal r) (ol : ∀ b ∈ blocks l, b < N) (or' : ∀ b ∈ blocks r, b < N) (hd : ht r ≤ ht l) :
    (ht t = ht l ∧ nw N t + ht r ≤ ht l + 2) ∨ (ht t = ht l + 1 ∧ nw N t + ht r ≤ ht l + 1) := by
  induction h with
  | @left b ll lr r t1 t lk lv h1 h2 h3 ih =>
    obtain ⟨b1, b2, b3, b4⟩ := hl
    have o1 := nw_old (t := ll) (N := N) fun x hx => ol x (by simp [blocks, hx])
    have hd2 : ht r ≤ ht lr := by simp only [ht] at h1; omega
    have i0 := ih b2 hr (fun x hx => ol x (by simp [blocks, hx])) or' hd2
    obtain ⟨j1, j2⟩ := h2.bal b2 hr
    have n2 := bal_nw2 h3 (fun h => by omega) (fun _ => join_rn h2)
    have j3 := h3.bal b1 j1 (by omega) (by omega)
    rcases i0 with ⟨e1, e2⟩ | ⟨e1, e2⟩
    · obtain ⟨bb, hbb, rfl⟩ := h3.plain (by omega) (by omega)
      simp only [nw, ht, if_pos hbb] at *
      left; omega
    · cases h3 with
      | same q1 q2 q3 => simp only [nw, ht, if_pos q3] at *; by_cases hh : max (ht ll) (ht t1) = max (ht ll) (ht lr) <;> omega
      | ll q1 q2 => simp only [ht] at *; simp only [Bal, ht] at b1; omega
      | lr q1 q2 => simp only [ht] at *; simp only [Bal, ht] at b1; omega
      | rr q1 q2 q3 q4 =>
        have q5 := join_rn h2
        simp only [rn] at q5
        simp only [nw, if_pos q3, if_pos q4, if_pos q5] at *
        simp only [ht] at *
        simp only [Bal, ht] at j1
        omega
      | rl q1 q2 =>
        simp only [ht] at *
        simp only [Bal, ht] at j1
        omega
  | right h1 h2 h3 ih => omega
  | @same b l r h1 h2 h3 =>
    have o1 := nw_old ol
    have o2 := nw_old or'
    simp only [nw, o1, o2, if_pos h3, ht]
    omega
theorem join_nwR {N : Nat} {k : ByteArray} {v : α} {l r t : Tr α} (h : JoinR N k v l r t) (hl : Bal l) (hr : Bal r) (ol : ∀ b ∈ blocks l, b < N) (or' : ∀ b ∈ blocks r, b < N) (hd : ht l ≤ ht r) :
    (ht t = ht r ∧ nw N t + ht l ≤ ht r + 2) ∨ (ht t = ht r + 1 ∧ nw N t + ht l ≤ ht r + 1) := by
  induction h with
  | left h1 h2 h3 ih => omega
  | @right b l rl rr t1 t rk rv h1 h2 h3 ih =>
    obtain ⟨b1, b2, b3, b4⟩ := hr
    have o1 := nw_old (t := rr) (N := N) fun x hx => or' x (by simp [blocks, hx])
    have hd2 : ht l ≤ ht rl := by simp only [ht] at h1; omega
    have i0 := ih hl b1 ol (fun x hx => or' x (by simp [blocks, hx])) hd2
    obtain ⟨j1, j2⟩ := h2.bal hl b1
    have n2 := bal_nw2 h3 (fun _ => join_rn h2) (fun h => by omega)
    have j3 := h3.bal j1 b2 (by omega) (by omega)
    rcases i0 with ⟨e1, e2⟩ | ⟨e1, e2⟩
    · obtain ⟨bb, hbb, rfl⟩ := h3.plain (by omega) (by omega)
      simp only [nw, ht, if_pos hbb] at *
      left; omega
    · cases h3 with
      | same q1 q2 q3 => simp only [nw, ht, if_pos q3] at *; by_cases hh : max (ht t1) (ht rr) = max (ht rl) (ht rr) <;> omega
      | rr q1 q2 => simp only [ht] at *; simp only [Bal, ht] at b2; omega
      | rl q1 q2 => simp only [ht] at *; simp only [Bal, ht] at b2; omega
      | ll q1 q2 q3 q4 =>
        have q5 := join_rn h2
        simp only [rn] at q5
        simp only [nw, if_pos q3, if_pos q4, if_pos q5] at *
        simp only [ht] at *
        simp only [Bal, ht] at j1
        omega
      | lr q1 q2 =>
        simp only [ht] at *
        simp only [Bal, ht] at j1
        omega
  | @same b l r h1 h2 h3 =>
    have o1 := nw_old ol
    have o2 := nw_old or'
    simp only [nw, o1, o2, if_pos h3, ht]
    omega
/-- Joined, few are new. -/
theorem join_nw {N : Nat} {k : ByteArray} {v : α} {l r t : Tr α} (h : JoinR N k v l r t) (hl : Bal l) (hr : Bal r) (ol : ∀ b ∈ blocks l, b < N) (or' : ∀ b ∈ blocks r, b < N) :
    (nw N t : Int) ≤ max ((ht l : Int) - ht r) (-((ht l : Int) - ht r)) + 2 := by
  rcases Nat.le_total (ht r) (ht l) with hd | hd
  · have := join_nwL h hl hr ol or' hd
    omega
  · have := join_nwR h hl hr ol or' hd
    omega
theorem split_blocks {N : Nat} {k : ByteArray} {t a x c : Tr α} (h : SplitR N k t a x c) : (∀ b ∈ blocks a, N ≤ b ∨ b ∈ blocks t) ∧ (∀ b ∈ blocks c, N ≤ b ∨ b ∈ blocks t) := by
  induction h with
  | nil => exact ⟨fun b hb => by simp [blocks] at hb, fun b hb => by simp [blocks] at hb⟩
  | lt h1 h2 h3 ih =>
    refine ⟨fun b hb => ?_, fun b hb => ?_⟩
    · rcases ih.1 b hb with h | h
      · exact .inl h
      · exact .inr (by simp [blocks, h])
    · rcases join_blocks h3 b hb with h | h | h
      · exact .inl h
      · rcases ih.2 b h with h | h
        · exact .inl h
        · exact .inr (by simp [blocks, h])
      · exact .inr (by simp [blocks, h])
  | gt h1 h2 h3 ih =>
    refine ⟨fun b hb => ?_, fun b hb => ?_⟩
    · rcases join_blocks h3 b hb with h | h | h
      · exact .inl h
      · exact .inr (by simp [blocks, h])
      · rcases ih.1 b h with h | h
        · exact .inl h
        · exact .inr (by simp [blocks, h])
    · rcases ih.2 b hb with h | h
      · exact .inl h
      · exact .inr (by simp [blocks, h])
  | eq h1 => exact ⟨fun b hb => .inr (by simp [blocks, hb]), fun b hb => .inr (by simp [blocks, hb])⟩
/-- How many elements of a list satisfy one of two. -/
theorem filter_or_le {β : Type} (p q r : β → Bool) (h : ∀ x, p x = true → q x = true ∨ r x = true) : ∀ (l : List β), (l.filter p).length ≤ (l.filter q).length + (l.filter r).length
  | [] => by simp
  | x :: l => by
    have ih := filter_or_le p q r h l
    have hx := h x
    simp only [List.filter_cons]
    by_cases hp : p x = true
    · rcases hx hp with e | e
      · rw [if_pos hp, if_pos e]; split <;> simp <;> omega
      · rw [if_pos hp, if_pos e]; split <;> simp <;> omega
    · rw [if_neg hp]; split <;> split <;> simp <;> omega
theorem filter_not {β : Type} (p : β → Bool) : ∀ (l : List β), (l.filter p).length + (l.filter fun x => !p x).length = l.length
  | [] => rfl
  | x :: l => by
    have ih := filter_not p l
    simp only [List.filter_cons]
    by_cases hp : p x = true
    · simp [hp]; omega
    · simp [hp]; omega
end
end Pm
end Go.Proofs.Ytdodkhhlbjamhaa
