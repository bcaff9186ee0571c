
/- Plain: what is read of a tree: its ends, its i-th one, a key's node. -/
import Derived.Test.YtdodkhhlbjamhaaTr
namespace Go.Proofs.Ytdodkhhlbjamhaa
namespace Pm
section
variable {α : Type}
def endL : Tr α → Tr α
  | .nil => .nil
  | .node b .nil k v r => .node b .nil k v r
  | .node _ (.node b' l' k' v' r') _ _ _ => endL (.node b' l' k' v' r')
def endR : Tr α → Tr α
  | .nil => .nil
  | .node b l k v .nil => .node b l k v .nil
  | .node _ _ _ _ (.node b' l' k' v' r') => endR (.node b' l' k' v' r')
def atI : Tr α → Int → Tr α
  | .nil, _ => .nil
  | .node b l k v r, i => if i < (sz l : Int) then atI l i else if i = (sz l : Int) then .node b l k v r else atI r (i - (sz l : Int) - 1)
/-- What is gone over from a key on. -/
def fromL (key : ByteArray) : Tr α → List (ByteArray × α)
  | .nil => []
  | .node _ l k v r => if klt k key then fromL key r else fromL key l ++ (k, v) :: fromL key r
theorem fromL_all (t : Tr α) : fromL ⟨#[]⟩ t = items t := by
  induction t with
  | nil => rfl
  | node b l k v r ih1 ih2 =>
    have : klt k ⟨#[]⟩ = false := by
      cases h : klt k ⟨#[]⟩ with
      | false => rfl
      | true => exact absurd ((klt_iff _ _).1 h) (by simp)
    simp only [fromL, items]
    rw [if_neg (by rw [this]; simp), ih1, ih2]
theorem fromL_filter (key : ByteArray) (t : Tr α) (hs : Srt (items t)) : fromL key t = (items t).filter fun x => !klt x.1 key := by
  induction t with
  | nil => rfl
  | node b l k v r ih1 ih2 =>
    obtain ⟨s1, s2, s3⟩ := srt_append.1 hs
    obtain ⟨s4, s5⟩ := srt_cons.1 s2
    simp only [fromL, items]
    rw [List.filter_append, ih1 s1, ih2 s5]
    by_cases h : klt k key = true
    · rw [if_pos h]
      have e : (items l).filter (fun x => !klt x.1 key) = [] := by
        rw [List.filter_eq_nil_iff]
        intro x hx
        simp [klt_trans (s3 x hx _ List.mem_cons_self) h]
      rw [e, List.filter_cons, if_neg (by simp [h])]; rfl
    · rw [if_neg h, List.filter_cons, if_pos (by simpa using h)]
theorem endL_items : ∀ (t : Tr α), t ≠ .nil → ∃ b l k v r, endL t = .node b l k v r ∧ (items t)[0]? = some (k, v)
  | .nil, h => absurd rfl h
  | .node b .nil k v r, _ => ⟨b, .nil, k, v, r, rfl, rfl⟩
  | .node b (.node b' l' k' v' r') k v r, _ => by
    obtain ⟨b1, l1, k1, v1, r1, h1, h2⟩ := endL_items (.node b' l' k' v' r') (by simp)
    refine ⟨b1, l1, k1, v1, r1, h1, ?_⟩
    rw [items, List.getElem?_append_left (by rw [sz_items]; simp only [sz]; omega)]
    exact h2
theorem endR_items : ∀ (t : Tr α), t ≠ .nil → ∃ b l k v r, endR t = .node b l k v r ∧ (items t)[sz t - 1]? = some (k, v)
  | .nil, h => absurd rfl h
  | .node b l k v .nil, _ => ⟨b, l, k, v, .nil, rfl, by
    rw [items, List.getElem?_append_right (by rw [sz_items]; simp [sz]), sz_items]; simp [sz]⟩
  | .node b l k v (.node b' l' k' v' r'), _ => by
    obtain ⟨b1, l1, k1, v1, r1, h1, h2⟩ := endR_items (.node b' l' k' v' r') (by simp)
    refine ⟨b1, l1, k1, v1, r1, h1, ?_⟩
    have hp : 1 ≤ sz (.node b' l' k' v' r' : Tr α) := by simp [sz]
    generalize (.node b' l' k' v' r' : Tr α) = q at *
    rw [items, List.getElem?_append_right (by rw [sz_items]; simp only [sz]; omega), sz_items]
    rw [show sz (.node b l k v q) - 1 - sz l = (sz q - 1) + 1 by simp only [sz]; omega, List.getElem?_cons_succ]
    exact h2
theorem atI_items : ∀ (t : Tr α) (i : Nat) (h : i < sz t), ∃ b l k v r, atI t i = .node b l k v r ∧ (items t)[i]? = some (k, v) := by
  intro t
  induction t with
  | nil => intro i h; simp [sz] at h
  | node b l k v r ih1 ih2 =>
    intro i h
    simp only [atI]
    by_cases h1 : i < sz l
    · rw [if_pos (by omega)]
      obtain ⟨b1, l1, k1, v1, r1, g1, g2⟩ := ih1 i h1
      exact ⟨b1, l1, k1, v1, r1, g1, by rw [items, List.getElem?_append_left (by rw [sz_items]; exact h1)]; exact g2⟩
    · rw [if_neg (by omega)]
      by_cases h2 : i = sz l
      · rw [if_pos (by omega)]
        exact ⟨b, l, k, v, r, rfl, by rw [items, List.getElem?_append_right (by rw [sz_items]; omega), sz_items, h2]; simp⟩
      · rw [if_neg (by omega)]
        obtain ⟨j, rfl⟩ : ∃ j, i = sz l + 1 + j := ⟨i - sz l - 1, by omega⟩
        obtain ⟨b1, l1, k1, v1, r1, g1, g2⟩ := ih2 j (by simp only [sz] at h; omega)
        refine ⟨b1, l1, k1, v1, r1, ?_, ?_⟩
        · rw [← g1]; congr 1; omega
        · rw [items, List.getElem?_append_right (by rw [sz_items]; omega), sz_items, show sz l + 1 + j - sz l = j + 1 by omega, List.getElem?_cons_succ]
          exact g2
theorem atI_big : ∀ (t : Tr α) (i : Int), (sz t : Int) ≤ i → atI t i = .nil := by
  intro t
  induction t with
  | nil => intro i _; rfl
  | node b l k v r ih1 ih2 =>
    intro i h
    simp only [sz] at h
    simp only [atI]
    rw [if_neg (by omega), if_neg (by omega)]
    exact ih2 _ (by omega)
/-- A key's value, in the list. -/
theorem seek_val {k : ByteArray} {t : Tr α} (hs : Srt (items t)) {v : α} (h : (k, v) ∈ items t) : ∃ b l r, seek k t = .node b l k v r := by
  obtain ⟨b, l, v', r, e⟩ := seek_mem hs ⟨_, h, rfl⟩
  obtain ⟨_, hm⟩ := seek_some e
  have : v' = v := by
    clear e
    generalize items t = xs at *
    induction xs with
    | nil => cases h
    | cons x xs ih =>
      obtain ⟨s1, s2⟩ := srt_cons.1 hs
      rcases List.mem_cons.1 h with h | h <;> rcases List.mem_cons.1 hm with hm | hm
      · rw [← h] at hm; exact (Prod.mk.inj hm).2
      · have := s1 _ hm; rw [← h] at this; exact absurd rfl (klt_ne this)
      · have := s1 _ h; rw [← hm] at this; exact absurd rfl (klt_ne this)
      · exact ih s2 h hm
  subst this
  exact ⟨b, l, r, e⟩
theorem seek_out {k : ByteArray} {t : Tr α} (h : ∀ x ∈ items t, x.1 ≠ k) : seek k t = .nil := by
  cases e : seek k t with
  | nil => rfl
  | node b l k0 v0 r =>
    obtain ⟨rfl, hm⟩ := seek_some e
    exact absurd rfl (h _ hm)
/-- Entries, each put to the others; none where a key comes twice. -/
def ofL : List (ByteArray × α) → List (ByteArray × α) → Option (List (ByteArray × α))
  | acc, [] => some acc
  | acc, x :: xs => if ∃ y ∈ acc, y.1 = x.1 then none else ofL (ins x.1 x.2 acc) xs
theorem seek_nil_iff {k : ByteArray} {t : Tr α} (hs : Srt (items t)) : seek k t = .nil ↔ ¬ ∃ y ∈ items t, y.1 = k := by
  constructor
  · rintro h ⟨y, hy, e⟩
    exact seek_none hs h y hy e
  · intro h
    exact seek_out fun x hx e => h ⟨x, hx, e⟩
end
end Pm
end Go.Proofs.Ytdodkhhlbjamhaa
