/- Plain facts for the law WireLists: lists of pairs, written and read. -/
import Derived.Test.YtbgnkdbbkkoinaaWireT2
import Derived.Test.YtbgnkdbbkkoinaaWireB1
namespace Go.Proofs.Ytbgnkdbbkkoinaa
open Go.RowKit Wire
/-- What pair answers. -/
def pairOut (l : List UInt8) (p : Nat) : (Nat × Nat) × Nat × Nat :=
  if (numOut l p).2.2 = 0 then (((numOut l p).1, (numOut l (numOut l p).2.1).1), (numOut l (numOut l p).2.1).2.1, (numOut l (numOut l p).2.1).2.2) else ((0, 0), (numOut l p).2.1, (numOut l p).2.2)
theorem pairOut_adv (l : List UInt8) (p : Nat) (h : (pairOut l p).2.2 = 0) : p < (pairOut l p).2.1 := by
  unfold pairOut at h ⊢
  split at h
  · rename_i h0
    rw [if_pos h0]
    have := numOut_adv l p h0
    have := numOut_ge l (numOut l p).2.1
    simp only; omega
  · rename_i h0; exact absurd h h0
theorem pairOut_ge (l : List UInt8) (p : Nat) : p ≤ (pairOut l p).2.1 := by
  unfold pairOut
  have h1 := numOut_ge l p
  have h2 := numOut_ge l (numOut l p).2.1
  split
  · simp only; omega
  · exact h1
theorem pairOut_err (l : List UInt8) (p : Nat) : (pairOut l p).2.2 = 0 ∨ (pairOut l p).2.2 = 4 := by
  have h4 : ∀ p, (numOut l p).2.2 = 0 ∨ (numOut l p).2.2 = 4 := fun p => by
    rcases numOut_err l p with h | h
    · exact .inl h
    · exact .inr (by rw [h])
  unfold pairOut
  split
  · exact h4 _
  · exact h4 _
def penc (qs : List (Nat × Nat)) : List UInt8 := qs.flatMap fun q => enc q.1 ++ enc q.2
theorem penc_cons (q : Nat × Nat) (r : List (Nat × Nat)) : penc (q :: r) = enc q.1 ++ (enc q.2 ++ penc r) := by simp [penc]
theorem penc_append (a b : List (Nat × Nat)) : penc (a ++ b) = penc a ++ penc b := by simp [penc]
theorem penc_le (a : List (Nat × Nat)) : (penc a).length ≤ 20 * a.length := by
  induction a with
  | nil => simp [penc]
  | cons q r ih => rw [penc_cons]; have := enc_length q.1; have := enc_length q.2; simp; omega
theorem pairOut_at (pre rest : List UInt8) (a b : Nat) (ha : a < 18446744073709551616) (hb : b < 18446744073709551616) :
    pairOut (pre ++ (enc a ++ (enc b ++ rest))) pre.length = ((a, b), pre.length + (enc a).length + (enc b).length, 0) := by
  have h1 := numOut_at pre (enc b ++ rest) a ha
  have h2 := numOut_at (pre ++ enc a) rest b hb
  simp only [List.append_assoc, List.length_append] at h2
  unfold pairOut
  rw [h1, if_pos rfl, h2]
theorem many_at (qs : List (Nat × Nat)) (hq : ∀ q ∈ qs, q.1 < 18446744073709551616 ∧ q.2 < 18446744073709551616) : ∀ (pre rest : List UInt8),
    many (pairOut (pre ++ (penc qs ++ rest))) qs.length pre.length = (qs, pre.length + (penc qs).length, 0) := by
  induction qs with
  | nil => intro pre rest; simp [many, penc]
  | cons q r ih =>
    intro pre rest
    obtain ⟨a, b⟩ := q
    have h0 := hq (a, b) (by simp)
    have h1 := pairOut_at pre (penc r ++ rest) a b h0.1 h0.2
    have h2 := ih (fun q hqr => hq q (by simp [hqr])) (pre ++ enc a ++ enc b) rest
    simp only [List.append_assoc, List.length_append] at h2
    rw [penc_cons]
    simp only [List.append_assoc, List.length_cons]
    have h3 : many (pairOut (pre ++ (enc a ++ (enc b ++ (penc r ++ rest))))) (r.length + 1) pre.length = if (pairOut (pre ++ (enc a ++ (enc b ++ (penc r ++ rest)))) pre.length).2.2 = 0 then ((pairOut (pre ++ (enc a ++ (enc b ++ (penc r ++ rest)))) pre.length).1 :: (many (pairOut (pre ++ (enc a ++ (enc b ++ (penc r ++ rest))))) r.length (pairOut (pre ++ (enc a ++ (enc b ++ (penc r ++ rest)))) pre.length).2.1).1, (many (pairOut (pre ++ (enc a ++ (enc b ++ (penc r ++ rest))))) r.length (pairOut (pre ++ (enc a ++ (enc b ++ (penc r ++ rest)))) pre.length).2.1).2) else ([(pairOut (pre ++ (enc a ++ (enc b ++ (penc r ++ rest)))) pre.length).1], (pairOut (pre ++ (enc a ++ (enc b ++ (penc r ++ rest)))) pre.length).2.1, (pairOut (pre ++ (enc a ++ (enc b ++ (penc r ++ rest)))) pre.length).2.2) := rfl
    rw [h3, h1, if_pos rfl]
    rw [show pre.length + (enc a).length + (enc b).length = pre.length + ((enc a).length + (enc b).length) from by omega] at *
    rw [h2]
    simp only [List.length_append, Prod.mk.injEq, true_and, and_true]
    omega
/-- What a list's form is. -/
def lenc (qs : List (Nat × Nat)) : List UInt8 := enc qs.length ++ penc qs
section
variable (qs : List (Nat × Nat)) (hl : qs.length < 18446744073709551616) (hq : ∀ q ∈ qs, q.1 < 18446744073709551616 ∧ q.2 < 18446744073709551616)
include hl
theorem lenc_count : numOut (lenc qs) 0 = (qs.length, (enc qs.length).length, 0) := by
  have := numOut_at [] (penc qs) qs.length hl
  simpa [lenc] using this
theorem lists_few (h : 0 < qs.length) : listOut (pairOut (lenc qs)) 0 (cntOut (lenc qs) 0 ((qs.length : Int) - 1)) = ([], 0, 3) := by
  have hc : cntOut (lenc qs) 0 ((qs.length : Int) - 1) = (0, (enc qs.length).length, 3) := by
    unfold cntOut
    rw [if_neg (by omega), lenc_count qs hl, if_pos rfl, if_pos (by simp only; omega)]
  unfold listOut
  rw [hc, if_neg (by simp)]
include hq
theorem lists_all : listOut (pairOut (lenc qs)) 0 (cntOut (lenc qs) 0 (qs.length : Int)) = (qs, (lenc qs).length, 0) := by
  have hc : cntOut (lenc qs) 0 (qs.length : Int) = (qs.length, (enc qs.length).length, 0) := by
    unfold cntOut
    rw [if_neg (by omega), lenc_count qs hl, if_pos rfl, if_neg (by simp)]
  have hm := many_at qs hq (enc qs.length) []
  rw [List.append_nil] at hm
  unfold listOut
  rw [hc, if_pos rfl]
  simp only
  rw [show lenc qs = enc qs.length ++ penc qs from rfl, hm, if_pos rfl]
  simp
end
theorem numOut_take (l : List UInt8) (c p : Nat) (h : (numOut (l.take c) p).2.2 = 0) : numOut l p = numOut (l.take c) p ∧ (numOut (l.take c) p).2.1 ≤ c := by
  unfold numOut at h ⊢
  cases hr : rd ((l.take c).drop p) 0 0 with
  | none => rw [hr] at h; simp at h
  | some x =>
    obtain ⟨v, j⟩ := x
    obtain ⟨hj, hjl, ht, hv⟩ := rd_back _ _ _ hr
    have hpj : p + j ≤ c := by simp at hjl; omega
    have e : (l.drop p).take j = enc v := by
      rw [← ht, List.drop_take, List.take_take]
      congr 1; omega
    have hlen : j = (enc v).length := by rw [← e]; simp at hjl ⊢; omega
    have e2 : l.drop p = enc v ++ (l.drop p).drop j := by rw [← e, List.take_append_drop]
    rw [e2, rd_enc v hv]
    simp only
    rw [← hlen]
    exact ⟨rfl, hpj⟩
theorem pairOut_take (l : List UInt8) (c p : Nat) (h : (pairOut (l.take c) p).2.2 = 0) : pairOut l p = pairOut (l.take c) p ∧ (pairOut (l.take c) p).2.1 ≤ c := by
  unfold pairOut at h ⊢
  split at h
  · rename_i h0
    obtain ⟨e1, _⟩ := numOut_take l c p h0
    obtain ⟨e2, l2⟩ := numOut_take l c _ h
    rw [if_pos h0, e1, if_pos h0, e2]
    exact ⟨rfl, l2⟩
  · rename_i h0; exact absurd h h0
theorem many_take (l : List UInt8) (c : Nat) : ∀ n p, p ≤ c → (many (pairOut (l.take c)) n p).2.2 = 0 → many (pairOut l) n p = many (pairOut (l.take c)) n p ∧ (many (pairOut (l.take c)) n p).2.1 ≤ c := by
  intro n
  induction n with
  | zero => intro p hp _; exact ⟨rfl, hp⟩
  | succ n ih =>
    intro p hp h
    have h3 : ∀ l' : List UInt8, many (pairOut l') (n + 1) p = if (pairOut l' p).2.2 = 0 then ((pairOut l' p).1 :: (many (pairOut l') n (pairOut l' p).2.1).1, (many (pairOut l') n (pairOut l' p).2.1).2) else ([(pairOut l' p).1], (pairOut l' p).2.1, (pairOut l' p).2.2) := fun _ => rfl
    rw [h3] at h ⊢
    rw [h3]
    by_cases h0 : (pairOut (l.take c) p).2.2 = 0
    · obtain ⟨e1, l1⟩ := pairOut_take l c p h0
      rw [if_pos h0] at h ⊢
      rw [e1, if_pos h0]
      obtain ⟨e2, l2⟩ := ih _ l1 h
      rw [e2]
      exact ⟨rfl, l2⟩
    · rw [if_neg h0] at h
      exact absurd h h0
theorem many_err (l : List UInt8) : ∀ n p, (many (pairOut l) n p).2.2 = 0 ∨ (many (pairOut l) n p).2.2 = 4 := by
  intro n
  induction n with
  | zero => intro p; exact .inl rfl
  | succ n ih =>
    intro p
    unfold many
    split
    · exact ih _
    · exact pairOut_err l p
/-- Bytes that end too soon. -/
theorem lists_cut (qs : List (Nat × Nat)) (hl : qs.length < 18446744073709551616) (hq : ∀ q ∈ qs, q.1 < 18446744073709551616 ∧ q.2 < 18446744073709551616) (c : Nat) (hc : c < (lenc qs).length) :
    listOut (pairOut ((lenc qs).take c)) 0 (cntOut ((lenc qs).take c) 0 (qs.length : Int)) = ([], 0, 4) := by
  have h0 : ¬ ((qs.length : Int) < 0) := by omega
  rcases numOut_err ((lenc qs).take c) 0 with he | he
  · obtain ⟨e1, l1⟩ := numOut_take (lenc qs) c 0 he
    have hn := e1.symm.trans (lenc_count qs hl)
    have hcnt : cntOut ((lenc qs).take c) 0 (qs.length : Int) = (qs.length, (enc qs.length).length, 0) := by
      unfold cntOut
      rw [if_neg h0, hn, if_pos rfl, if_neg (by simp)]
    unfold listOut
    rw [hcnt, if_pos rfl]
    simp only
    rw [hn] at l1
    rcases many_err ((lenc qs).take c) qs.length (enc qs.length).length with hm | hm
    · obtain ⟨e2, l2⟩ := many_take (lenc qs) c _ _ l1 hm
      have hall := many_at qs hq (enc qs.length) []
      rw [List.append_nil] at hall
      have e3 := e2.symm.trans hall
      rw [e3] at l2
      simp [lenc] at hc l2
      omega
    · rw [if_neg (by rw [hm]; simp), hm]
  · have hcnt : cntOut ((lenc qs).take c) 0 (qs.length : Int) = (0, 0, 4) := by
      unfold cntOut
      rw [if_neg h0, he, if_neg (by simp)]
    unfold listOut
    rw [hcnt, if_neg (by simp)]
end Go.Proofs.Ytbgnkdbbkkoinaa

