
/- Plain: what a tree's blocks are; how high it is; what is gone over from a key on. -/
import Derived.Test.YtikdlhbamdefaaaLwE
namespace Go.Proofs.Ytikdlhbamdefaaa
open Go.RowKit Pm
theorem key_atI {w : World} : ∀ (t : Tr Int), AtI w t → ∀ b ∈ blocks t, ∃ (x : ByteArray × Int) (cs : Array Value) (ty : TypeId) (fr : Nat × Nat), x ∈ items t ∧ w.heap[b]? = some (.cells cs ty fr) ∧ cs[2]? = some (.string x.1)
  | .nil, _, b, hb => by simp [blocks] at hb
  | .node b0 l k v r, h, b, hb => by
    simp only [blocks, List.mem_append, List.mem_cons] at hb
    rcases hb with hb | rfl | hb
    · obtain ⟨x, cs, ty, fr, h1, h2, h3⟩ := key_atI l h.2.1 b hb
      exact ⟨x, cs, ty, fr, List.mem_append_left _ h1, h2, h3⟩
    · exact ⟨(k, v), _, _, _, List.mem_append_right _ List.mem_cons_self, h.1, rfl⟩
    · obtain ⟨x, cs, ty, fr, h1, h2, h3⟩ := key_atI r h.2.2 b hb
      exact ⟨x, cs, ty, fr, List.mem_append_right _ (List.mem_cons_of_mem _ h1), h2, h3⟩
theorem key_one {w : World} {b : Nat} {cs cs' : Array Value} {ty ty' : TypeId} {fr fr' : Nat × Nat} {x y : ByteArray} (h : w.heap[b]? = some (.cells cs ty fr)) (h' : w.heap[b]? = some (.cells cs' ty' fr')) (hx : cs[2]? = some (.string x)) (hy : cs'[2]? = some (.string y)) : x = y := by
  rw [h] at h'
  cases h'
  rw [hx] at hy
  cases hy
  rfl
theorem nodup_blocksI {w : World} : ∀ (t : Tr Int), AtI w t → Srt (items t) → (blocks t).Nodup
  | .nil, _, _ => List.nodup_nil
  | .node b0 l k v r, h, hs => by
    obtain ⟨s1, s2, s3⟩ := srt_append.1 hs
    obtain ⟨s4, s5⟩ := srt_cons.1 s2
    have e0 : ∃ (cs : Array Value) (ty : TypeId) (fr : Nat × Nat), w.heap[b0]? = some (.cells cs ty fr) ∧ cs[2]? = some (.string k) := ⟨_, _, _, h.1, rfl⟩
    obtain ⟨cs0, ty0, fr0, g0, q0⟩ := e0
    show (blocks l ++ b0 :: blocks r).Nodup
    rw [List.nodup_append]
    refine ⟨nodup_blocksI l h.2.1 s1, List.nodup_cons.2 ⟨fun hb => ?_, nodup_blocksI r h.2.2 s5⟩, fun a ha c hc e => ?_⟩
    · obtain ⟨x, cs, ty, fr, h1, h2, h3⟩ := key_atI r h.2.2 b0 hb
      have := key_one g0 h2 q0 h3
      have h4 := s4 x h1
      rw [this, klt_irrefl] at h4
      cases h4
    · subst e
      obtain ⟨x, cs, ty, fr, h1, h2, h3⟩ := key_atI l h.2.1 a ha
      rcases List.mem_cons.1 hc with rfl | hc
      · have := key_one g0 h2 q0 h3
        have h4 := s3 x h1 _ List.mem_cons_self
        rw [← this, klt_irrefl] at h4
        cases h4
      · obtain ⟨y, cs', ty', fr', h1', h2', h3'⟩ := key_atI r h.2.2 a hc
        have := key_one h2 h2' h3 h3'
        have h4 := s3 x h1 y (List.mem_cons_of_mem _ h1')
        rw [this, klt_irrefl] at h4
        cases h4
theorem bal_pow : ∀ (t : Tr Int), Bal t → 2 ^ (ht t / 2) ≤ sz t + 1
  | .nil, _ => by simp [ht, sz]
  | .node b l k v r, h => by
    obtain ⟨h1, h2, h3, h4⟩ := h
    have i1 := bal_pow l h1
    have i2 := bal_pow r h2
    simp only [ht, sz]
    by_cases hm : max (ht l) (ht r) + 1 < 2
    · have : (max (ht l) (ht r) + 1) / 2 = 0 := by omega
      rw [this]; simp
    · obtain ⟨q, hq⟩ : ∃ q, (max (ht l) (ht r) + 1) / 2 = q + 1 := ⟨(max (ht l) (ht r) + 1) / 2 - 1, by omega⟩
      have q1 : q ≤ ht l / 2 := by omega
      have q2 : q ≤ ht r / 2 := by omega
      have p1 := Nat.pow_le_pow_right (n := 2) (by omega) q1
      have p2 := Nat.pow_le_pow_right (n := 2) (by omega) q2
      rw [hq, Nat.pow_succ]
      omega
theorem ht_small {t : Tr Int} (h : Bal t) (hs : sz t ≤ 5000) : ht t ≤ 25 := by
  have h1 := bal_pow t h
  rcases Nat.lt_or_ge 25 (ht t) with h2 | h2
  · have h3 := Nat.pow_le_pow_right (n := 2) (by omega) (show 13 ≤ ht t / 2 by omega)
    omega
  · exact h2
theorem filter_drop (k : ByteArray) : ∀ (l : List (ByteArray × Int)), Srt l → l.filter (fun x => !klt x.1 k) = l.drop (posL l k)
  | [], _ => rfl
  | y :: l, hs => by
    obtain ⟨s1, s2⟩ := srt_cons.1 hs
    by_cases h : klt y.1 k = true
    · have hp : posL (y :: l) k = posL l k + 1 := by simp [posL, List.takeWhile_cons, h]
      rw [hp, List.filter_cons, if_neg (by simp [h]), filter_drop k l s2]; rfl
    · have hp : posL (y :: l) k = 0 := by simp [posL, List.takeWhile_cons, h]
      rw [hp, List.filter_cons, if_pos (by simpa using h)]
      show y :: _ = y :: l
      congr 1
      rw [List.filter_eq_self]
      intro x hx
      cases e : klt x.1 k with
      | false => rfl
      | true => exact absurd (klt_trans (s1 x hx) e) h
theorem fromL_drop {t : Tr Int} (hs : Srt (items t)) (k : ByteArray) : fromL k t = (items t).drop (posL (items t) k) := by
  rw [fromL_filter k t hs, filter_drop k _ hs]
theorem seek_at {t : Tr Int} (hs : Srt (items t)) {i : Nat} {k : ByteArray} {v : Int} (h : (items t)[i]? = some (k, v)) : valOr (seek k t) = v ∧ isNI (seek k t) = true := by
  have hm : (k, v) ∈ items t := List.mem_of_getElem? h
  obtain ⟨b, l, r, e⟩ := seek_val hs hm
  rw [e]; exact ⟨rfl, rfl⟩
theorem atO_at {t : Tr Int} {i : Nat} {k : ByteArray} {v : Int} (h : (items t)[i]? = some (k, v)) : keyOr (atOI t (i : Int)) = k ∧ valOr (atOI t (i : Int)) = v ∧ isNI (atOI t (i : Int)) = true := by
  have hi : i < sz t := by have := (List.getElem?_eq_some_iff.1 h).1; rwa [sz_items] at this
  obtain ⟨b, l, k', v', r, e, h'⟩ := atI_items t i hi
  rw [h] at h'
  cases h'
  have : atOI t (i : Int) = .node b l k v r := by unfold atOI; first | exact e | (rw [if_neg (by omega)]; exact e) | (rw [if_pos (by omega)]; exact e)
  rw [this]; exact ⟨rfl, rfl, rfl⟩
theorem atO_low (t : Tr Int) : atOI t (-1) = .nil := by unfold atOI; first | rfl | simp
theorem atO_high (t : Tr Int) : atOI t (sz t : Int) = .nil := by
  unfold atOI
  have := atI_big t (sz t) (Int.le_refl _)
  first | exact this | (split <;> first | rfl | exact this)
end Go.Proofs.Ytikdlhbamdefaaa
