
/- Plain: what known asks: three keys. -/
import Derived.Test.YtikdlhbamdefaaaLwG
namespace Go.Proofs.Ytikdlhbamdefaaa
open Go.RowKit Pm
def kA : ByteArray := ⟨#[97]⟩
def kB : ByteArray := ⟨#[98]⟩
def kC : ByteArray := ⟨#[99]⟩
def kX : ByteArray := ⟨#[120]⟩
theorem k_ab : klt kA kB = true := (klt_iff _ _).2 (by decide)
theorem k_bc : klt kB kC = true := (klt_iff _ _).2 (by decide)
theorem k_ac : klt kA kC = true := klt_trans k_ab k_bc
theorem k_cx : klt kC kX = true := (klt_iff _ _).2 (by decide)
theorem k_bx : klt kB kX = true := klt_trans k_bc k_cx
theorem k_ax : klt kA kX = true := klt_trans k_ab k_bx
def three : List (ByteArray × Int) := [(kA, 1), (kB, 2), (kC, 3)]
theorem ofL_three : ofL [] [(kB, 2), (kA, 1), (kC, 3)] = some three := by
  have h1 := klt_ne k_ab
  have h2 := klt_ne k_ac
  have h3 := klt_ne k_bc
  simp [ofL, ins, three, k_ab, k_ac, k_bc, klt_asymm k_bc, klt_asymm k_ac, h1, h2, h3, h1.symm]
theorem ofL_two : ofL [] [(kA, (1 : Int)), (kA, 2)] = none := by simp [ofL, ins]
theorem sz_one (t : Tr Int) (h : sz t = 1) : ∃ b k v, t = .node b .nil k v .nil := by
  rcases t with _ | ⟨b, l, k, v, r⟩
  · simp [sz] at h
  · rcases l with _ | ⟨b1, l1, k1, v1, r1⟩
    · rcases r with _ | ⟨b1, l1, k1, v1, r1⟩
      · exact ⟨b, k, v, rfl⟩
      · simp [sz] at h
    · simp [sz] at h
theorem sz_two (t : Tr Int) (h : sz t = 2) : 2 ≤ ht t := by
  rcases t with _ | ⟨b, l, k, v, r⟩
  · simp [sz] at h
  · rcases l with _ | ⟨b1, l1, k1, v1, r1⟩
    · rcases r with _ | ⟨b1, l1, k1, v1, r1⟩
      · simp [sz] at h
      · simp [ht]
    · simp [ht]; omega
theorem shape3 (t : Tr Int) (hb : Bal t) (hi : items t = three) : ∃ b1 b2 b3, t = .node b2 (.node b1 .nil kA 1 .nil) kB 2 (.node b3 .nil kC 3 .nil) := by
  have hs : sz t = 3 := by rw [← sz_items, hi]; rfl
  rcases t with _ | ⟨b, l, k, v, r⟩
  · simp [sz] at hs
  · obtain ⟨h1, h2, h3, h4⟩ := hb
    have hs' : sz l + sz r + 1 = 3 := hs
    have n0 : ∀ u : Tr Int, sz u = 0 → ht u = 0 := fun u hu => by have := ht_le u; omega
    have hl : sz l = 1 := by
      have : sz l = 0 ∨ sz l = 1 ∨ sz l = 2 := by omega
      rcases this with h | h | h
      · have a1 := n0 l h
        have a2 := sz_two r (by omega)
        omega
      · exact h
      · have a1 := n0 r (by omega)
        have a2 := sz_two l h
        omega
    obtain ⟨b1, k1, v1, rfl⟩ := sz_one l hl
    obtain ⟨b3, k3, v3, rfl⟩ := sz_one r (by omega)
    simp only [items, three, List.nil_append, List.cons_append, List.cons.injEq, Prod.mk.injEq, and_true] at hi
    obtain ⟨⟨rfl, rfl⟩, ⟨rfl, rfl⟩, rfl, rfl⟩ := hi
    exact ⟨b1, b, b3, rfl⟩
theorem put3 {N : Nat} {b1 b2 b3 : Nat} {t' : Tr Int} (h : PutR N kC 9 (.node b2 (.node b1 .nil kA 1 .nil) kB 2 (.node b3 .nil kC 3 .nil)) t') : ∃ b b', t' = .node b (.node b1 .nil kA 1 .nil) kB 2 (.node b' .nil kC 9 .nil) := by
  cases h with
  | lt h1 h2 h3 => rw [klt_asymm k_bc] at h1; cases h1
  | gt h1 h2 h3 =>
    cases h2 with
    | lt h4 h5 h6 => rw [klt_irrefl] at h4; cases h4
    | gt h4 h5 h6 => rw [klt_irrefl] at h4; cases h4
    | eq h4 h5 =>
      cases h3 with
      | same => exact ⟨_, _, rfl⟩
      | ll h7 h8 => simp [ht] at h7
      | rr h7 h8 => simp [ht] at h7
  | eq h1 h2 => exact absurd h1 (Ne.symm (klt_ne k_bc))
theorem shared3 (b1 b2 b3 b b' : Nat) : 1 ≤ sharedNI (.node b2 (.node b1 .nil kA 1 .nil) kB 2 (.node b3 .nil kC 3 .nil)) (.node b (.node b1 .nil kA 1 .nil) kB 2 (.node b' .nil kC 9 .nil)) := by
  unfold sharedNI
  rw [show nodesLI (.node b2 (.node b1 .nil kA 1 .nil) kB 2 (.node b3 .nil kC 3 .nil)) = .node b1 .nil kA 1 .nil :: [.node b3 .nil kC 3 .nil, .node b2 (.node b1 .nil kA 1 .nil) kB 2 (.node b3 .nil kC 3 .nil)] from rfl]
  rw [List.filter_cons, if_pos (by simp [nodesLI, blkOfI])]
  simp
theorem join_no1 (t : Tr Int) (hi : items t = three) : ¬ joinOKI t kC .nil := by
  rintro ⟨h1, _⟩
  obtain ⟨b, l, k, v, r, e, g⟩ := endR_items t (by rintro rfl; simp [items, three] at hi)
  have hs : sz t = 3 := by rw [← sz_items, hi]; rfl
  rw [hi, hs] at g
  cases g
  rw [e] at h1
  have := h1 rfl
  simp only [keyOr] at this
  rw [klt_irrefl] at this
  cases this
theorem join_no2 (t : Tr Int) (hi : items t = three) : ¬ joinOKI .nil kA t := by
  rintro ⟨_, h1⟩
  obtain ⟨b, l, k, v, r, e, g⟩ := endL_items t (by rintro rfl; simp [items, three] at hi)
  rw [hi] at g
  cases g
  rw [e] at h1
  have := h1 rfl
  simp only [keyOr] at this
  rw [klt_irrefl] at this
  cases this
theorem srt_three : Srt three := by
  refine srt_cons.2 ⟨?_, srt_cons.2 ⟨?_, srt_cons.2 ⟨?_, List.Pairwise.nil⟩⟩⟩
  · intro y hy; simp at hy; rcases hy with rfl | rfl
    · exact k_ab
    · exact k_ac
  · intro y hy; simp at hy; subst hy; exact k_bc
  · intro y hy; simp at hy
theorem seek_x (t : Tr Int) (hi : items t = three) : seek kX t = .nil := by
  refine seek_out fun x hx => ?_
  rw [hi] at hx
  simp [three] at hx
  rcases hx with rfl | rfl | rfl
  · exact klt_ne k_ax
  · exact klt_ne k_bx
  · exact klt_ne k_cx
theorem ins_three : ins kC 9 three = [(kA, 1), (kB, 2), (kC, (9 : Int))] := by
  simp [ins, three, k_ac, k_bc, klt_asymm k_bc, klt_asymm k_ac, klt_irrefl]
theorem ht_three (t : Tr Int) (hb : Bal t) (hi : items t = three) : ht t = 2 ∧ sz t = 3 := by
  obtain ⟨b1, b2, b3, rfl⟩ := shape3 t hb hi
  exact ⟨rfl, rfl⟩
end Go.Proofs.Ytikdlhbamdefaaa
