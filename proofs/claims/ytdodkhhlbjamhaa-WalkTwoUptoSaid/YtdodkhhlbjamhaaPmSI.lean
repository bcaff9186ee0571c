
/- Walks: Shared. -/
import Derived.Test.YtdodkhhlbjamhaaPmPI
import Derived.RangeFuncKeeps
import Derived.RangeFuncWrites
namespace Go.Proofs.Ytdodkhhlbjamhaa
open Go.RowKit Pm
attribute [local go_sem] Oper.semAt_some
theorem ownAtI {β : Type} {B k : Nat} {o : Obj} (hk : k < B) : OwnFrom B (fun (_ : β) W => W.heap[k]? = some o) := by
  rintro _ A A' row h hg hr
  exact (hg.block k (Array.getElem?_eq_some_iff.1 h).1 (fun e => by have := (hr k e.symm).1; omega)).trans h
def Pm.blkOfI : Tr Int → Nat
  | .nil => 0
  | .node b _ _ _ _ => b
theorem nodesL_nodeI : ∀ (t : Tr Int) (x : Tr Int), x ∈ nodesLI t → ∃ b l k v r, x = .node b l k v r ∧ b ∈ blocks t
  | .nil, x, h => by simp [nodesLI] at h
  | .node b l k v r, x, h => by
    simp only [nodesLI, List.mem_append, List.mem_singleton] at h
    rcases h with (h | h) | h
    · obtain ⟨b', l', k', v', r', e, hb⟩ := nodesL_nodeI l x h
      exact ⟨b', l', k', v', r', e, by simp [blocks, hb]⟩
    · obtain ⟨b', l', k', v', r', e, hb⟩ := nodesL_nodeI r x h
      exact ⟨b', l', k', v', r', e, by simp [blocks, hb]⟩
    · exact ⟨b, l, k, v, r, h, by simp [blocks]⟩
theorem nodesL_permI : ∀ (t : Tr Int), ((nodesLI t).map blkOfI).Perm (blocks t)
  | .nil => .nil
  | .node b l k v r => by
    simp only [nodesLI, blocks, List.map_append, List.map_cons, List.map_nil]
    have h1 := nodesL_permI l
    have h2 := nodesL_permI r
    have h3 : ((nodesLI r).map blkOfI ++ [b]).Perm (b :: blocks r) := (List.perm_append_comm (l₁ := (nodesLI r).map blkOfI) (l₂ := [b])).trans (h2.cons b)
    rw [List.append_assoc]
    exact h1.append h3
/-- How many nodes of the one are nodes of the other. -/
def Pm.sharedNI (a b : Tr Int) : Nat := ((nodesLI a).filter fun x => decide (blkOfI x ∈ (nodesLI b).map blkOfI)).length
/-- Between two rounds of the first loop. -/
def ShII (s : Nat) (w : World) (a : Tr Int) (pre : List (Tr Int)) (W : World) : Prop :=
  Boxed W s 29 (.pointer (pa a)) ∧ Boxed W (s + 3) 69 (.map (some (s + 2))) ∧ NodeMapI W (s + 2) (pre.map blkOfI) ∧ Below s w W
theorem shI_ownI (s : Nat) (w : World) (a : Tr Int) (B : Nat) (hs : s ≤ w.heap.size) (hB : s + 4 ≤ B) : OwnFrom B (ShII s w a) := by
  rintro pre A A' row ⟨h1, h2, ⟨es, c, h3, h5⟩, h4⟩ hg hr
  exact ⟨ownAtI (β := Unit) (by omega) () A A' row h1 hg hr, ownAtI (β := Unit) (by omega) () A A' row h2 hg hr, ⟨es, c, ownAtI (β := Unit) (by omega) () A A' row h3 hg hr, h5⟩, ownFrom_below (β := Unit) hs (by omega) () A A' row h4 hg hr⟩
/-- Between two rounds of the second one. -/
def ShKI (s c : Nat) (w : World) (ps : List Nat) (pre : List (Tr Int)) (W : World) : Prop :=
  Boxed W (s + 3) 69 (.map (some (s + 2))) ∧ NodeMapI W (s + 2) ps ∧ Boxed W c 3 (.int .i64 (((pre.filter fun x => decide (blkOfI x ∈ ps)).length : Nat) : Int)) ∧ Below s w W
theorem shK_ownI (s c : Nat) (w : World) (ps : List Nat) (B : Nat) (hs : s ≤ w.heap.size) (hB : s + 4 ≤ B) (hc : c < B) : OwnFrom B (ShKI s c w ps) := by
  rintro pre A A' row ⟨h2, ⟨es, q, h3, h5⟩, h1, h4⟩ hg hr
  exact ⟨ownAtI (β := Unit) (by omega) () A A' row h2 hg hr, ⟨es, q, ownAtI (β := Unit) (by omega) () A A' row h3 hg hr, h5⟩, ownAtI (β := Unit) (by omega) () A A' row h1 hg hr, ownFrom_below (β := Unit) hs (by omega) () A A' row h4 hg hr⟩
end Go.Proofs.Ytdodkhhlbjamhaa

