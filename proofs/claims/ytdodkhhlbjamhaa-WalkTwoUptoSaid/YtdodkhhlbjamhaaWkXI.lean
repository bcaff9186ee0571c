
/- Words for the walk: a tree that stays, told by types; a tree is told by its root. -/
import Derived.Test.YtdodkhhlbjamhaaWkBI
import Derived.Test.YtdodkhhlbjamhaaKeepX
namespace Go.Proofs.Ytdodkhhlbjamhaa
open Go.RowKit Pm
theorem AtI.keepX {Ex : Nat → TypeId → Prop} {w w' : World} {t : Tr Int} (h : AtI w t) (hk : KeepX Ex w w') (hn : ∀ k, ¬ Ex k 77) : AtI w' t := by
  induction t with
  | nil => trivial
  | node b l k v r ih1 ih2 =>
    obtain ⟨h1, h2, h3⟩ := h
    exact ⟨hk.row h1 (hn _), ih1 h2, ih2 h3⟩
theorem AtI.uniq {w : World} : ∀ {t t' : Tr Int}, AtI w t → AtI w t' → pa t = pa t' → t = t'
  | .nil, .nil, _, _, _ => rfl
  | .nil, .node .., _, _, h => by simp [pa] at h
  | .node .., .nil, _, _, h => by simp [pa] at h
  | .node b l k v r, .node b' l' k' v' r', h1, h2, h => by
    simp [pa] at h
    subst h
    obtain ⟨e1, l1, r1⟩ := h1
    obtain ⟨e2, l2, r2⟩ := h2
    rw [e1] at e2
    simp only [Option.some.injEq, Obj.cells.injEq, Array.mk.injEq, List.cons.injEq, Value.pointer.injEq, Value.string.injEq, Value.int.injEq, and_true, true_and] at e2
    obtain ⟨e3, e4, e5, e6, _⟩ := e2
    rw [AtI.uniq l1 l2 e3, AtI.uniq r1 r2 e4, e5, e6]
end Go.Proofs.Ytdodkhhlbjamhaa

