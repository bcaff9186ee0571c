
/- Plain: what a store into a variable's box leaves of a list's cells. -/
import Derived.Test.YtikdlhbamdefaaaLwK
import Derived.Test.YtikdlhbamdefaaaLwA
namespace Go.Proofs.Ytikdlhbamdefaaa
open Go.RowKit Pm
theorem CellsAt.setBox {w : World} {a : Option Addr} {vs : List Value} (h : CellsAt w a vs) {B : Nat} {t : TypeId} {v0 : Value} (hB : w.heap[B]? = some (.cells #[v0] t (0, 0))) (hne : ∀ u ∈ vs, u ≠ v0) (v : Value) : CellsAt (w.setCell ⟨B, 0, none⟩ v) a vs := by
  intro i hi
  obtain ⟨b, off, e, c⟩ := h i hi
  refine ⟨b, off, e, ?_⟩
  by_cases hb : b = B
  · subst hb
    exfalso
    by_cases h0 : off + i = 0
    · rw [h0] at c
      rw [cell_of_one hB] at c
      exact hne _ (List.getElem_mem hi) (Option.some.inj c).symm
    · simp [World.cell?, hB] at c
      rw [List.getElem?_eq_none (by simp; omega)] at c
      cases c
  · have hh : (w.setCell ⟨B, 0, none⟩ v).heap[b]? = w.heap[b]? := Below.heap_setCell _ _ _ _ (by simpa using hb)
    simp only [World.cell?] at c ⊢
    rw [hh]
    exact c
theorem EntAt.setBox {w : World} {va : Value} {l : List (ByteArray × Int)} (h : EntAt w va l) {B : Nat} {t : TypeId} {p : Option Addr} (hB : w.heap[B]? = some (.cells #[.pointer p] t (0, 0))) (v : Value) : EntAt (w.setCell ⟨B, 0, none⟩ v) va l := by
  obtain ⟨a, cap, h1, h2, h4, h3⟩ := h
  refine ⟨a, cap, h1, h2, h4, h3.setBox hB (fun u hu e => ?_) v⟩
  obtain ⟨q, _, hq⟩ := List.mem_flatMap.1 hu
  simp at hq
  rcases hq with rfl | rfl <;> cases e
end Go.Proofs.Ytikdlhbamdefaaa
