
/- A slice's cells, each of one. -/
import Derived.Test.YtdodkhhlbjamhaaMem
namespace Go.Proofs.Ytdodkhhlbjamhaa
open Go.RowKit
/-- The cells from a slice's address on hold these values. -/
def CellsAt (w : World) (a : Option Addr) (vs : List Value) : Prop := ∀ i (h : i < vs.length), ∃ b off, a = some ⟨b, off, none⟩ ∧ w.cell? ⟨b, off + i, none⟩ = some vs[i]
theorem CellsAt.nil (w : World) (a : Option Addr) : CellsAt w a [] := fun i h => by simp at h
theorem CellsAt.below {w w' : World} {a : Option Addr} {vs : List Value} {B : Nat} (h : CellsAt w a vs) (hb : Below B w w') (hB : B = w.heap.size) : CellsAt w' a vs := by
  intro i hi
  obtain ⟨b, off, rfl, hc⟩ := h i hi
  have hl := cell_lt hc
  exact ⟨b, off, rfl, by rw [hb.cell (p := ⟨b, off + i, none⟩) (by simpa [hB] using hl)]; exact hc⟩
theorem CellsAt.new (w : World) (t : TypeId) (fr : Nat × Nat) (vs : List Value) : CellsAt (w.alloc (.cells vs.toArray t fr)) (some ⟨w.heap.size, 0, none⟩) vs := by
  intro i hi
  refine ⟨w.heap.size, 0, rfl, ?_⟩
  rw [Nat.zero_add, cell_new]
  simp
theorem CellsAt.get {w : World} {a : Option Addr} {vs : List Value} (h : CellsAt w a vs) (i : Nat) (v : Value) (hi : vs[i]? = some v) : ∃ b off, a = some ⟨b, off, none⟩ ∧ w.cell? ⟨b, off + i, none⟩ = some v := by
  obtain ⟨hlt, e⟩ := List.getElem?_eq_some_iff.1 hi
  obtain ⟨b, off, h1, h2⟩ := h i hlt
  exact ⟨b, off, h1, by rw [h2, e]⟩
theorem CellsAt.own {w : World} {base n : Nat} {e : TypeId} {a : Option Addr} {len cap : Nat} {vs : List Value} (h : w.ownsRow base e 1 (.slice a len cap) n vs) : CellsAt w a vs := by
  intro i hi
  obtain ⟨g, rfl, _, hc, _⟩ := own_cell h i vs[i] (by simp [hi])
  exact ⟨g, 0, rfl, by rw [Nat.zero_add]; exact hc⟩
end Go.Proofs.Ytdodkhhlbjamhaa
