
/- Cells from an address on: taken, left out, as an append's source. -/
import Derived.Test.YtdodkhhlbjamhaaCells
import Derived.Test.YtdodkhhlbjamhaaMem2
namespace Go.Proofs.Ytdodkhhlbjamhaa
open Go.RowKit
theorem CellsAt.take {w : World} {a : Option Addr} {vs : List Value} (h : CellsAt w a vs) (k : Nat) : CellsAt w a (vs.take k) := by
  intro i hi
  obtain ⟨b, off, e, c⟩ := h i (by simp at hi; omega)
  exact ⟨b, off, e, by rw [c]; simp⟩
theorem CellsAt.drop {w : World} {a : Option Addr} {vs : List Value} (h : CellsAt w a vs) (k : Nat) : CellsAt w (Option.map (fun x => x.add k) a) (vs.drop k) := by
  intro i hi
  obtain ⟨b, off, rfl, c⟩ := h (k + i) (by simp at hi; omega)
  exact ⟨b, off + k, by simp [Addr_add], by rw [show off + k + i = off + (k + i) by omega, c]; simp⟩
theorem CellsAt.src {P : Program} {w : World} {a : Option Addr} {vs : List Value} {size n : Nat} (h : CellsAt w a vs) (hlen : vs.length = n * size) (hone : ∀ u ∈ vs, u.oneCell' = true) {tx e' : TypeId} (hk : P.underlying tx = some (.slice e')) (cap : Nat) (hsz : size = 1 ∨ size = 2) : Src P size tx (.slice a n cap) n vs w := by
  cases a with
  | none =>
    have : vs = [] := by
      cases vs with
      | nil => rfl
      | cons c r => obtain ⟨b, off, hh, _⟩ := h 0 (by simp); cases hh
    subst this
    have hn : n = 0 := by rcases hsz with rfl | rfl <;> (simp only [List.length_nil] at hlen; omega)
    subst hn
    exact Src.ofNil w hk cap
  | some a =>
    refine Src.ofSlice w hk a _ cap vs hlen (fun j u hu => ?_) hone
    obtain ⟨hj, he⟩ := List.getElem?_eq_some_iff.1 hu
    obtain ⟨b, off, hh, hc⟩ := h j hj
    cases hh
    rw [Addr_add, hc, he]
/-! ### 's[l:]', whatever the elements' size -/
def subN (a : Option Addr) (cap l size : Nat) : Option Addr := if cap = l then a else a.map (·.add (l * size))
theorem run_from {P : Program} (w : World) (t e : TypeId) (ht : P.underlying t = some (.slice e)) (size : Nat) (hz : ∀ w, (Go.sizeOf e).run P w = .ok size w) (a : Option Addr) (len cap l : Nat) (x : Int) (hx : x = (l : Int)) (hl : l ≤ len) :
    (Instr.slice t (.slice a len cap) (some (.int .i64 x)) none none).run P w = .ok (.slice (subN a cap l size) (len - l) (cap - l)) w := by
  have ht' : P.underlying t = some (.slice (P.elem t)) := by simp [Program.elem, ht]
  have he : P.elem t = e := by simp [Program.elem, ht]
  subst hx
  rw [run_slice_l w t _ _ _ ht' .i64 _ (by omega) (by omega), he, hz]
  simp [Result.andThen, sliced, subN]
theorem CellsAt.one {P : Program} (w : World) (t : TypeId) (v : Value) (hv : v.oneCell' = true) {tx e' : TypeId} (hk : P.underlying tx = some (.slice e')) : Src P 1 tx (.slice (some ⟨w.heap.size, 0, none⟩) 1 1) 1 [v] (w.alloc (.cells #[v] t)) :=
  (CellsAt.new w t (0, 0) [v]).src (n := 1) rfl (by simp [hv]) hk 1 (Or.inl rfl)
theorem own_shape1 {w : World} {base n : Nat} {e : TypeId} {v : Value} {xs : List Value} (h : w.ownsRow base e 1 v n xs) : ∃ a cap, v = .slice a n cap := by
  obtain ⟨a, cap, h, _⟩ := own_slice h
  exact ⟨a, cap, h⟩
end Go.Proofs.Ytdodkhhlbjamhaa
