/- Words on memory, further ones. -/
import Derived.Test.YtfjgdajnjeelmaaMem
namespace Go.Proofs.Ytfjgdajnjeelmaa
open Go.RowKit
theorem own_form {w : World} {base size n : Nat} {e : TypeId} {v : Value} {xs : List Value} (h : w.ownsRow base e size v n xs) (hn : 0 < n) : ∃ g cap, v = .slice (some ⟨g, 0, none⟩) n cap ∧ base ≤ g ∧ g < w.heap.size ∧ n ≤ cap ∧ cap ≤ maxLen := by
  rcases h.2 with ⟨_, h0⟩ | ⟨g, cap', cur, rfl, h1, h2, h3, h4, _⟩
  · omega
  · exact ⟨g, cap', rfl, h1, (h.lt g rfl).2, h3, h4⟩
theorem bvs_get (l : List UInt8) (i : Nat) (h : i < l.length) : (bvs l)[i]? = some (.int .u8 (l[i].toNat : Int)) := by simp [bvs, h]
theorem bvs_set (l : List UInt8) (i : Nat) (c : UInt8) : (bvs l).set i (.int .u8 (c.toNat : Int)) = bvs (l.set i c) := by simp [bvs, List.map_set]
/-- A cell of an owned row of bytes. -/
theorem own_byte {w : World} {base n g cap : Nat} {e : TypeId} {l : List UInt8} (h : w.ownsRow base e 1 (.slice (some ⟨g, 0, none⟩) n cap) n (bvs l)) (i : Nat) (hi : i < l.length) :
    w.cell? ⟨g, i, none⟩ = some (.int .u8 (l[i].toNat : Int)) ∧ w.frozen? ⟨g, i, none⟩ = false := by
  obtain ⟨g', hg, _, hc, hf, _⟩ := own_cell h i _ (bvs_get l i hi)
  cases hg
  exact ⟨hc, hf i⟩
/-- A store of a byte into an owned row. -/
theorem own_put {w : World} {base n g cap : Nat} {e : TypeId} {l : List UInt8} (h : w.ownsRow base e 1 (.slice (some ⟨g, 0, none⟩) n cap) n (bvs l)) (i : Nat) (c : UInt8) (u : Int) (hu : u = (c.toNat : Int)) :
    (w.setCell ⟨g, i, none⟩ (.int .u8 u)).ownsRow base e 1 (.slice (some ⟨g, 0, none⟩) n cap) n (bvs (l.set i c)) := by
  subst hu
  rw [← bvs_set]; exact own_set h i _
end Go.Proofs.Ytfjgdajnjeelmaa
