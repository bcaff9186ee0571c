
/- Walks: Open; the chapter's rows. -/
import Derived.Test.YtpbjhfajekfjeaaWireW4
namespace Go.Proofs.Ytpbjhfajekfjeaa
open Go.RowKit Wire
theorem own_some {w : World} {base size n : Nat} {e : TypeId} {v : Value} {xs : List Value} (h : w.ownsRow base e size v n xs) {k k' : Nat} (hk : v.ownBlock = some k ∨ v.ownBlock = some k') :
    ∃ g cap, v = .slice (some ⟨g, 0, none⟩) n cap ∧ base ≤ g ∧ g < w.heap.size ∧ n ≤ cap := by
  rcases h.2 with ⟨rfl, _⟩ | ⟨g, cap, cur, rfl, hb, hg, hn, _⟩
  · simp [Value.ownBlock] at hk
  · exact ⟨g, cap, rfl, hb, (Array.getElem?_eq_some_iff.1 hg).1, hn⟩
theorem own_bytesAt {w : World} {base n : Nat} {e : TypeId} {v : Value} {l : List UInt8} (h : w.ownsRow base e 1 v n (bvs l)) : ∃ a cap, v = .slice a n cap ∧ BytesAt w a l := by
  obtain ⟨a, cap, rfl, _, _⟩ := own_slice h
  exact ⟨a, cap, rfl, own_bytes h⟩
/-- string(b), at hand. -/
def StrAt (w : World) (v : Value) (l : List UInt8) : Prop := (convert 22 9 v).run Try.prog w = .ok (.string ⟨l.toArray⟩) w
theorem BytesAt.str {w : World} {a : Option Addr} {l : List UInt8} (h : BytesAt w a l) (n cap : Nat) (hn : n = l.length) : (convert 22 9 (.slice a n cap)).run Try.prog w = .ok (.string ⟨l.toArray⟩) w :=
  conv_bytes h 22 5 9 Try.underlying22 Try.underlying5 Try.underlying9 n cap hn
theorem GivesB.str {w w' : World} {l : List UInt8} {e : Ending} (h : GivesB w l e w') : ∃ a cap, e = .returned (.slice a l.length cap) ∧ (w'.ownsRow w.heap.size 5 1 (.slice a l.length cap) l.length (bvs l) ∧ Below w.heap.size w w') ∧ (convert 22 9 (.slice a l.length cap)).run Try.prog w' = .ok (.string ⟨l.toArray⟩) w' := by
  obtain ⟨v, rfl, hown, hb⟩ := h
  obtain ⟨a, cap, rfl, hB⟩ := own_bytesAt hown
  exact ⟨a, cap, rfl, ⟨hown, hb⟩, hB.str _ _ rfl⟩
end Go.Proofs.Ytpbjhfajekfjeaa