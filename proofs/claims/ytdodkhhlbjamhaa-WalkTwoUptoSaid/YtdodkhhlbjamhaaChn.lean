
/- Worlds that lie behind: what stood there stands now. One fact for all, brought up to date at each step. -/
import Derived.Test.YtdodkhhlbjamhaaOver
namespace Go.Proofs.Ytdodkhhlbjamhaa
open Go.RowKit
/-- What stood in each of these worlds stands now. -/
def Chain (ws : List World) (w : World) : Prop := ∀ W ∈ ws, Below W.heap.size W w
theorem Chain.one (w : World) : Chain [w] w := fun W hW => by
  obtain rfl := List.mem_singleton.1 hW
  exact Below.refl _ _
theorem Chain.next {ws : List World} {w w' : World} (h : Chain ws w) (hb : Below w.heap.size w w') (_hw : True) : Chain ws w' := fun W hW =>
  (h W hW).trans (hb.mono (h W hW).size)
theorem Chain.push {ws : List World} {w w' : World} (h : Chain ws w) (hb : Below w.heap.size w w') : Chain (w' :: ws) w' := fun W hW => by
  rcases List.mem_cons.1 hW with rfl | hW
  · exact Below.refl _ _
  · exact (h W hW).trans (hb.mono (h W hW).size)
/-- A block of one's own that is written stays out of the chain's worlds. -/
theorem Chain.only {ws : List World} {w w' : World} {g : Nat} (h : Chain ws w) (hg : w.grownBy w' (some g)) (hl : ∀ W ∈ ws, W.heap.size ≤ g) (_hlt : g < w.heap.size) : Chain ws w' := fun W hW =>
  (h W hW).trans ⟨hg.os, hg.tape, hg.output, hg.size, fun k hk => hg.block k (by have := (h W hW).size; omega) (fun e => by cases e; have := hl W hW; omega)⟩
theorem Chain.drop {W : World} {ws : List World} {w : World} (h : Chain (W :: ws) w) : Chain ws w := fun V hV => h V (List.mem_cons_of_mem _ hV)
theorem Chain.to {ws : List World} {w : World} (h : Chain ws w) (W : World) (hW : W ∈ ws) : Below W.heap.size W w := h W hW
theorem below_here {w w' : World} {B : Nat} (h : Below w.heap.size w w') (hB : B ≤ w.heap.size) : Below B w w' := h.mono hB
theorem boxStays {W w' : World} {g : Nat} {o : Obj} (h : W.heap[g]? = some o) (hB : Below W.heap.size W w') : w'.heap[g]? = some o :=
  (hB.block g (Array.getElem?_eq_some_iff.1 h).1).trans h
theorem box4 {W w' : World} {g : Nat} {t : TypeId} {fr : Nat × Nat} {x0 x1 x2 x3 : Value} (h : W.heap[g]? = some (.cells #[x0, x1, x2, x3] t fr)) (hB : Below W.heap.size W w') :
    w'.cell? ⟨g, 0, none⟩ = some x0 ∧ w'.cell? ⟨g, 1, none⟩ = some x1 ∧ w'.cell? ⟨g, 2, none⟩ = some x2 ∧ w'.cell? ⟨g, 3, none⟩ = some x3 := by
  have h' := boxStays h hB
  exact ⟨cell_of_row _ _ _ _ _ _ h', cell_of_row _ _ _ _ _ _ h', cell_of_row _ _ _ _ _ _ h', cell_of_row _ _ _ _ _ _ h'⟩
theorem box2 {W : World} {g : Nat} {t : TypeId} {fr : Nat × Nat} {x0 x1 : Value} (h : W.heap[g]? = some (.cells #[x0, x1] t fr)) : W.cell? ⟨g, 0, none⟩ = some x0 ∧ W.cell? ⟨g, 1, none⟩ = some x1 :=
  ⟨cell_of_row _ _ _ _ _ _ h, cell_of_row _ _ _ _ _ _ h⟩
theorem box_grown {w w' : World} {b g : Nat} {o : Obj} (h : w.heap[b]? = some o) (hg : w.grownBy w' (some g)) (hne : b ≠ g) : w'.heap[b]? = some o :=
  (hg.block b (Array.getElem?_eq_some_iff.1 h).1 (by simpa using hne)).trans h
theorem BytesAt.get {w : World} {l : List UInt8} {a : Option Addr} {i : Nat} (h : BytesAt w a l) (hi : i < l.length) : ∃ ad, a = some ad ∧ w.cell? (ad.add i) = some (.int .u8 (l[i].toNat : Int)) := by
  obtain ⟨b, off, rfl, hc⟩ := h i hi
  exact ⟨_, rfl, by rw [Addr.add_lit]; exact hc⟩
theorem own_len {w : World} {base size n m cap : Nat} {e : TypeId} {a : Option Addr} {xs : List Value} (h : w.ownsRow base e size (.slice a m cap) n xs) : m ≤ cap := by
  obtain ⟨a', c', e', h1, _⟩ := own_slice h
  cases e'
  exact h1
theorem BytesAt.take {w : World} {a : Option Addr} {l : List UInt8} (h : BytesAt w a l) (k : Nat) : BytesAt w a (l.take k) := by
  intro i hi
  have hi' : i < l.length := by simp at hi; omega
  obtain ⟨b, off, e, hc⟩ := h i hi'
  exact ⟨b, off, e, by simpa using hc⟩
theorem lists4 {w w5 : World} {t : TypeId} {l1 l2 l3 l4 : List UInt8} {a1 a2 a3 a4 : Option Addr} {n1 n2 n3 n4 c1 c2 c3 c4 : Nat} (hw : w5 = w.alloc (.cells #[.slice a1 n1 c1, .slice a2 n2 c2, .slice a3 n3 c3, .slice a4 n4 c4] t))
    (e1 : n1 = l1.length) (e2 : n2 = l2.length) (e3 : n3 = l3.length) (e4 : n4 = l4.length) (m1 : n1 ≤ 9223372036854775807) (m2 : n2 ≤ 9223372036854775807) (m3 : n3 ≤ 9223372036854775807) (m4 : n4 ≤ 9223372036854775807)
    (h1 : BytesAt w5 a1 l1) (h2 : BytesAt w5 a2 l2) (h3 : BytesAt w5 a3 l3) (h4 : BytesAt w5 a4 l4) : ListsAt w5 (some ⟨w.heap.size, 0, none⟩) [l1, l2, l3, l4] := by
  subst e1 e2 e3 e4
  have hc : ∀ i, w5.cell? ⟨w.heap.size, i, none⟩ = (#[Value.slice a1 l1.length c1, .slice a2 l2.length c2, .slice a3 l3.length c3, .slice a4 l4.length c4])[i]? := fun i => by rw [hw, cell_new]
  intro i hi
  match i, hi with
  | 0, _ => exact ⟨_, _, a1, c1, rfl, by rw [hc]; rfl, h1, m1⟩
  | 1, _ => exact ⟨_, _, a2, c2, rfl, by rw [hc]; rfl, h2, m2⟩
  | 2, _ => exact ⟨_, _, a3, c3, rfl, by rw [hc]; rfl, h3, m3⟩
  | 3, _ => exact ⟨_, _, a4, c4, rfl, by rw [hc]; rfl, h4, m4⟩
theorem lists2 {w w5 : World} {t : TypeId} {l1 l2 : List UInt8} {a1 a2 : Option Addr} {n1 n2 c1 c2 : Nat} (hw : w5 = w.alloc (.cells #[.slice a1 n1 c1, .slice a2 n2 c2] t))
    (e1 : n1 = l1.length) (e2 : n2 = l2.length) (m1 : n1 ≤ 9223372036854775807) (m2 : n2 ≤ 9223372036854775807)
    (h1 : BytesAt w5 a1 l1) (h2 : BytesAt w5 a2 l2) : ListsAt w5 (some ⟨w.heap.size, 0, none⟩) [l1, l2] := by
  subst e1 e2
  have hc : ∀ i, w5.cell? ⟨w.heap.size, i, none⟩ = (#[Value.slice a1 l1.length c1, .slice a2 l2.length c2])[i]? := fun i => by rw [hw, cell_new]
  intro i hi
  match i, hi with
  | 0, _ => exact ⟨_, _, a1, c1, rfl, by rw [hc]; rfl, h1, m1⟩
  | 1, _ => exact ⟨_, _, a2, c2, rfl, by rw [hc]; rfl, h2, m2⟩
theorem lists3 {w w5 : World} {t : TypeId} {l1 l2 l3 : List UInt8} {a1 a2 a3 : Option Addr} {n1 n2 n3 c1 c2 c3 : Nat} (hw : w5 = w.alloc (.cells #[.slice a1 n1 c1, .slice a2 n2 c2, .slice a3 n3 c3] t))
    (e1 : n1 = l1.length) (e2 : n2 = l2.length) (e3 : n3 = l3.length) (m1 : n1 ≤ 9223372036854775807) (m2 : n2 ≤ 9223372036854775807) (m3 : n3 ≤ 9223372036854775807)
    (h1 : BytesAt w5 a1 l1) (h2 : BytesAt w5 a2 l2) (h3 : BytesAt w5 a3 l3) : ListsAt w5 (some ⟨w.heap.size, 0, none⟩) [l1, l2, l3] := by
  subst e1 e2 e3
  have hc : ∀ i, w5.cell? ⟨w.heap.size, i, none⟩ = (#[Value.slice a1 l1.length c1, .slice a2 l2.length c2, .slice a3 l3.length c3])[i]? := fun i => by rw [hw, cell_new]
  intro i hi
  match i, hi with
  | 0, _ => exact ⟨_, _, a1, c1, rfl, by rw [hc]; rfl, h1, m1⟩
  | 1, _ => exact ⟨_, _, a2, c2, rfl, by rw [hc]; rfl, h2, m2⟩
  | 2, _ => exact ⟨_, _, a3, c3, rfl, by rw [hc]; rfl, h3, m3⟩
end Go.Proofs.Ytdodkhhlbjamhaa
