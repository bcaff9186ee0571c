
/- An argument opened: a slice of steps, by its cells. -/
import Derived.Test.YtikdlhbamdefaaaLwR
import Derived.Test.YtikdlhbamdefaaaOpenC
import Derived.Deep.Slices
namespace Go.Proofs.Ytikdlhbamdefaaa
open Go.ChangeShapes Go.WideShapes Go.ChangeAt Go.RowKit Go.Deep
section
variable {H : Type} {enc : TypeId × Value → H} {P : Program} {w : World} {base : Nat} {held : Bool}
/-- A slice of structs of a number, a text and a number. -/
theorem open_steps {t e t0 t1 t2 : TypeId} {fs : Array Field} {fuel : Nat} {a0 : Option Addr} {len cap : Nat} {x : DataW H × List MemPlace} (ht : P.underlying t = some (.slice e)) (he : P.underlying e = some (.struct fs))
    (h0 : ∃ f, fs[0]? = some f ∧ f.type = t0 ∧ f.offset = 0) (h1 : ∃ f, fs[1]? = some f ∧ f.type = t1 ∧ f.offset = 1) (h2 : ∃ f, fs[2]? = some f ∧ f.type = t2 ∧ f.offset = 2)
    (u0 : P.underlying t0 = some (.int .i64)) (u1 : P.underlying t1 = some .string) (u2 : P.underlying t2 = some (.int .i64)) (c0 : P.cellsOf t0 = 1) (c1 : P.cellsOf t1 = 1) (c2 : P.cellsOf t2 = 1) (ce : P.cellsOf e = 3)
    (h : DataW.trod enc P w base (fun _ => true) held fuel t (Value.slice a0 len cap).cells.toList = some x) :
    ∃ l : List (Int × ByteArray × Int), len = l.length ∧ CellsAt w a0 (stV l) ∧ l.length ≤ maxLen := by
  rcases open_slice ht h with ⟨hcs, _⟩ | ⟨a, l, c, m, n, D, Pl, hcs, _, hl, hm, hmm, hx, hi⟩
  · simp [Value.cells] at hcs
    obtain ⟨rfl, rfl, rfl⟩ := hcs
    exact ⟨[], rfl, CellsAt.nil _ _, Nat.zero_le _⟩
  · simp [Value.cells] at hcs
    obtain ⟨rfl, rfl, rfl⟩ := hcs
    simp only [if_true] at hmm
    subst hmm
    have each : ∀ i, i < m → ∃ y : Int × ByteArray × Int, w.cell? (a.add (i * 3)) = some (.int .i64 y.1) ∧ w.cell? ((a.add (i * 3)).add 1) = some (.string y.2.1) ∧ w.cell? ((a.add (i * 3)).add 2) = some (.int .i64 y.2.2) := by
      intro i him
      obtain ⟨cs', hc, htr⟩ := hi i him
      rw [ce] at hc
      obtain ⟨xs, n', _, _, hlen, _, hff⟩ := DataW.trod_struct he htr
      rw [ce] at hlen
      obtain ⟨_, hcl, hat⟩ := World.cells?_some hc
      match cs', hlen with
      | [v0, v1, v2], _ =>
        obtain ⟨f0, g0, e0, o0⟩ := h0
        obtain ⟨f1, g1, e1, o1⟩ := h1
        obtain ⟨f2, g2, e2, o2⟩ := h2
        have q0 := hff 0 f0 g0
        have q1 := hff 1 f1 g1
        have q2 := hff 2 f2 g2
        rw [e0, o0, c0] at q0
        rw [e1, o1, c1] at q1
        rw [e2, o2, c2] at q2
        have hz : xs.length = fs.size := by assumption
        have l0 := (Array.getElem?_eq_some_iff.1 g0).1
        have l1 := (Array.getElem?_eq_some_iff.1 g1).1
        have l2 := (Array.getElem?_eq_some_iff.1 g2).1
        rw [List.getElem?_eq_getElem (by omega)] at q0 q1 q2
        obtain ⟨n0, k0, _⟩ := DataW.trod_int u0 q0
        obtain ⟨s1, k1, _⟩ := DataW.trod_string u1 q1
        obtain ⟨n2, k2, _⟩ := DataW.trod_int u2 q2
        simp at k0 k1 k2
        subst k0; subst k1; subst k2
        refine ⟨(n0, s1, n2), ?_, ?_, ?_⟩
        · have := hat 0 (by omega); simpa [Addr.add] using this
        · have := hat 1 (by omega); simpa using this
        · have := hat 2 (by omega); simpa using this
    obtain ⟨F, hF⟩ := choose_lt (α := Int × ByteArray × Int) (n := m) (p := fun i y => w.cell? (a.add (i * 3)) = some (.int .i64 y.1) ∧ w.cell? ((a.add (i * 3)).add 1) = some (.string y.2.1) ∧ w.cell? ((a.add (i * 3)).add 2) = some (.int .i64 y.2.2)) each
    refine ⟨(List.range len).map F, by simp, fun q hq => ?_, by simp; omega⟩
    rw [stV_length] at hq
    have hq2 : q < len * 3 := by simpa using hq
    have hp : 0 < m := by omega
    have z0 := (hF 0 hp).1
    obtain ⟨b, off, rfl⟩ := spot_none (by simpa using z0)
    refine ⟨b, off, rfl, ?_⟩
    obtain ⟨i, r, hr, rfl⟩ : ∃ i r, r < 3 ∧ q = i * 3 + r := ⟨q / 3, q % 3, Nat.mod_lt _ (by omega), by omega⟩
    have him : i < len := by omega
    obtain ⟨k0, k1, k2⟩ := hF i (by omega)
    obtain ⟨s0, s1, s2⟩ := stV_get ((List.range len).map F) i (by simpa using him)
    simp only [List.getElem_map, List.getElem_range] at s0 s1 s2
    have hg : ∀ v, (stV ((List.range len).map F))[i * 3 + r]? = some v → w.cell? ⟨b, off + (i * 3 + r), none⟩ = some v → w.cell? ⟨b, off + (i * 3 + r), none⟩ = some ((stV ((List.range len).map F))[i * 3 + r]'(by rw [stV_length]; simpa using hq)) := by
      intro v hv hw
      rw [List.getElem?_eq_getElem (by rw [stV_length]; simpa using hq)] at hv
      rw [hw, ← hv]
    rcases (show r = 0 ∨ r = 1 ∨ r = 2 by omega) with rfl | rfl | rfl
    · rw [Addr_add] at k0
      exact hg _ s0 k0
    · rw [Addr_add, Addr_add, Nat.add_assoc] at k1
      exact hg _ s1 k1
    · rw [Addr_add, Addr_add, Nat.add_assoc] at k2
      exact hg _ s2 k2
end
end Go.Proofs.Ytikdlhbamdefaaa
