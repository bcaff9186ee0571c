
/- Slices of pairs of integers: what they read as; opening of arguments. -/
import Derived.Test.YtpbjhfajekfjeaaOpen
import Derived.Deep.SlicePairs
namespace Go.Proofs.Ytpbjhfajekfjeaa
open Go.ChangeShapes Go.WideShapes Go.ChangeAt Go.RowKit Go.Deep
/-- The cells from a slice's address on hold these pairs of integers. -/
def PairsAt (k : IntKind) (w : World) (a : Option Addr) (ps : List (Int × Int)) : Prop :=
  ∀ i (h : i < ps.length), ∃ b off, a = some ⟨b, off, none⟩ ∧ w.cell? ⟨b, off + i * 2, none⟩ = some (.int k ps[i].1) ∧ w.cell? ⟨b, off + i * 2 + 1, none⟩ = some (.int k ps[i].2)
theorem PairsAt.below {k : IntKind} {w w' : World} {a : Option Addr} {ps : List (Int × Int)} {B : Nat} (h : PairsAt k w a ps) (hb : Below B w w') (hB : B = w.heap.size) : PairsAt k w' a ps := by
  intro i hi
  obtain ⟨b, off, rfl, hc, hd⟩ := h i hi
  have hl := cell_lt hc
  exact ⟨b, off, rfl, by rw [hb.cell (p := ⟨b, off + i * 2, none⟩) (by simpa [hB] using hl)]; exact hc, by rw [hb.cell (p := ⟨b, off + i * 2 + 1, none⟩) (by simpa [hB] using hl)]; exact hd⟩
theorem PairsAt.nil (k : IntKind) (w : World) (a : Option Addr) : PairsAt k w a [] := fun i h => by simp at h
section
variable {H : Type} {enc : TypeId × Value → H} {P : Program} {w : World} {base : Nat} {held : Bool}
/-- Out of cells at every index, a list of pairs. -/
theorem pairs_of {k : IntKind} {a : Addr} {len : Nat} (h : ∀ i, i < len → ∃ x y : Int, w.cell? (a.add (i * 2)) = some (.int k x) ∧ w.cell? (a.add (i * 2 + 1)) = some (.int k y) ∧ (Lit.int k x).wf = true ∧ (Lit.int k y).wf = true) :
    ∃ ps : List (Int × Int), len = ps.length ∧ PairsAt k w (some a) ps ∧ ∀ x ∈ ps, (Lit.int k x.1).wf = true ∧ (Lit.int k x.2).wf = true := by
  have h' : ∀ i, i < len → ∃ q : Int × Int, w.cell? (a.add (i * 2)) = some (.int k q.1) ∧ w.cell? (a.add (i * 2 + 1)) = some (.int k q.2) ∧ (Lit.int k q.1).wf = true ∧ (Lit.int k q.2).wf = true := fun i hi => by
    obtain ⟨x, y, h1⟩ := h i hi
    exact ⟨(x, y), h1⟩
  obtain ⟨q, hq⟩ := choose_lt h'
  refine ⟨(List.range len).map q, by simp, ?_, ?_⟩
  · intro i hi
    have hi' : i < len := by simpa using hi
    obtain ⟨c0, c1, _⟩ := hq i hi'
    obtain ⟨b, off, spot⟩ := a
    have hs : spot = none := by
      have h00 := (hq 0 (by omega)).1
      simpa [Addr.add] using World.cell?_spot h00
    subst hs
    rw [Addr_add] at c0 c1
    exact ⟨b, off, rfl, by simpa using c0, by rw [Nat.add_assoc]; simpa using c1⟩
  · intro x hx
    obtain ⟨i, hi, rfl⟩ := List.mem_map.1 hx
    exact (hq i (List.mem_range.1 hi)).2.2
/-- A slice of structs of two integers. -/
theorem open_pairs {k : IntKind} {t e : TypeId} {f0 f1 : Field} {fuel : Nat} {a0 : Option Addr} {len cap : Nat} {x : DataW H × List MemPlace} (ht : P.underlying t = some (.slice e)) (he : P.underlying e = some (.struct #[f0, f1]))
    (ce : P.cellsOf e = 2) (o0 : f0.offset = 0) (o1 : f1.offset = 1) (c0 : P.cellsOf f0.type = 1) (c1 : P.cellsOf f1.type = 1) (k0 : P.underlying f0.type = some (.int k)) (k1 : P.underlying f1.type = some (.int k))
    (h : DataW.trod enc P w base (fun _ => true) held fuel t (Value.slice a0 len cap).cells.toList = some x) :
    ∃ ps : List (Int × Int), len = ps.length ∧ PairsAt k w a0 ps ∧ len ≤ maxLen ∧ len ≤ cap ∧ (∀ y ∈ ps, (Lit.int k y.1).wf = true ∧ (Lit.int k y.2).wf = true) ∧ len ≤ Rows.uptoBulk x.1 := by
  rcases open_slice_pairs ht he ce o0 o1 c0 c1 h with ⟨hcs, _⟩ | ⟨a, len', cap', m, n, V0, V1, D0, D1, P0, P1, hcs, _, hl, hm, hmm, hx, hi⟩
  · simp [Value.cells] at hcs
    obtain ⟨rfl, rfl, rfl⟩ := hcs
    exact ⟨[], rfl, PairsAt.nil _ _ _, Nat.zero_le _, Nat.le_refl _, (fun y hy => by cases hy), Nat.zero_le _⟩
  · simp [Value.cells] at hcs
    obtain ⟨rfl, rfl, rfl⟩ := hcs
    have hmc : m = cap := by simpa using hmm
    obtain ⟨ps, h1, h2, h3⟩ := pairs_of (k := k) (a := a) (len := len) (fun i hil => by
      obtain ⟨g0, g1, t0, t1⟩ := hi i (by omega)
      obtain ⟨x0, e0, _, w0⟩ := DataW.trod_int k0 t0
      obtain ⟨x1, e1, _, w1⟩ := DataW.trod_int k1 t1
      exact ⟨x0, x1, by rw [g0]; exact congrArg some (List.singleton_inj.1 e0), by rw [g1]; exact congrArg some (List.singleton_inj.1 e1), w0, w1⟩)
    refine ⟨ps, h1, h2, by omega, hl, h3, ?_⟩
    rw [hx]
    simp only [Rows.uptoBulk]
    have := bulk_length_le ((List.range len).map fun i => DataW.agg [D0 i, D1 i])
    simp at this
    omega
/-- A slice of arrays of two integers. -/
theorem open_arrays {k : IntKind} {t e q : TypeId} {fuel : Nat} {a0 : Option Addr} {len cap : Nat} {x : DataW H × List MemPlace} (ht : P.underlying t = some (.slice e)) (he : P.underlying e = some (.array 2 q)) (hq : P.underlying q = some (.int k))
    (ce : P.cellsOf e = 2) (cq : P.cellsOf q = 1) (h : DataW.trod enc P w base (fun _ => true) held fuel t (Value.slice a0 len cap).cells.toList = some x) :
    ∃ ps : List (Int × Int), len = ps.length ∧ PairsAt k w a0 ps ∧ len ≤ maxLen ∧ len ≤ cap ∧ (∀ y ∈ ps, (Lit.int k y.1).wf = true ∧ (Lit.int k y.2).wf = true) ∧ len ≤ Rows.uptoBulk x.1 := by
  rcases open_slice ht h with ⟨hcs, _⟩ | ⟨a, len', cap', m, n, D, Pl, hcs, _, hl, hm, hmm, hx, hi⟩
  · simp [Value.cells] at hcs
    obtain ⟨rfl, rfl, rfl⟩ := hcs
    exact ⟨[], rfl, PairsAt.nil _ _ _, Nat.zero_le _, Nat.le_refl _, (fun y hy => by cases hy), Nat.zero_le _⟩
  · simp [Value.cells] at hcs
    obtain ⟨rfl, rfl, rfl⟩ := hcs
    have hmc : m = cap := by simpa using hmm
    obtain ⟨ps, h1, h2, h3⟩ := pairs_of (k := k) (a := a) (len := len) (fun i hil => by
      obtain ⟨cs', g, g'⟩ := hi i (by omega)
      rw [ce] at g
      obtain ⟨_, hlen, hcell⟩ := World.cells?_some g
      obtain ⟨xs, m', _, _, _, hxl, hf⟩ := DataW.trod_array he g'
      match xs, hxl, cs', hlen with
      | [y0, y1], _, [v0, v1], _ =>
        have g0 := hf 0 (by omega)
        have g1 := hf 1 (by omega)
        simp [cq] at g0 g1
        have e0 := hcell 0 (by omega)
        have e1 := hcell 1 (by omega)
        rw [add_add] at e0 e1
        obtain ⟨x0, r0, _, w0⟩ := DataW.trod_int hq g0
        obtain ⟨x1, r1, _, w1⟩ := DataW.trod_int hq g1
        obtain rfl := List.singleton_inj.1 r0
        obtain rfl := List.singleton_inj.1 r1
        exact ⟨x0, x1, by simpa using e0, by simpa using e1, w0, w1⟩)
    refine ⟨ps, h1, h2, by omega, hl, h3, ?_⟩
    rw [hx]
    simp only [Rows.uptoBulk]
    have := bulk_length_le ((List.range len).map D)
    simp at this
    omega
end
end Go.Proofs.Ytpbjhfajekfjeaa
