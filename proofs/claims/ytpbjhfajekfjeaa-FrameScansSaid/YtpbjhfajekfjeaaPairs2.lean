
/- Pairs of numbers in memory: rows that a call owns, sources of an append, equality of arrays of two. -/
import Derived.Test.YtpbjhfajekfjeaaPairs
import Derived.Test.YtpbjhfajekfjeaaMem2
import Derived.Laws.StructEq
import Derived.Stop.BytesEq
namespace Go.Proofs.Ytpbjhfajekfjeaa
open Go.RowKit
def pI (qs : List (Nat × Nat)) : List (Int × Int) := qs.map fun q => ((q.1 : Int), (q.2 : Int))
theorem nat_pairs (ps : List (Int × Int)) (h : ∀ y ∈ ps, (Lit.int .u64 y.1).wf = true ∧ (Lit.int .u64 y.2).wf = true) : ∃ qs : List (Nat × Nat), ps = pI qs ∧ ∀ q ∈ qs, q.1 < 18446744073709551616 ∧ q.2 < 18446744073709551616 := by
  refine ⟨ps.map fun y => (y.1.toNat, y.2.toNat), ?_, ?_⟩
  · unfold pI
    rw [List.map_map]
    conv => lhs; rw [← List.map_id ps]
    refine List.map_congr_left fun y hy => ?_
    have h1 := u64_bounds _ (h y hy).1
    have h2 := u64_bounds _ (h y hy).2
    simp only [id_eq, Function.comp]
    ext
    · simp only; omega
    · simp only; omega
  · intro q hq
    obtain ⟨y, hy, rfl⟩ := List.mem_map.1 hq
    have h1 := u64_bounds _ (h y hy).1
    have h2 := u64_bounds _ (h y hy).2
    simp only
    omega
theorem pI_length (qs : List (Nat × Nat)) : (pI qs).length = qs.length := by simp [pI]
/-- The cells of pairs of numbers. -/
def pcs (qs : List (Nat × Nat)) : List Value := qs.flatMap fun q => [Value.int .u64 (q.1 : Int), Value.int .u64 (q.2 : Int)]
theorem pcs_append (a b : List (Nat × Nat)) : pcs (a ++ b) = pcs a ++ pcs b := by simp [pcs]
theorem pcs_length (a : List (Nat × Nat)) : (pcs a).length = a.length * 2 := by
  induction a with
  | nil => rfl
  | cons x r ih => simp only [pcs, List.flatMap_cons, List.length_append] at ih ⊢; rw [ih]; simp; omega
theorem pcs_one (a : List (Nat × Nat)) : ∀ u ∈ pcs a, u.oneCell' = true := fun u hu => by
  obtain ⟨q, _, h⟩ := List.mem_flatMap.1 hu
  simp at h
  rcases h with rfl | rfl <;> rfl
theorem pcs_get (a : List (Nat × Nat)) : ∀ i (h : i < a.length), (pcs a)[i * 2]? = some (.int .u64 (a[i].1 : Int)) ∧ (pcs a)[i * 2 + 1]? = some (.int .u64 (a[i].2 : Int)) := by
  induction a with
  | nil => intro i h; simp at h
  | cons x r ih =>
    intro i h
    cases i with
    | zero => exact ⟨rfl, rfl⟩
    | succ i =>
      have := ih i (by simpa using h)
      have e : pcs (x :: r) = [Value.int .u64 (x.1 : Int), Value.int .u64 (x.2 : Int)] ++ pcs r := rfl
      rw [e]
      constructor
      · rw [List.getElem?_append_right (by simp; omega), show (i + 1) * 2 - [Value.int .u64 (x.1 : Int), Value.int .u64 (x.2 : Int)].length = i * 2 by simp; omega]
        exact this.1
      · rw [List.getElem?_append_right (by simp; omega), show (i + 1) * 2 + 1 - [Value.int .u64 (x.1 : Int), Value.int .u64 (x.2 : Int)].length = i * 2 + 1 by simp; omega]
        exact this.2
/-- An owned row's cells, whatever the elements' size. -/
theorem own_cellN {w : World} {base size n : Nat} {e : TypeId} {a : Option Addr} {len cap : Nat} {xs : List Value} (h : w.ownsRow base e size (.slice a len cap) n xs) (i : Nat) (u : Value) (hi : xs[i]? = some u) :
    ∃ g, a = some ⟨g, 0, none⟩ ∧ base ≤ g ∧ w.cell? ⟨g, i, none⟩ = some u := by
  have hlt := (List.getElem?_eq_some_iff.1 hi).1
  rcases h.2 with ⟨hv, hn⟩ | ⟨g, cap', cur, hv, hb, hg, hnc, _, hcs, ht⟩
  · have h1 : xs.length = n * size := h.1
    rw [hn, Nat.zero_mul] at h1
    omega
  · simp only [Value.slice.injEq] at hv
    obtain ⟨rfl, _, _⟩ := hv
    refine ⟨g, rfl, hb, ?_⟩
    rw [cell_of_row w g i cur e _ hg]
    rw [← ht, List.getElem?_take] at hi
    split at hi
    · simpa using hi
    · cases hi
theorem own_pairs {w : World} {base n : Nat} {e : TypeId} {a : Option Addr} {len cap : Nat} {qs : List (Nat × Nat)} (h : w.ownsRow base e 2 (.slice a len cap) n (pcs qs)) : PairsAt .u64 w a (pI qs) := by
  intro i hi
  have hi' : i < qs.length := by simpa [pI] using hi
  obtain ⟨h0, h1⟩ := pcs_get qs i hi'
  obtain ⟨g, rfl, _, c0⟩ := own_cellN h _ _ h0
  obtain ⟨g', e', _, c1⟩ := own_cellN h _ _ h1
  cases e'
  exact ⟨g, 0, rfl, by rw [Nat.zero_add]; simpa [pI] using c0, by rw [Nat.zero_add]; simpa [pI] using c1⟩
theorem PairsAt.take {k : IntKind} {w : World} {a : Option Addr} {ps qs : List (Int × Int)} (h : PairsAt k w a (ps ++ qs)) : PairsAt k w a ps := by
  intro i hi
  obtain ⟨b, off, e, c0, c1⟩ := h i (by simp; omega)
  rw [List.getElem_append_left hi] at c0 c1
  exact ⟨b, off, e, c0, c1⟩
theorem PairsAt.get {k : IntKind} {w : World} {a : Option Addr} {ps : List (Int × Int)} (h : PairsAt k w a ps) {i : Nat} (hi : i < ps.length) :
    ∃ ad, a = some ad ∧ w.cell? (ad.add (i * 2)) = some (.int k ps[i].1) ∧ w.cell? (ad.add (i * 2 + 1)) = some (.int k ps[i].2) := by
  obtain ⟨b, off, rfl, c0, c1⟩ := h i hi
  exact ⟨_, rfl, by rw [Addr_add]; exact c0, by rw [Addr_add, ← Nat.add_assoc]; exact c1⟩
theorem PairsAt.src {P : Program} {w : World} {a : Option Addr} {qs : List (Nat × Nat)} (h : PairsAt .u64 w a (pI qs)) {tx e' : TypeId} (hk : P.underlying tx = some (.slice e')) (cap : Nat) : Src P 2 tx (.slice a qs.length cap) qs.length (pcs qs) w := by
  cases a with
  | none =>
    have : qs = [] := by
      cases qs with
      | nil => rfl
      | cons c r => obtain ⟨b, off, hh, _⟩ := h 0 (by simp [pI]); cases hh
    subst this
    exact Src.ofNil w hk cap
  | some a =>
    refine Src.ofSlice w hk a _ cap (pcs qs) (pcs_length qs) (fun j u hu => ?_) (pcs_one qs)
    have hj : j < qs.length * 2 := by
      have := (List.getElem?_eq_some_iff.1 hu).1
      rwa [pcs_length] at this
    have hj2 : j / 2 < qs.length := by omega
    obtain ⟨b, off, hh, c0, c1⟩ := h (j / 2) (by simpa [pI] using hj2)
    cases hh
    obtain ⟨g0, g1⟩ := pcs_get qs (j / 2) hj2
    rw [Addr_add]
    rcases Nat.mod_two_eq_zero_or_one j with hm | hm
    · have e : j / 2 * 2 = j := by omega
      rw [e] at c0 g0
      rw [c0, ← hu, g0]
      simp [pI]
    · have e : j / 2 * 2 + 1 = j := by omega
      rw [e] at g1
      rw [Nat.add_assoc, e] at c1
      rw [c1, ← hu, g1]
      simp [pI]
theorem PairsAt.fresh (w : World) (t : TypeId) (qs : List (Nat × Nat)) (vs : List Value) (h : vs = pcs qs) : PairsAt .u64 (w.alloc (.cells vs.toArray t)) (some ⟨w.heap.size, 0, none⟩) (pI qs) := by
  subst h
  intro i hi
  have hi' : i < qs.length := by simpa [pI] using hi
  obtain ⟨h0, h1⟩ := pcs_get qs i hi'
  refine ⟨w.heap.size, 0, rfl, ?_, ?_⟩
  · rw [Nat.zero_add, cell_new]; simpa [pI] using h0
  · rw [Nat.zero_add, cell_new]; simpa [pI] using h1
section
variable {P : Program}
theorem equalIn_two {t e : TypeId} {k : IntKind} (ht : P.underlying t = some (.array 2 e)) (he : P.underlying e = some (.int k)) (hsz : ∀ w, (sizeOf e).run P w = .ok 1 w) (w : World) (d : Nat) (a b c f : Int) :
    (Op.equalIn (d + 2) t (.agg #[.int k a, .int k b]) (.agg #[.int k c, .int k f])).run P w = .ok (a == c && b == f) w := by
  have p0 : ∀ x y : Int, (part e #[.int k x, .int k y] (0 * 1)).run P w = .ok (.int k x) w := fun x y => by simp [part, isAgg, run_underlying he]
  have p1 : ∀ x y : Int, (part e #[.int k x, .int k y] (1 * 1)).run P w = .ok (.int k y) w := fun x y => by simp [part, isAgg, run_underlying he]
  have q0 : (Op.equalIn (d + 1) e (.int k a) (.int k c)).run P w = .ok (a == c) w := run_equalIn_int w d e k k _ _ he
  have q1 : (Op.equalIn (d + 1) e (.int k b) (.int k f)).run P w = .ok (b == f) w := run_equalIn_int w d e k k _ _ he
  rw [Op.equalIn]
  simp only [Sem.run_bind, run_underlying ht, Result.andThen_ok, hsz, Std.Legacy.Range.forIn_eq_forIn_range', Std.Legacy.Range.size, Nat.sub_zero, Nat.add_sub_cancel, Nat.div_one]
  rw [show List.range' 0 2 1 = [0, 1] from rfl]
  simp only [List.forIn_cons, Sem.run_bind, p0, q0, Result.andThen_ok]
  cases h0 : (a == c)
  · simp
  · simp only [Bool.not_true, Bool.false_eq_true, if_false, Sem.run_pure, Result.andThen_ok, Bool.true_and, List.forIn_cons, Sem.run_bind, p1, q1]
    cases h1 : (b == f) <;> simp
theorem neq_two {t e : TypeId} {k : IntKind} (ht : P.underlying t = some (.array 2 e)) (he : P.underlying e = some (.int k)) (hsz : ∀ w, (sizeOf e).run P w = .ok 1 w) (a b c f : Int) (w : World) :
    (binOp .neq t (.agg #[.int k a, .int k b]) (.agg #[.int k c, .int k f])).run P w = .ok (.bool (!(a == c && b == f))) w := by
  rw [run_neq_struct, equalIn_two ht he hsz w 9998]
  rfl
end
end Go.Proofs.Ytpbjhfajekfjeaa
