/- Words, contracts and walks that the proof stands on (OpenR OpenO). -/
import Derived.Deep.Slices
import Derived.Test.YtjlliohjeiclaaaDoorKB11
import Derived.Test.YtjlliohjeiclaaaDoorKB8
namespace Go.Proofs.YtjlliohjeiclaaaDoor
open Go.ChangeShapes Go.WideShapes Go.ChangeAt Go.RowKit Go.Deep
section
variable {H : Type} {enc : TypeId × Value → H} {w : World} {base : Nat} {held : Bool}
theorem flat_get {α : Type} (f : α → List Value) (m : Nat) (hf : ∀ x, (f x).length = m) (hm : 0 < m) : ∀ (l : List α) (i r : Nat) (hi : i < l.length), r < m → (l.flatMap f)[i * m + r]? = (f l[i])[r]?
 | [], i, r, hi, _ => by simp at hi
 | x :: l, 0, r, _, hr => by
  rw [List.flatMap_cons, Nat.zero_mul, Nat.zero_add, List.getElem?_append_left (by rw [hf]; exact hr)]
  rfl
 | x :: l, i + 1, r, hi, hr => by
  rw [List.flatMap_cons, List.getElem?_append_right (by rw [hf, Nat.succ_mul]; omega), hf, Nat.succ_mul]
  rw [show i * m + m + r - m = i * m + r by omega, flat_get f m hf hm l i r (by simpa using hi) hr]
  rfl
theorem flat_len {α : Type} (f : α → List Value) (m : Nat) (hf : ∀ x, (f x).length = m) : ∀ (l : List α), (l.flatMap f).length = l.length * m
 | [] => by simp
 | x :: l => by rw [List.flatMap_cons, List.length_append, hf, flat_len f m hf l, List.length_cons, Nat.succ_mul]; omega
theorem open_structs {α : Type} [Inhabited α] (f : α → List Value) (m : Nat) (hf : ∀ x, (f x).length = m) (hm : 0 < m) (G : α → Prop) {t e : TypeId} {fuel : Nat} {a0 : Option Addr} {len cap : Nat} {x : DataW H × List MemPlace} (ht : Tryd.prog.underlying t = some (.slice e)) (ce : Tryd.prog.cellsOf e = m)
 (each : ∀ {fuel : Nat} {cs : List Value} {x : DataW H × List MemPlace}, DataW.trod enc Tryd.prog w base (fun _ => true) held fuel e cs = some x → ∃ y : α, cs = f y ∧ G y)
 (h : DataW.trod enc Tryd.prog w base (fun _ => true) held fuel t (Value.slice a0 len cap).cells.toList = some x) :
 ∃ l : List α, len = l.length ∧ CellsAt w a0 (l.flatMap f) ∧ l.length ≤ maxLen ∧ ∀ y ∈ l, G y := by
 rcases open_slice ht h with ⟨hcs, _⟩ | ⟨a, l, c, k, n, D, Pl, hcs, _, hl, hmx, hmm, hx, hi⟩
 · simp [Value.cells] at hcs
   obtain ⟨rfl, rfl, rfl⟩ := hcs
   exact ⟨[], rfl, CellsAt.nil _ _, Nat.zero_le _, fun y hy => by cases hy⟩
 · simp [Value.cells] at hcs
   obtain ⟨rfl, rfl, rfl⟩ := hcs
   simp only [if_true] at hmm
   subst hmm
   have each2 : ∀ i, i < k → ∃ y : α, (∀ r, r < m → w.cell? ((a.add (i * m)).add r) = (f y)[r]?) ∧ G y := by
    intro i hik
    obtain ⟨cs', hc, htr⟩ := hi i hik
    rw [ce] at hc
    obtain ⟨y, rfl, hg⟩ := each htr
    obtain ⟨_, hcl, hat⟩ := World.cells?_some hc
    refine ⟨y, fun r hr => ?_, hg⟩
    have := hat r hr
    rw [this]
    try rw [List.getElem?_eq_getElem]
    done
   obtain ⟨F, hF⟩ := choose_lt (α := α) (n := k) (p := fun i y => (∀ r, r < m → w.cell? ((a.add (i * m)).add r) = (f y)[r]?) ∧ G y) each2
   refine ⟨(List.range len).map F, by simp, fun q hq => ?_, by simp; omega, fun y hy => ?_⟩
   · have hlenF : (((List.range len).map F).flatMap f).length = len * m := by rw [flat_len f m hf]; simp
     have hq2 : q < len * m := by rw [← hlenF]; exact hq
     have hqm : q / m < len := Nat.div_lt_of_lt_mul (by rw [Nat.mul_comm]; exact hq2)
     have hp : 0 < k := Nat.lt_of_le_of_lt (Nat.zero_le _) (Nat.lt_of_lt_of_le hqm hl)
     have z0 := (hF 0 hp).1 0 hm
     rw [List.getElem?_eq_getElem (by rw [hf]; exact hm), Nat.zero_mul] at z0
     obtain ⟨b, off, rfl⟩ := spot_none (a := a) z0
     refine ⟨b, off, rfl, ?_⟩
     have hr : q % m < m := Nat.mod_lt _ hm
     have hk := (hF (q / m) (Nat.lt_of_lt_of_le hqm hl)).1 (q % m) hr
     have hg := flat_get f m hf hm ((List.range len).map F) (q / m) (q % m) (by simpa using hqm) hr
     simp only [List.getElem_map, List.getElem_range] at hg
     have hqe : q / m * m + q % m = q := by rw [Nat.mul_comm]; exact Nat.div_add_mod q m
     rw [hqe] at hg
     rw [Addr_add, Addr_add, Nat.add_assoc, hqe] at hk
     rw [hk, ← hg, List.getElem?_eq_getElem hq]
   · obtain ⟨i, hi', rfl⟩ := List.mem_map.1 hy
     exact (hF i (by have := List.mem_range.1 hi'; omega)).2
end
end Go.Proofs.YtjlliohjeiclaaaDoor
namespace Go.Proofs.YtjlliohjeiclaaaDoor
open Go.ChangeShapes Go.WideShapes Go.ChangeAt Go.RowKit Go.Deep St Ku Kn
section
variable {H : Type} {enc : TypeId × Value → H} {w : World} {base : Nat} {held : Bool}
set_option maxRecDepth 100000 in
theorem open_op {fuel : Nat} {cs : List Value} {x : DataW H × List MemPlace} (h : DataW.trod enc Tryd.prog w base (fun _ => true) held fuel 54 cs = some x) :
 ∃ q : Opc, cs = opV q ∧ OpAt w q ∧ q.n ≤ 9223372036854775807 := by
 obtain ⟨xs, n, _, _, hlen, hz, hff⟩ := DataW.trod_struct Tryd.underlying54 h
 rw [show Tryd.prog.cellsOf 54 = 6 by kernel_rfl] at hlen
 match cs, hlen with
 | [v0, v1, v2, v3, v4, v5], _ =>
  have q0 := hff 0 _ rfl
  have q1 := hff 1 _ rfl
  have q2 := hff 2 _ rfl
  have q3 := hff 3 _ rfl
  have q4 := hff 4 _ rfl
  have q5 := hff 5 _ rfl
  rw [List.getElem?_eq_getElem (by rw [hz]; decide)] at q0 q1 q2 q3 q4 q5
  change DataW.trod enc _ w base _ held n 45 (List.take (Tryd.prog.cellsOf 45) [v0, v1, v2, v3, v4, v5]) = _ at q0
  change DataW.trod enc _ w base _ held n 44 (List.take (Tryd.prog.cellsOf 44) [v1, v2, v3, v4, v5]) = _ at q1
  change DataW.trod enc _ w base _ held n 9 (List.take (Tryd.prog.cellsOf 9) [v2, v3, v4, v5]) = _ at q2
  change DataW.trod enc _ w base _ held n 52 (List.take (Tryd.prog.cellsOf 52) [v3, v4, v5]) = _ at q3
  change DataW.trod enc _ w base _ held n 2 (List.take (Tryd.prog.cellsOf 2) [v4, v5]) = _ at q4
  change DataW.trod enc _ w base _ held n 9 (List.take (Tryd.prog.cellsOf 9) [v5]) = _ at q5
  rw [show Tryd.prog.cellsOf 45 = 1 by kernel_rfl] at q0
  rw [show Tryd.prog.cellsOf 44 = 1 by kernel_rfl] at q1
  rw [show Tryd.prog.cellsOf 9 = 1 by kernel_rfl] at q2 q5
  rw [show Tryd.prog.cellsOf 52 = 1 by kernel_rfl] at q3
  rw [show Tryd.prog.cellsOf 2 = 1 by kernel_rfl] at q4
  obtain ⟨k, k1, _⟩ := DataW.trod_int Tryd.underlying44 q1
  obtain ⟨l, k2, _, kl⟩ := DataW.trod_string Tryd.underlying9 q2
  obtain ⟨d, k3, _⟩ := DataW.trod_int Tryd.underlying52 q3
  obtain ⟨m, k4, _⟩ := DataW.trod_int Tryd.underlying2 q4
  obtain ⟨t, k5, _, kt⟩ := DataW.trod_string Tryd.underlying9 q5
  obtain ⟨a, j, c, k0⟩ : ∃ a m c, v0 = .slice a m c := by
   rcases open_strings Tryd.underlying45 Tryd.underlying9 (by kernel_rfl) q0 with ⟨hcs, _⟩ | ⟨a, m, c, zs, hcs, _⟩
   · simp only [List.take, List.cons.injEq, and_true] at hcs; exact ⟨_, _, _, hcs⟩
   · simp only [List.take, List.cons.injEq, and_true] at hcs; exact ⟨_, _, _, hcs⟩
  simp only [List.take, List.cons.injEq, and_true] at k1 k2 k3 k4 k5
  subst k0 k1 k2 k3 k4 k5
  obtain ⟨ll, hn, hc, hm, _, hs⟩ := open_strings_cells Tryd.underlying45 Tryd.underlying9 (by kernel_rfl) q0
  exact ⟨⟨⟨ll, k, l, d, m, t⟩, a, j, c⟩, rfl, ⟨hc, hn, fun x hx => maxLen_small (hs x hx), maxLen_small kl⟩, maxLen_small (by rw [show j = ll.length from hn]; exact hm)⟩
theorem open_ops {fuel : Nat} {a0 : Option Addr} {len cap : Nat} {x : DataW H × List MemPlace} (h : DataW.trod enc Tryd.prog w base (fun _ => true) held fuel 68 (Value.slice a0 len cap).cells.toList = some x) :
 ∃ l : List Opc, len = l.length ∧ CellsAt w a0 (l.flatMap opV) ∧ l.length ≤ maxLen ∧ ∀ q ∈ l, OpAt w q :=
 open_structs (α := Opc) opV 6 (fun _ => rfl) (by omega) (OpAt w) Tryd.underlying68 (by kernel_rfl) (fun h => by obtain ⟨q, h1, h2, _⟩ := open_op h; exact ⟨q, h1, h2⟩) h
set_option maxRecDepth 100000 in
set_option maxRecDepth 100000 in
set_option maxRecDepth 100000 in
theorem ops_shape {fuel : Nat} {v : Value} {x : DataW H × List MemPlace} (h : DataW.trod enc Tryd.prog w base (fun _ => true) held fuel 68 [v] = some x) :
 ∃ (a : Option Addr) (n c : Nat) (l : List Opc), v = .slice a n c ∧ n = l.length ∧ CellsAt w a (l.flatMap opV) ∧ ∀ q ∈ l, OpAt w q := by
 obtain ⟨a, n, c, rfl⟩ : ∃ a n c, v = .slice a n c := by
  rcases open_slice Tryd.underlying68 h with ⟨hcs, _⟩ | ⟨a, l, c, k, n, D, Pl, hcs, _⟩
  · simp only [List.cons.injEq, and_true] at hcs; exact ⟨_, _, _, hcs⟩
  · simp only [List.cons.injEq, and_true] at hcs; exact ⟨_, _, _, hcs⟩
 obtain ⟨l, h1, h2, _, h4⟩ := open_ops (a0 := a) (len := n) (cap := c) h
 exact ⟨a, n, c, l, rfl, h1, h2, h4⟩
set_option maxRecDepth 100000 in
theorem open_steps {v : Value} {b : Nat} {r : Reach} {fuel : Nat} {x : DataW H × List MemPlace} (hok : Value.okWide Tryd.prog w r b 70 v)
 (h : DataW.trod enc Tryd.prog w base (fun _ => true) held fuel 70 v.cells.toList = some x) :
 ∃ (k : Int) (bA aA cA : Option Addr) (nb cb na ca nc cc : Nat) (xb xa xc : List Opc), v = .agg #[.int .i64 k, .slice bA nb cb, .slice aA na ca, .slice cA nc cc] ∧ CellsAt w bA (xb.flatMap opV) ∧ CellsAt w aA (xa.flatMap opV) ∧ CellsAt w cA (xc.flatMap opV) ∧ nb = xb.length ∧ na = xa.length ∧ nc = xc.length ∧ (∀ q ∈ xb, OpAt w q) ∧ (∀ q ∈ xa, OpAt w q) ∧ ∀ q ∈ xc, OpAt w q := by
 obtain ⟨cs, rfl⟩ : ∃ cs, v = .agg cs := by
  simp only [Value.okWide, Tryd.underlying70] at hok
  obtain ⟨cs, h1, _⟩ := hok
  exact ⟨cs, h1⟩
 obtain ⟨l, rfl⟩ : ∃ l : List Value, cs = l.toArray := ⟨cs.toList, by simp⟩
 obtain ⟨xs, n, _, _, hlen, hz, hff⟩ := DataW.trod_struct Tryd.underlying70 h
 rw [show Tryd.prog.cellsOf 70 = 4 by kernel_rfl] at hlen
 simp only [Value.cells] at hlen hff
 match l, hlen with
 | [v0, v1, v2, v3], _ =>
  have q0 := hff 0 _ rfl
  have q1 := hff 1 _ rfl
  have q2 := hff 2 _ rfl
  have q3 := hff 3 _ rfl
  rw [List.getElem?_eq_getElem (by rw [hz]; decide)] at q0 q1 q2 q3
  change DataW.trod enc _ w base _ held n 44 (List.take (Tryd.prog.cellsOf 44) [v0, v1, v2, v3]) = _ at q0
  change DataW.trod enc _ w base _ held n 68 (List.take (Tryd.prog.cellsOf 68) [v1, v2, v3]) = _ at q1
  change DataW.trod enc _ w base _ held n 68 (List.take (Tryd.prog.cellsOf 68) [v2, v3]) = _ at q2
  change DataW.trod enc _ w base _ held n 68 (List.take (Tryd.prog.cellsOf 68) [v3]) = _ at q3
  rw [show Tryd.prog.cellsOf 44 = 1 by kernel_rfl] at q0
  rw [show Tryd.prog.cellsOf 68 = 1 by kernel_rfl] at q1 q2 q3
  obtain ⟨k, k0, _⟩ := DataW.trod_int Tryd.underlying44 q0
  simp only [List.take] at q1 q2 q3
  simp only [List.take, List.cons.injEq, and_true] at k0
  obtain ⟨bA, nb, cb, xb, rfl, e1, h1, o1⟩ := ops_shape q1
  obtain ⟨aA, na, ca, xa, rfl, e2, h2, o2⟩ := ops_shape q2
  obtain ⟨cA, nc, cc, xc, rfl, e3, h3, o3⟩ := ops_shape q3
  subst k0
  exact ⟨k, bA, aA, cA, nb, cb, na, ca, nc, cc, xb, xa, xc, rfl, h1, h2, h3, e1, e2, e3, o1, o2, o3⟩
end
end Go.Proofs.YtjlliohjeiclaaaDoor
