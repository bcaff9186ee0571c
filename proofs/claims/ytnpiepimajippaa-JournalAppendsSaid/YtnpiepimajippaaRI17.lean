/- Words, contracts and walks that the proof stands on (OpenC OpenE). -/
import Derived.Deep.Grids
import Derived.Deep.Slices
import Derived.OpenShut
import Derived.ProofKit
import Derived.SliceStrings
import Derived.Test.YtnpiepimajippaaRI4
namespace Go.Proofs.Ytnpiepimajippaa
open Go.ChangeShapes Go.WideShapes Go.ChangeAt Go.RowKit Go.Deep
section
variable {H : Type} {enc : TypeId × Value → H} {P : Program} {w : World} {base : Nat} {held : Bool}
theorem spot_none {a : Addr} {v : Value} (h : w.cell? (a.add 0) = some v) : ∃ b off, a = ⟨b, off, none⟩ := by
 obtain ⟨b, off, spot⟩ := a
 have hs : spot = none := by simpa [Addr.add] using World.cell?_spot h
 subst hs
 exact ⟨b, off, rfl⟩
end
end Go.Proofs.Ytnpiepimajippaa
namespace Go.Proofs.Ytnpiepimajippaa
open Go.ChangeShapes Go.WideShapes Go.ChangeAt Go.RowKit Go.Deep St
section
variable {H : Type} {enc : TypeId × Value → H} {w : World} {base : Nat} {held : Bool}
theorem maxLen_small {n : Nat} (h : n ≤ maxLen) : n ≤ 9223372036854775807 := by unfold maxLen at h; omega
set_option maxRecDepth 100000 in
theorem open_br {fuel : Nat} {cs : List Value} {x : DataW H × List MemPlace} (h : DataW.trod enc Try.prog w base (fun _ => true) held fuel 37 cs = some x) :
   ∃ (r : Int) (l : ByteArray), cs = [.int .i64 r, .string l] ∧ l.size ≤ maxLen := by
 obtain ⟨xs, n, _, _, hlen, hz, hff⟩ := DataW.trod_struct Try.underlying37 h
 rw [show Try.prog.cellsOf 37 = 2 by kernel_rfl] at hlen
 match cs, hlen with
 | [v0, v1], _ =>
   have q0 := hff 0 _ rfl
   have q1 := hff 1 _ rfl
   rw [List.getElem?_eq_getElem (by rw [hz]; decide)] at q0 q1
   change DataW.trod enc _ w base _ held n 3 (List.take (Try.prog.cellsOf 3) [v0, v1]) = _ at q0
   change DataW.trod enc _ w base _ held n 9 (List.take (Try.prog.cellsOf 9) [v1]) = _ at q1
   rw [show Try.prog.cellsOf 3 = 1 by kernel_rfl] at q0
   rw [show Try.prog.cellsOf 9 = 1 by kernel_rfl] at q1
   obtain ⟨r, k0, _⟩ := DataW.trod_int Try.underlying3 q0
   obtain ⟨l, k1, _, k2⟩ := DataW.trod_string Try.underlying9 q1
   simp only [List.take, List.cons.injEq, and_true] at k0 k1
   subst k0 k1
   exact ⟨r, l, rfl, k2⟩
set_option maxRecDepth 100000 in
theorem open_nm {fuel : Nat} {cs : List Value} {x : DataW H × List MemPlace} (h : DataW.trod enc Try.prog w base (fun _ => true) held fuel 39 cs = some x) :
   ∃ (r : Int) (l : ByteArray) (k : Int), cs = [.int .i64 r, .string l, .int .i64 k] ∧ l.size ≤ maxLen := by
 obtain ⟨xs, n, _, _, hlen, hz, hff⟩ := DataW.trod_struct Try.underlying39 h
 rw [show Try.prog.cellsOf 39 = 3 by kernel_rfl] at hlen
 match cs, hlen with
 | [v0, v1, v2], _ =>
   have q0 := hff 0 _ rfl
   have q1 := hff 1 _ rfl
   rw [List.getElem?_eq_getElem (by rw [hz]; decide)] at q0 q1
   change DataW.trod enc _ w base _ held n 37 (List.take (Try.prog.cellsOf 37) [v0, v1, v2]) = _ at q0
   change DataW.trod enc _ w base _ held n 2 (List.take (Try.prog.cellsOf 2) [v2]) = _ at q1
   rw [show Try.prog.cellsOf 37 = 2 by kernel_rfl] at q0
   rw [show Try.prog.cellsOf 2 = 1 by kernel_rfl] at q1
   obtain ⟨r, l, k0, kl⟩ := open_br q0
   obtain ⟨k, k1, _⟩ := DataW.trod_int Try.underlying2 q1
   simp only [List.take, List.cons.injEq, and_true] at k0 k1
   obtain ⟨k0, k0'⟩ := k0
   subst k0 k0' k1
   exact ⟨r, l, k, rfl, kl⟩
set_option maxRecDepth 100000 in
theorem open_sv {fuel : Nat} {cs : List Value} {x : DataW H × List MemPlace} (h : DataW.trod enc Try.prog w base (fun _ => true) held fuel 41 cs = some x) :
   ∃ s : Sv, cs = [.int .i64 s.g, .int .i64 s.r, .string s.l, .int .i64 s.n, .int .i64 s.i] ∧ s.l.size ≤ maxLen := by
 obtain ⟨xs, n, _, _, hlen, hz, hff⟩ := DataW.trod_struct Try.underlying41 h
 rw [show Try.prog.cellsOf 41 = 5 by kernel_rfl] at hlen
 match cs, hlen with
 | [v0, v1, v2, v3, v4], _ =>
   have q0 := hff 0 _ rfl
   have q1 := hff 1 _ rfl
   have q2 := hff 2 _ rfl
   rw [List.getElem?_eq_getElem (by rw [hz]; decide)] at q0 q1 q2
   change DataW.trod enc _ w base _ held n 2 (List.take (Try.prog.cellsOf 2) [v0, v1, v2, v3, v4]) = _ at q0
   change DataW.trod enc _ w base _ held n 39 (List.take (Try.prog.cellsOf 39) [v1, v2, v3, v4]) = _ at q1
   change DataW.trod enc _ w base _ held n 3 (List.take (Try.prog.cellsOf 3) [v4]) = _ at q2
   rw [show Try.prog.cellsOf 2 = 1 by kernel_rfl] at q0
   rw [show Try.prog.cellsOf 39 = 3 by kernel_rfl] at q1
   rw [show Try.prog.cellsOf 3 = 1 by kernel_rfl] at q2
   obtain ⟨g, k0, _⟩ := DataW.trod_int Try.underlying2 q0
   obtain ⟨r, l, k, k1, kl⟩ := open_nm q1
   obtain ⟨i, k2, _⟩ := DataW.trod_int Try.underlying3 q2
   simp only [List.take, List.cons.injEq, and_true] at k0 k1 k2
   obtain ⟨e1, e2, e3⟩ := k1
   subst k0 e1 e2 e3 k2
   exact ⟨⟨g, r, l, k, i⟩, rfl, kl⟩
set_option maxRecDepth 100000 in
theorem open_ev {fuel : Nat} {cs : List Value} {x : DataW H × List MemPlace} (h : DataW.trod enc Try.prog w base (fun _ => true) held fuel 47 cs = some x) :
   ∃ e : Ev, cs = elV e ∧ e.1.l.size ≤ maxLen ∧ e.2.size ≤ maxLen := by
 obtain ⟨xs, n, _, _, hlen, hz, hff⟩ := DataW.trod_struct Try.underlying47 h
 rw [show Try.prog.cellsOf 47 = 6 by kernel_rfl] at hlen
 match cs, hlen with
 | [v0, v1, v2, v3, v4, v5], _ =>
   have q0 := hff 0 _ rfl
   have q1 := hff 1 _ rfl
   rw [List.getElem?_eq_getElem (by rw [hz]; decide)] at q0 q1
   change DataW.trod enc _ w base _ held n 41 (List.take (Try.prog.cellsOf 41) [v0, v1, v2, v3, v4, v5]) = _ at q0
   change DataW.trod enc _ w base _ held n 9 (List.take (Try.prog.cellsOf 9) [v5]) = _ at q1
   rw [show Try.prog.cellsOf 41 = 5 by kernel_rfl] at q0
   rw [show Try.prog.cellsOf 9 = 1 by kernel_rfl] at q1
   obtain ⟨s, k0, kl⟩ := open_sv q0
   obtain ⟨t, k1, _, kt⟩ := DataW.trod_string Try.underlying9 q1
   simp only [List.take, List.cons.injEq, and_true] at k0 k1
   obtain ⟨e1, e2, e3, e4, e5⟩ := k0
   subst e1 e2 e3 e4 e5 k1
   exact ⟨(s, t), rfl, kl, kt⟩
theorem flat_get {α : Type} (f : α → List Value) (m : Nat) (hf : ∀ x, (f x).length = m) (hm : 0 < m) : ∀ (l : List α) (i r : Nat) (hi : i < l.length), r < m → (l.flatMap f)[i * m + r]? = (f l[i])[r]?
 | [], i, r, hi, _ => by simp at hi
 | x :: l, 0, r, _, hr => by
   rw [List.flatMap_cons, Nat.zero_mul, Nat.zero_add, List.getElem?_append_left (by rw [hf]; exact hr)]
   rfl
 | x :: l, i + 1, r, hi, hr => by
   rw [List.flatMap_cons, List.getElem?_append_right (by rw [hf, Nat.succ_mul]; omega), hf, Nat.succ_mul]
   rw [show i * m + m + r - m = i * m + r by omega, flat_get f m hf hm l i r (by simpa using hi) hr]
   rfl
theorem flat_len {α : Type} (f : α → List Value) (m : Nat) (hf : ∀ x, (f x).length = m) : ∀ (l : List α), (l.flatMap f).length = l.length * m
 | [] => by simp
 | x :: l => by rw [List.flatMap_cons, List.length_append, hf, flat_len f m hf l, List.length_cons, Nat.succ_mul]; omega
theorem open_structs {α : Type} [Inhabited α] (f : α → List Value) (m : Nat) (hf : ∀ x, (f x).length = m) (hm : 0 < m) (G : α → Prop) {t e : TypeId} {fuel : Nat} {a0 : Option Addr} {len cap : Nat} {x : DataW H × List MemPlace} (ht : Try.prog.underlying t = some (.slice e)) (ce : Try.prog.cellsOf e = m)
   (each : ∀ {fuel : Nat} {cs : List Value} {x : DataW H × List MemPlace}, DataW.trod enc Try.prog w base (fun _ => true) held fuel e cs = some x → ∃ y : α, cs = f y ∧ G y)
   (h : DataW.trod enc Try.prog w base (fun _ => true) held fuel t (Value.slice a0 len cap).cells.toList = some x) :
   ∃ l : List α, len = l.length ∧ CellsAt w a0 (l.flatMap f) ∧ l.length ≤ maxLen ∧ ∀ y ∈ l, G y := by
 rcases open_slice ht h with ⟨hcs, _⟩ | ⟨a, l, c, k, n, D, Pl, hcs, _, hl, hmx, hmm, hx, hi⟩
 · simp [Value.cells] at hcs
   obtain ⟨rfl, rfl, rfl⟩ := hcs
   exact ⟨[], rfl, CellsAt.nil _ _, Nat.zero_le _, fun y hy => by cases hy⟩
 · simp [Value.cells] at hcs
   obtain ⟨rfl, rfl, rfl⟩ := hcs
   simp only [if_true] at hmm
   subst hmm
   have each2 : ∀ i, i < k → ∃ y : α, (∀ r, r < m → w.cell? ((a.add (i * m)).add r) = (f y)[r]?) ∧ G y := by
     intro i hik
     obtain ⟨cs', hc, htr⟩ := hi i hik
     rw [ce] at hc
     obtain ⟨y, rfl, hg⟩ := each htr
     obtain ⟨_, hcl, hat⟩ := World.cells?_some hc
     refine ⟨y, fun r hr => ?_, hg⟩
     have := hat r hr
     rw [this]
     try rw [List.getElem?_eq_getElem]
     done
   obtain ⟨F, hF⟩ := choose_lt (α := α) (n := k) (p := fun i y => (∀ r, r < m → w.cell? ((a.add (i * m)).add r) = (f y)[r]?) ∧ G y) each2
   refine ⟨(List.range len).map F, by simp, fun q hq => ?_, by simp; omega, fun y hy => ?_⟩
   · have hlenF : (((List.range len).map F).flatMap f).length = len * m := by rw [flat_len f m hf]; simp
     have hq2 : q < len * m := by rw [← hlenF]; exact hq
     have hqm : q / m < len := Nat.div_lt_of_lt_mul (by rw [Nat.mul_comm]; exact hq2)
     have hp : 0 < k := Nat.lt_of_le_of_lt (Nat.zero_le _) (Nat.lt_of_lt_of_le hqm hl)
     have z0 := (hF 0 hp).1 0 hm
     rw [List.getElem?_eq_getElem (by rw [hf]; exact hm), Nat.zero_mul] at z0
     obtain ⟨b, off, rfl⟩ := spot_none (a := a) z0
     refine ⟨b, off, rfl, ?_⟩
     have hr : q % m < m := Nat.mod_lt _ hm
     have hk := (hF (q / m) (Nat.lt_of_lt_of_le hqm hl)).1 (q % m) hr
     have hg := flat_get f m hf hm ((List.range len).map F) (q / m) (q % m) (by simpa using hqm) hr
     simp only [List.getElem_map, List.getElem_range] at hg
     have hqe : q / m * m + q % m = q := by rw [Nat.mul_comm]; exact Nat.div_add_mod q m
     rw [hqe] at hg
     rw [Addr_add, Addr_add, Nat.add_assoc, hqe] at hk
     rw [hk, ← hg, List.getElem?_eq_getElem hq]
   · obtain ⟨i, hi', rfl⟩ := List.mem_map.1 hy
     exact (hF i (by have := List.mem_range.1 hi'; omega)).2
instance : Inhabited Ev := ⟨(⟨0, 0, ⟨#[]⟩, 0, 0⟩, ⟨#[]⟩)⟩
theorem open_els {fuel : Nat} {a0 : Option Addr} {len cap : Nat} {x : DataW H × List MemPlace} (h : DataW.trod enc Try.prog w base (fun _ => true) held fuel 22 (Value.slice a0 len cap).cells.toList = some x) :
   ∃ l : List Ev, len = l.length ∧ CellsAt w a0 (elsV l) ∧ l.length ≤ maxLen ∧ ∀ e ∈ l, e.1.l.size ≤ 9223372036854775807 ∧ e.2.size ≤ maxLen :=
 open_structs (α := Ev) elV 6 (fun _ => rfl) (by omega) (fun e => e.1.l.size ≤ 9223372036854775807 ∧ e.2.size ≤ maxLen) Try.underlying22 (by kernel_rfl) (fun h => by obtain ⟨e, h1, h2, h3⟩ := open_ev h; exact ⟨e, h1, maxLen_small h2, h3⟩) h
end
end Go.Proofs.Ytnpiepimajippaa
