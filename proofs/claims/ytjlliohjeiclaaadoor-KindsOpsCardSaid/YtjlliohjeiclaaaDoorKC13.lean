/- Words, contracts and walks that the proof stands on (KnZ KoA OpenC OpenK OpenO). -/
import Derived.Deep.DeepHandedRow
import Derived.Deep.DeepWitnessRowRef
import Derived.Deep.Grids
import Derived.Deep.Slices
import Derived.Lib.LaidIn
import Derived.Lib.LaidU8T
import Derived.OpenShut
import Derived.ProofKit
import Derived.Shelf.Vars
import Derived.SliceStrings
import Derived.Test.YtjlliohjeiclaaaDoorCards
import Derived.Test.YtjlliohjeiclaaaDoorKC2
import Derived.Test.YtjlliohjeiclaaaDoorKC3
import Derived.Test.YtjlliohjeiclaaaDoorKC8
import Derived.Test.YtjlliohjeiclaaaDoorTie
namespace Go.Proofs.YtjlliohjeiclaaaDoor
namespace Kn
open St Pm
structure Opv where
 p : List ByteArray
 k : Int
 x : ByteArray
 d : Int
 m : Int
 t : ByteArray
def Opv.ce (o : Opv) : Int := checkK o.p o.k o.x o.d o.m o.t
structure Vl where
 k : Int
 m : Int
 l : List Ev
def Vl.ok (v : Vl) : Bool := valG v.k v.m v.l
def Agree (A B : List Ev) : Prop := ∀ x ∈ A, ∀ y ∈ B, x.1 = y.1 → x = y
theorem Agree.symm {A B : List Ev} (h : Agree A B) : Agree B A := fun x hx y hy e => (h y hy x hx e.symm).symm
end Kn
end Go.Proofs.YtjlliohjeiclaaaDoor
namespace Go.Proofs.YtjlliohjeiclaaaDoor
open Go.RowKit St Pm Ku Kn
namespace Kn
structure Opc where
 o : Opv
 a : Option Addr
 n : Nat
 c : Nat
def opV (q : Opc) : List Value := [.slice q.a q.n q.c, .int .i64 q.o.k, .string q.o.x, .int .i64 q.o.d, .int .i64 q.o.m, .string q.o.t]
structure OpAt (w : World) (q : Opc) : Prop where
 p : CellsAt w q.a (txV q.o.p)
 n : q.n = q.o.p.length
 z : ∀ x ∈ q.o.p, x.size ≤ 9223372036854775807
 x : q.o.x.size ≤ 9223372036854775807
theorem OpAt.below {B : Nat} {w w' : World} {q : Opc} (h : OpAt w q) (hb : Below B w w') (hB : w.heap.size = B) : OpAt w' q := ⟨h.p.below hb hB.symm, h.n, h.z, h.x⟩
instance : Inhabited Opc := ⟨⟨⟨[], 0, ⟨#[]⟩, 0, 0, ⟨#[]⟩⟩, none, 0, 0⟩⟩
end Kn
end Go.Proofs.YtjlliohjeiclaaaDoor
namespace Go.Proofs.YtjlliohjeiclaaaDoor
open Go.ChangeShapes Go.WideShapes Go.ChangeAt Go.RowKit Go.Deep
section
variable {H : Type} {enc : TypeId × Value → H} {P : Program} {w : World} {base : Nat} {held : Bool}
theorem spot_none {a : Addr} {v : Value} (h : w.cell? (a.add 0) = some v) : ∃ b off, a = ⟨b, off, none⟩ := by
 obtain ⟨b, off, spot⟩ := a
 have hs : spot = none := by simpa [Addr.add] using World.cell?_spot h
 subst hs
 exact ⟨b, off, rfl⟩
theorem open_strings_cells {t e : TypeId} {fuel : Nat} {a0 : Option Addr} {len cap : Nat} {x : DataW H × List MemPlace} (ht : P.underlying t = some (.slice e)) (he : P.underlying e = some .string)
 (ce : P.cellsOf e = 1) (h : DataW.trod enc P w base (fun _ => true) held fuel t (Value.slice a0 len cap).cells.toList = some x) :
 ∃ l : List ByteArray, len = l.length ∧ CellsAt w a0 (l.map Value.string) ∧ l.length ≤ maxLen ∧ len ≤ cap ∧ ∀ s ∈ l, s.size ≤ maxLen := by
 rcases open_strings ht he ce h with ⟨hcs, _⟩ | ⟨a, l, c, zs, hcs, _, hl, hm, hz, hx, hcell, hwz⟩
 · simp [Value.cells] at hcs
   obtain ⟨rfl, rfl, rfl⟩ := hcs
   exact ⟨[], rfl, CellsAt.nil _ _, Nat.zero_le _, Nat.le_refl _, fun n hn => by simp at hn⟩
 · have hz' : zs.length = c := by simpa using hz
   simp [Value.cells] at hcs
   obtain ⟨rfl, rfl, rfl⟩ := hcs
   refine ⟨zs.take len, by simp; omega, fun i hi => ?_, by simp; omega, hl, fun n hn => hwz n (List.mem_of_mem_take hn)⟩
   have hi' : i < len ∧ i < zs.length := by simp at hi; omega
   obtain ⟨b, off, rfl⟩ := spot_none (hcell 0 (by omega))
   refine ⟨b, off, rfl, ?_⟩
   have h0 := hcell i (by omega)
   rw [Addr_add] at h0
   rw [h0]
   simp [hi'.2]
end
end Go.Proofs.YtjlliohjeiclaaaDoor
namespace Go.Proofs.YtjlliohjeiclaaaDoor
open Go.ChangeShapes Go.WideShapes Go.ChangeAt Go.RowKit Go.Deep St Ku
section
variable {H : Type} {enc : TypeId × Value → H} {w : World} {base : Nat} {held : Bool}
theorem maxLen_small {n : Nat} (h : n ≤ maxLen) : n ≤ 9223372036854775807 := by unfold maxLen at h; omega
end
theorem laid_eq1 : (Rows.laid_unicode_utf8_acceptRanges : DataW Unit) = Lib.acceptData := by kernel_rfl
theorem laid_eq2 : Rows.laid_unicode_utf8_first = Lib.firstData := by kernel_rfl
theorem glob_of {W : World} (hL : laidMetH Tryd.prog [("unicode/utf8.acceptRanges", Rows.laid_unicode_utf8_acceptRanges), ("unicode/utf8.first", Rows.laid_unicode_utf8_first)] W) (hS : W.ShapedOpen Tryd.prog) : Glob W := by
 refine ⟨utf8Tabs_of_readsT (U8Types.of196 lay196) ⟨by kernel_rfl, by kernel_rfl, by kernel_rfl, by kernel_rfl, by kernel_rfl, by kernel_rfl, by kernel_rfl⟩ ?_ ?_, ?_⟩
 · rw [← laid_eq2]; exact Lib.laidMet.reads hL (.tail _ (.head _))
 · rw [← laid_eq1]; exact Lib.laidMet.reads hL (.head _)
 · exact cell_of_shapedOpen_int (P := Tryd.prog) (g := 2) (t := 3) (zero := #[.int .i64 0]) hS (of_decide_eq_true (by kernel_rfl)) (by kernel_rfl) rfl (by kernel_rfl) (by kernel_rfl) Tryd.underlying3
noncomputable def laidWorld (os : Os) : World :=
 let w0 := World.holding Tryd.prog os ⟨#[], #[], []⟩
 let put (h : Array Obj) (g : Nat) (cs : Array Value) : Array Obj := h.modify g fun
  | .cells _ t frozen => .cells cs t frozen
  | o => o
 let h1 := put w0.heap 0 (Lib.firstTab.map fun z => Value.int .u8 z).toArray
 let h2 := put h1 1 ((List.range 16).flatMap fun i => [Value.int .u8 (Lib.accLo i), Value.int .u8 (Lib.accHi i)]).toArray
 { w0 with heap := h2 }
theorem laid_met (os : Os) (args : Array Value) : laidMet Tryd.prog [("unicode/utf8.acceptRanges", Rows.laid_unicode_utf8_acceptRanges), ("unicode/utf8.first", Rows.laid_unicode_utf8_first)] ((laidWorld os).forCall (fun _ _ => 0) ⟨#[], args, []⟩).memory :=
 (LaidIn.of_run (l := [("unicode/utf8.acceptRanges", Rows.laid_unicode_utf8_acceptRanges), ("unicode/utf8.first", Rows.laid_unicode_utf8_first)]) [1, 0] 8 (by kernel_rfl) (by kernel_rfl) (by kernel_rfl) (by kernel_rfl)).met
end Go.Proofs.YtjlliohjeiclaaaDoor
namespace Go.Proofs.YtjlliohjeiclaaaDoor
open Go.ChangeShapes Go.WideShapes Go.ChangeAt Go.RowKit Go.Deep St Ku Kn
section
variable {H : Type} {enc : TypeId × Value → H} {w : World} {base : Nat} {held : Bool}
set_option maxRecDepth 100000 in
theorem open_op {fuel : Nat} {cs : List Value} {x : DataW H × List MemPlace} (h : DataW.trod enc Tryd.prog w base (fun _ => true) held fuel 54 cs = some x) :
 ∃ q : Opc, cs = opV q ∧ OpAt w q ∧ q.n ≤ 9223372036854775807 := by
 obtain ⟨xs, n, _, _, hlen, hz, hff⟩ := DataW.trod_struct Tryd.underlying54 h
 rw [show Tryd.prog.cellsOf 54 = 6 by kernel_rfl] at hlen
 match cs, hlen with
 | [v0, v1, v2, v3, v4, v5], _ =>
  have q0 := hff 0 _ rfl
  have q1 := hff 1 _ rfl
  have q2 := hff 2 _ rfl
  have q3 := hff 3 _ rfl
  have q4 := hff 4 _ rfl
  have q5 := hff 5 _ rfl
  rw [List.getElem?_eq_getElem (by rw [hz]; decide)] at q0 q1 q2 q3 q4 q5
  change DataW.trod enc _ w base _ held n 45 (List.take (Tryd.prog.cellsOf 45) [v0, v1, v2, v3, v4, v5]) = _ at q0
  change DataW.trod enc _ w base _ held n 44 (List.take (Tryd.prog.cellsOf 44) [v1, v2, v3, v4, v5]) = _ at q1
  change DataW.trod enc _ w base _ held n 9 (List.take (Tryd.prog.cellsOf 9) [v2, v3, v4, v5]) = _ at q2
  change DataW.trod enc _ w base _ held n 52 (List.take (Tryd.prog.cellsOf 52) [v3, v4, v5]) = _ at q3
  change DataW.trod enc _ w base _ held n 2 (List.take (Tryd.prog.cellsOf 2) [v4, v5]) = _ at q4
  change DataW.trod enc _ w base _ held n 9 (List.take (Tryd.prog.cellsOf 9) [v5]) = _ at q5
  rw [show Tryd.prog.cellsOf 45 = 1 by kernel_rfl] at q0
  rw [show Tryd.prog.cellsOf 44 = 1 by kernel_rfl] at q1
  rw [show Tryd.prog.cellsOf 9 = 1 by kernel_rfl] at q2 q5
  rw [show Tryd.prog.cellsOf 52 = 1 by kernel_rfl] at q3
  rw [show Tryd.prog.cellsOf 2 = 1 by kernel_rfl] at q4
  obtain ⟨k, k1, _⟩ := DataW.trod_int Tryd.underlying44 q1
  obtain ⟨l, k2, _, kl⟩ := DataW.trod_string Tryd.underlying9 q2
  obtain ⟨d, k3, _⟩ := DataW.trod_int Tryd.underlying52 q3
  obtain ⟨m, k4, _⟩ := DataW.trod_int Tryd.underlying2 q4
  obtain ⟨t, k5, _, kt⟩ := DataW.trod_string Tryd.underlying9 q5
  obtain ⟨a, j, c, k0⟩ : ∃ a m c, v0 = .slice a m c := by
   rcases open_strings Tryd.underlying45 Tryd.underlying9 (by kernel_rfl) q0 with ⟨hcs, _⟩ | ⟨a, m, c, zs, hcs, _⟩
   · simp only [List.take, List.cons.injEq, and_true] at hcs; exact ⟨_, _, _, hcs⟩
   · simp only [List.take, List.cons.injEq, and_true] at hcs; exact ⟨_, _, _, hcs⟩
  simp only [List.take, List.cons.injEq, and_true] at k1 k2 k3 k4 k5
  subst k0 k1 k2 k3 k4 k5
  obtain ⟨ll, hn, hc, hm, _, hs⟩ := open_strings_cells Tryd.underlying45 Tryd.underlying9 (by kernel_rfl) q0
  exact ⟨⟨⟨ll, k, l, d, m, t⟩, a, j, c⟩, rfl, ⟨hc, hn, fun x hx => maxLen_small (hs x hx), maxLen_small kl⟩, maxLen_small (by rw [show j = ll.length from hn]; exact hm)⟩
set_option maxRecDepth 100000 in
theorem open_opv {v : Value} {b : Nat} {r : Reach} {fuel : Nat} {x : DataW H × List MemPlace} (hok : Value.okWide Tryd.prog w r b 54 v)
 (h : DataW.trod enc Tryd.prog w base (fun _ => true) held fuel 54 v.cells.toList = some x) :
 ∃ q : Opc, v = .agg #[.slice q.a q.n q.c, .int .i64 q.o.k, .string q.o.x, .int .i64 q.o.d, .int .i64 q.o.m, .string q.o.t] ∧ OpAt w q ∧ q.n ≤ 9223372036854775807 := by
 obtain ⟨cs, rfl⟩ : ∃ cs, v = .agg cs := by
  simp only [Value.okWide, Tryd.underlying54] at hok
  obtain ⟨cs, h1, _⟩ := hok
  exact ⟨cs, h1⟩
 obtain ⟨q, e, hq⟩ := open_op h
 obtain ⟨l, rfl⟩ : ∃ l : List Value, cs = l.toArray := ⟨cs.toList, by simp⟩
 simp [Value.cells] at e
 exact ⟨q, by rw [e]; rfl, hq⟩
set_option maxRecDepth 100000 in
theorem open_nums {v : Value} {b : Nat} {r : Reach} {fuel : Nat} {x : DataW H × List MemPlace} (hok : Value.okWide Tryd.prog w r b 56 v)
 (h : DataW.trod enc Tryd.prog w base (fun _ => true) held fuel 56 v.cells.toList = some x) :
 ∃ k d : Int, v = .agg #[.int .i64 k, .int .i64 d] := by
 obtain ⟨cs, rfl⟩ : ∃ cs, v = .agg cs := by
  simp only [Value.okWide, Tryd.underlying56] at hok
  obtain ⟨cs, h1, _⟩ := hok
  exact ⟨cs, h1⟩
 obtain ⟨l, rfl⟩ : ∃ l : List Value, cs = l.toArray := ⟨cs.toList, by simp⟩
 obtain ⟨xs, n, _, _, hlen, hz, hff⟩ := DataW.trod_struct Tryd.underlying56 h
 rw [show Tryd.prog.cellsOf 56 = 2 by kernel_rfl] at hlen
 simp only [Value.cells] at hlen hff
 match l, hlen with
 | [v0, v1], _ =>
  have q0 := hff 0 _ rfl
  have q1 := hff 1 _ rfl
  rw [List.getElem?_eq_getElem (by rw [hz]; decide)] at q0 q1
  change DataW.trod enc _ w base _ held n 44 (List.take (Tryd.prog.cellsOf 44) [v0, v1]) = _ at q0
  change DataW.trod enc _ w base _ held n 52 (List.take (Tryd.prog.cellsOf 52) [v1]) = _ at q1
  rw [show Tryd.prog.cellsOf 44 = 1 by kernel_rfl] at q0
  rw [show Tryd.prog.cellsOf 52 = 1 by kernel_rfl] at q1
  obtain ⟨k, k0, _⟩ := DataW.trod_int Tryd.underlying44 q0
  obtain ⟨d, k1, _⟩ := DataW.trod_int Tryd.underlying52 q1
  simp only [List.take, List.cons.injEq, and_true] at k0 k1
  subst k0 k1
  exact ⟨k, d, rfl⟩
set_option maxRecDepth 100000 in
set_option maxRecDepth 100000 in
end
end Go.Proofs.YtjlliohjeiclaaaDoor
