/- Words, contracts and walks that the proof stands on (OpenC OpenK). -/
import Derived.Deep.DeepHandedRow
import Derived.Deep.DeepWitnessRowRef
import Derived.Deep.Grids
import Derived.Deep.Slices
import Derived.Lib.LaidIn
import Derived.Lib.LaidU8T
import Derived.OpenShut
import Derived.ProofKit
import Derived.Shelf.Vars
import Derived.SliceStrings
import Derived.Test.YtkjchoamdibolaaDoorCards
import Derived.Test.YtkjchoamdibolaaDoorKB1
import Derived.Test.YtkjchoamdibolaaDoorKB3
import Derived.Test.YtkjchoamdibolaaDoorTie
namespace Go.Proofs.YtkjchoamdibolaaDoor
open Go.ChangeShapes Go.WideShapes Go.ChangeAt Go.RowKit Go.Deep
section
variable {H : Type} {enc : TypeId × Value → H} {P : Program} {w : World} {base : Nat} {held : Bool}
theorem spot_none {a : Addr} {v : Value} (h : w.cell? (a.add 0) = some v) : ∃ b off, a = ⟨b, off, none⟩ := by
 obtain ⟨b, off, spot⟩ := a
 have hs : spot = none := by simpa [Addr.add] using World.cell?_spot h
 subst hs
 exact ⟨b, off, rfl⟩
theorem open_strings_cells {t e : TypeId} {fuel : Nat} {a0 : Option Addr} {len cap : Nat} {x : DataW H × List MemPlace} (ht : P.underlying t = some (.slice e)) (he : P.underlying e = some .string)
 (ce : P.cellsOf e = 1) (h : DataW.trod enc P w base (fun _ => true) held fuel t (Value.slice a0 len cap).cells.toList = some x) :
 ∃ l : List ByteArray, len = l.length ∧ CellsAt w a0 (l.map Value.string) ∧ l.length ≤ maxLen ∧ len ≤ cap ∧ ∀ s ∈ l, s.size ≤ maxLen := by
 rcases open_strings ht he ce h with ⟨hcs, _⟩ | ⟨a, l, c, zs, hcs, _, hl, hm, hz, hx, hcell, hwz⟩
 · simp [Value.cells] at hcs
   obtain ⟨rfl, rfl, rfl⟩ := hcs
   exact ⟨[], rfl, CellsAt.nil _ _, Nat.zero_le _, Nat.le_refl _, fun n hn => by simp at hn⟩
 · have hz' : zs.length = c := by simpa using hz
   simp [Value.cells] at hcs
   obtain ⟨rfl, rfl, rfl⟩ := hcs
   refine ⟨zs.take len, by simp; omega, fun i hi => ?_, by simp; omega, hl, fun n hn => hwz n (List.mem_of_mem_take hn)⟩
   have hi' : i < len ∧ i < zs.length := by simp at hi; omega
   obtain ⟨b, off, rfl⟩ := spot_none (hcell 0 (by omega))
   refine ⟨b, off, rfl, ?_⟩
   have h0 := hcell i (by omega)
   rw [Addr_add] at h0
   rw [h0]
   simp [hi'.2]
end
end Go.Proofs.YtkjchoamdibolaaDoor
namespace Go.Proofs.YtkjchoamdibolaaDoor
open Go.ChangeShapes Go.WideShapes Go.ChangeAt Go.RowKit Go.Deep St Ku
section
variable {H : Type} {enc : TypeId × Value → H} {w : World} {base : Nat} {held : Bool}
theorem maxLen_small {n : Nat} (h : n ≤ maxLen) : n ≤ 9223372036854775807 := by unfold maxLen at h; omega
set_option maxRecDepth 100000 in
theorem open_plc {fuel : Nat} {cs : List Value} {x : DataW H × List MemPlace} (h : DataW.trod enc Tryd.prog w base (fun _ => true) held fuel 38 cs = some x) :
 ∃ p : Plc, cs = [.slice p.a p.n p.c, .int .i64 p.k, .string p.x] ∧ PlcAt w p := by
 obtain ⟨xs, n, _, _, hlen, hz, hff⟩ := DataW.trod_struct Tryd.underlying38 h
 rw [show Tryd.prog.cellsOf 38 = 3 by kernel_rfl] at hlen
 match cs, hlen with
 | [v0, v1, v2], _ =>
  have q0 := hff 0 _ rfl
  have q1 := hff 1 _ rfl
  have q2 := hff 2 _ rfl
  rw [List.getElem?_eq_getElem (by rw [hz]; decide)] at q0 q1 q2
  change DataW.trod enc _ w base _ held n 22 (List.take (Tryd.prog.cellsOf 22) [v0, v1, v2]) = _ at q0
  change DataW.trod enc _ w base _ held n 36 (List.take (Tryd.prog.cellsOf 36) [v1, v2]) = _ at q1
  change DataW.trod enc _ w base _ held n 9 (List.take (Tryd.prog.cellsOf 9) [v2]) = _ at q2
  rw [show Tryd.prog.cellsOf 22 = 1 by kernel_rfl] at q0
  rw [show Tryd.prog.cellsOf 36 = 1 by kernel_rfl] at q1
  rw [show Tryd.prog.cellsOf 9 = 1 by kernel_rfl] at q2
  obtain ⟨k, k1, _⟩ := DataW.trod_int Tryd.underlying36 q1
  obtain ⟨l, k2, _, kl⟩ := DataW.trod_string Tryd.underlying9 q2
  obtain ⟨a, m, c, k0⟩ : ∃ a m c, v0 = .slice a m c := by
   rcases open_strings Tryd.underlying22 Tryd.underlying9 (by kernel_rfl) q0 with ⟨hcs, _⟩ | ⟨a, m, c, zs, hcs, _⟩
   · simp only [List.take, List.cons.injEq, and_true] at hcs; exact ⟨_, _, _, hcs⟩
   · simp only [List.take, List.cons.injEq, and_true] at hcs; exact ⟨_, _, _, hcs⟩
  simp only [List.take, List.cons.injEq, and_true] at k1 k2
  subst k0 k1 k2
  obtain ⟨ll, hn, hc, hm, _, hs⟩ := open_strings_cells Tryd.underlying22 Tryd.underlying9 (by kernel_rfl) q0
  exact ⟨⟨ll, k, l, a, m, c⟩, rfl, hc, hn, by rw [show (⟨ll, k, l, a, m, c⟩ : Plc).n = ll.length from hn]; exact maxLen_small hm, fun x hx => maxLen_small (hs x hx), maxLen_small kl⟩
theorem arr_elem {P : Program} {fuel : Nat} {t e : TypeId} {n : Nat} {cs : List Value} {x : DataW H × List MemPlace} {sp : Nat → Bool} (ht : P.underlying t = some (.array n e))
 (h : DataW.trod enc P w base sp held fuel t cs = some x) (i : Nat) (hi : i < n) :
 ∃ fuel' y, DataW.trod enc P w base sp held fuel' e ((cs.drop (i * P.cellsOf e)).take (P.cellsOf e)) = some y := by
 cases fuel with
 | zero => simp [DataW.trod] at h
 | succ fuel =>
  simp only [DataW.trod, ht] at h
  split at h
  · obtain ⟨xs, hm, hx⟩ := Option.map_eq_some_iff.1 h
    obtain ⟨b, hb, hf⟩ := Lib.mapM_at hm i i (by simp [hi])
    exact ⟨fuel, b, hf⟩
  · cases h
theorem open_three {v : Value} {b : Nat} {r : Reach} {fuel : Nat} {x : DataW H × List MemPlace} (hok : Value.okWide Tryd.prog w r b 39 v)
 (h : DataW.trod enc Tryd.prog w base (fun _ => true) held fuel 39 v.cells.toList = some x) :
 ∃ p q r : Plc, v = .agg #[.slice p.a p.n p.c, .int .i64 p.k, .string p.x, .slice q.a q.n q.c, .int .i64 q.k, .string q.x, .slice r.a r.n r.c, .int .i64 r.k, .string r.x] ∧ PlcAt w p ∧ PlcAt w q ∧ PlcAt w r := by
 obtain ⟨cs, rfl, hsz⟩ : ∃ cs, v = .agg cs ∧ cs.size = 9 := by
  simp only [Value.okWide, Tryd.underlying39] at hok
  obtain ⟨cs, h1, h2, _⟩ := hok
  exact ⟨cs, h1, by rw [h2]; kernel_rfl⟩
 obtain ⟨l, rfl⟩ : ∃ l : List Value, cs = l.toArray := ⟨cs.toList, by simp⟩
 have hl : l.length = 9 := by simpa using hsz
 match l, hl with
 | [x0, x1, x2, x3, x4, x5, x6, x7, x8], _ =>
  have ce : Tryd.prog.cellsOf 38 = 3 := by kernel_rfl
  obtain ⟨f0, y0, h0⟩ := arr_elem Tryd.underlying39 h 0 (by decide)
  obtain ⟨f1, y1, h1⟩ := arr_elem Tryd.underlying39 h 1 (by decide)
  obtain ⟨f2, y2, h2⟩ := arr_elem Tryd.underlying39 h 2 (by decide)
  rw [ce] at h0 h1 h2
  obtain ⟨p, e0, hp⟩ := open_plc h0
  obtain ⟨q, e1, hq⟩ := open_plc h1
  obtain ⟨r, e2, hr⟩ := open_plc h2
  simp [Value.cells] at e0 e1 e2
  obtain ⟨rfl, rfl, rfl⟩ := e0
  obtain ⟨rfl, rfl, rfl⟩ := e1
  obtain ⟨rfl, rfl, rfl⟩ := e2
  exact ⟨p, q, r, rfl, hp, hq, hr⟩
end
theorem laid_eq1 : (Rows.laid_unicode_utf8_acceptRanges : DataW Unit) = Lib.acceptData := by kernel_rfl
theorem laid_eq2 : Rows.laid_unicode_utf8_first = Lib.firstData := by kernel_rfl
theorem glob_of {W : World} (hL : laidMetH Tryd.prog [("unicode/utf8.acceptRanges", Rows.laid_unicode_utf8_acceptRanges), ("unicode/utf8.first", Rows.laid_unicode_utf8_first)] W) (hS : W.ShapedOpen Tryd.prog) : Glob W := by
 refine ⟨utf8Tabs_of_readsT (U8Types.of196 lay196) ⟨by kernel_rfl, by kernel_rfl, by kernel_rfl, by kernel_rfl, by kernel_rfl, by kernel_rfl, by kernel_rfl⟩ ?_ ?_, ?_⟩
 · rw [← laid_eq2]; exact Lib.laidMet.reads hL (.tail _ (.head _))
 · rw [← laid_eq1]; exact Lib.laidMet.reads hL (.head _)
 · exact cell_of_shapedOpen_int (P := Tryd.prog) (g := 2) (t := 3) (zero := #[.int .i64 0]) hS (of_decide_eq_true (by kernel_rfl)) (by kernel_rfl) rfl (by kernel_rfl) (by kernel_rfl) Tryd.underlying3
noncomputable def laidWorld (os : Os) : World :=
 let w0 := World.holding Tryd.prog os ⟨#[], #[], []⟩
 let put (h : Array Obj) (g : Nat) (cs : Array Value) : Array Obj := h.modify g fun
  | .cells _ t frozen => .cells cs t frozen
  | o => o
 let h1 := put w0.heap 0 (Lib.firstTab.map fun z => Value.int .u8 z).toArray
 let h2 := put h1 1 ((List.range 16).flatMap fun i => [Value.int .u8 (Lib.accLo i), Value.int .u8 (Lib.accHi i)]).toArray
 { w0 with heap := h2 }
theorem laid_met (os : Os) (args : Array Value) : laidMet Tryd.prog [("unicode/utf8.acceptRanges", Rows.laid_unicode_utf8_acceptRanges), ("unicode/utf8.first", Rows.laid_unicode_utf8_first)] ((laidWorld os).forCall (fun _ _ => 0) ⟨#[], args, []⟩).memory :=
 (LaidIn.of_run (l := [("unicode/utf8.acceptRanges", Rows.laid_unicode_utf8_acceptRanges), ("unicode/utf8.first", Rows.laid_unicode_utf8_first)]) [1, 0] 8 (by kernel_rfl) (by kernel_rfl) (by kernel_rfl) (by kernel_rfl)).met
end Go.Proofs.YtkjchoamdibolaaDoor
