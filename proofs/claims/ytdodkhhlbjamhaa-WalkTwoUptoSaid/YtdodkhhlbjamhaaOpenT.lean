
/- The argument of law 08, opened. -/
import Derived.Test.YtdodkhhlbjamhaaWlC
import Derived.Test.YtdodkhhlbjamhaaOpenC
import Derived.Lib.SmallJoins
namespace Go.Proofs.Ytdodkhhlbjamhaa
open Go.ChangeShapes Go.WideShapes Go.ChangeAt Go.RowKit Go.Deep Go.Joins
theorem array8 {α : Type} {cs : Array α} (h : cs.size = 8) : ∃ c0 c1 c2 c3 c4 c5 c6 c7, cs = #[c0, c1, c2, c3, c4, c5, c6, c7] := by
  obtain ⟨l⟩ := cs
  match l, h with
  | [c0, c1, c2, c3, c4, c5, c6, c7], _ => exact ⟨c0, c1, c2, c3, c4, c5, c6, c7, rfl⟩
section
variable {H : Type} {enc : TypeId × Value → H} {w : World} {base : Nat} {held : Bool}
theorem open_agg8 {P : Program} {r : Reach} {b0 : Nat} {t : TypeId} {f0 f1 f2 f3 f4 f5 f6 f7 : Field} {spare : Nat → Bool} {v : Value} {d : DataW H} {p : List MemPlace} (hs : P.underlying t = some (.struct #[f0, f1, f2, f3, f4, f5, f6, f7])) (hone : oneCellFields P #[f0, f1, f2, f3, f4, f5, f6, f7] = true) (hC : P.cellsOf t = 8)
    (hv : Value.okWide P w r b0 t v) (h : DataW.Trod enc P w base spare held t v d p) :
    ∃ (c0 c1 c2 c3 c4 c5 c6 c7 : Value) (n : Nat), v = .agg #[c0, c1, c2, c3, c4, c5, c6, c7] ∧
      (∃ y, DataW.trod enc P w base spare held n f0.type [c0] = some y) ∧ (∃ y, DataW.trod enc P w base spare held n f1.type [c1] = some y) ∧ (∃ y, DataW.trod enc P w base spare held n f2.type [c2] = some y) ∧ (∃ y, DataW.trod enc P w base spare held n f3.type [c3] = some y) ∧
      (∃ y, DataW.trod enc P w base spare held n f4.type [c4] = some y) ∧ (∃ y, DataW.trod enc P w base spare held n f5.type [c5] = some y) ∧ (∃ y, DataW.trod enc P w base spare held n f6.type [c6] = some y) ∧ (∃ y, DataW.trod enc P w base spare held n f7.type [c7] = some y) := by
  obtain ⟨cs, rfl, hsz⟩ := okWide_struct hs hv
  obtain ⟨c0, c1, c2, c3, c4, c5, c6, c7, rfl⟩ := array8 (hsz.trans hC)
  obtain ⟨fuel, hf⟩ := h
  obtain ⟨xs, n, _, _, hl, hlen, hff⟩ := DataW.trod_struct hs hf
  have hx : xs.length = 8 := by simpa using hlen
  have one : ∀ (i : Nat) (f : Field) (c : Value), (#[f0, f1, f2, f3, f4, f5, f6, f7] : Array Field)[i]? = some f → [c0, c1, c2, c3, c4, c5, c6, c7][i]? = some c → ∃ y, DataW.trod enc P w base spare held n f.type [c] = some y := by
    intro i f c hi hc
    have hq := hff i f hi
    obtain ⟨o0, k0⟩ := hone_of hone i f hi
    rw [o0, k0] at hq
    have e : (((Value.agg #[c0, c1, c2, c3, c4, c5, c6, c7]).cells.toList.drop i).take 1) = [c] := by
      obtain ⟨h1, h2⟩ := List.getElem?_eq_some_iff.1 hc
      simp only [Value.cells]
      rw [List.drop_eq_getElem_cons h1]
      simp [h2]
    rw [e] at hq
    have hil : i < xs.length := by rw [hx]; have := (Array.getElem?_eq_some_iff.1 hi).1; simpa using this
    rw [List.getElem?_eq_getElem hil] at hq
    exact ⟨_, hq⟩
  exact ⟨c0, c1, c2, c3, c4, c5, c6, c7, n, rfl, one 0 f0 c0 rfl rfl, one 1 f1 c1 rfl rfl, one 2 f2 c2 rfl rfl, one 3 f3 c3 rfl rfl, one 4 f4 c4 rfl rfl, one 5 f5 c5 rfl rfl, one 6 f6 c6 rfl rfl, one 7 f7 c7 rfl rfl⟩
theorem open_strings_cs {P : Program} {t e : TypeId} {fuel : Nat} {c : Value} {x : DataW H × List MemPlace} (ht : P.underlying t = some (.slice e)) (he : P.underlying e = some .string)
    (ce : P.cellsOf e = 1) (h : DataW.trod enc P w base (fun _ => true) held fuel t [c] = some x) : ∃ (a0 : Option Addr) (cap : Nat) (l : List ByteArray), c = .slice a0 l.length cap ∧ CellsAt w a0 (l.map Value.string) := by
  obtain ⟨a, len, cap, hcs⟩ := slice_form ht h
  obtain rfl := List.singleton_inj.1 hcs
  obtain ⟨l, rfl, hl, _⟩ := open_strings_cells ht he ce (by simpa [Value.cells] using h)
  exact ⟨a, cap, l, rfl, hl⟩
theorem open_ints_cs {P : Program} {t e : TypeId} {k : IntKind} {fuel : Nat} {c : Value} {x : DataW H × List MemPlace} (ht : P.underlying t = some (.slice e)) (he : P.underlying e = some (.int k))
    (ce : P.cellsOf e = 1) (h : DataW.trod enc P w base (fun _ => true) held fuel t [c] = some x) : ∃ (a0 : Option Addr) (cap : Nat) (l : List Int), c = .slice a0 l.length cap ∧ CellsAt w a0 (l.map (Value.int k)) := by
  obtain ⟨a, len, cap, hcs⟩ := slice_form ht h
  obtain rfl := List.singleton_inj.1 hcs
  obtain ⟨l, rfl, hl, _⟩ := open_ints_cells ht he ce (by simpa [Value.cells] using h)
  exact ⟨a, cap, l, rfl, hl⟩
theorem open_thr {r : Reach} {b0 : Nat} {v : Value} {d : DataW H} {p : List MemPlace} (hv : Value.okWide Try.prog w r b0 25 v) (h : DataW.Trod enc Try.prog w base (fun _ => true) held 25 v d p) : ∃ x : Thr, v = .agg x.vs ∧ x.At w := by
  obtain ⟨c0, c1, c2, c3, c4, c5, c6, c7, n, rfl, ⟨_, g0⟩, ⟨_, g1⟩, ⟨_, g2⟩, ⟨_, g3⟩, ⟨_, g4⟩, ⟨_, g5⟩, ⟨_, g6⟩, ⟨_, g7⟩⟩ := open_agg8 Try.underlying25 (by kernel_rfl) (by kernel_rfl) hv h
  obtain ⟨o1, k1, l1, rfl, h1⟩ := open_strings_cs Try.underlying22 Try.underlying9 (by kernel_rfl) g0
  obtain ⟨o2, k2, l2, rfl, h2⟩ := open_strings_cs Try.underlying22 Try.underlying9 (by kernel_rfl) g1
  obtain ⟨o3, k3, l3, rfl, h3⟩ := open_strings_cs Try.underlying22 Try.underlying9 (by kernel_rfl) g2
  obtain ⟨o4, k4, l4, rfl, h4⟩ := open_ints_cs Try.underlying23 Try.underlying3 (by kernel_rfl) g3
  obtain ⟨o5, k5, l5, rfl, h5⟩ := open_ints_cs Try.underlying23 Try.underlying3 (by kernel_rfl) g4
  obtain ⟨b1, e1, _⟩ := DataW.trod_bool Try.underlying4 g5
  obtain ⟨b2, e2, _⟩ := DataW.trod_bool Try.underlying4 g6
  obtain ⟨b3, e3, _⟩ := DataW.trod_bool Try.underlying4 g7
  obtain rfl := List.singleton_inj.1 e1
  obtain rfl := List.singleton_inj.1 e2
  obtain rfl := List.singleton_inj.1 e3
  exact ⟨⟨l1, l2, l3, l4, l5, o1, o2, o3, o4, o5, k1, k2, k3, k4, k5, b1, b2, b3⟩, rfl, ⟨h1, h2, h3, h4, h5⟩⟩
end
end Go.Proofs.Ytdodkhhlbjamhaa
