
/- Walks of law 08: few, maps. -/
import Derived.Test.YtdodkhhlbjamhaaWlB
import Derived.Test.YtdodkhhlbjamhaaTail2
import Derived.Deep.DeepCutAuto
import Derived.Deep.CutBlock
namespace Go.Proofs.Ytdodkhhlbjamhaa
open Go.RowKit Pm
/-- The law's argument. -/
structure Thr where
  base : List ByteArray
  pA : List ByteArray
  pB : List ByteArray
  tA : List Int
  tB : List Int
  o1 : Option Addr
  o2 : Option Addr
  o3 : Option Addr
  o4 : Option Addr
  o5 : Option Addr
  c1 : Nat
  c2 : Nat
  c3 : Nat
  c4 : Nat
  c5 : Nat
  oth : Bool
  same : Bool
  non : Bool
def Thr.vs (x : Thr) : Array Value := #[.slice x.o1 x.base.length x.c1, .slice x.o2 x.pA.length x.c2, .slice x.o3 x.pB.length x.c3, .slice x.o4 x.tA.length x.c4, .slice x.o5 x.tB.length x.c5, .bool x.oth, .bool x.same, .bool x.non]
structure Thr.At (w : World) (x : Thr) : Prop where
  h1 : CellsAt w x.o1 (strV x.base)
  h2 : CellsAt w x.o2 (strV x.pA)
  h3 : CellsAt w x.o3 (strV x.pB)
  h4 : CellsAt w x.o4 (intV x.tA)
  h5 : CellsAt w x.o5 (intV x.tB)
theorem Thr.At.below {w w' : World} {x : Thr} (h : x.At w) (hb : Below w.heap.size w w') : x.At w' :=
  ⟨h.h1.below hb rfl, h.h2.below hb rfl, h.h3.below hb rfl, h.h4.below hb rfl, h.h5.below hb rfl⟩
def Thr.few (x : Thr) : Bool := decide (x.base.length ≤ 40) && decide (x.pA.length ≤ 40) && decide (x.pB.length ≤ 40) && decide (x.tA.length ≤ 40) && decide (x.tB.length ≤ 40)
theorem row8 {w : World} {b : Nat} {T : TypeId} {a0 a1 a2 a3 a4 a5 a6 a7 : Value} (h : w.heap[b]? = some (.cells #[a0, a1, a2, a3, a4, a5, a6, a7] T (0, 0))) :
    w.cell? ⟨b, 0, none⟩ = some a0 ∧ w.cell? ⟨b, 1, none⟩ = some a1 ∧ w.cell? ⟨b, 2, none⟩ = some a2 ∧ w.cell? ⟨b, 3, none⟩ = some a3 ∧ w.cell? ⟨b, 4, none⟩ = some a4 ∧ w.cell? ⟨b, 5, none⟩ = some a5 ∧ w.cell? ⟨b, 6, none⟩ = some a6 ∧ w.cell? ⟨b, 7, none⟩ = some a7 :=
  ⟨cell_of_row _ _ 0 _ _ _ h, cell_of_row _ _ 1 _ _ _ h, cell_of_row _ _ 2 _ _ _ h, cell_of_row _ _ 3 _ _ _ h, cell_of_row _ _ 4 _ _ _ h, cell_of_row _ _ 5 _ _ _ h, cell_of_row _ _ 6 _ _ _ h, cell_of_row _ _ 7 _ _ _ h⟩
set_option maxRecDepth 100000 in
set_option maxHeartbeats 2000000 in
theorem wl_few (x : Thr) (w : World) : Calls Try.prog 7 #[.agg x.vs] w fun e w' => e = .returned (.bool x.few) ∧ Below w.heap.size w w' := by
  unfold Thr.few Thr.vs
  obtain ⟨n1, hn1⟩ : ∃ n, x.base.length = n := ⟨_, rfl⟩
  obtain ⟨n2, hn2⟩ : ∃ n, x.pA.length = n := ⟨_, rfl⟩
  obtain ⟨n3, hn3⟩ : ∃ n, x.pB.length = n := ⟨_, rfl⟩
  obtain ⟨n4, hn4⟩ : ∃ n, x.tA.length = n := ⟨_, rfl⟩
  obtain ⟨n5, hn5⟩ : ∃ n, x.tB.length = n := ⟨_, rfl⟩
  rw [hn1, hn2, hn3, hn4, hn5]
  clear hn1 hn2 hn3 hn4 hn5
  generalize x.o1 = o1
  generalize x.o2 = o2
  generalize x.o3 = o3
  generalize x.o4 = o4
  generalize x.o5 = o5
  generalize x.c1 = c1
  generalize x.c2 = c2
  generalize x.c3 = c3
  generalize x.c4 = c4
  generalize x.c5 = c5
  generalize x.oth = f1
  generalize x.same = f2
  generalize x.non = f3
  clear x
  have hb := below_new w (.cells #[.slice o1 n1 c1, .slice o2 n2 c2, .slice o3 n3 c3, .slice o4 n4 c4, .slice o5 n5 c5, .bool f1, .bool f2, .bool f3] 25)
  have HB := Lib.hid hb
  clear hb
  by_cases h1 : n1 ≤ 40
  case' neg => have i1 : ¬ (n1 : Int) ≤ 40 := by omega
  case' pos =>
    have i1 : (n1 : Int) ≤ 40 := by omega
    by_cases h2 : n2 ≤ 40
    case' neg => have i2 : ¬ (n2 : Int) ≤ 40 := by omega
    case' pos =>
      have i2 : (n2 : Int) ≤ 40 := by omega
      by_cases h3 : n3 ≤ 40
      case' neg => have i3 : ¬ (n3 : Int) ≤ 40 := by omega
      case' pos =>
        have i3 : (n3 : Int) ≤ 40 := by omega
        by_cases h4 : n4 ≤ 40
        case' neg => have i4 : ¬ (n4 : Int) ≤ 40 := by omega
        case' pos =>
          have i4 : (n4 : Int) ≤ 40 := by omega
          by_cases h5 : n5 ≤ 40
          case' neg => have i5 : ¬ (n5 : Int) ≤ 40 := by omega
          case' pos => have i5 : (n5 : Int) ≤ 40 := by omega
  all_goals
    go_enter Try.func7, Try.ntmps7
    go_wp2_with fail
    go_ret
    exact ⟨by simp [*], HB.out⟩
end Go.Proofs.Ytdodkhhlbjamhaa

