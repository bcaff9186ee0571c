/-
  No cell of these rows narrows 'for every input' (looked for: loops, veiled, ifaces, maps, wideKeys, modest, calm, conditions, laid).
  DERIVED. THE GIVEN ROWS OF THIS SEAT. 4 by the template 'for every input the law returns true; each argument reads behind the call as it read before'; 0 by the template 'total and deterministic' (their statements: YtikdlhbamdefaaaTotals.lean).
  GIVEN WITH THE SEED: the statements are not yours to turn. If you find one false, say at which input.
  Laid BY PROGRAM, IN A SANDBOX (cutbox-rows.mjs): the forced cells as the released guide's own fill.sh prints them over the translation 05049c49288b91de… (all of the seat's roots in one cut). By AI agents, Wed Nov 11 2026. No macro, syntax, notation, axiom, sorry.
-/
import Derived.Test.YtikdlhbamdefaaaChecked
import GoSem.Claim
import GoSem.ClaimJoined
import GoSem.ClaimMapViews
import Derived.JoinedTies
import Derived.KernelRfl
namespace Go.Proofs.Ytikdlhbamdefaaa
/- THE CELL 'sum', in the pinned program and in every row, IS THE sha256 OF THE DUMP (.gsa) THAT YtikdlhbamdefaaaProg.lean LOADS. Nothing in Lean hashes anything: it is a label: what it is worth is what the hold of that sum in a sandbox is worth. -/
noncomputable def Try.pinned : Pinned := { name := "ytikdlhbamdefaaa", sum := "05049c49288b91de7726e504f15934848a6c20cc899cdc7e6f01c16d85bf78fb", checked := Try.checked }
namespace Rows
def none {H : Type} : Left H := { results := [], args := [] }

/-- 'estuarylaw07.MapLow': WHATEVER THE INPUT: true; the input reads as it did. -/
def mapLowSpec : ChangeSpec := { name := "mapLow", fn := fun _ => fun
  | [d1, d2] => { results := [.lit (.bool true)], args := [d1, d2] }
  | _ => none }
def mapLowRow : OpenClaim := { program := "ytikdlhbamdefaaa", sum := "05049c49288b91de7726e504f15934848a6c20cc899cdc7e6f01c16d85bf78fb", func := "estuary/estuarylaw07.MapLow", spec := "mapLow", unfollowed := true, recurses := true, apart := false }
def MapLowSaid : Prop := mapLowRow.holds Try.pinned (OpenSpec.ofChange mapLowSpec)

/-- ITS FALSE NEIGHBOUR: 'it returns false'. Refute it at one input. -/
def mapLowWrong : ChangeSpec := { name := "mapLow", fn := fun _ => fun
  | [d1, d2] => { results := [.lit (.bool false)], args := [d1, d2] }
  | _ => none }
def MapLowWrongFalsely : Prop := mapLowRow.holds Try.pinned (OpenSpec.ofChange mapLowWrong)

/-- 'estuarylaw07.MapMakes': WHATEVER THE INPUT: true; the input reads as it did. -/
def mapMakesSpec : ChangeSpec := { name := "mapMakes", fn := fun _ => fun
  | [d1, d2, d3, d4] => { results := [.lit (.bool true)], args := [d1, d2, d3, d4] }
  | _ => none }
def mapMakesRow : OpenClaim := { program := "ytikdlhbamdefaaa", sum := "05049c49288b91de7726e504f15934848a6c20cc899cdc7e6f01c16d85bf78fb", func := "estuary/estuarylaw07.MapMakes", spec := "mapMakes", unfollowed := true, recurses := true, apart := false }
def MapMakesSaid : Prop := mapMakesRow.holds Try.pinned (OpenSpec.ofChange mapMakesSpec)

/-- ITS FALSE NEIGHBOUR: 'it returns false'. Refute it at one input. -/
def mapMakesWrong : ChangeSpec := { name := "mapMakes", fn := fun _ => fun
  | [d1, d2, d3, d4] => { results := [.lit (.bool false)], args := [d1, d2, d3, d4] }
  | _ => none }
def MapMakesWrongFalsely : Prop := mapMakesRow.holds Try.pinned (OpenSpec.ofChange mapMakesWrong)

/-- 'estuarylaw07.MapPlays': WHATEVER THE INPUT: true; the input reads as it did. -/
def mapPlaysSpec : ChangeSpec := { name := "mapPlays", fn := fun _ => fun
  | [d1, d2, d3] => { results := [.lit (.bool true)], args := [d1, d2, d3] }
  | _ => none }
def mapPlaysRow : OpenClaim := { program := "ytikdlhbamdefaaa", sum := "05049c49288b91de7726e504f15934848a6c20cc899cdc7e6f01c16d85bf78fb", func := "estuary/estuarylaw07.MapPlays", spec := "mapPlays", unfollowed := true, recurses := true, apart := false }
def MapPlaysSaid : Prop := mapPlaysRow.holds Try.pinned (OpenSpec.ofChange mapPlaysSpec)

/-- ITS FALSE NEIGHBOUR: 'it returns false'. Refute it at one input. -/
def mapPlaysWrong : ChangeSpec := { name := "mapPlays", fn := fun _ => fun
  | [d1, d2, d3] => { results := [.lit (.bool false)], args := [d1, d2, d3] }
  | _ => none }
def MapPlaysWrongFalsely : Prop := mapPlaysRow.holds Try.pinned (OpenSpec.ofChange mapPlaysWrong)

/-- 'estuarylaw07.MapNil': WHATEVER THE INPUT: true; the input reads as it did. -/
def mapNilSpec : ChangeSpec := { name := "mapNil", fn := fun _ => fun
  | [] => { results := [.lit (.bool true)], args := [] }
  | _ => none }
def mapNilRow : OpenClaim := { program := "ytikdlhbamdefaaa", sum := "05049c49288b91de7726e504f15934848a6c20cc899cdc7e6f01c16d85bf78fb", func := "estuary/estuarylaw07.MapNil", spec := "mapNil", unfollowed := true, recurses := true, apart := false }
def MapNilSaid : Prop := mapNilRow.holds Try.pinned (OpenSpec.ofChange mapNilSpec)

/-- ITS FALSE NEIGHBOUR: 'it returns false'. Refute it at one input. -/
def mapNilWrong : ChangeSpec := { name := "mapNil", fn := fun _ => fun
  | [] => { results := [.lit (.bool false)], args := [] }
  | _ => none }
def MapNilWrongFalsely : Prop := mapNilRow.holds Try.pinned (OpenSpec.ofChange mapNilWrong)

/- THE SECOND FORM. 'bulk': how many values and letters a reading holds, each counted each time it is reached (what is shared counts as often as it is met; a slice's spare places count too). A statement '..UptoSaid' is the law's where the arguments, and the package variables that the reading takes, are together of bulk at most 1048576: NARROWER than '..Said'. Prove '..Said' where nothing that the law and all that it calls make is longer than what came in: it says more and counts as full. Else prove '..UptoSaid'. A law counts once. -/
mutual
def uptoBulk {H : Type} : DataW H → Nat
  | .lit (.string bytes) => bytes.length + 1
  | .lit _ => 1
  | .nil => 1
  | .ptr d => uptoBulk d + 1
  | .slice elems spare => uptoBulkAll elems + uptoBulkAll spare + 1
  | .agg parts => uptoBulkAll parts + 1
  | .iface _ d => uptoBulk d + 1
  | .map entries => uptoBulkEntries entries + 1
  | .held _ => 1
def uptoBulkAll {H : Type} : List (DataW H) → Nat
  | [] => 0
  | d :: r => uptoBulk d + uptoBulkAll r
def uptoBulkEntries {H : Type} : List (Lit × DataW H) → Nat
  | [] => 0
  | x :: r => uptoBulkEntry x + uptoBulkEntries r
def uptoBulkEntry {H : Type} : Lit × DataW H → Nat
  | (.string bytes, d) => bytes.length + uptoBulk d + 1
  | (_, d) => uptoBulk d + 1
 end
def uptoSmall : (H : Type) → List (DataW H) → Bool := fun _ ds => decide (uptoBulkAll ds ≤ 1048576)
def OpenSpec.upto (s : _root_.Go.ChangeSpec) : _root_.Go.OpenSpec := { _root_.Go.OpenSpec.ofChange s with cond := some uptoSmall }

/-- 'estuarylaw07.MapLow', WHERE WHAT IT READS IS OF BULK AT MOST 1048576: true; the input reads as it did. -/
def mapLowUptoRow : OpenClaim := { program := "ytikdlhbamdefaaa", sum := "05049c49288b91de7726e504f15934848a6c20cc899cdc7e6f01c16d85bf78fb", func := "estuary/estuarylaw07.MapLow", spec := "mapLow", unfollowed := true, recurses := true, apart := false, narrowed := true }
def MapLowUptoSaid : Prop := mapLowUptoRow.holds Try.pinned (OpenSpec.upto mapLowSpec)

/-- 'estuarylaw07.MapMakes', WHERE WHAT IT READS IS OF BULK AT MOST 1048576: true; the input reads as it did. -/
def mapMakesUptoRow : OpenClaim := { program := "ytikdlhbamdefaaa", sum := "05049c49288b91de7726e504f15934848a6c20cc899cdc7e6f01c16d85bf78fb", func := "estuary/estuarylaw07.MapMakes", spec := "mapMakes", unfollowed := true, recurses := true, apart := false, narrowed := true }
def MapMakesUptoSaid : Prop := mapMakesUptoRow.holds Try.pinned (OpenSpec.upto mapMakesSpec)

/-- 'estuarylaw07.MapPlays', WHERE WHAT IT READS IS OF BULK AT MOST 1048576: true; the input reads as it did. -/
def mapPlaysUptoRow : OpenClaim := { program := "ytikdlhbamdefaaa", sum := "05049c49288b91de7726e504f15934848a6c20cc899cdc7e6f01c16d85bf78fb", func := "estuary/estuarylaw07.MapPlays", spec := "mapPlays", unfollowed := true, recurses := true, apart := false, narrowed := true }
def MapPlaysUptoSaid : Prop := mapPlaysUptoRow.holds Try.pinned (OpenSpec.upto mapPlaysSpec)

/-- 'estuarylaw07.MapNil', WHERE WHAT IT READS IS OF BULK AT MOST 1048576: true; the input reads as it did. -/
def mapNilUptoRow : OpenClaim := { program := "ytikdlhbamdefaaa", sum := "05049c49288b91de7726e504f15934848a6c20cc899cdc7e6f01c16d85bf78fb", func := "estuary/estuarylaw07.MapNil", spec := "mapNil", unfollowed := true, recurses := true, apart := false, narrowed := true }
def MapNilUptoSaid : Prop := mapNilUptoRow.holds Try.pinned (OpenSpec.upto mapNilSpec)

end Rows
end Go.Proofs.Ytikdlhbamdefaaa
