/-
  NARROWER THAN 'FOR EVERY INPUT', by the rows' own cells (each row's printed sentence says how): TagsetSteps: laid · TagsetMaps: laid · TagsetThree: laid · KindsApplies: laid · KindsThree: laid.
  DERIVED. THE GIVEN ROWS OF THIS SEAT. 5 by the template 'for every input the law returns true; each argument reads behind the call as it read before'; 0 by the template 'total and deterministic' (their statements: YtjlliohjeiclaaaGreatDoorTotals.lean).
  GIVEN WITH THE SEED: the statements are not yours to turn. If you find one false, say at which input.
  Laid BY PROGRAM, IN A SANDBOX (cutbox-rows.mjs): the forced cells as the released guide's own fill.sh prints them over the translation 946110cf177a0629… (all of the seat's roots in one cut). By AI agents, Wed Nov 11 2026. No macro, syntax, notation, axiom, sorry.
-/
import Derived.Test.YtjlliohjeiclaaaGreatDoorChecked
import GoSem.PinnedTables
import GoSem.Claim
import GoSem.ClaimJoined
import GoSem.ClaimMapViews
import Derived.JoinedTies
import Derived.KernelRfl
namespace Go.Proofs.YtjlliohjeiclaaaGreatDoor
/- THE CELL 'sum', in the pinned program and in every row, IS THE sha256 OF THE DUMP (.gsa) THAT YtjlliohjeiclaaaGreatDoorProg.lean LOADS. Nothing in Lean hashes anything: it is a label: what it is worth is what the hold of that sum in a sandbox is worth. -/
noncomputable def Tryz.pinned : Pinned := { name := "ytjlliohjeiclaaagreatdoor", sum := "946110cf177a0629ea69c433aa1202de0ff4f970d3e3544ded4c0cc3e5b1719e", checked := Tryz.checked }
namespace Rows
def none {H : Type} : Left H := { results := [], args := [] }

/- WHAT THE LISTED PACKAGE-LEVEL VARIABLES READ AS WHEN THE CALL BEGINS. Each datum BY PROGRAM (the guide's laid-datum.mjs) off the statement by which the dump's own 'gosem.cut.vars' lays the variable. In a bare row this is a premise. The card (YtjlliohjeiclaaaGreatDoorCards.lean) ties it to the program's text. -/
def laid_unicode_utf8_acceptRanges {H : Type} : DataW H := .agg [.agg [.lit (.int .u8 128), .lit (.int .u8 191)], .agg [.lit (.int .u8 160), .lit (.int .u8 191)], .agg [.lit (.int .u8 128), .lit (.int .u8 159)], .agg [.lit (.int .u8 144), .lit (.int .u8 191)], .agg [.lit (.int .u8 128), .lit (.int .u8 143)], .agg [.lit (.int .u8 0), .lit (.int .u8 0)], .agg [.lit (.int .u8 0), .lit (.int .u8 0)], .agg [.lit (.int .u8 0), .lit (.int .u8 0)], .agg [.lit (.int .u8 0), .lit (.int .u8 0)], .agg [.lit (.int .u8 0), .lit (.int .u8 0)], .agg [.lit (.int .u8 0), .lit (.int .u8 0)], .agg [.lit (.int .u8 0), .lit (.int .u8 0)], .agg [.lit (.int .u8 0), .lit (.int .u8 0)], .agg [.lit (.int .u8 0), .lit (.int .u8 0)], .agg [.lit (.int .u8 0), .lit (.int .u8 0)], .agg [.lit (.int .u8 0), .lit (.int .u8 0)]]
/-- One of Go's own tables, pinned by name: the form's constant. -/
def laid_unicode_utf8_first : DataW Unit := Go.Pinned.utf8First

/-- 'estuarylaw11.TagsetSteps': WHATEVER THE INPUT: true; the input reads as it did. -/
def tagsetStepsSpec : ChangeSpec := { name := "tagsetSteps", fn := fun _ => fun
  | [d1, d2] => { results := [.lit (.bool true)], args := [d1, d2] }
  | _ => none }
def tagsetStepsRow : OpenClaim := { program := "ytjlliohjeiclaaagreatdoor", sum := "946110cf177a0629ea69c433aa1202de0ff4f970d3e3544ded4c0cc3e5b1719e", func := "estuary/estuarylaw11.TagsetSteps", spec := "tagsetSteps", inPlace := ["internal/bytealg.CountString", "internal/bytealg.IndexByteString", "internal/bytealg.IndexString", "internal/abi.NoEscape", "internal/bytealg.MakeNoZero", "internal/bytealg.abigen_runtime_cmpstring"], unfollowed := true, recurses := true, named := ["internal/bytealg.MaxLen", "unicode/utf8.first", "unicode/utf8.acceptRanges"], plainKeys := false, apart := false, laid := [("unicode/utf8.acceptRanges", laid_unicode_utf8_acceptRanges), ("unicode/utf8.first", laid_unicode_utf8_first)] }
def TagsetStepsSaid : Prop := tagsetStepsRow.holds Tryz.pinned (OpenSpec.ofChange tagsetStepsSpec)

/-- ITS FALSE NEIGHBOUR: 'it returns false'. Refute it at one input. -/
def tagsetStepsWrong : ChangeSpec := { name := "tagsetSteps", fn := fun _ => fun
  | [d1, d2] => { results := [.lit (.bool false)], args := [d1, d2] }
  | _ => none }
def TagsetStepsWrongFalsely : Prop := tagsetStepsRow.holds Tryz.pinned (OpenSpec.ofChange tagsetStepsWrong)

/-- 'estuarylaw11.TagsetMaps': WHATEVER THE INPUT: true; the input reads as it did. -/
def tagsetMapsSpec : ChangeSpec := { name := "tagsetMaps", fn := fun _ => fun
  | [d1, d2] => { results := [.lit (.bool true)], args := [d1, d2] }
  | _ => none }
def tagsetMapsRow : OpenClaim := { program := "ytjlliohjeiclaaagreatdoor", sum := "946110cf177a0629ea69c433aa1202de0ff4f970d3e3544ded4c0cc3e5b1719e", func := "estuary/estuarylaw11.TagsetMaps", spec := "tagsetMaps", inPlace := ["internal/bytealg.CountString", "internal/bytealg.IndexByteString", "internal/bytealg.IndexString", "internal/abi.NoEscape", "internal/bytealg.MakeNoZero", "internal/bytealg.abigen_runtime_cmpstring"], unfollowed := true, recurses := true, named := ["internal/bytealg.MaxLen", "unicode/utf8.first", "unicode/utf8.acceptRanges"], plainKeys := false, apart := false, laid := [("unicode/utf8.acceptRanges", laid_unicode_utf8_acceptRanges), ("unicode/utf8.first", laid_unicode_utf8_first)] }
def TagsetMapsSaid : Prop := tagsetMapsRow.holds Tryz.pinned (OpenSpec.ofChange tagsetMapsSpec)

/-- ITS FALSE NEIGHBOUR: 'it returns false'. Refute it at one input. -/
def tagsetMapsWrong : ChangeSpec := { name := "tagsetMaps", fn := fun _ => fun
  | [d1, d2] => { results := [.lit (.bool false)], args := [d1, d2] }
  | _ => none }
def TagsetMapsWrongFalsely : Prop := tagsetMapsRow.holds Tryz.pinned (OpenSpec.ofChange tagsetMapsWrong)

/-- 'estuarylaw11.TagsetThree': WHATEVER THE INPUT: true; the input reads as it did. -/
def tagsetThreeSpec : ChangeSpec := { name := "tagsetThree", fn := fun _ => fun
  | [d1, d2, d3] => { results := [.lit (.bool true)], args := [d1, d2, d3] }
  | _ => none }
def tagsetThreeRow : OpenClaim := { program := "ytjlliohjeiclaaagreatdoor", sum := "946110cf177a0629ea69c433aa1202de0ff4f970d3e3544ded4c0cc3e5b1719e", func := "estuary/estuarylaw11.TagsetThree", spec := "tagsetThree", inPlace := ["internal/bytealg.CountString", "internal/bytealg.IndexByteString", "internal/bytealg.IndexString", "internal/abi.NoEscape", "internal/bytealg.MakeNoZero", "internal/bytealg.abigen_runtime_cmpstring"], unfollowed := true, recurses := true, named := ["internal/bytealg.MaxLen", "unicode/utf8.first", "unicode/utf8.acceptRanges"], plainKeys := false, apart := false, laid := [("unicode/utf8.acceptRanges", laid_unicode_utf8_acceptRanges), ("unicode/utf8.first", laid_unicode_utf8_first)] }
def TagsetThreeSaid : Prop := tagsetThreeRow.holds Tryz.pinned (OpenSpec.ofChange tagsetThreeSpec)

/-- ITS FALSE NEIGHBOUR: 'it returns false'. Refute it at one input. -/
def tagsetThreeWrong : ChangeSpec := { name := "tagsetThree", fn := fun _ => fun
  | [d1, d2, d3] => { results := [.lit (.bool false)], args := [d1, d2, d3] }
  | _ => none }
def TagsetThreeWrongFalsely : Prop := tagsetThreeRow.holds Tryz.pinned (OpenSpec.ofChange tagsetThreeWrong)

/-- 'estuarylaw09.KindsApplies': WHATEVER THE INPUT: true; the input reads as it did. -/
def kindsAppliesSpec : ChangeSpec := { name := "kindsApplies", fn := fun _ => fun
  | [d1, d2, d3] => { results := [.lit (.bool true)], args := [d1, d2, d3] }
  | _ => none }
def kindsAppliesRow : OpenClaim := { program := "ytjlliohjeiclaaagreatdoor", sum := "946110cf177a0629ea69c433aa1202de0ff4f970d3e3544ded4c0cc3e5b1719e", func := "estuary/estuarylaw09.KindsApplies", spec := "kindsApplies", inPlace := ["internal/bytealg.abigen_runtime_cmpstring"], unfollowed := true, recurses := true, named := ["unicode/utf8.first", "unicode/utf8.acceptRanges"], plainKeys := false, apart := false, laid := [("unicode/utf8.acceptRanges", laid_unicode_utf8_acceptRanges), ("unicode/utf8.first", laid_unicode_utf8_first)] }
def KindsAppliesSaid : Prop := kindsAppliesRow.holds Tryz.pinned (OpenSpec.ofChange kindsAppliesSpec)

/-- ITS FALSE NEIGHBOUR: 'it returns false'. Refute it at one input. -/
def kindsAppliesWrong : ChangeSpec := { name := "kindsApplies", fn := fun _ => fun
  | [d1, d2, d3] => { results := [.lit (.bool false)], args := [d1, d2, d3] }
  | _ => none }
def KindsAppliesWrongFalsely : Prop := kindsAppliesRow.holds Tryz.pinned (OpenSpec.ofChange kindsAppliesWrong)

/-- 'estuarylaw09.KindsThree': WHATEVER THE INPUT: true; the input reads as it did. -/
def kindsThreeSpec : ChangeSpec := { name := "kindsThree", fn := fun _ => fun
  | [d] => { results := [.lit (.bool true)], args := [d] }
  | _ => none }
def kindsThreeRow : OpenClaim := { program := "ytjlliohjeiclaaagreatdoor", sum := "946110cf177a0629ea69c433aa1202de0ff4f970d3e3544ded4c0cc3e5b1719e", func := "estuary/estuarylaw09.KindsThree", spec := "kindsThree", inPlace := ["internal/bytealg.abigen_runtime_cmpstring"], unfollowed := true, recurses := true, named := ["unicode/utf8.first", "unicode/utf8.acceptRanges"], plainKeys := false, apart := false, laid := [("unicode/utf8.acceptRanges", laid_unicode_utf8_acceptRanges), ("unicode/utf8.first", laid_unicode_utf8_first)] }
def KindsThreeSaid : Prop := kindsThreeRow.holds Tryz.pinned (OpenSpec.ofChange kindsThreeSpec)

/-- ITS FALSE NEIGHBOUR: 'it returns false'. Refute it at one input. -/
def kindsThreeWrong : ChangeSpec := { name := "kindsThree", fn := fun _ => fun
  | [d] => { results := [.lit (.bool false)], args := [d] }
  | _ => none }
def KindsThreeWrongFalsely : Prop := kindsThreeRow.holds Tryz.pinned (OpenSpec.ofChange kindsThreeWrong)

/- THE SECOND FORM. 'bulk': how many values and letters a reading holds, each counted each time it is reached (what is shared counts as often as it is met; a slice's spare places count too). A statement '..UptoSaid' is the law's where the arguments, and the package variables that the reading takes, are together of bulk at most 1048576: NARROWER than '..Said'. Prove '..Said' where nothing that the law and all that it calls make is longer than what came in: it says more and counts as full. Else prove '..UptoSaid'. A law counts once. -/
mutual
def uptoBulk {H : Type} : DataW H → Nat
  | .lit (.string bytes) => bytes.length + 1
  | .lit _ => 1
  | .nil => 1
  | .ptr d => uptoBulk d + 1
  | .slice elems spare => uptoBulkAll elems + uptoBulkAll spare + 1
  | .agg parts => uptoBulkAll parts + 1
  | .iface _ d => uptoBulk d + 1
  | .map entries => uptoBulkEntries entries + 1
  | .held _ => 1
def uptoBulkAll {H : Type} : List (DataW H) → Nat
  | [] => 0
  | d :: r => uptoBulk d + uptoBulkAll r
def uptoBulkEntries {H : Type} : List (Lit × DataW H) → Nat
  | [] => 0
  | x :: r => uptoBulkEntry x + uptoBulkEntries r
def uptoBulkEntry {H : Type} : Lit × DataW H → Nat
  | (.string bytes, d) => bytes.length + uptoBulk d + 1
  | (_, d) => uptoBulk d + 1
 end
def uptoSmall : (H : Type) → List (DataW H) → Bool := fun _ ds => decide (uptoBulkAll ds ≤ 1048576)
def OpenSpec.upto (s : _root_.Go.ChangeSpec) : _root_.Go.OpenSpec := { _root_.Go.OpenSpec.ofChange s with cond := some uptoSmall }

/-- 'estuarylaw11.TagsetSteps', WHERE WHAT IT READS IS OF BULK AT MOST 1048576: true; the input reads as it did. -/
def tagsetStepsUptoRow : OpenClaim := { program := "ytjlliohjeiclaaagreatdoor", sum := "946110cf177a0629ea69c433aa1202de0ff4f970d3e3544ded4c0cc3e5b1719e", func := "estuary/estuarylaw11.TagsetSteps", spec := "tagsetSteps", inPlace := ["internal/bytealg.CountString", "internal/bytealg.IndexByteString", "internal/bytealg.IndexString", "internal/abi.NoEscape", "internal/bytealg.MakeNoZero", "internal/bytealg.abigen_runtime_cmpstring"], unfollowed := true, recurses := true, named := ["internal/bytealg.MaxLen", "unicode/utf8.first", "unicode/utf8.acceptRanges"], plainKeys := false, apart := false, laid := [("unicode/utf8.acceptRanges", laid_unicode_utf8_acceptRanges), ("unicode/utf8.first", laid_unicode_utf8_first)], narrowed := true }
def TagsetStepsUptoSaid : Prop := tagsetStepsUptoRow.holds Tryz.pinned (OpenSpec.upto tagsetStepsSpec)

/-- 'estuarylaw11.TagsetMaps', WHERE WHAT IT READS IS OF BULK AT MOST 1048576: true; the input reads as it did. -/
def tagsetMapsUptoRow : OpenClaim := { program := "ytjlliohjeiclaaagreatdoor", sum := "946110cf177a0629ea69c433aa1202de0ff4f970d3e3544ded4c0cc3e5b1719e", func := "estuary/estuarylaw11.TagsetMaps", spec := "tagsetMaps", inPlace := ["internal/bytealg.CountString", "internal/bytealg.IndexByteString", "internal/bytealg.IndexString", "internal/abi.NoEscape", "internal/bytealg.MakeNoZero", "internal/bytealg.abigen_runtime_cmpstring"], unfollowed := true, recurses := true, named := ["internal/bytealg.MaxLen", "unicode/utf8.first", "unicode/utf8.acceptRanges"], plainKeys := false, apart := false, laid := [("unicode/utf8.acceptRanges", laid_unicode_utf8_acceptRanges), ("unicode/utf8.first", laid_unicode_utf8_first)], narrowed := true }
def TagsetMapsUptoSaid : Prop := tagsetMapsUptoRow.holds Tryz.pinned (OpenSpec.upto tagsetMapsSpec)

/-- 'estuarylaw11.TagsetThree', WHERE WHAT IT READS IS OF BULK AT MOST 1048576: true; the input reads as it did. -/
def tagsetThreeUptoRow : OpenClaim := { program := "ytjlliohjeiclaaagreatdoor", sum := "946110cf177a0629ea69c433aa1202de0ff4f970d3e3544ded4c0cc3e5b1719e", func := "estuary/estuarylaw11.TagsetThree", spec := "tagsetThree", inPlace := ["internal/bytealg.CountString", "internal/bytealg.IndexByteString", "internal/bytealg.IndexString", "internal/abi.NoEscape", "internal/bytealg.MakeNoZero", "internal/bytealg.abigen_runtime_cmpstring"], unfollowed := true, recurses := true, named := ["internal/bytealg.MaxLen", "unicode/utf8.first", "unicode/utf8.acceptRanges"], plainKeys := false, apart := false, laid := [("unicode/utf8.acceptRanges", laid_unicode_utf8_acceptRanges), ("unicode/utf8.first", laid_unicode_utf8_first)], narrowed := true }
def TagsetThreeUptoSaid : Prop := tagsetThreeUptoRow.holds Tryz.pinned (OpenSpec.upto tagsetThreeSpec)

/-- 'estuarylaw09.KindsApplies', WHERE WHAT IT READS IS OF BULK AT MOST 1048576: true; the input reads as it did. -/
def kindsAppliesUptoRow : OpenClaim := { program := "ytjlliohjeiclaaagreatdoor", sum := "946110cf177a0629ea69c433aa1202de0ff4f970d3e3544ded4c0cc3e5b1719e", func := "estuary/estuarylaw09.KindsApplies", spec := "kindsApplies", inPlace := ["internal/bytealg.abigen_runtime_cmpstring"], unfollowed := true, recurses := true, named := ["unicode/utf8.first", "unicode/utf8.acceptRanges"], plainKeys := false, apart := false, laid := [("unicode/utf8.acceptRanges", laid_unicode_utf8_acceptRanges), ("unicode/utf8.first", laid_unicode_utf8_first)], narrowed := true }
def KindsAppliesUptoSaid : Prop := kindsAppliesUptoRow.holds Tryz.pinned (OpenSpec.upto kindsAppliesSpec)

/-- 'estuarylaw09.KindsThree', WHERE WHAT IT READS IS OF BULK AT MOST 1048576: true; the input reads as it did. -/
def kindsThreeUptoRow : OpenClaim := { program := "ytjlliohjeiclaaagreatdoor", sum := "946110cf177a0629ea69c433aa1202de0ff4f970d3e3544ded4c0cc3e5b1719e", func := "estuary/estuarylaw09.KindsThree", spec := "kindsThree", inPlace := ["internal/bytealg.abigen_runtime_cmpstring"], unfollowed := true, recurses := true, named := ["unicode/utf8.first", "unicode/utf8.acceptRanges"], plainKeys := false, apart := false, laid := [("unicode/utf8.acceptRanges", laid_unicode_utf8_acceptRanges), ("unicode/utf8.first", laid_unicode_utf8_first)], narrowed := true }
def KindsThreeUptoSaid : Prop := kindsThreeUptoRow.holds Tryz.pinned (OpenSpec.upto kindsThreeSpec)

end Rows
end Go.Proofs.YtjlliohjeiclaaaGreatDoor
