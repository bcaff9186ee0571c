/-
  No cell of these rows narrows 'for every input' (looked for: loops, veiled, ifaces, maps, wideKeys, modest, calm, conditions, laid).
  DERIVED. THE GIVEN ROWS OF THIS SEAT. 11 by the template 'for every input the law returns true; each argument reads behind the call as it read before'; 0 by the template 'total and deterministic' (their statements: YtnpiepimajippaaTotals.lean).
  GIVEN WITH THE SEED: the statements are not yours to turn. If you find one false, say at which input.
  Laid BY PROGRAM, IN A SANDBOX (cutbox-rows.mjs): the forced cells as the released guide's own fill.sh prints them over the translation 4e8a4572ff6818e9… (all of the seat's roots in one cut). By AI agents, Wed Nov 11 2026. No macro, syntax, notation, axiom, sorry.
-/
import Derived.Test.YtnpiepimajippaaChecked
import GoSem.Claim
import GoSem.ClaimJoined
import GoSem.ClaimMapViews
import Derived.JoinedTies
import Derived.KernelRfl
namespace Go.Proofs.Ytnpiepimajippaa
/- THE CELL 'sum', in the pinned program and in every row, IS THE sha256 OF THE DUMP (.gsa) THAT YtnpiepimajippaaProg.lean LOADS. Nothing in Lean hashes anything: it is a label: what it is worth is what the hold of that sum in a sandbox is worth. -/
noncomputable def Try.pinned : Pinned := { name := "ytnpiepimajippaa", sum := "4e8a4572ff6818e92c9bb62ca41f92c4f18573b6a5740310a65da6636a13ba92", checked := Try.checked }
namespace Rows
def none {H : Type} : Left H := { results := [], args := [] }

/-- 'estuarylaw12.RegisterWrites': WHATEVER THE INPUT: true; the input reads as it did. -/
def registerWritesSpec : ChangeSpec := { name := "registerWrites", fn := fun _ => fun
  | [d1, d2] => { results := [.lit (.bool true)], args := [d1, d2] }
  | _ => none }
def registerWritesRow : OpenClaim := { program := "ytnpiepimajippaa", sum := "4e8a4572ff6818e92c9bb62ca41f92c4f18573b6a5740310a65da6636a13ba92", func := "estuary/estuarylaw12.RegisterWrites", spec := "registerWrites", unfollowed := true, recurses := true, apart := false }
def RegisterWritesSaid : Prop := registerWritesRow.holds Try.pinned (OpenSpec.ofChange registerWritesSpec)

/-- ITS FALSE NEIGHBOUR: 'it returns false'. Refute it at one input. -/
def registerWritesWrong : ChangeSpec := { name := "registerWrites", fn := fun _ => fun
  | [d1, d2] => { results := [.lit (.bool false)], args := [d1, d2] }
  | _ => none }
def RegisterWritesWrongFalsely : Prop := registerWritesRow.holds Try.pinned (OpenSpec.ofChange registerWritesWrong)

/-- 'estuarylaw14.JournalAppends': WHATEVER THE INPUT: true; the input reads as it did. -/
def journalAppendsSpec : ChangeSpec := { name := "journalAppends", fn := fun _ => fun
  | [d1, d2, d3] => { results := [.lit (.bool true)], args := [d1, d2, d3] }
  | _ => none }
def journalAppendsRow : OpenClaim := { program := "ytnpiepimajippaa", sum := "4e8a4572ff6818e92c9bb62ca41f92c4f18573b6a5740310a65da6636a13ba92", func := "estuary/estuarylaw14.JournalAppends", spec := "journalAppends", unfollowed := true, recurses := true, apart := false }
def JournalAppendsSaid : Prop := journalAppendsRow.holds Try.pinned (OpenSpec.ofChange journalAppendsSpec)

/-- ITS FALSE NEIGHBOUR: 'it returns false'. Refute it at one input. -/
def journalAppendsWrong : ChangeSpec := { name := "journalAppends", fn := fun _ => fun
  | [d1, d2, d3] => { results := [.lit (.bool false)], args := [d1, d2, d3] }
  | _ => none }
def JournalAppendsWrongFalsely : Prop := journalAppendsRow.holds Try.pinned (OpenSpec.ofChange journalAppendsWrong)

/-- 'estuarylaw13.QueueSteps': WHATEVER THE INPUT: true; the input reads as it did. -/
def queueStepsSpec : ChangeSpec := { name := "queueSteps", fn := fun _ => fun
  | [d1, d2] => { results := [.lit (.bool true)], args := [d1, d2] }
  | _ => none }
def queueStepsRow : OpenClaim := { program := "ytnpiepimajippaa", sum := "4e8a4572ff6818e92c9bb62ca41f92c4f18573b6a5740310a65da6636a13ba92", func := "estuary/estuarylaw13.QueueSteps", spec := "queueSteps", unfollowed := true, recurses := true, apart := false }
def QueueStepsSaid : Prop := queueStepsRow.holds Try.pinned (OpenSpec.ofChange queueStepsSpec)

/-- ITS FALSE NEIGHBOUR: 'it returns false'. Refute it at one input. -/
def queueStepsWrong : ChangeSpec := { name := "queueSteps", fn := fun _ => fun
  | [d1, d2] => { results := [.lit (.bool false)], args := [d1, d2] }
  | _ => none }
def QueueStepsWrongFalsely : Prop := queueStepsRow.holds Try.pinned (OpenSpec.ofChange queueStepsWrong)

/-- 'estuarylaw12.RegisterThree': WHATEVER THE INPUT: true; the input reads as it did. -/
def registerThreeSpec : ChangeSpec := { name := "registerThree", fn := fun _ => fun
  | [d1, d2, d3] => { results := [.lit (.bool true)], args := [d1, d2, d3] }
  | _ => none }
def registerThreeRow : OpenClaim := { program := "ytnpiepimajippaa", sum := "4e8a4572ff6818e92c9bb62ca41f92c4f18573b6a5740310a65da6636a13ba92", func := "estuary/estuarylaw12.RegisterThree", spec := "registerThree", unfollowed := true, recurses := true, apart := false }
def RegisterThreeSaid : Prop := registerThreeRow.holds Try.pinned (OpenSpec.ofChange registerThreeSpec)

/-- ITS FALSE NEIGHBOUR: 'it returns false'. Refute it at one input. -/
def registerThreeWrong : ChangeSpec := { name := "registerThree", fn := fun _ => fun
  | [d1, d2, d3] => { results := [.lit (.bool false)], args := [d1, d2, d3] }
  | _ => none }
def RegisterThreeWrongFalsely : Prop := registerThreeRow.holds Try.pinned (OpenSpec.ofChange registerThreeWrong)

/-- 'estuarylaw12.RegisterMaps': WHATEVER THE INPUT: true; the input reads as it did. -/
def registerMapsSpec : ChangeSpec := { name := "registerMaps", fn := fun _ => fun
  | [d] => { results := [.lit (.bool true)], args := [d] }
  | _ => none }
def registerMapsRow : OpenClaim := { program := "ytnpiepimajippaa", sum := "4e8a4572ff6818e92c9bb62ca41f92c4f18573b6a5740310a65da6636a13ba92", func := "estuary/estuarylaw12.RegisterMaps", spec := "registerMaps", unfollowed := true, recurses := true, apart := false }
def RegisterMapsSaid : Prop := registerMapsRow.holds Try.pinned (OpenSpec.ofChange registerMapsSpec)

/-- ITS FALSE NEIGHBOUR: 'it returns false'. Refute it at one input. -/
def registerMapsWrong : ChangeSpec := { name := "registerMaps", fn := fun _ => fun
  | [d] => { results := [.lit (.bool false)], args := [d] }
  | _ => none }
def RegisterMapsWrongFalsely : Prop := registerMapsRow.holds Try.pinned (OpenSpec.ofChange registerMapsWrong)

/-- 'estuarylaw13.QueuePops': WHATEVER THE INPUT: true; the input reads as it did. -/
def queuePopsSpec : ChangeSpec := { name := "queuePops", fn := fun _ => fun
  | [d1, d2, d3] => { results := [.lit (.bool true)], args := [d1, d2, d3] }
  | _ => none }
def queuePopsRow : OpenClaim := { program := "ytnpiepimajippaa", sum := "4e8a4572ff6818e92c9bb62ca41f92c4f18573b6a5740310a65da6636a13ba92", func := "estuary/estuarylaw13.QueuePops", spec := "queuePops", unfollowed := true, recurses := true, apart := false }
def QueuePopsSaid : Prop := queuePopsRow.holds Try.pinned (OpenSpec.ofChange queuePopsSpec)

/-- ITS FALSE NEIGHBOUR: 'it returns false'. Refute it at one input. -/
def queuePopsWrong : ChangeSpec := { name := "queuePops", fn := fun _ => fun
  | [d1, d2, d3] => { results := [.lit (.bool false)], args := [d1, d2, d3] }
  | _ => none }
def QueuePopsWrongFalsely : Prop := queuePopsRow.holds Try.pinned (OpenSpec.ofChange queuePopsWrong)

/-- 'estuarylaw13.QueueMaps': WHATEVER THE INPUT: true; the input reads as it did. -/
def queueMapsSpec : ChangeSpec := { name := "queueMaps", fn := fun _ => fun
  | [d] => { results := [.lit (.bool true)], args := [d] }
  | _ => none }
def queueMapsRow : OpenClaim := { program := "ytnpiepimajippaa", sum := "4e8a4572ff6818e92c9bb62ca41f92c4f18573b6a5740310a65da6636a13ba92", func := "estuary/estuarylaw13.QueueMaps", spec := "queueMaps", unfollowed := true, recurses := true, apart := false }
def QueueMapsSaid : Prop := queueMapsRow.holds Try.pinned (OpenSpec.ofChange queueMapsSpec)

/-- ITS FALSE NEIGHBOUR: 'it returns false'. Refute it at one input. -/
def queueMapsWrong : ChangeSpec := { name := "queueMaps", fn := fun _ => fun
  | [d] => { results := [.lit (.bool false)], args := [d] }
  | _ => none }
def QueueMapsWrongFalsely : Prop := queueMapsRow.holds Try.pinned (OpenSpec.ofChange queueMapsWrong)

/-- 'estuarylaw13.QueueThree': WHATEVER THE INPUT: true; the input reads as it did. -/
def queueThreeSpec : ChangeSpec := { name := "queueThree", fn := fun _ => fun
  | [d1, d2, d3] => { results := [.lit (.bool true)], args := [d1, d2, d3] }
  | _ => none }
def queueThreeRow : OpenClaim := { program := "ytnpiepimajippaa", sum := "4e8a4572ff6818e92c9bb62ca41f92c4f18573b6a5740310a65da6636a13ba92", func := "estuary/estuarylaw13.QueueThree", spec := "queueThree", unfollowed := true, recurses := true, apart := false }
def QueueThreeSaid : Prop := queueThreeRow.holds Try.pinned (OpenSpec.ofChange queueThreeSpec)

/-- ITS FALSE NEIGHBOUR: 'it returns false'. Refute it at one input. -/
def queueThreeWrong : ChangeSpec := { name := "queueThree", fn := fun _ => fun
  | [d1, d2, d3] => { results := [.lit (.bool false)], args := [d1, d2, d3] }
  | _ => none }
def QueueThreeWrongFalsely : Prop := queueThreeRow.holds Try.pinned (OpenSpec.ofChange queueThreeWrong)

/-- 'estuarylaw14.JournalParts': WHATEVER THE INPUT: true; the input reads as it did. -/
def journalPartsSpec : ChangeSpec := { name := "journalParts", fn := fun _ => fun
  | [d1, d2, d3] => { results := [.lit (.bool true)], args := [d1, d2, d3] }
  | _ => none }
def journalPartsRow : OpenClaim := { program := "ytnpiepimajippaa", sum := "4e8a4572ff6818e92c9bb62ca41f92c4f18573b6a5740310a65da6636a13ba92", func := "estuary/estuarylaw14.JournalParts", spec := "journalParts", unfollowed := true, recurses := true, apart := false }
def JournalPartsSaid : Prop := journalPartsRow.holds Try.pinned (OpenSpec.ofChange journalPartsSpec)

/-- ITS FALSE NEIGHBOUR: 'it returns false'. Refute it at one input. -/
def journalPartsWrong : ChangeSpec := { name := "journalParts", fn := fun _ => fun
  | [d1, d2, d3] => { results := [.lit (.bool false)], args := [d1, d2, d3] }
  | _ => none }
def JournalPartsWrongFalsely : Prop := journalPartsRow.holds Try.pinned (OpenSpec.ofChange journalPartsWrong)

/-- 'estuarylaw14.JournalMaps': WHATEVER THE INPUT: true; the input reads as it did. -/
def journalMapsSpec : ChangeSpec := { name := "journalMaps", fn := fun _ => fun
  | [d] => { results := [.lit (.bool true)], args := [d] }
  | _ => none }
def journalMapsRow : OpenClaim := { program := "ytnpiepimajippaa", sum := "4e8a4572ff6818e92c9bb62ca41f92c4f18573b6a5740310a65da6636a13ba92", func := "estuary/estuarylaw14.JournalMaps", spec := "journalMaps", unfollowed := true, recurses := true, apart := false }
def JournalMapsSaid : Prop := journalMapsRow.holds Try.pinned (OpenSpec.ofChange journalMapsSpec)

/-- ITS FALSE NEIGHBOUR: 'it returns false'. Refute it at one input. -/
def journalMapsWrong : ChangeSpec := { name := "journalMaps", fn := fun _ => fun
  | [d] => { results := [.lit (.bool false)], args := [d] }
  | _ => none }
def JournalMapsWrongFalsely : Prop := journalMapsRow.holds Try.pinned (OpenSpec.ofChange journalMapsWrong)

/-- 'estuarylaw14.JournalThree': WHATEVER THE INPUT: true; the input reads as it did. -/
def journalThreeSpec : ChangeSpec := { name := "journalThree", fn := fun _ => fun
  | [d1, d2, d3] => { results := [.lit (.bool true)], args := [d1, d2, d3] }
  | _ => none }
def journalThreeRow : OpenClaim := { program := "ytnpiepimajippaa", sum := "4e8a4572ff6818e92c9bb62ca41f92c4f18573b6a5740310a65da6636a13ba92", func := "estuary/estuarylaw14.JournalThree", spec := "journalThree", unfollowed := true, recurses := true, apart := false }
def JournalThreeSaid : Prop := journalThreeRow.holds Try.pinned (OpenSpec.ofChange journalThreeSpec)

/-- ITS FALSE NEIGHBOUR: 'it returns false'. Refute it at one input. -/
def journalThreeWrong : ChangeSpec := { name := "journalThree", fn := fun _ => fun
  | [d1, d2, d3] => { results := [.lit (.bool false)], args := [d1, d2, d3] }
  | _ => none }
def JournalThreeWrongFalsely : Prop := journalThreeRow.holds Try.pinned (OpenSpec.ofChange journalThreeWrong)

/- THE SECOND FORM. 'bulk': how many values and letters a reading holds, each counted each time it is reached (what is shared counts as often as it is met; a slice's spare places count too). A statement '..UptoSaid' is the law's where the arguments, and the package variables that the reading takes, are together of bulk at most 1048576: NARROWER than '..Said'. Prove '..Said' where nothing that the law and all that it calls make is longer than what came in: it says more and counts as full. Else prove '..UptoSaid'. A law counts once. -/
mutual
def uptoBulk {H : Type} : DataW H → Nat
  | .lit (.string bytes) => bytes.length + 1
  | .lit _ => 1
  | .nil => 1
  | .ptr d => uptoBulk d + 1
  | .slice elems spare => uptoBulkAll elems + uptoBulkAll spare + 1
  | .agg parts => uptoBulkAll parts + 1
  | .iface _ d => uptoBulk d + 1
  | .map entries => uptoBulkEntries entries + 1
  | .held _ => 1
def uptoBulkAll {H : Type} : List (DataW H) → Nat
  | [] => 0
  | d :: r => uptoBulk d + uptoBulkAll r
def uptoBulkEntries {H : Type} : List (Lit × DataW H) → Nat
  | [] => 0
  | x :: r => uptoBulkEntry x + uptoBulkEntries r
def uptoBulkEntry {H : Type} : Lit × DataW H → Nat
  | (.string bytes, d) => bytes.length + uptoBulk d + 1
  | (_, d) => uptoBulk d + 1
 end
def uptoSmall : (H : Type) → List (DataW H) → Bool := fun _ ds => decide (uptoBulkAll ds ≤ 1048576)
def OpenSpec.upto (s : _root_.Go.ChangeSpec) : _root_.Go.OpenSpec := { _root_.Go.OpenSpec.ofChange s with cond := some uptoSmall }

/-- 'estuarylaw12.RegisterWrites', WHERE WHAT IT READS IS OF BULK AT MOST 1048576: true; the input reads as it did. -/
def registerWritesUptoRow : OpenClaim := { program := "ytnpiepimajippaa", sum := "4e8a4572ff6818e92c9bb62ca41f92c4f18573b6a5740310a65da6636a13ba92", func := "estuary/estuarylaw12.RegisterWrites", spec := "registerWrites", unfollowed := true, recurses := true, apart := false, narrowed := true }
def RegisterWritesUptoSaid : Prop := registerWritesUptoRow.holds Try.pinned (OpenSpec.upto registerWritesSpec)

/-- 'estuarylaw14.JournalAppends', WHERE WHAT IT READS IS OF BULK AT MOST 1048576: true; the input reads as it did. -/
def journalAppendsUptoRow : OpenClaim := { program := "ytnpiepimajippaa", sum := "4e8a4572ff6818e92c9bb62ca41f92c4f18573b6a5740310a65da6636a13ba92", func := "estuary/estuarylaw14.JournalAppends", spec := "journalAppends", unfollowed := true, recurses := true, apart := false, narrowed := true }
def JournalAppendsUptoSaid : Prop := journalAppendsUptoRow.holds Try.pinned (OpenSpec.upto journalAppendsSpec)

/-- 'estuarylaw13.QueueSteps', WHERE WHAT IT READS IS OF BULK AT MOST 1048576: true; the input reads as it did. -/
def queueStepsUptoRow : OpenClaim := { program := "ytnpiepimajippaa", sum := "4e8a4572ff6818e92c9bb62ca41f92c4f18573b6a5740310a65da6636a13ba92", func := "estuary/estuarylaw13.QueueSteps", spec := "queueSteps", unfollowed := true, recurses := true, apart := false, narrowed := true }
def QueueStepsUptoSaid : Prop := queueStepsUptoRow.holds Try.pinned (OpenSpec.upto queueStepsSpec)

/-- 'estuarylaw12.RegisterThree', WHERE WHAT IT READS IS OF BULK AT MOST 1048576: true; the input reads as it did. -/
def registerThreeUptoRow : OpenClaim := { program := "ytnpiepimajippaa", sum := "4e8a4572ff6818e92c9bb62ca41f92c4f18573b6a5740310a65da6636a13ba92", func := "estuary/estuarylaw12.RegisterThree", spec := "registerThree", unfollowed := true, recurses := true, apart := false, narrowed := true }
def RegisterThreeUptoSaid : Prop := registerThreeUptoRow.holds Try.pinned (OpenSpec.upto registerThreeSpec)

/-- 'estuarylaw12.RegisterMaps', WHERE WHAT IT READS IS OF BULK AT MOST 1048576: true; the input reads as it did. -/
def registerMapsUptoRow : OpenClaim := { program := "ytnpiepimajippaa", sum := "4e8a4572ff6818e92c9bb62ca41f92c4f18573b6a5740310a65da6636a13ba92", func := "estuary/estuarylaw12.RegisterMaps", spec := "registerMaps", unfollowed := true, recurses := true, apart := false, narrowed := true }
def RegisterMapsUptoSaid : Prop := registerMapsUptoRow.holds Try.pinned (OpenSpec.upto registerMapsSpec)

/-- 'estuarylaw13.QueuePops', WHERE WHAT IT READS IS OF BULK AT MOST 1048576: true; the input reads as it did. -/
def queuePopsUptoRow : OpenClaim := { program := "ytnpiepimajippaa", sum := "4e8a4572ff6818e92c9bb62ca41f92c4f18573b6a5740310a65da6636a13ba92", func := "estuary/estuarylaw13.QueuePops", spec := "queuePops", unfollowed := true, recurses := true, apart := false, narrowed := true }
def QueuePopsUptoSaid : Prop := queuePopsUptoRow.holds Try.pinned (OpenSpec.upto queuePopsSpec)

/-- 'estuarylaw13.QueueMaps', WHERE WHAT IT READS IS OF BULK AT MOST 1048576: true; the input reads as it did. -/
def queueMapsUptoRow : OpenClaim := { program := "ytnpiepimajippaa", sum := "4e8a4572ff6818e92c9bb62ca41f92c4f18573b6a5740310a65da6636a13ba92", func := "estuary/estuarylaw13.QueueMaps", spec := "queueMaps", unfollowed := true, recurses := true, apart := false, narrowed := true }
def QueueMapsUptoSaid : Prop := queueMapsUptoRow.holds Try.pinned (OpenSpec.upto queueMapsSpec)

/-- 'estuarylaw13.QueueThree', WHERE WHAT IT READS IS OF BULK AT MOST 1048576: true; the input reads as it did. -/
def queueThreeUptoRow : OpenClaim := { program := "ytnpiepimajippaa", sum := "4e8a4572ff6818e92c9bb62ca41f92c4f18573b6a5740310a65da6636a13ba92", func := "estuary/estuarylaw13.QueueThree", spec := "queueThree", unfollowed := true, recurses := true, apart := false, narrowed := true }
def QueueThreeUptoSaid : Prop := queueThreeUptoRow.holds Try.pinned (OpenSpec.upto queueThreeSpec)

/-- 'estuarylaw14.JournalParts', WHERE WHAT IT READS IS OF BULK AT MOST 1048576: true; the input reads as it did. -/
def journalPartsUptoRow : OpenClaim := { program := "ytnpiepimajippaa", sum := "4e8a4572ff6818e92c9bb62ca41f92c4f18573b6a5740310a65da6636a13ba92", func := "estuary/estuarylaw14.JournalParts", spec := "journalParts", unfollowed := true, recurses := true, apart := false, narrowed := true }
def JournalPartsUptoSaid : Prop := journalPartsUptoRow.holds Try.pinned (OpenSpec.upto journalPartsSpec)

/-- 'estuarylaw14.JournalMaps', WHERE WHAT IT READS IS OF BULK AT MOST 1048576: true; the input reads as it did. -/
def journalMapsUptoRow : OpenClaim := { program := "ytnpiepimajippaa", sum := "4e8a4572ff6818e92c9bb62ca41f92c4f18573b6a5740310a65da6636a13ba92", func := "estuary/estuarylaw14.JournalMaps", spec := "journalMaps", unfollowed := true, recurses := true, apart := false, narrowed := true }
def JournalMapsUptoSaid : Prop := journalMapsUptoRow.holds Try.pinned (OpenSpec.upto journalMapsSpec)

/-- 'estuarylaw14.JournalThree', WHERE WHAT IT READS IS OF BULK AT MOST 1048576: true; the input reads as it did. -/
def journalThreeUptoRow : OpenClaim := { program := "ytnpiepimajippaa", sum := "4e8a4572ff6818e92c9bb62ca41f92c4f18573b6a5740310a65da6636a13ba92", func := "estuary/estuarylaw14.JournalThree", spec := "journalThree", unfollowed := true, recurses := true, apart := false, narrowed := true }
def JournalThreeUptoSaid : Prop := journalThreeUptoRow.holds Try.pinned (OpenSpec.upto journalThreeSpec)

end Rows
end Go.Proofs.Ytnpiepimajippaa
