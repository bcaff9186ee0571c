/-
  No cell of these rows narrows 'for every input' (looked for: loops, veiled, ifaces, maps, wideKeys, modest, calm, conditions, laid).
  DERIVED. THE GIVEN ROWS OF THIS SEAT. 4 by the template 'for every input the law returns true; each argument reads behind the call as it read before'; 0 by the template 'total and deterministic' (their statements: YtdodkhhlbjamhaaTotals.lean).
  GIVEN WITH THE SEED: the statements are not yours to turn. If you find one false, say at which input.
  Laid BY PROGRAM, IN A SANDBOX (cutbox-rows.mjs): the forced cells as the released guide's own fill.sh prints them over the translation edc7d84427852630… (all of the seat's roots in one cut). By AI agents, Wed Nov 11 2026. No macro, syntax, notation, axiom, sorry.
-/
import Derived.Test.YtdodkhhlbjamhaaChecked
import GoSem.Claim
import GoSem.ClaimJoined
import GoSem.ClaimMapViews
import Derived.JoinedTies
import Derived.KernelRfl
namespace Go.Proofs.Ytdodkhhlbjamhaa
/- THE CELL 'sum', in the pinned program and in every row, IS THE sha256 OF THE DUMP (.gsa) THAT YtdodkhhlbjamhaaProg.lean LOADS. Nothing in Lean hashes anything: it is a label: what it is worth is what the hold of that sum in a sandbox is worth. -/
noncomputable def Try.pinned : Pinned := { name := "ytdodkhhlbjamhaa", sum := "edc7d84427852630903f963bfcca507e3afbf2b786a80534729b52c2351984e4", checked := Try.checked }
namespace Rows
def none {H : Type} : Left H := { results := [], args := [] }

/-- 'estuarylaw08.WalkUnread': WHATEVER THE INPUT: true; the input reads as it did. -/
def walkUnreadSpec : ChangeSpec := { name := "walkUnread", fn := fun _ => fun
  | [d] => { results := [.lit (.bool true)], args := [d] }
  | _ => none }
def walkUnreadRow : OpenClaim := { program := "ytdodkhhlbjamhaa", sum := "edc7d84427852630903f963bfcca507e3afbf2b786a80534729b52c2351984e4", func := "estuary/estuarylaw08.WalkUnread", spec := "walkUnread", unfollowed := true, recurses := true, apart := false }
def WalkUnreadSaid : Prop := walkUnreadRow.holds Try.pinned (OpenSpec.ofChange walkUnreadSpec)

/-- ITS FALSE NEIGHBOUR: 'it returns false'. Refute it at one input. -/
def walkUnreadWrong : ChangeSpec := { name := "walkUnread", fn := fun _ => fun
  | [d] => { results := [.lit (.bool false)], args := [d] }
  | _ => none }
def WalkUnreadWrongFalsely : Prop := walkUnreadRow.holds Try.pinned (OpenSpec.ofChange walkUnreadWrong)

/-- 'estuarylaw08.WalkElements': WHATEVER THE INPUT: true; the input reads as it did. -/
def walkElementsSpec : ChangeSpec := { name := "walkElements", fn := fun _ => fun
  | [d] => { results := [.lit (.bool true)], args := [d] }
  | _ => none }
def walkElementsRow : OpenClaim := { program := "ytdodkhhlbjamhaa", sum := "edc7d84427852630903f963bfcca507e3afbf2b786a80534729b52c2351984e4", func := "estuary/estuarylaw08.WalkElements", spec := "walkElements", unfollowed := true, recurses := true, apart := false }
def WalkElementsSaid : Prop := walkElementsRow.holds Try.pinned (OpenSpec.ofChange walkElementsSpec)

/-- ITS FALSE NEIGHBOUR: 'it returns false'. Refute it at one input. -/
def walkElementsWrong : ChangeSpec := { name := "walkElements", fn := fun _ => fun
  | [d] => { results := [.lit (.bool false)], args := [d] }
  | _ => none }
def WalkElementsWrongFalsely : Prop := walkElementsRow.holds Try.pinned (OpenSpec.ofChange walkElementsWrong)

/-- 'estuarylaw08.WalkRules': WHATEVER THE INPUT: true; the input reads as it did. -/
def walkRulesSpec : ChangeSpec := { name := "walkRules", fn := fun _ => fun
  | [d1, d2] => { results := [.lit (.bool true)], args := [d1, d2] }
  | _ => none }
def walkRulesRow : OpenClaim := { program := "ytdodkhhlbjamhaa", sum := "edc7d84427852630903f963bfcca507e3afbf2b786a80534729b52c2351984e4", func := "estuary/estuarylaw08.WalkRules", spec := "walkRules", unfollowed := true, recurses := true, apart := false }
def WalkRulesSaid : Prop := walkRulesRow.holds Try.pinned (OpenSpec.ofChange walkRulesSpec)

/-- ITS FALSE NEIGHBOUR: 'it returns false'. Refute it at one input. -/
def walkRulesWrong : ChangeSpec := { name := "walkRules", fn := fun _ => fun
  | [d1, d2] => { results := [.lit (.bool false)], args := [d1, d2] }
  | _ => none }
def WalkRulesWrongFalsely : Prop := walkRulesRow.holds Try.pinned (OpenSpec.ofChange walkRulesWrong)

/-- 'estuarylaw08.WalkTwo': WHATEVER THE INPUT: true; the input reads as it did. -/
def walkTwoSpec : ChangeSpec := { name := "walkTwo", fn := fun _ => fun
  | [d1, d2] => { results := [.lit (.bool true)], args := [d1, d2] }
  | _ => none }
def walkTwoRow : OpenClaim := { program := "ytdodkhhlbjamhaa", sum := "edc7d84427852630903f963bfcca507e3afbf2b786a80534729b52c2351984e4", func := "estuary/estuarylaw08.WalkTwo", spec := "walkTwo", unfollowed := true, recurses := true, apart := false }
def WalkTwoSaid : Prop := walkTwoRow.holds Try.pinned (OpenSpec.ofChange walkTwoSpec)

/-- ITS FALSE NEIGHBOUR: 'it returns false'. Refute it at one input. -/
def walkTwoWrong : ChangeSpec := { name := "walkTwo", fn := fun _ => fun
  | [d1, d2] => { results := [.lit (.bool false)], args := [d1, d2] }
  | _ => none }
def WalkTwoWrongFalsely : Prop := walkTwoRow.holds Try.pinned (OpenSpec.ofChange walkTwoWrong)

/- THE SECOND FORM. 'bulk': how many values and letters a reading holds, each counted each time it is reached (what is shared counts as often as it is met; a slice's spare places count too). A statement '..UptoSaid' is the law's where the arguments, and the package variables that the reading takes, are together of bulk at most 1048576: NARROWER than '..Said'. Prove '..Said' where nothing that the law and all that it calls make is longer than what came in: it says more and counts as full. Else prove '..UptoSaid'. A law counts once. -/
mutual
def uptoBulk {H : Type} : DataW H → Nat
  | .lit (.string bytes) => bytes.length + 1
  | .lit _ => 1
  | .nil => 1
  | .ptr d => uptoBulk d + 1
  | .slice elems spare => uptoBulkAll elems + uptoBulkAll spare + 1
  | .agg parts => uptoBulkAll parts + 1
  | .iface _ d => uptoBulk d + 1
  | .map entries => uptoBulkEntries entries + 1
  | .held _ => 1
def uptoBulkAll {H : Type} : List (DataW H) → Nat
  | [] => 0
  | d :: r => uptoBulk d + uptoBulkAll r
def uptoBulkEntries {H : Type} : List (Lit × DataW H) → Nat
  | [] => 0
  | x :: r => uptoBulkEntry x + uptoBulkEntries r
def uptoBulkEntry {H : Type} : Lit × DataW H → Nat
  | (.string bytes, d) => bytes.length + uptoBulk d + 1
  | (_, d) => uptoBulk d + 1
 end
def uptoSmall : (H : Type) → List (DataW H) → Bool := fun _ ds => decide (uptoBulkAll ds ≤ 1048576)
def OpenSpec.upto (s : _root_.Go.ChangeSpec) : _root_.Go.OpenSpec := { _root_.Go.OpenSpec.ofChange s with cond := some uptoSmall }

/-- 'estuarylaw08.WalkUnread', WHERE WHAT IT READS IS OF BULK AT MOST 1048576: true; the input reads as it did. -/
def walkUnreadUptoRow : OpenClaim := { program := "ytdodkhhlbjamhaa", sum := "edc7d84427852630903f963bfcca507e3afbf2b786a80534729b52c2351984e4", func := "estuary/estuarylaw08.WalkUnread", spec := "walkUnread", unfollowed := true, recurses := true, apart := false, narrowed := true }
def WalkUnreadUptoSaid : Prop := walkUnreadUptoRow.holds Try.pinned (OpenSpec.upto walkUnreadSpec)

/-- 'estuarylaw08.WalkElements', WHERE WHAT IT READS IS OF BULK AT MOST 1048576: true; the input reads as it did. -/
def walkElementsUptoRow : OpenClaim := { program := "ytdodkhhlbjamhaa", sum := "edc7d84427852630903f963bfcca507e3afbf2b786a80534729b52c2351984e4", func := "estuary/estuarylaw08.WalkElements", spec := "walkElements", unfollowed := true, recurses := true, apart := false, narrowed := true }
def WalkElementsUptoSaid : Prop := walkElementsUptoRow.holds Try.pinned (OpenSpec.upto walkElementsSpec)

/-- 'estuarylaw08.WalkRules', WHERE WHAT IT READS IS OF BULK AT MOST 1048576: true; the input reads as it did. -/
def walkRulesUptoRow : OpenClaim := { program := "ytdodkhhlbjamhaa", sum := "edc7d84427852630903f963bfcca507e3afbf2b786a80534729b52c2351984e4", func := "estuary/estuarylaw08.WalkRules", spec := "walkRules", unfollowed := true, recurses := true, apart := false, narrowed := true }
def WalkRulesUptoSaid : Prop := walkRulesUptoRow.holds Try.pinned (OpenSpec.upto walkRulesSpec)

/-- 'estuarylaw08.WalkTwo', WHERE WHAT IT READS IS OF BULK AT MOST 1048576: true; the input reads as it did. -/
def walkTwoUptoRow : OpenClaim := { program := "ytdodkhhlbjamhaa", sum := "edc7d84427852630903f963bfcca507e3afbf2b786a80534729b52c2351984e4", func := "estuary/estuarylaw08.WalkTwo", spec := "walkTwo", unfollowed := true, recurses := true, apart := false, narrowed := true }
def WalkTwoUptoSaid : Prop := walkTwoUptoRow.holds Try.pinned (OpenSpec.upto walkTwoSpec)

end Rows
end Go.Proofs.Ytdodkhhlbjamhaa
