/-
  DERIVED. GIVEN WITH THE SEED: THE CARDS: each row of YtkjchoamdibolaaDoorRows.lean that lists a variable, with what it lists TIED to the program's text (the seventh form; the later family's looks); each row that meets fmt, with fmt's text TOLD by the authors' own Lean function (tested against real Go, not proved from fmt's source: count such statements apart). THE CARD IS WHAT COUNTS. Prove the row's statement (the work); the ties are given (YtkjchoamdibolaaDoorTie.lean); close each card by the builder's one call (the guide's Derived/Test/ToyasCard.lean, 'card_holds'). Laid BY PROGRAM, IN A SANDBOX (cutbox-door.mjs). By AI agents, Wed Nov 11 2026. No macro, syntax, notation, axiom, sorry.
-/
import Derived.Test.YtkjchoamdibolaaDoorRows
import GoSem.ClaimSeven
namespace Go.Proofs.YtkjchoamdibolaaDoor
namespace Rows

/-- THE TIED CARD OF 'estuarylaw05.KeysPaths'. -/
def keysPathsCard : Claim7 := { stood := { row := keysPathsRow, standIns := [], harness := (true, "3ab4948574bd8b5bd07ba59a0797abeffa1fd28ba1d4a6393f9f33e1fca5a2b9"), looks := false }, kinds := [], alts := [], laidByText := true, laidKinds := [.data, .pinned], laidTests := true, laidLooks := .later }
def KeysPathsCardSaid : Prop := Claim7.holds Tryd.pinned (.plain (OpenSpec.ofChange keysPathsSpec)) keysPathsCard

/-- THE TIED CARD OF 'estuarylaw05.KeysOrder'. -/
def keysOrderCard : Claim7 := { stood := { row := keysOrderRow, standIns := [], harness := (true, "3ab4948574bd8b5bd07ba59a0797abeffa1fd28ba1d4a6393f9f33e1fca5a2b9"), looks := false }, kinds := [], alts := [], laidByText := true, laidKinds := [.data, .pinned], laidTests := true, laidLooks := .later }
def KeysOrderCardSaid : Prop := Claim7.holds Tryd.pinned (.plain (OpenSpec.ofChange keysOrderSpec)) keysOrderCard

/-- THE TIED CARD OF 'estuarylaw05.KeysOrders'. -/
def keysOrdersCard : Claim7 := { stood := { row := keysOrdersRow, standIns := [], harness := (true, "3ab4948574bd8b5bd07ba59a0797abeffa1fd28ba1d4a6393f9f33e1fca5a2b9"), looks := false }, kinds := [], alts := [], laidByText := true, laidKinds := [.data, .pinned], laidTests := true, laidLooks := .later }
def KeysOrdersCardSaid : Prop := Claim7.holds Tryd.pinned (.plain (OpenSpec.ofChange keysOrdersSpec)) keysOrdersCard

/-- THE SECOND FORM's CARD OF 'estuarylaw05.KeysPaths'. -/
def keysPathsUptoCard : Claim7 := { stood := { row := keysPathsUptoRow, standIns := [], harness := (true, "3ab4948574bd8b5bd07ba59a0797abeffa1fd28ba1d4a6393f9f33e1fca5a2b9"), looks := false }, kinds := [], alts := [], laidByText := true, laidKinds := [.data, .pinned], laidTests := true, laidLooks := .later }
def KeysPathsUptoCardSaid : Prop := Claim7.holds Tryd.pinned (.plain (OpenSpec.upto keysPathsSpec)) keysPathsUptoCard

/-- THE SECOND FORM's CARD OF 'estuarylaw05.KeysOrder'. -/
def keysOrderUptoCard : Claim7 := { stood := { row := keysOrderUptoRow, standIns := [], harness := (true, "3ab4948574bd8b5bd07ba59a0797abeffa1fd28ba1d4a6393f9f33e1fca5a2b9"), looks := false }, kinds := [], alts := [], laidByText := true, laidKinds := [.data, .pinned], laidTests := true, laidLooks := .later }
def KeysOrderUptoCardSaid : Prop := Claim7.holds Tryd.pinned (.plain (OpenSpec.upto keysOrderSpec)) keysOrderUptoCard

/-- THE SECOND FORM's CARD OF 'estuarylaw05.KeysOrders'. -/
def keysOrdersUptoCard : Claim7 := { stood := { row := keysOrdersUptoRow, standIns := [], harness := (true, "3ab4948574bd8b5bd07ba59a0797abeffa1fd28ba1d4a6393f9f33e1fca5a2b9"), looks := false }, kinds := [], alts := [], laidByText := true, laidKinds := [.data, .pinned], laidTests := true, laidLooks := .later }
def KeysOrdersUptoCardSaid : Prop := Claim7.holds Tryd.pinned (.plain (OpenSpec.upto keysOrdersSpec)) keysOrdersUptoCard
end Rows
end Go.Proofs.YtkjchoamdibolaaDoor
