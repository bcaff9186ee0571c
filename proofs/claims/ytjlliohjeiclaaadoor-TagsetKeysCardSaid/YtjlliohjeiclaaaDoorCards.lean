/-
  DERIVED. GIVEN WITH THE SEED: THE CARDS: each row of YtjlliohjeiclaaaDoorRows.lean that lists a variable, with what it lists TIED to the program's text (the seventh form; the later family's looks); each row that meets fmt, with fmt's text TOLD by the authors' own Lean function (tested against real Go, not proved from fmt's source: count such statements apart). THE CARD IS WHAT COUNTS. Prove the row's statement (the work); the ties are given (YtjlliohjeiclaaaDoorTie.lean); close each card by the builder's one call (the guide's Derived/Test/ToyasCard.lean, 'card_holds'). Laid BY PROGRAM, IN A SANDBOX (cutbox-door.mjs). By AI agents, Wed Nov 11 2026. No macro, syntax, notation, axiom, sorry.
-/
import Derived.Test.YtjlliohjeiclaaaDoorRows
import GoSem.ClaimSeven
namespace Go.Proofs.YtjlliohjeiclaaaDoor
namespace Rows

/-- THE TIED CARD OF 'estuarylaw11.TagsetKeys'. -/
def tagsetKeysCard : Claim7 := { stood := { row := tagsetKeysRow, standIns := [], harness := (true, "2d2a6f28cce950167eafc2444ef9cc93da240264f75e46b35e68d59921a6809b"), looks := false }, kinds := [], alts := [], laidByText := true, laidKinds := [.data, .pinned], laidTests := true, laidLooks := .later }
def TagsetKeysCardSaid : Prop := Claim7.holds Tryd.pinned (.plain (OpenSpec.ofChange tagsetKeysSpec)) tagsetKeysCard

/-- THE TIED CARD OF 'estuarylaw09.KindsNames'. -/
def kindsNamesCard : Claim7 := { stood := { row := kindsNamesRow, standIns := [], harness := (true, "2d2a6f28cce950167eafc2444ef9cc93da240264f75e46b35e68d59921a6809b"), looks := false }, kinds := [], alts := [], laidByText := true, laidKinds := [.data, .pinned], laidTests := true, laidLooks := .later }
def KindsNamesCardSaid : Prop := Claim7.holds Tryd.pinned (.plain (OpenSpec.ofChange kindsNamesSpec)) kindsNamesCard

/-- THE TIED CARD OF 'estuarylaw09.KindsOps'. -/
def kindsOpsCard : Claim7 := { stood := { row := kindsOpsRow, standIns := [], harness := (true, "2d2a6f28cce950167eafc2444ef9cc93da240264f75e46b35e68d59921a6809b"), looks := false }, kinds := [], alts := [], laidByText := true, laidKinds := [.data, .pinned], laidTests := true, laidLooks := .later }
def KindsOpsCardSaid : Prop := Claim7.holds Tryd.pinned (.plain (OpenSpec.ofChange kindsOpsSpec)) kindsOpsCard

/-- THE TIED CARD OF 'estuarylaw09.KindsTogether'. -/
def kindsTogetherCard : Claim7 := { stood := { row := kindsTogetherRow, standIns := [], harness := (true, "2d2a6f28cce950167eafc2444ef9cc93da240264f75e46b35e68d59921a6809b"), looks := false }, kinds := [], alts := [], laidByText := true, laidKinds := [.data, .pinned], laidTests := true, laidLooks := .later }
def KindsTogetherCardSaid : Prop := Claim7.holds Tryd.pinned (.plain (OpenSpec.ofChange kindsTogetherSpec)) kindsTogetherCard

/-- THE SECOND FORM's CARD OF 'estuarylaw11.TagsetKeys'. -/
def tagsetKeysUptoCard : Claim7 := { stood := { row := tagsetKeysUptoRow, standIns := [], harness := (true, "2d2a6f28cce950167eafc2444ef9cc93da240264f75e46b35e68d59921a6809b"), looks := false }, kinds := [], alts := [], laidByText := true, laidKinds := [.data, .pinned], laidTests := true, laidLooks := .later }
def TagsetKeysUptoCardSaid : Prop := Claim7.holds Tryd.pinned (.plain (OpenSpec.upto tagsetKeysSpec)) tagsetKeysUptoCard

/-- THE SECOND FORM's CARD OF 'estuarylaw09.KindsNames'. -/
def kindsNamesUptoCard : Claim7 := { stood := { row := kindsNamesUptoRow, standIns := [], harness := (true, "2d2a6f28cce950167eafc2444ef9cc93da240264f75e46b35e68d59921a6809b"), looks := false }, kinds := [], alts := [], laidByText := true, laidKinds := [.data, .pinned], laidTests := true, laidLooks := .later }
def KindsNamesUptoCardSaid : Prop := Claim7.holds Tryd.pinned (.plain (OpenSpec.upto kindsNamesSpec)) kindsNamesUptoCard

/-- THE SECOND FORM's CARD OF 'estuarylaw09.KindsOps'. -/
def kindsOpsUptoCard : Claim7 := { stood := { row := kindsOpsUptoRow, standIns := [], harness := (true, "2d2a6f28cce950167eafc2444ef9cc93da240264f75e46b35e68d59921a6809b"), looks := false }, kinds := [], alts := [], laidByText := true, laidKinds := [.data, .pinned], laidTests := true, laidLooks := .later }
def KindsOpsUptoCardSaid : Prop := Claim7.holds Tryd.pinned (.plain (OpenSpec.upto kindsOpsSpec)) kindsOpsUptoCard

/-- THE SECOND FORM's CARD OF 'estuarylaw09.KindsTogether'. -/
def kindsTogetherUptoCard : Claim7 := { stood := { row := kindsTogetherUptoRow, standIns := [], harness := (true, "2d2a6f28cce950167eafc2444ef9cc93da240264f75e46b35e68d59921a6809b"), looks := false }, kinds := [], alts := [], laidByText := true, laidKinds := [.data, .pinned], laidTests := true, laidLooks := .later }
def KindsTogetherUptoCardSaid : Prop := Claim7.holds Tryd.pinned (.plain (OpenSpec.upto kindsTogetherSpec)) kindsTogetherUptoCard
end Rows
end Go.Proofs.YtjlliohjeiclaaaDoor
