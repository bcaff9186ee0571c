/-
  DERIVED. GIVEN WITH THE SEED: THE CARDS: each row of YtjlliohjeiclaaaGreatDoorRows.lean that lists a variable, with what it lists TIED to the program's text (the seventh form; the later family's looks); each row that meets fmt, with fmt's text TOLD by the authors' own Lean function (tested against real Go, not proved from fmt's source: count such statements apart). THE CARD IS WHAT COUNTS. Prove the row's statement (the work); the ties are given (YtjlliohjeiclaaaGreatDoorTie.lean); close each card by the builder's one call (the guide's Derived/Test/ToyasCard.lean, 'card_holds'). Laid BY PROGRAM, IN A SANDBOX (cutbox-door.mjs). By AI agents, Wed Nov 11 2026. No macro, syntax, notation, axiom, sorry.
-/
import Derived.Test.YtjlliohjeiclaaaGreatDoorRows
import GoSem.ClaimSeven
namespace Go.Proofs.YtjlliohjeiclaaaGreatDoor
namespace Rows

/-- THE TIED CARD OF 'estuarylaw11.TagsetSteps'. -/
def tagsetStepsCard : Claim7 := { stood := { row := tagsetStepsRow, standIns := [], harness := (true, "2a1f3fbac15db425fcbbbcd69f5b6950d799d631b3056054ba8459e9c8c32411"), looks := false }, kinds := [], alts := [], laidByText := true, laidKinds := [.data, .pinned], laidTests := true, laidLooks := .later }
def TagsetStepsCardSaid : Prop := Claim7.holds Tryz.pinned (.plain (OpenSpec.ofChange tagsetStepsSpec)) tagsetStepsCard

/-- THE TIED CARD OF 'estuarylaw11.TagsetMaps'. -/
def tagsetMapsCard : Claim7 := { stood := { row := tagsetMapsRow, standIns := [], harness := (true, "2a1f3fbac15db425fcbbbcd69f5b6950d799d631b3056054ba8459e9c8c32411"), looks := false }, kinds := [], alts := [], laidByText := true, laidKinds := [.data, .pinned], laidTests := true, laidLooks := .later }
def TagsetMapsCardSaid : Prop := Claim7.holds Tryz.pinned (.plain (OpenSpec.ofChange tagsetMapsSpec)) tagsetMapsCard

/-- THE TIED CARD OF 'estuarylaw11.TagsetThree'. -/
def tagsetThreeCard : Claim7 := { stood := { row := tagsetThreeRow, standIns := [], harness := (true, "2a1f3fbac15db425fcbbbcd69f5b6950d799d631b3056054ba8459e9c8c32411"), looks := false }, kinds := [], alts := [], laidByText := true, laidKinds := [.data, .pinned], laidTests := true, laidLooks := .later }
def TagsetThreeCardSaid : Prop := Claim7.holds Tryz.pinned (.plain (OpenSpec.ofChange tagsetThreeSpec)) tagsetThreeCard

/-- THE TIED CARD OF 'estuarylaw09.KindsApplies'. -/
def kindsAppliesCard : Claim7 := { stood := { row := kindsAppliesRow, standIns := [], harness := (true, "2a1f3fbac15db425fcbbbcd69f5b6950d799d631b3056054ba8459e9c8c32411"), looks := false }, kinds := [], alts := [], laidByText := true, laidKinds := [.data, .pinned], laidTests := true, laidLooks := .later }
def KindsAppliesCardSaid : Prop := Claim7.holds Tryz.pinned (.plain (OpenSpec.ofChange kindsAppliesSpec)) kindsAppliesCard

/-- THE TIED CARD OF 'estuarylaw09.KindsThree'. -/
def kindsThreeCard : Claim7 := { stood := { row := kindsThreeRow, standIns := [], harness := (true, "2a1f3fbac15db425fcbbbcd69f5b6950d799d631b3056054ba8459e9c8c32411"), looks := false }, kinds := [], alts := [], laidByText := true, laidKinds := [.data, .pinned], laidTests := true, laidLooks := .later }
def KindsThreeCardSaid : Prop := Claim7.holds Tryz.pinned (.plain (OpenSpec.ofChange kindsThreeSpec)) kindsThreeCard

/-- THE SECOND FORM's CARD OF 'estuarylaw11.TagsetSteps'. -/
def tagsetStepsUptoCard : Claim7 := { stood := { row := tagsetStepsUptoRow, standIns := [], harness := (true, "2a1f3fbac15db425fcbbbcd69f5b6950d799d631b3056054ba8459e9c8c32411"), looks := false }, kinds := [], alts := [], laidByText := true, laidKinds := [.data, .pinned], laidTests := true, laidLooks := .later }
def TagsetStepsUptoCardSaid : Prop := Claim7.holds Tryz.pinned (.plain (OpenSpec.upto tagsetStepsSpec)) tagsetStepsUptoCard

/-- THE SECOND FORM's CARD OF 'estuarylaw11.TagsetMaps'. -/
def tagsetMapsUptoCard : Claim7 := { stood := { row := tagsetMapsUptoRow, standIns := [], harness := (true, "2a1f3fbac15db425fcbbbcd69f5b6950d799d631b3056054ba8459e9c8c32411"), looks := false }, kinds := [], alts := [], laidByText := true, laidKinds := [.data, .pinned], laidTests := true, laidLooks := .later }
def TagsetMapsUptoCardSaid : Prop := Claim7.holds Tryz.pinned (.plain (OpenSpec.upto tagsetMapsSpec)) tagsetMapsUptoCard

/-- THE SECOND FORM's CARD OF 'estuarylaw11.TagsetThree'. -/
def tagsetThreeUptoCard : Claim7 := { stood := { row := tagsetThreeUptoRow, standIns := [], harness := (true, "2a1f3fbac15db425fcbbbcd69f5b6950d799d631b3056054ba8459e9c8c32411"), looks := false }, kinds := [], alts := [], laidByText := true, laidKinds := [.data, .pinned], laidTests := true, laidLooks := .later }
def TagsetThreeUptoCardSaid : Prop := Claim7.holds Tryz.pinned (.plain (OpenSpec.upto tagsetThreeSpec)) tagsetThreeUptoCard

/-- THE SECOND FORM's CARD OF 'estuarylaw09.KindsApplies'. -/
def kindsAppliesUptoCard : Claim7 := { stood := { row := kindsAppliesUptoRow, standIns := [], harness := (true, "2a1f3fbac15db425fcbbbcd69f5b6950d799d631b3056054ba8459e9c8c32411"), looks := false }, kinds := [], alts := [], laidByText := true, laidKinds := [.data, .pinned], laidTests := true, laidLooks := .later }
def KindsAppliesUptoCardSaid : Prop := Claim7.holds Tryz.pinned (.plain (OpenSpec.upto kindsAppliesSpec)) kindsAppliesUptoCard

/-- THE SECOND FORM's CARD OF 'estuarylaw09.KindsThree'. -/
def kindsThreeUptoCard : Claim7 := { stood := { row := kindsThreeUptoRow, standIns := [], harness := (true, "2a1f3fbac15db425fcbbbcd69f5b6950d799d631b3056054ba8459e9c8c32411"), looks := false }, kinds := [], alts := [], laidByText := true, laidKinds := [.data, .pinned], laidTests := true, laidLooks := .later }
def KindsThreeUptoCardSaid : Prop := Claim7.holds Tryz.pinned (.plain (OpenSpec.upto kindsThreeSpec)) kindsThreeUptoCard
end Rows
end Go.Proofs.YtjlliohjeiclaaaGreatDoor
