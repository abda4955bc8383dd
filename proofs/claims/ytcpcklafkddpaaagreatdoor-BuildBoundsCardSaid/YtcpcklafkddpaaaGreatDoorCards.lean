/-
  DERIVED. GIVEN WITH THE SEED: THE CARDS: each row of YtcpcklafkddpaaaGreatDoorRows.lean that lists a variable, with what it lists TIED to the program's text (the seventh form; the later family's looks); each row that meets fmt, with fmt's text TOLD by the authors' own Lean function (tested against real Go, not proved from fmt's source: count such statements apart). THE CARD IS WHAT COUNTS. Prove the row's statement (the work); the ties are given (YtcpcklafkddpaaaGreatDoorTie.lean); close each card by the builder's one call (the guide's Derived/Test/ToyasCard.lean, 'card_holds'). Laid BY PROGRAM, IN A SANDBOX (cutbox-door.mjs). By AI agents, Wed Nov 11 2026. No macro, syntax, notation, axiom, sorry.
-/
import Derived.Test.YtcpcklafkddpaaaGreatDoorRows
import GoSem.ClaimSeven
namespace Go.Proofs.YtcpcklafkddpaaaGreatDoor
namespace Rows

/-- THE TIED CARD OF 'isinglasslaw22.BuildBounds'. -/
def buildBoundsCard : Claim7 := { stood := { row := buildBoundsRow, standIns := [], harness := (true, "d0b0ae375a22ea6061f53db394a63c702a0826045653216f8b1dd521d336f845"), looks := false }, kinds := [], alts := [], laidByText := true, laidKinds := [.data, .data, .data], laidTests := true, laidLooks := .later }
def BuildBoundsCardSaid : Prop := Claim7.holds Tryz.pinned (.plain (OpenSpec.ofChange buildBoundsSpec)) buildBoundsCard

/-- THE SECOND FORM's CARD OF 'isinglasslaw22.BuildBounds'. -/
def buildBoundsUptoCard : Claim7 := { stood := { row := buildBoundsUptoRow, standIns := [], harness := (true, "d0b0ae375a22ea6061f53db394a63c702a0826045653216f8b1dd521d336f845"), looks := false }, kinds := [], alts := [], laidByText := true, laidKinds := [.data, .data, .data], laidTests := true, laidLooks := .later }
def BuildBoundsUptoCardSaid : Prop := Claim7.holds Tryz.pinned (.plain (OpenSpec.upto buildBoundsSpec)) buildBoundsUptoCard
end Rows
end Go.Proofs.YtcpcklafkddpaaaGreatDoor
