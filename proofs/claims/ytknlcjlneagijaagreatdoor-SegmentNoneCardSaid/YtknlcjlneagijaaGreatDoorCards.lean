/-
  DERIVED. GIVEN WITH THE SEED: THE CARDS: each row of YtknlcjlneagijaaGreatDoorRows.lean that lists a variable, with what it lists TIED to the program's text (the seventh form; the later family's looks); each row that meets fmt, with fmt's text TOLD by the authors' own Lean function (tested against real Go, not proved from fmt's source: count such statements apart). THE CARD IS WHAT COUNTS. Prove the row's statement (the work); the ties are given (YtknlcjlneagijaaGreatDoorTie.lean); close each card by the builder's one call (the guide's Derived/Test/ToyasCard.lean, 'card_holds'). Laid BY PROGRAM, IN A SANDBOX (cutbox-door.mjs). By AI agents, Wed Nov 11 2026. No macro, syntax, notation, axiom, sorry.
-/
import Derived.Test.YtknlcjlneagijaaGreatDoorRows
import GoSem.ClaimSeven
namespace Go.Proofs.YtknlcjlneagijaaGreatDoor
namespace Rows

/-- THE TIED CARD OF 'isinglasslaw23.SegmentNone'. -/
def segmentNoneCard : Claim7 := { stood := { row := segmentNoneRow, standIns := [], harness := (true, "f5f224764d90635bd8f12a8421ca71f403c3275f34951281e1643b5d4f69f25a"), looks := true }, kinds := [], alts := [], laidByText := true, laidKinds := [.data, .data, .data], laidTests := true, laidLooks := .later }
def SegmentNoneCardSaid : Prop := Claim7.holds Tryz.pinned (.plain (OpenSpec.ofChange segmentNoneSpec)) segmentNoneCard

/-- THE SECOND FORM's CARD OF 'isinglasslaw23.SegmentNone'. -/
def segmentNoneUptoCard : Claim7 := { stood := { row := segmentNoneUptoRow, standIns := [], harness := (true, "f5f224764d90635bd8f12a8421ca71f403c3275f34951281e1643b5d4f69f25a"), looks := true }, kinds := [], alts := [], laidByText := true, laidKinds := [.data, .data, .data], laidTests := true, laidLooks := .later }
def SegmentNoneUptoCardSaid : Prop := Claim7.holds Tryz.pinned (.plain (OpenSpec.upto segmentNoneSpec)) segmentNoneUptoCard
end Rows
end Go.Proofs.YtknlcjlneagijaaGreatDoor
