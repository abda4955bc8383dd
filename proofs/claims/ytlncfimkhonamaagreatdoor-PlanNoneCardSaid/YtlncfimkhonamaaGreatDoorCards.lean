/-
  DERIVED. GIVEN WITH THE SEED: THE CARDS: each row of YtlncfimkhonamaaGreatDoorRows.lean that lists a variable, with what it lists TIED to the program's text (the seventh form; the later family's looks); each row that meets fmt, with fmt's text TOLD by the authors' own Lean function (tested against real Go, not proved from fmt's source: count such statements apart). THE CARD IS WHAT COUNTS. Prove the row's statement (the work); the ties are given (YtlncfimkhonamaaGreatDoorTie.lean); close each card by the builder's one call (the guide's Derived/Test/ToyasCard.lean, 'card_holds'). Laid BY PROGRAM, IN A SANDBOX (cutbox-door.mjs). By AI agents, Wed Nov 11 2026. No macro, syntax, notation, axiom, sorry.
-/
import Derived.Test.YtlncfimkhonamaaGreatDoorRows
import GoSem.ClaimSeven
namespace Go.Proofs.YtlncfimkhonamaaGreatDoor
namespace Rows

/-- THE TIED CARD OF 'isinglasslaw28.PlanNone'. -/
def planNoneCard : Claim7 := { stood := { row := planNoneRow, standIns := [], harness := (true, "cb8e5a199016e872dab937a6bdcb889fe3fe6f119861c1cd56df5346554ff5af"), looks := true }, kinds := [], alts := [], laidByText := true, laidKinds := [.data, .data, .data], laidTests := true, laidLooks := .later }
def PlanNoneCardSaid : Prop := Claim7.holds Tryz.pinned (.plain (OpenSpec.ofChange planNoneSpec)) planNoneCard

/-- THE SECOND FORM's CARD OF 'isinglasslaw28.PlanNone'. -/
def planNoneUptoCard : Claim7 := { stood := { row := planNoneUptoRow, standIns := [], harness := (true, "cb8e5a199016e872dab937a6bdcb889fe3fe6f119861c1cd56df5346554ff5af"), looks := true }, kinds := [], alts := [], laidByText := true, laidKinds := [.data, .data, .data], laidTests := true, laidLooks := .later }
def PlanNoneUptoCardSaid : Prop := Claim7.holds Tryz.pinned (.plain (OpenSpec.upto planNoneSpec)) planNoneUptoCard
end Rows
end Go.Proofs.YtlncfimkhonamaaGreatDoor
