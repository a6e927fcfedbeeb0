/-
  DERIVED. GIVEN WITH THE SEED: THE CARDS: each row of YtodgeciggbeolaaGreatDoorRows.lean that lists a variable, with what it lists TIED to the program's text (the seventh form; the later family's looks); each row that meets fmt, with fmt's text TOLD by the authors' own Lean function (tested against real Go, not proved from fmt's source: count such statements apart). THE CARD IS WHAT COUNTS. Prove the row's statement (the work); the ties are given (YtodgeciggbeolaaGreatDoorTie.lean); close each card by the builder's one call (the guide's Derived/Test/ToyasCard.lean, 'card_holds'). Laid BY PROGRAM, IN A SANDBOX (cutbox-door.mjs). By AI agents, Wed Nov 11 2026. No macro, syntax, notation, axiom, sorry.
-/
import Derived.Test.YtodgeciggbeolaaGreatDoorRows
import GoSem.ClaimSeven
namespace Go.Proofs.YtodgeciggbeolaaGreatDoor
namespace Rows

/-- THE TIED CARD OF 'belfrylaw13.OrderOf'. -/
def orderOfCard : Claim7 := { stood := { row := orderOfRow, standIns := [], harness := (true, "e89912b032fb6d889b6e2998f67f62898f33c3c16b7651e34d282d50c6c661f9"), looks := true }, kinds := [], alts := [], laidByText := true, laidKinds := [.data, .data, .data], laidTests := true, laidLooks := .later }
def OrderOfCardSaid : Prop := Claim7.holds Tryz.pinned (.plain (OpenSpec.ofChange orderOfSpec)) orderOfCard

/-- THE SECOND FORM's CARD OF 'belfrylaw13.OrderOf'. -/
def orderOfUptoCard : Claim7 := { stood := { row := orderOfUptoRow, standIns := [], harness := (true, "e89912b032fb6d889b6e2998f67f62898f33c3c16b7651e34d282d50c6c661f9"), looks := true }, kinds := [], alts := [], laidByText := true, laidKinds := [.data, .data, .data], laidTests := true, laidLooks := .later }
def OrderOfUptoCardSaid : Prop := Claim7.holds Tryz.pinned (.plain (OpenSpec.upto orderOfSpec)) orderOfUptoCard
end Rows
end Go.Proofs.YtodgeciggbeolaaGreatDoor
