/-
  DERIVED. GIVEN WITH THE SEED: THE CARDS: each row of YtbdciibbgiphcaaGreatDoorRows.lean that lists a variable, with what it lists TIED to the program's text (the seventh form; the later family's looks); each row that meets fmt, with fmt's text TOLD by the authors' own Lean function (tested against real Go, not proved from fmt's source: count such statements apart). THE CARD IS WHAT COUNTS. Prove the row's statement (the work); the ties are given (YtbdciibbgiphcaaGreatDoorTie.lean); close each card by the builder's one call (the guide's Derived/Test/ToyasCard.lean, 'card_holds'). Laid BY PROGRAM, IN A SANDBOX (cutbox-door.mjs). By AI agents, Wed Nov 11 2026. No macro, syntax, notation, axiom, sorry.
-/
import Derived.Test.YtbdciibbgiphcaaGreatDoorRows
import GoSem.ClaimSeven
namespace Go.Proofs.YtbdciibbgiphcaaGreatDoor
namespace Rows

/-- THE TIED CARD OF 'belfrylaw05.ExprsRefs'. -/
def exprsRefsCard : Claim7 := { stood := { row := exprsRefsRow, standIns := [], harness := (true, "d7b183da9de992fc4f102bb0ace973706f5da2936a77f59ef64ba13561a101df"), looks := false }, kinds := [], alts := [], laidByText := true, laidKinds := [.data, .data, .data], laidTests := true, laidLooks := .later }
def ExprsRefsCardSaid : Prop := Claim7.holds Tryz.pinned (.plain (OpenSpec.ofChange exprsRefsSpec)) exprsRefsCard

/-- THE SECOND FORM's CARD OF 'belfrylaw05.ExprsRefs'. -/
def exprsRefsUptoCard : Claim7 := { stood := { row := exprsRefsUptoRow, standIns := [], harness := (true, "d7b183da9de992fc4f102bb0ace973706f5da2936a77f59ef64ba13561a101df"), looks := false }, kinds := [], alts := [], laidByText := true, laidKinds := [.data, .data, .data], laidTests := true, laidLooks := .later }
def ExprsRefsUptoCardSaid : Prop := Claim7.holds Tryz.pinned (.plain (OpenSpec.upto exprsRefsSpec)) exprsRefsUptoCard
end Rows
end Go.Proofs.YtbdciibbgiphcaaGreatDoor
