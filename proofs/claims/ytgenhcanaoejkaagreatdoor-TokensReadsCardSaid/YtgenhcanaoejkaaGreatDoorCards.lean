/-
  DERIVED. GIVEN WITH THE SEED: THE CARDS: each row of YtgenhcanaoejkaaGreatDoorRows.lean that lists a variable, with what it lists TIED to the program's text (the seventh form; the later family's looks); each row that meets fmt, with fmt's text TOLD by the authors' own Lean function (tested against real Go, not proved from fmt's source: count such statements apart). THE CARD IS WHAT COUNTS. Prove the row's statement (the work); the ties are given (YtgenhcanaoejkaaGreatDoorTie.lean); close each card by the builder's one call (the guide's Derived/Test/ToyasCard.lean, 'card_holds'). Laid BY PROGRAM, IN A SANDBOX (cutbox-door.mjs). By AI agents, Wed Nov 11 2026. No macro, syntax, notation, axiom, sorry.
-/
import Derived.Test.YtgenhcanaoejkaaGreatDoorRows
import GoSem.ClaimSeven
namespace Go.Proofs.YtgenhcanaoejkaaGreatDoor
namespace Rows

/-- THE TIED CARD OF 'belfrylaw04.TokensReads'. -/
def tokensReadsCard : Claim7 := { stood := { row := tokensReadsRow, standIns := [], harness := (true, "e0c7eb87d9f02a8753ccd1c778a8dadd963b7d6cd9b1cab62c497b8d2f4652af"), looks := false }, kinds := [], alts := [], laidByText := true, laidKinds := [.data, .data, .data, .data, .pinned], laidTests := true, laidLooks := .later }
def TokensReadsCardSaid : Prop := Claim7.holds Tryz.pinned (.plain (OpenSpec.ofChange tokensReadsSpec)) tokensReadsCard

/-- THE SECOND FORM's CARD OF 'belfrylaw04.TokensReads'. -/
def tokensReadsUptoCard : Claim7 := { stood := { row := tokensReadsUptoRow, standIns := [], harness := (true, "e0c7eb87d9f02a8753ccd1c778a8dadd963b7d6cd9b1cab62c497b8d2f4652af"), looks := false }, kinds := [], alts := [], laidByText := true, laidKinds := [.data, .data, .data, .data, .pinned], laidTests := true, laidLooks := .later }
def TokensReadsUptoCardSaid : Prop := Claim7.holds Tryz.pinned (.plain (OpenSpec.upto tokensReadsSpec)) tokensReadsUptoCard
end Rows
end Go.Proofs.YtgenhcanaoejkaaGreatDoor
