/-
  DERIVED. GIVEN WITH THE SEED: THE CARDS: each row of YtgenhcanaoejkaaDoorRows.lean that lists a variable, with what it lists TIED to the program's text (the seventh form; the later family's looks); each row that meets fmt, with fmt's text TOLD by the authors' own Lean function (tested against real Go, not proved from fmt's source: count such statements apart). THE CARD IS WHAT COUNTS. Prove the row's statement (the work); the ties are given (YtgenhcanaoejkaaDoorTie.lean); close each card by the builder's one call (the guide's Derived/Test/ToyasCard.lean, 'card_holds'). Laid BY PROGRAM, IN A SANDBOX (cutbox-door.mjs). By AI agents, Wed Nov 11 2026. No macro, syntax, notation, axiom, sorry.
-/
import Derived.Test.YtgenhcanaoejkaaDoorRows
import GoSem.ClaimSeven
namespace Go.Proofs.YtgenhcanaoejkaaDoor
namespace Rows

/-- THE TIED CARD OF 'belfrylaw04.TokensNames'. -/
def tokensNamesCard : Claim7 := { stood := { row := tokensNamesRow, standIns := [], harness := (true, "bf78440ec40ad6247cb4a3263505e2168dcb1c860fb1dfce23664dc5d521ad87"), looks := true }, kinds := [], alts := [], laidByText := true, laidKinds := [.data, .data, .data, .sentinel, .sentinel], laidTests := true, laidLooks := .later }
def TokensNamesCardSaid : Prop := Claim7.holds Tryd.pinned (.plain (OpenSpec.ofChange tokensNamesSpec)) tokensNamesCard

/-- THE TIED CARD OF 'belfrylaw04.TokensPlaces'. -/
def tokensPlacesCard : Claim7 := { stood := { row := tokensPlacesRow, standIns := [], harness := (true, "bf78440ec40ad6247cb4a3263505e2168dcb1c860fb1dfce23664dc5d521ad87"), looks := true }, kinds := [], alts := [], laidByText := true, laidKinds := [.data, .data, .data, .data, .sentinel, .sentinel, .pinned], laidTests := true, laidLooks := .later }
def TokensPlacesCardSaid : Prop := Claim7.holds Tryd.pinned (.plain (OpenSpec.ofChange tokensPlacesSpec)) tokensPlacesCard

/-- THE TIED CARD OF 'belfrylaw04.TokensAgain'. -/
def tokensAgainCard : Claim7 := { stood := { row := tokensAgainRow, standIns := [], harness := (true, "bf78440ec40ad6247cb4a3263505e2168dcb1c860fb1dfce23664dc5d521ad87"), looks := true }, kinds := [], alts := [], laidByText := true, laidKinds := [.data, .data, .data, .data, .sentinel, .sentinel, .pinned], laidTests := true, laidLooks := .later }
def TokensAgainCardSaid : Prop := Claim7.holds Tryd.pinned (.plain (OpenSpec.ofChange tokensAgainSpec)) tokensAgainCard

/-- THE TIED CARD OF 'belfrylaw04.TokensJoins'. -/
def tokensJoinsCard : Claim7 := { stood := { row := tokensJoinsRow, standIns := [], harness := (true, "bf78440ec40ad6247cb4a3263505e2168dcb1c860fb1dfce23664dc5d521ad87"), looks := true }, kinds := [], alts := [], laidByText := true, laidKinds := [.data, .data, .data, .data, .sentinel, .sentinel, .pinned], laidTests := true, laidLooks := .later }
def TokensJoinsCardSaid : Prop := Claim7.holds Tryd.pinned (.plain (OpenSpec.ofChange tokensJoinsSpec)) tokensJoinsCard

/-- THE TIED CARD OF 'belfrylaw04.TokensDigits'. -/
def tokensDigitsCard : Claim7 := { stood := { row := tokensDigitsRow, standIns := [], harness := (true, "bf78440ec40ad6247cb4a3263505e2168dcb1c860fb1dfce23664dc5d521ad87"), looks := true }, kinds := [], alts := [], laidByText := true, laidKinds := [.data, .data, .data, .data, .sentinel, .sentinel, .pinned], laidTests := true, laidLooks := .later }
def TokensDigitsCardSaid : Prop := Claim7.holds Tryd.pinned (.plain (OpenSpec.ofChange tokensDigitsSpec)) tokensDigitsCard

/-- THE TIED CARD OF 'belfrylaw04.TokensWords'. -/
def tokensWordsCard : Claim7 := { stood := { row := tokensWordsRow, standIns := [], harness := (true, "bf78440ec40ad6247cb4a3263505e2168dcb1c860fb1dfce23664dc5d521ad87"), looks := true }, kinds := [], alts := [], laidByText := true, laidKinds := [.data, .data, .data, .data, .sentinel, .sentinel, .pinned], laidTests := true, laidLooks := .later }
def TokensWordsCardSaid : Prop := Claim7.holds Tryd.pinned (.plain (OpenSpec.ofChange tokensWordsSpec)) tokensWordsCard

/-- THE TIED CARD OF 'belfrylaw04.TokensAhead'. -/
def tokensAheadCard : Claim7 := { stood := { row := tokensAheadRow, standIns := [], harness := (true, "bf78440ec40ad6247cb4a3263505e2168dcb1c860fb1dfce23664dc5d521ad87"), looks := true }, kinds := [], alts := [], laidByText := true, laidKinds := [.data, .data, .data, .data, .sentinel, .sentinel, .pinned], laidTests := true, laidLooks := .later }
def TokensAheadCardSaid : Prop := Claim7.holds Tryd.pinned (.plain (OpenSpec.ofChange tokensAheadSpec)) tokensAheadCard

/-- THE SECOND FORM's CARD OF 'belfrylaw04.TokensNames'. -/
def tokensNamesUptoCard : Claim7 := { stood := { row := tokensNamesUptoRow, standIns := [], harness := (true, "bf78440ec40ad6247cb4a3263505e2168dcb1c860fb1dfce23664dc5d521ad87"), looks := true }, kinds := [], alts := [], laidByText := true, laidKinds := [.data, .data, .data, .sentinel, .sentinel], laidTests := true, laidLooks := .later }
def TokensNamesUptoCardSaid : Prop := Claim7.holds Tryd.pinned (.plain (OpenSpec.upto tokensNamesSpec)) tokensNamesUptoCard

/-- THE SECOND FORM's CARD OF 'belfrylaw04.TokensPlaces'. -/
def tokensPlacesUptoCard : Claim7 := { stood := { row := tokensPlacesUptoRow, standIns := [], harness := (true, "bf78440ec40ad6247cb4a3263505e2168dcb1c860fb1dfce23664dc5d521ad87"), looks := true }, kinds := [], alts := [], laidByText := true, laidKinds := [.data, .data, .data, .data, .sentinel, .sentinel, .pinned], laidTests := true, laidLooks := .later }
def TokensPlacesUptoCardSaid : Prop := Claim7.holds Tryd.pinned (.plain (OpenSpec.upto tokensPlacesSpec)) tokensPlacesUptoCard

/-- THE SECOND FORM's CARD OF 'belfrylaw04.TokensAgain'. -/
def tokensAgainUptoCard : Claim7 := { stood := { row := tokensAgainUptoRow, standIns := [], harness := (true, "bf78440ec40ad6247cb4a3263505e2168dcb1c860fb1dfce23664dc5d521ad87"), looks := true }, kinds := [], alts := [], laidByText := true, laidKinds := [.data, .data, .data, .data, .sentinel, .sentinel, .pinned], laidTests := true, laidLooks := .later }
def TokensAgainUptoCardSaid : Prop := Claim7.holds Tryd.pinned (.plain (OpenSpec.upto tokensAgainSpec)) tokensAgainUptoCard

/-- THE SECOND FORM's CARD OF 'belfrylaw04.TokensJoins'. -/
def tokensJoinsUptoCard : Claim7 := { stood := { row := tokensJoinsUptoRow, standIns := [], harness := (true, "bf78440ec40ad6247cb4a3263505e2168dcb1c860fb1dfce23664dc5d521ad87"), looks := true }, kinds := [], alts := [], laidByText := true, laidKinds := [.data, .data, .data, .data, .sentinel, .sentinel, .pinned], laidTests := true, laidLooks := .later }
def TokensJoinsUptoCardSaid : Prop := Claim7.holds Tryd.pinned (.plain (OpenSpec.upto tokensJoinsSpec)) tokensJoinsUptoCard

/-- THE SECOND FORM's CARD OF 'belfrylaw04.TokensDigits'. -/
def tokensDigitsUptoCard : Claim7 := { stood := { row := tokensDigitsUptoRow, standIns := [], harness := (true, "bf78440ec40ad6247cb4a3263505e2168dcb1c860fb1dfce23664dc5d521ad87"), looks := true }, kinds := [], alts := [], laidByText := true, laidKinds := [.data, .data, .data, .data, .sentinel, .sentinel, .pinned], laidTests := true, laidLooks := .later }
def TokensDigitsUptoCardSaid : Prop := Claim7.holds Tryd.pinned (.plain (OpenSpec.upto tokensDigitsSpec)) tokensDigitsUptoCard

/-- THE SECOND FORM's CARD OF 'belfrylaw04.TokensWords'. -/
def tokensWordsUptoCard : Claim7 := { stood := { row := tokensWordsUptoRow, standIns := [], harness := (true, "bf78440ec40ad6247cb4a3263505e2168dcb1c860fb1dfce23664dc5d521ad87"), looks := true }, kinds := [], alts := [], laidByText := true, laidKinds := [.data, .data, .data, .data, .sentinel, .sentinel, .pinned], laidTests := true, laidLooks := .later }
def TokensWordsUptoCardSaid : Prop := Claim7.holds Tryd.pinned (.plain (OpenSpec.upto tokensWordsSpec)) tokensWordsUptoCard

/-- THE SECOND FORM's CARD OF 'belfrylaw04.TokensAhead'. -/
def tokensAheadUptoCard : Claim7 := { stood := { row := tokensAheadUptoRow, standIns := [], harness := (true, "bf78440ec40ad6247cb4a3263505e2168dcb1c860fb1dfce23664dc5d521ad87"), looks := true }, kinds := [], alts := [], laidByText := true, laidKinds := [.data, .data, .data, .data, .sentinel, .sentinel, .pinned], laidTests := true, laidLooks := .later }
def TokensAheadUptoCardSaid : Prop := Claim7.holds Tryd.pinned (.plain (OpenSpec.upto tokensAheadSpec)) tokensAheadUptoCard
end Rows
end Go.Proofs.YtgenhcanaoejkaaDoor
