/-
  DERIVED. GIVEN WITH THE SEED: THE CARDS: each row of YtbdciibbgiphcaaDoorRows.lean that lists a variable, with what it lists TIED to the program's text (the seventh form; the later family's looks); each row that meets fmt, with fmt's text TOLD by the authors' own Lean function (tested against real Go, not proved from fmt's source: count such statements apart). THE CARD IS WHAT COUNTS. Prove the row's statement (the work); the ties are given (YtbdciibbgiphcaaDoorTie.lean); close each card by the builder's one call (the guide's Derived/Test/ToyasCard.lean, 'card_holds'). Laid BY PROGRAM, IN A SANDBOX (cutbox-door.mjs). By AI agents, Wed Nov 11 2026. No macro, syntax, notation, axiom, sorry.
-/
import Derived.Test.YtbdciibbgiphcaaDoorRows
import GoSem.ClaimSeven
namespace Go.Proofs.YtbdciibbgiphcaaDoor
namespace Rows

/-- THE TIED CARD OF 'belfrylaw05.ExprsTexts'. -/
def exprsTextsCard : Claim7 := { stood := { row := exprsTextsRow, standIns := [], harness := (true, "12f6fd4a1ca24f68a4083e78b506cf8cbd9759aede10807852c1897726860fcb"), looks := true }, kinds := [], alts := [], laidByText := true, laidKinds := [.data, .data, .data], laidTests := true, laidLooks := .later }
def ExprsTextsCardSaid : Prop := Claim7.holds Tryd.pinned (.plain (OpenSpec.ofChange exprsTextsSpec)) exprsTextsCard

/-- THE TIED CARD OF 'belfrylaw05.ExprsBack'. -/
def exprsBackCard : Claim7 := { stood := { row := exprsBackRow, standIns := [], harness := (true, "12f6fd4a1ca24f68a4083e78b506cf8cbd9759aede10807852c1897726860fcb"), looks := true }, kinds := [], alts := [], laidByText := true, laidKinds := [.data, .data, .data, .data, .sentinel, .sentinel, .pinned], laidTests := true, laidLooks := .later }
def ExprsBackCardSaid : Prop := Claim7.holds Tryd.pinned (.plain (OpenSpec.ofChange exprsBackSpec)) exprsBackCard

/-- THE TIED CARD OF 'belfrylaw05.ExprsBrackets'. -/
def exprsBracketsCard : Claim7 := { stood := { row := exprsBracketsRow, standIns := [], harness := (true, "12f6fd4a1ca24f68a4083e78b506cf8cbd9759aede10807852c1897726860fcb"), looks := true }, kinds := [], alts := [], laidByText := true, laidKinds := [.data, .data, .data, .data, .sentinel, .sentinel, .pinned], laidTests := true, laidLooks := .later }
def ExprsBracketsCardSaid : Prop := Claim7.holds Tryd.pinned (.plain (OpenSpec.ofChange exprsBracketsSpec)) exprsBracketsCard

/-- THE TIED CARD OF 'belfrylaw05.ExprsAgo'. -/
def exprsAgoCard : Claim7 := { stood := { row := exprsAgoRow, standIns := [], harness := (true, "12f6fd4a1ca24f68a4083e78b506cf8cbd9759aede10807852c1897726860fcb"), looks := true }, kinds := [], alts := [], laidByText := true, laidKinds := [.data, .data, .data, .data, .sentinel, .sentinel, .pinned], laidTests := true, laidLooks := .later }
def ExprsAgoCardSaid : Prop := Claim7.holds Tryd.pinned (.plain (OpenSpec.ofChange exprsAgoSpec)) exprsAgoCard

/-- THE TIED CARD OF 'belfrylaw05.ExprsGreat'. -/
def exprsGreatCard : Claim7 := { stood := { row := exprsGreatRow, standIns := [], harness := (true, "12f6fd4a1ca24f68a4083e78b506cf8cbd9759aede10807852c1897726860fcb"), looks := true }, kinds := [], alts := [], laidByText := true, laidKinds := [.data, .data, .data, .data, .sentinel, .sentinel, .pinned], laidTests := true, laidLooks := .later }
def ExprsGreatCardSaid : Prop := Claim7.holds Tryd.pinned (.plain (OpenSpec.ofChange exprsGreatSpec)) exprsGreatCard

/-- THE TIED CARD OF 'belfrylaw05.ExprsOdd'. -/
def exprsOddCard : Claim7 := { stood := { row := exprsOddRow, standIns := [], harness := (true, "12f6fd4a1ca24f68a4083e78b506cf8cbd9759aede10807852c1897726860fcb"), looks := true }, kinds := [], alts := [], laidByText := true, laidKinds := [.data, .data, .data, .data, .sentinel, .sentinel, .pinned], laidTests := true, laidLooks := .later }
def ExprsOddCardSaid : Prop := Claim7.holds Tryd.pinned (.plain (OpenSpec.ofChange exprsOddSpec)) exprsOddCard

/-- THE TIED CARD OF 'belfrylaw05.ExprsRanks'. -/
def exprsRanksCard : Claim7 := { stood := { row := exprsRanksRow, standIns := [], harness := (true, "12f6fd4a1ca24f68a4083e78b506cf8cbd9759aede10807852c1897726860fcb"), looks := true }, kinds := [], alts := [], laidByText := true, laidKinds := [.data, .data, .data, .data, .sentinel, .sentinel, .pinned], laidTests := true, laidLooks := .later }
def ExprsRanksCardSaid : Prop := Claim7.holds Tryd.pinned (.plain (OpenSpec.ofChange exprsRanksSpec)) exprsRanksCard

/-- THE SECOND FORM's CARD OF 'belfrylaw05.ExprsTexts'. -/
def exprsTextsUptoCard : Claim7 := { stood := { row := exprsTextsUptoRow, standIns := [], harness := (true, "12f6fd4a1ca24f68a4083e78b506cf8cbd9759aede10807852c1897726860fcb"), looks := true }, kinds := [], alts := [], laidByText := true, laidKinds := [.data, .data, .data], laidTests := true, laidLooks := .later }
def ExprsTextsUptoCardSaid : Prop := Claim7.holds Tryd.pinned (.plain (OpenSpec.upto exprsTextsSpec)) exprsTextsUptoCard

/-- THE SECOND FORM's CARD OF 'belfrylaw05.ExprsBack'. -/
def exprsBackUptoCard : Claim7 := { stood := { row := exprsBackUptoRow, standIns := [], harness := (true, "12f6fd4a1ca24f68a4083e78b506cf8cbd9759aede10807852c1897726860fcb"), looks := true }, kinds := [], alts := [], laidByText := true, laidKinds := [.data, .data, .data, .data, .sentinel, .sentinel, .pinned], laidTests := true, laidLooks := .later }
def ExprsBackUptoCardSaid : Prop := Claim7.holds Tryd.pinned (.plain (OpenSpec.upto exprsBackSpec)) exprsBackUptoCard

/-- THE SECOND FORM's CARD OF 'belfrylaw05.ExprsBrackets'. -/
def exprsBracketsUptoCard : Claim7 := { stood := { row := exprsBracketsUptoRow, standIns := [], harness := (true, "12f6fd4a1ca24f68a4083e78b506cf8cbd9759aede10807852c1897726860fcb"), looks := true }, kinds := [], alts := [], laidByText := true, laidKinds := [.data, .data, .data, .data, .sentinel, .sentinel, .pinned], laidTests := true, laidLooks := .later }
def ExprsBracketsUptoCardSaid : Prop := Claim7.holds Tryd.pinned (.plain (OpenSpec.upto exprsBracketsSpec)) exprsBracketsUptoCard

/-- THE SECOND FORM's CARD OF 'belfrylaw05.ExprsAgo'. -/
def exprsAgoUptoCard : Claim7 := { stood := { row := exprsAgoUptoRow, standIns := [], harness := (true, "12f6fd4a1ca24f68a4083e78b506cf8cbd9759aede10807852c1897726860fcb"), looks := true }, kinds := [], alts := [], laidByText := true, laidKinds := [.data, .data, .data, .data, .sentinel, .sentinel, .pinned], laidTests := true, laidLooks := .later }
def ExprsAgoUptoCardSaid : Prop := Claim7.holds Tryd.pinned (.plain (OpenSpec.upto exprsAgoSpec)) exprsAgoUptoCard

/-- THE SECOND FORM's CARD OF 'belfrylaw05.ExprsGreat'. -/
def exprsGreatUptoCard : Claim7 := { stood := { row := exprsGreatUptoRow, standIns := [], harness := (true, "12f6fd4a1ca24f68a4083e78b506cf8cbd9759aede10807852c1897726860fcb"), looks := true }, kinds := [], alts := [], laidByText := true, laidKinds := [.data, .data, .data, .data, .sentinel, .sentinel, .pinned], laidTests := true, laidLooks := .later }
def ExprsGreatUptoCardSaid : Prop := Claim7.holds Tryd.pinned (.plain (OpenSpec.upto exprsGreatSpec)) exprsGreatUptoCard

/-- THE SECOND FORM's CARD OF 'belfrylaw05.ExprsOdd'. -/
def exprsOddUptoCard : Claim7 := { stood := { row := exprsOddUptoRow, standIns := [], harness := (true, "12f6fd4a1ca24f68a4083e78b506cf8cbd9759aede10807852c1897726860fcb"), looks := true }, kinds := [], alts := [], laidByText := true, laidKinds := [.data, .data, .data, .data, .sentinel, .sentinel, .pinned], laidTests := true, laidLooks := .later }
def ExprsOddUptoCardSaid : Prop := Claim7.holds Tryd.pinned (.plain (OpenSpec.upto exprsOddSpec)) exprsOddUptoCard

/-- THE SECOND FORM's CARD OF 'belfrylaw05.ExprsRanks'. -/
def exprsRanksUptoCard : Claim7 := { stood := { row := exprsRanksUptoRow, standIns := [], harness := (true, "12f6fd4a1ca24f68a4083e78b506cf8cbd9759aede10807852c1897726860fcb"), looks := true }, kinds := [], alts := [], laidByText := true, laidKinds := [.data, .data, .data, .data, .sentinel, .sentinel, .pinned], laidTests := true, laidLooks := .later }
def ExprsRanksUptoCardSaid : Prop := Claim7.holds Tryd.pinned (.plain (OpenSpec.upto exprsRanksSpec)) exprsRanksUptoCard
end Rows
end Go.Proofs.YtbdciibbgiphcaaDoor
