/- What tokens.Read answers, for the printed texts: plain definitions. -/
import Derived.Test.YtgenhcanaoejkaaGreatDoorTokQ
import Derived.Test.YtgenhcanaoejkaaGreatDoorSx0
namespace Go.Proofs.YtgenhcanaoejkaaGreatDoor.S
set_option linter.unusedVariables false
set_option linter.unusedSimpArgs false
open Go.RowKit Go.Proofs.YtgenhcanaoejkaaGreatDoorW.PrintWords Go.Proofs.YtgenhcanaoejkaaGreatDoorW.PrintLast Go.Proofs.YtgenhcanaoejkaaGreatDoorW.PrintMore
/-- bytes as a string. -/
def ofB (l : List Int) : ByteArray := ⟨(l.map fun c => UInt8.ofNat c.toNat).toArray⟩
def toS (t : Tok.T) : S54 := ⟨t.kind, ofB t.text, t.pos⟩
def readOf (x : Option (List Tok.T) × Nat) : (List S54) × Int × Int := match x with
  | (some ts, _) => (ts.map toS, 0, 0)
  | (none, q) => ([], (q : Int), 5)
def tokens_Read.f (a0 : ByteArray) : Option ((List (S54)) × Int × Int) := some (if a0.size ≤ 65536 then readOf (Tok.R (bytesOf a0) 0) else ([], 0, 3))
end Go.Proofs.YtgenhcanaoejkaaGreatDoor.S
