/- What the functions of the package tokens answer, for the printed texts: plain definitions. -/
import Derived.Test.YtgenhcanaoejkaaDoorTokQ
import Derived.Test.YtgenhcanaoejkaaDoorSx0
import Derived.Test.YtgenhcanaoejkaaDoorShelf
namespace Go.Proofs.YtgenhcanaoejkaaDoor.S
set_option linter.unusedVariables false
set_option linter.unusedSimpArgs false
open Go.RowKit Go.Proofs.YtgenhcanaoejkaaDoorW.PrintWords Go.Proofs.YtgenhcanaoejkaaDoorW.PrintLast Go.Proofs.YtgenhcanaoejkaaDoorW.PrintMore
/-- the variable that a number too great leads to holds an error. -/
def VarOk (w : World) : Prop := ∃ tp p, w.var? Tryd.prog "strconv.ErrRange" = some #[.iface tp p]
/-- bytes as a string. -/
def ofB (l : List Int) : ByteArray := ⟨(l.map fun c => UInt8.ofNat c.toNat).toArray⟩
def toS (t : Tok.T) : S32 := ⟨t.kind, ofB t.text, t.pos⟩
def readOf (x : Option (List Tok.T) × Nat) : (List S32) × Int × Int := match x with
  | (some ts, _) => (ts.map toS, 0, 0)
  | (none, q) => ([], (q : Int), 5)
def tokens_Read.f (a0 : ByteArray) : Option ((List (S32)) × Int × Int) := some (if a0.size ≤ 65536 then readOf (Tok.R (bytesOf a0) 0) else ([], 0, 3))
def words : List ByteArray := [⟨#[115, 116, 97, 116, 105, 111, 110, 115]⟩, ⟨#[105, 110]⟩, ⟨#[97, 116]⟩, ⟨#[102, 108, 111, 119]⟩, ⟨#[100, 101, 102, 97, 117, 108, 116]⟩, ⟨#[111, 117, 116]⟩, ⟨#[105, 102]⟩, ⟨#[116, 104, 101, 110]⟩, ⟨#[101, 108, 115, 101]⟩, ⟨#[112, 114, 101]⟩, ⟨#[97, 110, 100]⟩, ⟨#[111, 114]⟩, ⟨#[110, 111, 116]⟩, ⟨#[116, 114, 117, 101]⟩, ⟨#[102, 97, 108, 115, 101]⟩, ⟨#[105, 110, 116]⟩, ⟨#[98, 111, 111, 108]⟩]
def nameOk (s : ByteArray) : Bool := decide (0 < s.size) && (decide (s.size ≤ 40) && (decide (Tok.wordLen (bytesOf s) = s.size) && !(words.any fun x => x.data.toList == s.data.toList)))
def tokens_Name.f (a0 : ByteArray) : Option (Bool) := some (nameOk a0)
def numberOf (s : ByteArray) : Option (Int × Int) := if 0 < s.size ∧ Tok.numLen (bytesOf s) = s.size then (match Lib.parseIntB 64 s.data.toList with
  | .ok v => some (v, 0)
  | .range => some (0, 3)
  | _ => none) else some (0, 5)
def tokens_Number.f (a0 : ByteArray) : Option (Int × Int) := if a0.size ≤ 281474976710656 then numberOf a0 else none
def belfrylaw04_alive.f  : Option (Bool) := some true
end Go.Proofs.YtgenhcanaoejkaaDoor.S
