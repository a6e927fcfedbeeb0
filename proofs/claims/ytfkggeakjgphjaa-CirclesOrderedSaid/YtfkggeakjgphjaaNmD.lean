/- what tokens.Name answers, for the printed texts: plain definitions. -/
import Derived.Test.YtfkggeakjgphjaaTok
import Derived.Test.YtfkggeakjgphjaaCx0
import Derived.Test.YtfkggeakjgphjaaShelf
namespace Go.Proofs.Ytfkggeakjgphjaa.C
set_option linter.unusedVariables false
set_option linter.unusedSimpArgs false
open Go.RowKit Go.Proofs.YtfkggeakjgphjaaW.PrintWords Go.Proofs.YtfkggeakjgphjaaW.PrintLast Go.Proofs.YtfkggeakjgphjaaW.PrintMore
def words : List ByteArray := [⟨#[115, 116, 97, 116, 105, 111, 110, 115]⟩, ⟨#[105, 110]⟩, ⟨#[97, 116]⟩, ⟨#[102, 108, 111, 119]⟩, ⟨#[100, 101, 102, 97, 117, 108, 116]⟩, ⟨#[111, 117, 116]⟩, ⟨#[105, 102]⟩, ⟨#[116, 104, 101, 110]⟩, ⟨#[101, 108, 115, 101]⟩, ⟨#[112, 114, 101]⟩, ⟨#[97, 110, 100]⟩, ⟨#[111, 114]⟩, ⟨#[110, 111, 116]⟩, ⟨#[116, 114, 117, 101]⟩, ⟨#[102, 97, 108, 115, 101]⟩, ⟨#[105, 110, 116]⟩, ⟨#[98, 111, 111, 108]⟩]
def nameOk (s : ByteArray) : Bool := decide (0 < s.size) && (decide (s.size ≤ 40) && (decide (Tok.wordLen (bytesOf s) = s.size) && !(words.any fun x => x.data.toList == s.data.toList)))
def tokens_Name.f (a0 : ByteArray) : Option (Bool) := some (nameOk a0)
end Go.Proofs.Ytfkggeakjgphjaa.C
