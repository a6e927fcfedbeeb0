/- The law's walk; what the cell laid gives. Joined by wip/merge.py (ours) from several texts of this seat. -/
import Derived.Test.YtbdciibbgiphcaaDoorNG
import Derived.Test.YtbdciibbgiphcaaDoorNH
import Derived.BigQuiet
import Derived.Deep.QuietTactic
import Derived.Test.YtbdciibbgiphcaaDoorRows
import Derived.Test.YtbdciibbgiphcaaDoorNC
import Derived.Lib.LaidTab
import Derived.MakeChecks
import Derived.Test.YtbdciibbgiphcaaDoorNA
import Derived.Stop.LaidErr
/- Two operators of two: how they are read, how they are written. -/
namespace Go.Proofs.YtbdciibbgiphcaaDoor.V
set_option linter.unusedVariables false
set_option linter.unusedSimpArgs false
set_option linter.unusedSectionVars false
open Go.RowKit Go.Proofs.YtbdciibbgiphcaaDoorW.PrintWords Go.Proofs.YtbdciibbgiphcaaDoorW.PrintLast Go.Proofs.YtbdciibbgiphcaaDoorW.PrintMore
def opsT : List Int := [18, 16, 15, 11, 12, 13, 14, 6, 7, 8, 9, 10]
def sgT : List ByteArray := [⟨#[45, 62]⟩, ⟨#[111, 114]⟩, ⟨#[97, 110, 100]⟩, ⟨#[61, 61]⟩, ⟨#[33, 61]⟩, ⟨#[60]⟩, ⟨#[60, 61]⟩, ⟨#[43]⟩, ⟨#[45]⟩, ⟨#[42]⟩, ⟨#[47]⟩, ⟨#[37]⟩]
def rkT : List Int := [0, 1, 2, 3, 3, 3, 3, 4, 4, 5, 5, 5]
def opT (i : Nat) : Int := opsT.getD i 0
def siT (i : Nat) : ByteArray := sgT.getD i ⟨#[]⟩
def raT (i : Nat) : Int := rkT.getD i 0
def leftT (i k : Nat) : S25 := tO (opT k) [tO (opT i) [tA, tB], tC]
def rightT (i k : Nat) : S25 := tO (opT i) [tA, tO (opT k) [tB, tC]]
def plainT (i k : Nat) : ByteArray := ((((⟨#[97, 32]⟩ : ByteArray) ++ siT i) ++ ⟨#[32, 98, 32]⟩) ++ siT k) ++ ⟨#[32, 99]⟩
def firstT (i k : Nat) : ByteArray := ((((⟨#[40, 97, 32]⟩ : ByteArray) ++ siT i) ++ ⟨#[32, 98, 41, 32]⟩) ++ siT k) ++ ⟨#[32, 99]⟩
def secondT (i k : Nat) : ByteArray := ((((⟨#[97, 32]⟩ : ByteArray) ++ siT i) ++ ⟨#[32, 40, 98, 32]⟩) ++ siT k) ++ ⟨#[32, 99, 41]⟩
def IsT (s : ByteArray) (x : S25) : Prop := readP s = some (x, true) ∧ textE nameOk x = (s, 0)
def way (i k : Nat) : Nat := if raT i = 3 ∧ raT k = 3 then 0 else if raT k < raT i ∨ raT i = raT k ∧ 0 < raT i then 1 else 2
theorem wayT_plain : ∀ (i k : Nat), i < 12 → k < 12 → (way i k = 0 → readP (plainT i k) = some (tO (opT i) [tA, tB], false)) ∧ (way i k = 1 → IsT (plainT i k) (leftT i k)) ∧ (way i k = 2 → IsT (plainT i k) (rightT i k))
 | 0, 0, _, _ => ⟨fun h => absurd h (by decide), fun h => absurd h (by decide), fun _ => ⟨by kernel_rfl, by kernel_rfl⟩⟩
 | 0, 1, _, _ => ⟨fun h => absurd h (by decide), fun h => absurd h (by decide), fun _ => ⟨by kernel_rfl, by kernel_rfl⟩⟩
 | 0, 2, _, _ => ⟨fun h => absurd h (by decide), fun h => absurd h (by decide), fun _ => ⟨by kernel_rfl, by kernel_rfl⟩⟩
 | 0, 3, _, _ => ⟨fun h => absurd h (by decide), fun h => absurd h (by decide), fun _ => ⟨by kernel_rfl, by kernel_rfl⟩⟩
 | 0, 4, _, _ => ⟨fun h => absurd h (by decide), fun h => absurd h (by decide), fun _ => ⟨by kernel_rfl, by kernel_rfl⟩⟩
 | 0, 5, _, _ => ⟨fun h => absurd h (by decide), fun h => absurd h (by decide), fun _ => ⟨by kernel_rfl, by kernel_rfl⟩⟩
 | 0, 6, _, _ => ⟨fun h => absurd h (by decide), fun h => absurd h (by decide), fun _ => ⟨by kernel_rfl, by kernel_rfl⟩⟩
 | 0, 7, _, _ => ⟨fun h => absurd h (by decide), fun h => absurd h (by decide), fun _ => ⟨by kernel_rfl, by kernel_rfl⟩⟩
 | 0, 8, _, _ => ⟨fun h => absurd h (by decide), fun h => absurd h (by decide), fun _ => ⟨by kernel_rfl, by kernel_rfl⟩⟩
 | 0, 9, _, _ => ⟨fun h => absurd h (by decide), fun h => absurd h (by decide), fun _ => ⟨by kernel_rfl, by kernel_rfl⟩⟩
 | 0, 10, _, _ => ⟨fun h => absurd h (by decide), fun h => absurd h (by decide), fun _ => ⟨by kernel_rfl, by kernel_rfl⟩⟩
 | 0, 11, _, _ => ⟨fun h => absurd h (by decide), fun h => absurd h (by decide), fun _ => ⟨by kernel_rfl, by kernel_rfl⟩⟩
 | 1, 0, _, _ => ⟨fun h => absurd h (by decide), fun _ => ⟨by kernel_rfl, by kernel_rfl⟩, fun h => absurd h (by decide)⟩
 | 1, 1, _, _ => ⟨fun h => absurd h (by decide), fun _ => ⟨by kernel_rfl, by kernel_rfl⟩, fun h => absurd h (by decide)⟩
 | 1, 2, _, _ => ⟨fun h => absurd h (by decide), fun h => absurd h (by decide), fun _ => ⟨by kernel_rfl, by kernel_rfl⟩⟩
 | 1, 3, _, _ => ⟨fun h => absurd h (by decide), fun h => absurd h (by decide), fun _ => ⟨by kernel_rfl, by kernel_rfl⟩⟩
 | 1, 4, _, _ => ⟨fun h => absurd h (by decide), fun h => absurd h (by decide), fun _ => ⟨by kernel_rfl, by kernel_rfl⟩⟩
 | 1, 5, _, _ => ⟨fun h => absurd h (by decide), fun h => absurd h (by decide), fun _ => ⟨by kernel_rfl, by kernel_rfl⟩⟩
 | 1, 6, _, _ => ⟨fun h => absurd h (by decide), fun h => absurd h (by decide), fun _ => ⟨by kernel_rfl, by kernel_rfl⟩⟩
 | 1, 7, _, _ => ⟨fun h => absurd h (by decide), fun h => absurd h (by decide), fun _ => ⟨by kernel_rfl, by kernel_rfl⟩⟩
 | 1, 8, _, _ => ⟨fun h => absurd h (by decide), fun h => absurd h (by decide), fun _ => ⟨by kernel_rfl, by kernel_rfl⟩⟩
 | 1, 9, _, _ => ⟨fun h => absurd h (by decide), fun h => absurd h (by decide), fun _ => ⟨by kernel_rfl, by kernel_rfl⟩⟩
 | 1, 10, _, _ => ⟨fun h => absurd h (by decide), fun h => absurd h (by decide), fun _ => ⟨by kernel_rfl, by kernel_rfl⟩⟩
 | 1, 11, _, _ => ⟨fun h => absurd h (by decide), fun h => absurd h (by decide), fun _ => ⟨by kernel_rfl, by kernel_rfl⟩⟩
 | 2, 0, _, _ => ⟨fun h => absurd h (by decide), fun _ => ⟨by kernel_rfl, by kernel_rfl⟩, fun h => absurd h (by decide)⟩
 | 2, 1, _, _ => ⟨fun h => absurd h (by decide), fun _ => ⟨by kernel_rfl, by kernel_rfl⟩, fun h => absurd h (by decide)⟩
 | 2, 2, _, _ => ⟨fun h => absurd h (by decide), fun _ => ⟨by kernel_rfl, by kernel_rfl⟩, fun h => absurd h (by decide)⟩
 | 2, 3, _, _ => ⟨fun h => absurd h (by decide), fun h => absurd h (by decide), fun _ => ⟨by kernel_rfl, by kernel_rfl⟩⟩
 | 2, 4, _, _ => ⟨fun h => absurd h (by decide), fun h => absurd h (by decide), fun _ => ⟨by kernel_rfl, by kernel_rfl⟩⟩
 | 2, 5, _, _ => ⟨fun h => absurd h (by decide), fun h => absurd h (by decide), fun _ => ⟨by kernel_rfl, by kernel_rfl⟩⟩
 | 2, 6, _, _ => ⟨fun h => absurd h (by decide), fun h => absurd h (by decide), fun _ => ⟨by kernel_rfl, by kernel_rfl⟩⟩
 | 2, 7, _, _ => ⟨fun h => absurd h (by decide), fun h => absurd h (by decide), fun _ => ⟨by kernel_rfl, by kernel_rfl⟩⟩
 | 2, 8, _, _ => ⟨fun h => absurd h (by decide), fun h => absurd h (by decide), fun _ => ⟨by kernel_rfl, by kernel_rfl⟩⟩
 | 2, 9, _, _ => ⟨fun h => absurd h (by decide), fun h => absurd h (by decide), fun _ => ⟨by kernel_rfl, by kernel_rfl⟩⟩
 | 2, 10, _, _ => ⟨fun h => absurd h (by decide), fun h => absurd h (by decide), fun _ => ⟨by kernel_rfl, by kernel_rfl⟩⟩
 | 2, 11, _, _ => ⟨fun h => absurd h (by decide), fun h => absurd h (by decide), fun _ => ⟨by kernel_rfl, by kernel_rfl⟩⟩
 | 3, 0, _, _ => ⟨fun h => absurd h (by decide), fun _ => ⟨by kernel_rfl, by kernel_rfl⟩, fun h => absurd h (by decide)⟩
 | 3, 1, _, _ => ⟨fun h => absurd h (by decide), fun _ => ⟨by kernel_rfl, by kernel_rfl⟩, fun h => absurd h (by decide)⟩
 | 3, 2, _, _ => ⟨fun h => absurd h (by decide), fun _ => ⟨by kernel_rfl, by kernel_rfl⟩, fun h => absurd h (by decide)⟩
 | 3, 3, _, _ => ⟨fun _ => by kernel_rfl, fun h => absurd h (by decide), fun h => absurd h (by decide)⟩
 | 3, 4, _, _ => ⟨fun _ => by kernel_rfl, fun h => absurd h (by decide), fun h => absurd h (by decide)⟩
 | 3, 5, _, _ => ⟨fun _ => by kernel_rfl, fun h => absurd h (by decide), fun h => absurd h (by decide)⟩
 | 3, 6, _, _ => ⟨fun _ => by kernel_rfl, fun h => absurd h (by decide), fun h => absurd h (by decide)⟩
 | 3, 7, _, _ => ⟨fun h => absurd h (by decide), fun h => absurd h (by decide), fun _ => ⟨by kernel_rfl, by kernel_rfl⟩⟩
 | 3, 8, _, _ => ⟨fun h => absurd h (by decide), fun h => absurd h (by decide), fun _ => ⟨by kernel_rfl, by kernel_rfl⟩⟩
 | 3, 9, _, _ => ⟨fun h => absurd h (by decide), fun h => absurd h (by decide), fun _ => ⟨by kernel_rfl, by kernel_rfl⟩⟩
 | 3, 10, _, _ => ⟨fun h => absurd h (by decide), fun h => absurd h (by decide), fun _ => ⟨by kernel_rfl, by kernel_rfl⟩⟩
 | 3, 11, _, _ => ⟨fun h => absurd h (by decide), fun h => absurd h (by decide), fun _ => ⟨by kernel_rfl, by kernel_rfl⟩⟩
 | 4, 0, _, _ => ⟨fun h => absurd h (by decide), fun _ => ⟨by kernel_rfl, by kernel_rfl⟩, fun h => absurd h (by decide)⟩
 | 4, 1, _, _ => ⟨fun h => absurd h (by decide), fun _ => ⟨by kernel_rfl, by kernel_rfl⟩, fun h => absurd h (by decide)⟩
 | 4, 2, _, _ => ⟨fun h => absurd h (by decide), fun _ => ⟨by kernel_rfl, by kernel_rfl⟩, fun h => absurd h (by decide)⟩
 | 4, 3, _, _ => ⟨fun _ => by kernel_rfl, fun h => absurd h (by decide), fun h => absurd h (by decide)⟩
 | 4, 4, _, _ => ⟨fun _ => by kernel_rfl, fun h => absurd h (by decide), fun h => absurd h (by decide)⟩
 | 4, 5, _, _ => ⟨fun _ => by kernel_rfl, fun h => absurd h (by decide), fun h => absurd h (by decide)⟩
 | 4, 6, _, _ => ⟨fun _ => by kernel_rfl, fun h => absurd h (by decide), fun h => absurd h (by decide)⟩
 | 4, 7, _, _ => ⟨fun h => absurd h (by decide), fun h => absurd h (by decide), fun _ => ⟨by kernel_rfl, by kernel_rfl⟩⟩
 | 4, 8, _, _ => ⟨fun h => absurd h (by decide), fun h => absurd h (by decide), fun _ => ⟨by kernel_rfl, by kernel_rfl⟩⟩
 | 4, 9, _, _ => ⟨fun h => absurd h (by decide), fun h => absurd h (by decide), fun _ => ⟨by kernel_rfl, by kernel_rfl⟩⟩
 | 4, 10, _, _ => ⟨fun h => absurd h (by decide), fun h => absurd h (by decide), fun _ => ⟨by kernel_rfl, by kernel_rfl⟩⟩
 | 4, 11, _, _ => ⟨fun h => absurd h (by decide), fun h => absurd h (by decide), fun _ => ⟨by kernel_rfl, by kernel_rfl⟩⟩
 | 5, 0, _, _ => ⟨fun h => absurd h (by decide), fun _ => ⟨by kernel_rfl, by kernel_rfl⟩, fun h => absurd h (by decide)⟩
 | 5, 1, _, _ => ⟨fun h => absurd h (by decide), fun _ => ⟨by kernel_rfl, by kernel_rfl⟩, fun h => absurd h (by decide)⟩
 | 5, 2, _, _ => ⟨fun h => absurd h (by decide), fun _ => ⟨by kernel_rfl, by kernel_rfl⟩, fun h => absurd h (by decide)⟩
 | 5, 3, _, _ => ⟨fun _ => by kernel_rfl, fun h => absurd h (by decide), fun h => absurd h (by decide)⟩
 | 5, 4, _, _ => ⟨fun _ => by kernel_rfl, fun h => absurd h (by decide), fun h => absurd h (by decide)⟩
 | 5, 5, _, _ => ⟨fun _ => by kernel_rfl, fun h => absurd h (by decide), fun h => absurd h (by decide)⟩
 | 5, 6, _, _ => ⟨fun _ => by kernel_rfl, fun h => absurd h (by decide), fun h => absurd h (by decide)⟩
 | 5, 7, _, _ => ⟨fun h => absurd h (by decide), fun h => absurd h (by decide), fun _ => ⟨by kernel_rfl, by kernel_rfl⟩⟩
 | 5, 8, _, _ => ⟨fun h => absurd h (by decide), fun h => absurd h (by decide), fun _ => ⟨by kernel_rfl, by kernel_rfl⟩⟩
 | 5, 9, _, _ => ⟨fun h => absurd h (by decide), fun h => absurd h (by decide), fun _ => ⟨by kernel_rfl, by kernel_rfl⟩⟩
 | 5, 10, _, _ => ⟨fun h => absurd h (by decide), fun h => absurd h (by decide), fun _ => ⟨by kernel_rfl, by kernel_rfl⟩⟩
 | 5, 11, _, _ => ⟨fun h => absurd h (by decide), fun h => absurd h (by decide), fun _ => ⟨by kernel_rfl, by kernel_rfl⟩⟩
 | 6, 0, _, _ => ⟨fun h => absurd h (by decide), fun _ => ⟨by kernel_rfl, by kernel_rfl⟩, fun h => absurd h (by decide)⟩
 | 6, 1, _, _ => ⟨fun h => absurd h (by decide), fun _ => ⟨by kernel_rfl, by kernel_rfl⟩, fun h => absurd h (by decide)⟩
 | 6, 2, _, _ => ⟨fun h => absurd h (by decide), fun _ => ⟨by kernel_rfl, by kernel_rfl⟩, fun h => absurd h (by decide)⟩
 | 6, 3, _, _ => ⟨fun _ => by kernel_rfl, fun h => absurd h (by decide), fun h => absurd h (by decide)⟩
 | 6, 4, _, _ => ⟨fun _ => by kernel_rfl, fun h => absurd h (by decide), fun h => absurd h (by decide)⟩
 | 6, 5, _, _ => ⟨fun _ => by kernel_rfl, fun h => absurd h (by decide), fun h => absurd h (by decide)⟩
 | 6, 6, _, _ => ⟨fun _ => by kernel_rfl, fun h => absurd h (by decide), fun h => absurd h (by decide)⟩
 | 6, 7, _, _ => ⟨fun h => absurd h (by decide), fun h => absurd h (by decide), fun _ => ⟨by kernel_rfl, by kernel_rfl⟩⟩
 | 6, 8, _, _ => ⟨fun h => absurd h (by decide), fun h => absurd h (by decide), fun _ => ⟨by kernel_rfl, by kernel_rfl⟩⟩
 | 6, 9, _, _ => ⟨fun h => absurd h (by decide), fun h => absurd h (by decide), fun _ => ⟨by kernel_rfl, by kernel_rfl⟩⟩
 | 6, 10, _, _ => ⟨fun h => absurd h (by decide), fun h => absurd h (by decide), fun _ => ⟨by kernel_rfl, by kernel_rfl⟩⟩
 | 6, 11, _, _ => ⟨fun h => absurd h (by decide), fun h => absurd h (by decide), fun _ => ⟨by kernel_rfl, by kernel_rfl⟩⟩
 | 7, 0, _, _ => ⟨fun h => absurd h (by decide), fun _ => ⟨by kernel_rfl, by kernel_rfl⟩, fun h => absurd h (by decide)⟩
 | 7, 1, _, _ => ⟨fun h => absurd h (by decide), fun _ => ⟨by kernel_rfl, by kernel_rfl⟩, fun h => absurd h (by decide)⟩
 | 7, 2, _, _ => ⟨fun h => absurd h (by decide), fun _ => ⟨by kernel_rfl, by kernel_rfl⟩, fun h => absurd h (by decide)⟩
 | 7, 3, _, _ => ⟨fun h => absurd h (by decide), fun _ => ⟨by kernel_rfl, by kernel_rfl⟩, fun h => absurd h (by decide)⟩
 | 7, 4, _, _ => ⟨fun h => absurd h (by decide), fun _ => ⟨by kernel_rfl, by kernel_rfl⟩, fun h => absurd h (by decide)⟩
 | 7, 5, _, _ => ⟨fun h => absurd h (by decide), fun _ => ⟨by kernel_rfl, by kernel_rfl⟩, fun h => absurd h (by decide)⟩
 | 7, 6, _, _ => ⟨fun h => absurd h (by decide), fun _ => ⟨by kernel_rfl, by kernel_rfl⟩, fun h => absurd h (by decide)⟩
 | 7, 7, _, _ => ⟨fun h => absurd h (by decide), fun _ => ⟨by kernel_rfl, by kernel_rfl⟩, fun h => absurd h (by decide)⟩
 | 7, 8, _, _ => ⟨fun h => absurd h (by decide), fun _ => ⟨by kernel_rfl, by kernel_rfl⟩, fun h => absurd h (by decide)⟩
 | 7, 9, _, _ => ⟨fun h => absurd h (by decide), fun h => absurd h (by decide), fun _ => ⟨by kernel_rfl, by kernel_rfl⟩⟩
 | 7, 10, _, _ => ⟨fun h => absurd h (by decide), fun h => absurd h (by decide), fun _ => ⟨by kernel_rfl, by kernel_rfl⟩⟩
 | 7, 11, _, _ => ⟨fun h => absurd h (by decide), fun h => absurd h (by decide), fun _ => ⟨by kernel_rfl, by kernel_rfl⟩⟩
 | 8, 0, _, _ => ⟨fun h => absurd h (by decide), fun _ => ⟨by kernel_rfl, by kernel_rfl⟩, fun h => absurd h (by decide)⟩
 | 8, 1, _, _ => ⟨fun h => absurd h (by decide), fun _ => ⟨by kernel_rfl, by kernel_rfl⟩, fun h => absurd h (by decide)⟩
 | 8, 2, _, _ => ⟨fun h => absurd h (by decide), fun _ => ⟨by kernel_rfl, by kernel_rfl⟩, fun h => absurd h (by decide)⟩
 | 8, 3, _, _ => ⟨fun h => absurd h (by decide), fun _ => ⟨by kernel_rfl, by kernel_rfl⟩, fun h => absurd h (by decide)⟩
 | 8, 4, _, _ => ⟨fun h => absurd h (by decide), fun _ => ⟨by kernel_rfl, by kernel_rfl⟩, fun h => absurd h (by decide)⟩
 | 8, 5, _, _ => ⟨fun h => absurd h (by decide), fun _ => ⟨by kernel_rfl, by kernel_rfl⟩, fun h => absurd h (by decide)⟩
 | 8, 6, _, _ => ⟨fun h => absurd h (by decide), fun _ => ⟨by kernel_rfl, by kernel_rfl⟩, fun h => absurd h (by decide)⟩
 | 8, 7, _, _ => ⟨fun h => absurd h (by decide), fun _ => ⟨by kernel_rfl, by kernel_rfl⟩, fun h => absurd h (by decide)⟩
 | 8, 8, _, _ => ⟨fun h => absurd h (by decide), fun _ => ⟨by kernel_rfl, by kernel_rfl⟩, fun h => absurd h (by decide)⟩
 | 8, 9, _, _ => ⟨fun h => absurd h (by decide), fun h => absurd h (by decide), fun _ => ⟨by kernel_rfl, by kernel_rfl⟩⟩
 | 8, 10, _, _ => ⟨fun h => absurd h (by decide), fun h => absurd h (by decide), fun _ => ⟨by kernel_rfl, by kernel_rfl⟩⟩
 | 8, 11, _, _ => ⟨fun h => absurd h (by decide), fun h => absurd h (by decide), fun _ => ⟨by kernel_rfl, by kernel_rfl⟩⟩
 | 9, 0, _, _ => ⟨fun h => absurd h (by decide), fun _ => ⟨by kernel_rfl, by kernel_rfl⟩, fun h => absurd h (by decide)⟩
 | 9, 1, _, _ => ⟨fun h => absurd h (by decide), fun _ => ⟨by kernel_rfl, by kernel_rfl⟩, fun h => absurd h (by decide)⟩
 | 9, 2, _, _ => ⟨fun h => absurd h (by decide), fun _ => ⟨by kernel_rfl, by kernel_rfl⟩, fun h => absurd h (by decide)⟩
 | 9, 3, _, _ => ⟨fun h => absurd h (by decide), fun _ => ⟨by kernel_rfl, by kernel_rfl⟩, fun h => absurd h (by decide)⟩
 | 9, 4, _, _ => ⟨fun h => absurd h (by decide), fun _ => ⟨by kernel_rfl, by kernel_rfl⟩, fun h => absurd h (by decide)⟩
 | 9, 5, _, _ => ⟨fun h => absurd h (by decide), fun _ => ⟨by kernel_rfl, by kernel_rfl⟩, fun h => absurd h (by decide)⟩
 | 9, 6, _, _ => ⟨fun h => absurd h (by decide), fun _ => ⟨by kernel_rfl, by kernel_rfl⟩, fun h => absurd h (by decide)⟩
 | 9, 7, _, _ => ⟨fun h => absurd h (by decide), fun _ => ⟨by kernel_rfl, by kernel_rfl⟩, fun h => absurd h (by decide)⟩
 | 9, 8, _, _ => ⟨fun h => absurd h (by decide), fun _ => ⟨by kernel_rfl, by kernel_rfl⟩, fun h => absurd h (by decide)⟩
 | 9, 9, _, _ => ⟨fun h => absurd h (by decide), fun _ => ⟨by kernel_rfl, by kernel_rfl⟩, fun h => absurd h (by decide)⟩
 | 9, 10, _, _ => ⟨fun h => absurd h (by decide), fun _ => ⟨by kernel_rfl, by kernel_rfl⟩, fun h => absurd h (by decide)⟩
 | 9, 11, _, _ => ⟨fun h => absurd h (by decide), fun _ => ⟨by kernel_rfl, by kernel_rfl⟩, fun h => absurd h (by decide)⟩
 | 10, 0, _, _ => ⟨fun h => absurd h (by decide), fun _ => ⟨by kernel_rfl, by kernel_rfl⟩, fun h => absurd h (by decide)⟩
 | 10, 1, _, _ => ⟨fun h => absurd h (by decide), fun _ => ⟨by kernel_rfl, by kernel_rfl⟩, fun h => absurd h (by decide)⟩
 | 10, 2, _, _ => ⟨fun h => absurd h (by decide), fun _ => ⟨by kernel_rfl, by kernel_rfl⟩, fun h => absurd h (by decide)⟩
 | 10, 3, _, _ => ⟨fun h => absurd h (by decide), fun _ => ⟨by kernel_rfl, by kernel_rfl⟩, fun h => absurd h (by decide)⟩
 | 10, 4, _, _ => ⟨fun h => absurd h (by decide), fun _ => ⟨by kernel_rfl, by kernel_rfl⟩, fun h => absurd h (by decide)⟩
 | 10, 5, _, _ => ⟨fun h => absurd h (by decide), fun _ => ⟨by kernel_rfl, by kernel_rfl⟩, fun h => absurd h (by decide)⟩
 | 10, 6, _, _ => ⟨fun h => absurd h (by decide), fun _ => ⟨by kernel_rfl, by kernel_rfl⟩, fun h => absurd h (by decide)⟩
 | 10, 7, _, _ => ⟨fun h => absurd h (by decide), fun _ => ⟨by kernel_rfl, by kernel_rfl⟩, fun h => absurd h (by decide)⟩
 | 10, 8, _, _ => ⟨fun h => absurd h (by decide), fun _ => ⟨by kernel_rfl, by kernel_rfl⟩, fun h => absurd h (by decide)⟩
 | 10, 9, _, _ => ⟨fun h => absurd h (by decide), fun _ => ⟨by kernel_rfl, by kernel_rfl⟩, fun h => absurd h (by decide)⟩
 | 10, 10, _, _ => ⟨fun h => absurd h (by decide), fun _ => ⟨by kernel_rfl, by kernel_rfl⟩, fun h => absurd h (by decide)⟩
 | 10, 11, _, _ => ⟨fun h => absurd h (by decide), fun _ => ⟨by kernel_rfl, by kernel_rfl⟩, fun h => absurd h (by decide)⟩
 | 11, 0, _, _ => ⟨fun h => absurd h (by decide), fun _ => ⟨by kernel_rfl, by kernel_rfl⟩, fun h => absurd h (by decide)⟩
 | 11, 1, _, _ => ⟨fun h => absurd h (by decide), fun _ => ⟨by kernel_rfl, by kernel_rfl⟩, fun h => absurd h (by decide)⟩
 | 11, 2, _, _ => ⟨fun h => absurd h (by decide), fun _ => ⟨by kernel_rfl, by kernel_rfl⟩, fun h => absurd h (by decide)⟩
 | 11, 3, _, _ => ⟨fun h => absurd h (by decide), fun _ => ⟨by kernel_rfl, by kernel_rfl⟩, fun h => absurd h (by decide)⟩
 | 11, 4, _, _ => ⟨fun h => absurd h (by decide), fun _ => ⟨by kernel_rfl, by kernel_rfl⟩, fun h => absurd h (by decide)⟩
 | 11, 5, _, _ => ⟨fun h => absurd h (by decide), fun _ => ⟨by kernel_rfl, by kernel_rfl⟩, fun h => absurd h (by decide)⟩
 | 11, 6, _, _ => ⟨fun h => absurd h (by decide), fun _ => ⟨by kernel_rfl, by kernel_rfl⟩, fun h => absurd h (by decide)⟩
 | 11, 7, _, _ => ⟨fun h => absurd h (by decide), fun _ => ⟨by kernel_rfl, by kernel_rfl⟩, fun h => absurd h (by decide)⟩
 | 11, 8, _, _ => ⟨fun h => absurd h (by decide), fun _ => ⟨by kernel_rfl, by kernel_rfl⟩, fun h => absurd h (by decide)⟩
 | 11, 9, _, _ => ⟨fun h => absurd h (by decide), fun _ => ⟨by kernel_rfl, by kernel_rfl⟩, fun h => absurd h (by decide)⟩
 | 11, 10, _, _ => ⟨fun h => absurd h (by decide), fun _ => ⟨by kernel_rfl, by kernel_rfl⟩, fun h => absurd h (by decide)⟩
 | 11, 11, _, _ => ⟨fun h => absurd h (by decide), fun _ => ⟨by kernel_rfl, by kernel_rfl⟩, fun h => absurd h (by decide)⟩
 | n + 12, _, h, _ => absurd h (by omega)
 | 0, k + 12, _, h | 1, k + 12, _, h | 2, k + 12, _, h | 3, k + 12, _, h | 4, k + 12, _, h | 5, k + 12, _, h | 6, k + 12, _, h | 7, k + 12, _, h | 8, k + 12, _, h | 9, k + 12, _, h | 10, k + 12, _, h | 11, k + 12, _, h => absurd h (by omega)
theorem wayT_first : ∀ (i k : Nat), i < 12 → k < 12 → way i k ≠ 1 → IsT (firstT i k) (leftT i k)
 | 0, 0, _, _ => fun _ => ⟨by kernel_rfl, by kernel_rfl⟩
 | 0, 1, _, _ => fun _ => ⟨by kernel_rfl, by kernel_rfl⟩
 | 0, 2, _, _ => fun _ => ⟨by kernel_rfl, by kernel_rfl⟩
 | 0, 3, _, _ => fun _ => ⟨by kernel_rfl, by kernel_rfl⟩
 | 0, 4, _, _ => fun _ => ⟨by kernel_rfl, by kernel_rfl⟩
 | 0, 5, _, _ => fun _ => ⟨by kernel_rfl, by kernel_rfl⟩
 | 0, 6, _, _ => fun _ => ⟨by kernel_rfl, by kernel_rfl⟩
 | 0, 7, _, _ => fun _ => ⟨by kernel_rfl, by kernel_rfl⟩
 | 0, 8, _, _ => fun _ => ⟨by kernel_rfl, by kernel_rfl⟩
 | 0, 9, _, _ => fun _ => ⟨by kernel_rfl, by kernel_rfl⟩
 | 0, 10, _, _ => fun _ => ⟨by kernel_rfl, by kernel_rfl⟩
 | 0, 11, _, _ => fun _ => ⟨by kernel_rfl, by kernel_rfl⟩
 | 1, 0, _, _ => fun h => absurd (by decide) h
 | 1, 1, _, _ => fun h => absurd (by decide) h
 | 1, 2, _, _ => fun _ => ⟨by kernel_rfl, by kernel_rfl⟩
 | 1, 3, _, _ => fun _ => ⟨by kernel_rfl, by kernel_rfl⟩
 | 1, 4, _, _ => fun _ => ⟨by kernel_rfl, by kernel_rfl⟩
 | 1, 5, _, _ => fun _ => ⟨by kernel_rfl, by kernel_rfl⟩
 | 1, 6, _, _ => fun _ => ⟨by kernel_rfl, by kernel_rfl⟩
 | 1, 7, _, _ => fun _ => ⟨by kernel_rfl, by kernel_rfl⟩
 | 1, 8, _, _ => fun _ => ⟨by kernel_rfl, by kernel_rfl⟩
 | 1, 9, _, _ => fun _ => ⟨by kernel_rfl, by kernel_rfl⟩
 | 1, 10, _, _ => fun _ => ⟨by kernel_rfl, by kernel_rfl⟩
 | 1, 11, _, _ => fun _ => ⟨by kernel_rfl, by kernel_rfl⟩
 | 2, 0, _, _ => fun h => absurd (by decide) h
 | 2, 1, _, _ => fun h => absurd (by decide) h
 | 2, 2, _, _ => fun h => absurd (by decide) h
 | 2, 3, _, _ => fun _ => ⟨by kernel_rfl, by kernel_rfl⟩
 | 2, 4, _, _ => fun _ => ⟨by kernel_rfl, by kernel_rfl⟩
 | 2, 5, _, _ => fun _ => ⟨by kernel_rfl, by kernel_rfl⟩
 | 2, 6, _, _ => fun _ => ⟨by kernel_rfl, by kernel_rfl⟩
 | 2, 7, _, _ => fun _ => ⟨by kernel_rfl, by kernel_rfl⟩
 | 2, 8, _, _ => fun _ => ⟨by kernel_rfl, by kernel_rfl⟩
 | 2, 9, _, _ => fun _ => ⟨by kernel_rfl, by kernel_rfl⟩
 | 2, 10, _, _ => fun _ => ⟨by kernel_rfl, by kernel_rfl⟩
 | 2, 11, _, _ => fun _ => ⟨by kernel_rfl, by kernel_rfl⟩
 | 3, 0, _, _ => fun h => absurd (by decide) h
 | 3, 1, _, _ => fun h => absurd (by decide) h
 | 3, 2, _, _ => fun h => absurd (by decide) h
 | 3, 3, _, _ => fun _ => ⟨by kernel_rfl, by kernel_rfl⟩
 | 3, 4, _, _ => fun _ => ⟨by kernel_rfl, by kernel_rfl⟩
 | 3, 5, _, _ => fun _ => ⟨by kernel_rfl, by kernel_rfl⟩
 | 3, 6, _, _ => fun _ => ⟨by kernel_rfl, by kernel_rfl⟩
 | 3, 7, _, _ => fun _ => ⟨by kernel_rfl, by kernel_rfl⟩
 | 3, 8, _, _ => fun _ => ⟨by kernel_rfl, by kernel_rfl⟩
 | 3, 9, _, _ => fun _ => ⟨by kernel_rfl, by kernel_rfl⟩
 | 3, 10, _, _ => fun _ => ⟨by kernel_rfl, by kernel_rfl⟩
 | 3, 11, _, _ => fun _ => ⟨by kernel_rfl, by kernel_rfl⟩
 | 4, 0, _, _ => fun h => absurd (by decide) h
 | 4, 1, _, _ => fun h => absurd (by decide) h
 | 4, 2, _, _ => fun h => absurd (by decide) h
 | 4, 3, _, _ => fun _ => ⟨by kernel_rfl, by kernel_rfl⟩
 | 4, 4, _, _ => fun _ => ⟨by kernel_rfl, by kernel_rfl⟩
 | 4, 5, _, _ => fun _ => ⟨by kernel_rfl, by kernel_rfl⟩
 | 4, 6, _, _ => fun _ => ⟨by kernel_rfl, by kernel_rfl⟩
 | 4, 7, _, _ => fun _ => ⟨by kernel_rfl, by kernel_rfl⟩
 | 4, 8, _, _ => fun _ => ⟨by kernel_rfl, by kernel_rfl⟩
 | 4, 9, _, _ => fun _ => ⟨by kernel_rfl, by kernel_rfl⟩
 | 4, 10, _, _ => fun _ => ⟨by kernel_rfl, by kernel_rfl⟩
 | 4, 11, _, _ => fun _ => ⟨by kernel_rfl, by kernel_rfl⟩
 | 5, 0, _, _ => fun h => absurd (by decide) h
 | 5, 1, _, _ => fun h => absurd (by decide) h
 | 5, 2, _, _ => fun h => absurd (by decide) h
 | 5, 3, _, _ => fun _ => ⟨by kernel_rfl, by kernel_rfl⟩
 | 5, 4, _, _ => fun _ => ⟨by kernel_rfl, by kernel_rfl⟩
 | 5, 5, _, _ => fun _ => ⟨by kernel_rfl, by kernel_rfl⟩
 | 5, 6, _, _ => fun _ => ⟨by kernel_rfl, by kernel_rfl⟩
 | 5, 7, _, _ => fun _ => ⟨by kernel_rfl, by kernel_rfl⟩
 | 5, 8, _, _ => fun _ => ⟨by kernel_rfl, by kernel_rfl⟩
 | 5, 9, _, _ => fun _ => ⟨by kernel_rfl, by kernel_rfl⟩
 | 5, 10, _, _ => fun _ => ⟨by kernel_rfl, by kernel_rfl⟩
 | 5, 11, _, _ => fun _ => ⟨by kernel_rfl, by kernel_rfl⟩
 | 6, 0, _, _ => fun h => absurd (by decide) h
 | 6, 1, _, _ => fun h => absurd (by decide) h
 | 6, 2, _, _ => fun h => absurd (by decide) h
 | 6, 3, _, _ => fun _ => ⟨by kernel_rfl, by kernel_rfl⟩
 | 6, 4, _, _ => fun _ => ⟨by kernel_rfl, by kernel_rfl⟩
 | 6, 5, _, _ => fun _ => ⟨by kernel_rfl, by kernel_rfl⟩
 | 6, 6, _, _ => fun _ => ⟨by kernel_rfl, by kernel_rfl⟩
 | 6, 7, _, _ => fun _ => ⟨by kernel_rfl, by kernel_rfl⟩
 | 6, 8, _, _ => fun _ => ⟨by kernel_rfl, by kernel_rfl⟩
 | 6, 9, _, _ => fun _ => ⟨by kernel_rfl, by kernel_rfl⟩
 | 6, 10, _, _ => fun _ => ⟨by kernel_rfl, by kernel_rfl⟩
 | 6, 11, _, _ => fun _ => ⟨by kernel_rfl, by kernel_rfl⟩
 | 7, 0, _, _ => fun h => absurd (by decide) h
 | 7, 1, _, _ => fun h => absurd (by decide) h
 | 7, 2, _, _ => fun h => absurd (by decide) h
 | 7, 3, _, _ => fun h => absurd (by decide) h
 | 7, 4, _, _ => fun h => absurd (by decide) h
 | 7, 5, _, _ => fun h => absurd (by decide) h
 | 7, 6, _, _ => fun h => absurd (by decide) h
 | 7, 7, _, _ => fun h => absurd (by decide) h
 | 7, 8, _, _ => fun h => absurd (by decide) h
 | 7, 9, _, _ => fun _ => ⟨by kernel_rfl, by kernel_rfl⟩
 | 7, 10, _, _ => fun _ => ⟨by kernel_rfl, by kernel_rfl⟩
 | 7, 11, _, _ => fun _ => ⟨by kernel_rfl, by kernel_rfl⟩
 | 8, 0, _, _ => fun h => absurd (by decide) h
 | 8, 1, _, _ => fun h => absurd (by decide) h
 | 8, 2, _, _ => fun h => absurd (by decide) h
 | 8, 3, _, _ => fun h => absurd (by decide) h
 | 8, 4, _, _ => fun h => absurd (by decide) h
 | 8, 5, _, _ => fun h => absurd (by decide) h
 | 8, 6, _, _ => fun h => absurd (by decide) h
 | 8, 7, _, _ => fun h => absurd (by decide) h
 | 8, 8, _, _ => fun h => absurd (by decide) h
 | 8, 9, _, _ => fun _ => ⟨by kernel_rfl, by kernel_rfl⟩
 | 8, 10, _, _ => fun _ => ⟨by kernel_rfl, by kernel_rfl⟩
 | 8, 11, _, _ => fun _ => ⟨by kernel_rfl, by kernel_rfl⟩
 | 9, 0, _, _ => fun h => absurd (by decide) h
 | 9, 1, _, _ => fun h => absurd (by decide) h
 | 9, 2, _, _ => fun h => absurd (by decide) h
 | 9, 3, _, _ => fun h => absurd (by decide) h
 | 9, 4, _, _ => fun h => absurd (by decide) h
 | 9, 5, _, _ => fun h => absurd (by decide) h
 | 9, 6, _, _ => fun h => absurd (by decide) h
 | 9, 7, _, _ => fun h => absurd (by decide) h
 | 9, 8, _, _ => fun h => absurd (by decide) h
 | 9, 9, _, _ => fun h => absurd (by decide) h
 | 9, 10, _, _ => fun h => absurd (by decide) h
 | 9, 11, _, _ => fun h => absurd (by decide) h
 | 10, 0, _, _ => fun h => absurd (by decide) h
 | 10, 1, _, _ => fun h => absurd (by decide) h
 | 10, 2, _, _ => fun h => absurd (by decide) h
 | 10, 3, _, _ => fun h => absurd (by decide) h
 | 10, 4, _, _ => fun h => absurd (by decide) h
 | 10, 5, _, _ => fun h => absurd (by decide) h
 | 10, 6, _, _ => fun h => absurd (by decide) h
 | 10, 7, _, _ => fun h => absurd (by decide) h
 | 10, 8, _, _ => fun h => absurd (by decide) h
 | 10, 9, _, _ => fun h => absurd (by decide) h
 | 10, 10, _, _ => fun h => absurd (by decide) h
 | 10, 11, _, _ => fun h => absurd (by decide) h
 | 11, 0, _, _ => fun h => absurd (by decide) h
 | 11, 1, _, _ => fun h => absurd (by decide) h
 | 11, 2, _, _ => fun h => absurd (by decide) h
 | 11, 3, _, _ => fun h => absurd (by decide) h
 | 11, 4, _, _ => fun h => absurd (by decide) h
 | 11, 5, _, _ => fun h => absurd (by decide) h
 | 11, 6, _, _ => fun h => absurd (by decide) h
 | 11, 7, _, _ => fun h => absurd (by decide) h
 | 11, 8, _, _ => fun h => absurd (by decide) h
 | 11, 9, _, _ => fun h => absurd (by decide) h
 | 11, 10, _, _ => fun h => absurd (by decide) h
 | 11, 11, _, _ => fun h => absurd (by decide) h
 | n + 12, _, h, _ => absurd h (by omega)
 | 0, k + 12, _, h | 1, k + 12, _, h | 2, k + 12, _, h | 3, k + 12, _, h | 4, k + 12, _, h | 5, k + 12, _, h | 6, k + 12, _, h | 7, k + 12, _, h | 8, k + 12, _, h | 9, k + 12, _, h | 10, k + 12, _, h | 11, k + 12, _, h => absurd h (by omega)
theorem wayT_second : ∀ (i k : Nat), i < 12 → k < 12 → way i k ≠ 2 → IsT (secondT i k) (rightT i k)
 | 0, 0, _, _ => fun h => absurd (by decide) h
 | 0, 1, _, _ => fun h => absurd (by decide) h
 | 0, 2, _, _ => fun h => absurd (by decide) h
 | 0, 3, _, _ => fun h => absurd (by decide) h
 | 0, 4, _, _ => fun h => absurd (by decide) h
 | 0, 5, _, _ => fun h => absurd (by decide) h
 | 0, 6, _, _ => fun h => absurd (by decide) h
 | 0, 7, _, _ => fun h => absurd (by decide) h
 | 0, 8, _, _ => fun h => absurd (by decide) h
 | 0, 9, _, _ => fun h => absurd (by decide) h
 | 0, 10, _, _ => fun h => absurd (by decide) h
 | 0, 11, _, _ => fun h => absurd (by decide) h
 | 1, 0, _, _ => fun _ => ⟨by kernel_rfl, by kernel_rfl⟩
 | 1, 1, _, _ => fun _ => ⟨by kernel_rfl, by kernel_rfl⟩
 | 1, 2, _, _ => fun h => absurd (by decide) h
 | 1, 3, _, _ => fun h => absurd (by decide) h
 | 1, 4, _, _ => fun h => absurd (by decide) h
 | 1, 5, _, _ => fun h => absurd (by decide) h
 | 1, 6, _, _ => fun h => absurd (by decide) h
 | 1, 7, _, _ => fun h => absurd (by decide) h
 | 1, 8, _, _ => fun h => absurd (by decide) h
 | 1, 9, _, _ => fun h => absurd (by decide) h
 | 1, 10, _, _ => fun h => absurd (by decide) h
 | 1, 11, _, _ => fun h => absurd (by decide) h
 | 2, 0, _, _ => fun _ => ⟨by kernel_rfl, by kernel_rfl⟩
 | 2, 1, _, _ => fun _ => ⟨by kernel_rfl, by kernel_rfl⟩
 | 2, 2, _, _ => fun _ => ⟨by kernel_rfl, by kernel_rfl⟩
 | 2, 3, _, _ => fun h => absurd (by decide) h
 | 2, 4, _, _ => fun h => absurd (by decide) h
 | 2, 5, _, _ => fun h => absurd (by decide) h
 | 2, 6, _, _ => fun h => absurd (by decide) h
 | 2, 7, _, _ => fun h => absurd (by decide) h
 | 2, 8, _, _ => fun h => absurd (by decide) h
 | 2, 9, _, _ => fun h => absurd (by decide) h
 | 2, 10, _, _ => fun h => absurd (by decide) h
 | 2, 11, _, _ => fun h => absurd (by decide) h
 | 3, 0, _, _ => fun _ => ⟨by kernel_rfl, by kernel_rfl⟩
 | 3, 1, _, _ => fun _ => ⟨by kernel_rfl, by kernel_rfl⟩
 | 3, 2, _, _ => fun _ => ⟨by kernel_rfl, by kernel_rfl⟩
 | 3, 3, _, _ => fun _ => ⟨by kernel_rfl, by kernel_rfl⟩
 | 3, 4, _, _ => fun _ => ⟨by kernel_rfl, by kernel_rfl⟩
 | 3, 5, _, _ => fun _ => ⟨by kernel_rfl, by kernel_rfl⟩
 | 3, 6, _, _ => fun _ => ⟨by kernel_rfl, by kernel_rfl⟩
 | 3, 7, _, _ => fun h => absurd (by decide) h
 | 3, 8, _, _ => fun h => absurd (by decide) h
 | 3, 9, _, _ => fun h => absurd (by decide) h
 | 3, 10, _, _ => fun h => absurd (by decide) h
 | 3, 11, _, _ => fun h => absurd (by decide) h
 | 4, 0, _, _ => fun _ => ⟨by kernel_rfl, by kernel_rfl⟩
 | 4, 1, _, _ => fun _ => ⟨by kernel_rfl, by kernel_rfl⟩
 | 4, 2, _, _ => fun _ => ⟨by kernel_rfl, by kernel_rfl⟩
 | 4, 3, _, _ => fun _ => ⟨by kernel_rfl, by kernel_rfl⟩
 | 4, 4, _, _ => fun _ => ⟨by kernel_rfl, by kernel_rfl⟩
 | 4, 5, _, _ => fun _ => ⟨by kernel_rfl, by kernel_rfl⟩
 | 4, 6, _, _ => fun _ => ⟨by kernel_rfl, by kernel_rfl⟩
 | 4, 7, _, _ => fun h => absurd (by decide) h
 | 4, 8, _, _ => fun h => absurd (by decide) h
 | 4, 9, _, _ => fun h => absurd (by decide) h
 | 4, 10, _, _ => fun h => absurd (by decide) h
 | 4, 11, _, _ => fun h => absurd (by decide) h
 | 5, 0, _, _ => fun _ => ⟨by kernel_rfl, by kernel_rfl⟩
 | 5, 1, _, _ => fun _ => ⟨by kernel_rfl, by kernel_rfl⟩
 | 5, 2, _, _ => fun _ => ⟨by kernel_rfl, by kernel_rfl⟩
 | 5, 3, _, _ => fun _ => ⟨by kernel_rfl, by kernel_rfl⟩
 | 5, 4, _, _ => fun _ => ⟨by kernel_rfl, by kernel_rfl⟩
 | 5, 5, _, _ => fun _ => ⟨by kernel_rfl, by kernel_rfl⟩
 | 5, 6, _, _ => fun _ => ⟨by kernel_rfl, by kernel_rfl⟩
 | 5, 7, _, _ => fun h => absurd (by decide) h
 | 5, 8, _, _ => fun h => absurd (by decide) h
 | 5, 9, _, _ => fun h => absurd (by decide) h
 | 5, 10, _, _ => fun h => absurd (by decide) h
 | 5, 11, _, _ => fun h => absurd (by decide) h
 | 6, 0, _, _ => fun _ => ⟨by kernel_rfl, by kernel_rfl⟩
 | 6, 1, _, _ => fun _ => ⟨by kernel_rfl, by kernel_rfl⟩
 | 6, 2, _, _ => fun _ => ⟨by kernel_rfl, by kernel_rfl⟩
 | 6, 3, _, _ => fun _ => ⟨by kernel_rfl, by kernel_rfl⟩
 | 6, 4, _, _ => fun _ => ⟨by kernel_rfl, by kernel_rfl⟩
 | 6, 5, _, _ => fun _ => ⟨by kernel_rfl, by kernel_rfl⟩
 | 6, 6, _, _ => fun _ => ⟨by kernel_rfl, by kernel_rfl⟩
 | 6, 7, _, _ => fun h => absurd (by decide) h
 | 6, 8, _, _ => fun h => absurd (by decide) h
 | 6, 9, _, _ => fun h => absurd (by decide) h
 | 6, 10, _, _ => fun h => absurd (by decide) h
 | 6, 11, _, _ => fun h => absurd (by decide) h
 | 7, 0, _, _ => fun _ => ⟨by kernel_rfl, by kernel_rfl⟩
 | 7, 1, _, _ => fun _ => ⟨by kernel_rfl, by kernel_rfl⟩
 | 7, 2, _, _ => fun _ => ⟨by kernel_rfl, by kernel_rfl⟩
 | 7, 3, _, _ => fun _ => ⟨by kernel_rfl, by kernel_rfl⟩
 | 7, 4, _, _ => fun _ => ⟨by kernel_rfl, by kernel_rfl⟩
 | 7, 5, _, _ => fun _ => ⟨by kernel_rfl, by kernel_rfl⟩
 | 7, 6, _, _ => fun _ => ⟨by kernel_rfl, by kernel_rfl⟩
 | 7, 7, _, _ => fun _ => ⟨by kernel_rfl, by kernel_rfl⟩
 | 7, 8, _, _ => fun _ => ⟨by kernel_rfl, by kernel_rfl⟩
 | 7, 9, _, _ => fun h => absurd (by decide) h
 | 7, 10, _, _ => fun h => absurd (by decide) h
 | 7, 11, _, _ => fun h => absurd (by decide) h
 | 8, 0, _, _ => fun _ => ⟨by kernel_rfl, by kernel_rfl⟩
 | 8, 1, _, _ => fun _ => ⟨by kernel_rfl, by kernel_rfl⟩
 | 8, 2, _, _ => fun _ => ⟨by kernel_rfl, by kernel_rfl⟩
 | 8, 3, _, _ => fun _ => ⟨by kernel_rfl, by kernel_rfl⟩
 | 8, 4, _, _ => fun _ => ⟨by kernel_rfl, by kernel_rfl⟩
 | 8, 5, _, _ => fun _ => ⟨by kernel_rfl, by kernel_rfl⟩
 | 8, 6, _, _ => fun _ => ⟨by kernel_rfl, by kernel_rfl⟩
 | 8, 7, _, _ => fun _ => ⟨by kernel_rfl, by kernel_rfl⟩
 | 8, 8, _, _ => fun _ => ⟨by kernel_rfl, by kernel_rfl⟩
 | 8, 9, _, _ => fun h => absurd (by decide) h
 | 8, 10, _, _ => fun h => absurd (by decide) h
 | 8, 11, _, _ => fun h => absurd (by decide) h
 | 9, 0, _, _ => fun _ => ⟨by kernel_rfl, by kernel_rfl⟩
 | 9, 1, _, _ => fun _ => ⟨by kernel_rfl, by kernel_rfl⟩
 | 9, 2, _, _ => fun _ => ⟨by kernel_rfl, by kernel_rfl⟩
 | 9, 3, _, _ => fun _ => ⟨by kernel_rfl, by kernel_rfl⟩
 | 9, 4, _, _ => fun _ => ⟨by kernel_rfl, by kernel_rfl⟩
 | 9, 5, _, _ => fun _ => ⟨by kernel_rfl, by kernel_rfl⟩
 | 9, 6, _, _ => fun _ => ⟨by kernel_rfl, by kernel_rfl⟩
 | 9, 7, _, _ => fun _ => ⟨by kernel_rfl, by kernel_rfl⟩
 | 9, 8, _, _ => fun _ => ⟨by kernel_rfl, by kernel_rfl⟩
 | 9, 9, _, _ => fun _ => ⟨by kernel_rfl, by kernel_rfl⟩
 | 9, 10, _, _ => fun _ => ⟨by kernel_rfl, by kernel_rfl⟩
 | 9, 11, _, _ => fun _ => ⟨by kernel_rfl, by kernel_rfl⟩
 | 10, 0, _, _ => fun _ => ⟨by kernel_rfl, by kernel_rfl⟩
 | 10, 1, _, _ => fun _ => ⟨by kernel_rfl, by kernel_rfl⟩
 | 10, 2, _, _ => fun _ => ⟨by kernel_rfl, by kernel_rfl⟩
 | 10, 3, _, _ => fun _ => ⟨by kernel_rfl, by kernel_rfl⟩
 | 10, 4, _, _ => fun _ => ⟨by kernel_rfl, by kernel_rfl⟩
 | 10, 5, _, _ => fun _ => ⟨by kernel_rfl, by kernel_rfl⟩
 | 10, 6, _, _ => fun _ => ⟨by kernel_rfl, by kernel_rfl⟩
 | 10, 7, _, _ => fun _ => ⟨by kernel_rfl, by kernel_rfl⟩
 | 10, 8, _, _ => fun _ => ⟨by kernel_rfl, by kernel_rfl⟩
 | 10, 9, _, _ => fun _ => ⟨by kernel_rfl, by kernel_rfl⟩
 | 10, 10, _, _ => fun _ => ⟨by kernel_rfl, by kernel_rfl⟩
 | 10, 11, _, _ => fun _ => ⟨by kernel_rfl, by kernel_rfl⟩
 | 11, 0, _, _ => fun _ => ⟨by kernel_rfl, by kernel_rfl⟩
 | 11, 1, _, _ => fun _ => ⟨by kernel_rfl, by kernel_rfl⟩
 | 11, 2, _, _ => fun _ => ⟨by kernel_rfl, by kernel_rfl⟩
 | 11, 3, _, _ => fun _ => ⟨by kernel_rfl, by kernel_rfl⟩
 | 11, 4, _, _ => fun _ => ⟨by kernel_rfl, by kernel_rfl⟩
 | 11, 5, _, _ => fun _ => ⟨by kernel_rfl, by kernel_rfl⟩
 | 11, 6, _, _ => fun _ => ⟨by kernel_rfl, by kernel_rfl⟩
 | 11, 7, _, _ => fun _ => ⟨by kernel_rfl, by kernel_rfl⟩
 | 11, 8, _, _ => fun _ => ⟨by kernel_rfl, by kernel_rfl⟩
 | 11, 9, _, _ => fun _ => ⟨by kernel_rfl, by kernel_rfl⟩
 | 11, 10, _, _ => fun _ => ⟨by kernel_rfl, by kernel_rfl⟩
 | 11, 11, _, _ => fun _ => ⟨by kernel_rfl, by kernel_rfl⟩
 | n + 12, _, h, _ => absurd h (by omega)
 | 0, k + 12, _, h | 1, k + 12, _, h | 2, k + 12, _, h | 3, k + 12, _, h | 4, k + 12, _, h | 5, k + 12, _, h | 6, k + 12, _, h | 7, k + 12, _, h | 8, k + 12, _, h | 9, k + 12, _, h | 10, k + 12, _, h | 11, k + 12, _, h => absurd h (by omega)
end Go.Proofs.YtbdciibbgiphcaaDoor.V

/- ExprsRanks: walk. -/
namespace Go.Proofs.YtbdciibbgiphcaaDoor.V
set_option linter.unusedVariables false
set_option linter.unusedSimpArgs false
set_option linter.unusedSectionVars false
open Go.RowKit Go.Proofs.YtbdciibbgiphcaaDoorW.PrintWords Go.Proofs.YtbdciibbgiphcaaDoorW.PrintLast Go.Proofs.YtbdciibbgiphcaaDoorW.PrintMore
theorem alloc3_new (w : World) (o o2 o3 : Obj) : (((w.alloc o).alloc o2).alloc o3).heap[w.heap.size + 1 + 1]? = some o3 := by
 have := heap_alloc_new ((w.alloc o).alloc o2) o3
 rwa [show ((w.alloc o).alloc o2).heap.size = w.heap.size + 1 + 1 by simp] at this
theorem tab1 : ∀ (i : Nat), i < 12 → (#[.int .u8 18, .int .u8 16, .int .u8 15, .int .u8 11, .int .u8 12, .int .u8 13, .int .u8 14, .int .u8 6, .int .u8 7, .int .u8 8, .int .u8 9, .int .u8 10] : Array Value)[i]? = some (.int .u8 (opT i))
 | 0, _ => rfl
 | 1, _ => rfl
 | 2, _ => rfl
 | 3, _ => rfl
 | 4, _ => rfl
 | 5, _ => rfl
 | 6, _ => rfl
 | 7, _ => rfl
 | 8, _ => rfl
 | 9, _ => rfl
 | 10, _ => rfl
 | 11, _ => rfl
 | n + 12, h => absurd h (by omega)
theorem tab2 : ∀ (i : Nat), i < 12 → (#[.string ⟨#[45, 62]⟩, .string ⟨#[111, 114]⟩, .string ⟨#[97, 110, 100]⟩, .string ⟨#[61, 61]⟩, .string ⟨#[33, 61]⟩, .string ⟨#[60]⟩, .string ⟨#[60, 61]⟩, .string ⟨#[43]⟩, .string ⟨#[45]⟩, .string ⟨#[42]⟩, .string ⟨#[47]⟩, .string ⟨#[37]⟩] : Array Value)[i]? = some (.string (siT i))
 | 0, _ => rfl
 | 1, _ => rfl
 | 2, _ => rfl
 | 3, _ => rfl
 | 4, _ => rfl
 | 5, _ => rfl
 | 6, _ => rfl
 | 7, _ => rfl
 | 8, _ => rfl
 | 9, _ => rfl
 | 10, _ => rfl
 | 11, _ => rfl
 | n + 12, h => absurd h (by omega)
theorem tab3 : ∀ (i : Nat), i < 12 → (#[.int .i64 0, .int .i64 1, .int .i64 2, .int .i64 3, .int .i64 3, .int .i64 3, .int .i64 3, .int .i64 4, .int .i64 4, .int .i64 5, .int .i64 5, .int .i64 5] : Array Value)[i]? = some (.int .i64 (raT i))
 | 0, _ => rfl
 | 1, _ => rfl
 | 2, _ => rfl
 | 3, _ => rfl
 | 4, _ => rfl
 | 5, _ => rfl
 | 6, _ => rfl
 | 7, _ => rfl
 | 8, _ => rfl
 | 9, _ => rfl
 | 10, _ => rfl
 | 11, _ => rfl
 | n + 12, h => absurd h (by omega)
theorem siT_le : ∀ (i : Nat), i < 12 → (siT i).size ≤ 3
 | 0, _ => by decide
 | 1, _ => by decide
 | 2, _ => by decide
 | 3, _ => by decide
 | 4, _ => by decide
 | 5, _ => by decide
 | 6, _ => by decide
 | 7, _ => by decide
 | 8, _ => by decide
 | 9, _ => by decide
 | 10, _ => by decide
 | 11, _ => by decide
 | n + 12, h => absurd h (by omega)
theorem opT_ok : ∀ (i : Nat), i < 12 → 0 ≤ opT i ∧ opT i ≤ 255
 | 0, _ => by decide
 | 1, _ => by decide
 | 2, _ => by decide
 | 3, _ => by decide
 | 4, _ => by decide
 | 5, _ => by decide
 | 6, _ => by decide
 | 7, _ => by decide
 | 8, _ => by decide
 | 9, _ => by decide
 | 10, _ => by decide
 | 11, _ => by decide
 | n + 12, h => absurd h (by omega)
theorem wfl (i k : Nat) (hi : i < 12) (hk : k < 12) : WfE (leftT i k) := wO2 (opT_ok k hk).1 (opT_ok k hk).2 (wO2 (opT_ok i hi).1 (opT_ok i hi).2 wA wB) wC
theorem wfr (i k : Nat) (hi : i < 12) (hk : k < 12) : WfE (rightT i k) := wO2 (opT_ok i hi).1 (opT_ok i hi).2 wA (wO2 (opT_ok k hk).1 (opT_ok k hk).2 wB wC)
theorem below4 {B : Nat} {a w : World} (h : Below B a w) {p : Nat} (hp : B ≤ p) (a0 a1 a2 a3 : Value) : Below B a ((((w.setCell ⟨p, 0, none⟩ a0).setCell ⟨p, 1, none⟩ a1).setCell ⟨p, 2, none⟩ a2).setCell ⟨p, 3, none⟩ a3) :=
 (((h.setCell (p := ⟨p, 0, none⟩) hp _).setCell (p := ⟨p, 1, none⟩) hp _).setCell (p := ⟨p, 2, none⟩) hp _).setCell (p := ⟨p, 3, none⟩) hp _
theorem cfar4 {w : World} {p b i : Nat} {u : Value} (h : w.cell? ⟨b, i, none⟩ = some u) (hne : b ≠ p) (a0 a1 a2 a3 : Value) :
  ((((w.setCell ⟨p, 0, none⟩ a0).setCell ⟨p, 1, none⟩ a1).setCell ⟨p, 2, none⟩ a2).setCell ⟨p, 3, none⟩ a3).cell? ⟨b, i, none⟩ = some u := by
 have far : ∀ (W : World) (j : Nat) (v : Value), W.cell? ⟨b, i, none⟩ = some u → (W.setCell ⟨p, j, none⟩ v).cell? ⟨b, i, none⟩ = some u := fun W j v hW => by
  rw [World.cell?_setCell_far _ _ _ _ (fun e => hne e.symm)]
  exact hW
 exact far _ _ _ (far _ _ _ (far _ _ _ (far _ _ _ h)))
set_option maxHeartbeats 32000000 in
set_option maxRecDepth 100000 in
theorem ranks_law (o p : Nat) (ho : o ≤ 255) (hp : p ≤ 255) (W : World) (hv : VarOk W) (ht : VarT W) : Calls Tryd.prog 9 #[.int .u8 o, .int .u8 p] W fun e W' => e = .returned (.bool true) ∧ Below W.heap.size W W' := by
 have HV := Lib.hid hv; have HT := Lib.hid ht
 clear hv ht
 obtain ⟨i, hi, hi12⟩ : ∃ i : Nat, (o : Int) % 12 = i ∧ i < 12 := ⟨o % 12, by omega, by omega⟩
 obtain ⟨k, hk, hk12⟩ : ∃ k : Nat, (p : Int) % 12 = k ∧ k < 12 := ⟨p % 12, by omega, by omega⟩
 have HT1 : Hid ((((W.alloc (.cells #[.int .u8 18, .int .u8 16, .int .u8 15, .int .u8 11, .int .u8 12, .int .u8 13, .int .u8 14, .int .u8 6, .int .u8 7, .int .u8 8, .int .u8 9, .int .u8 10] 22)).alloc (.cells #[.string ⟨#[45, 62]⟩, .string ⟨#[111, 114]⟩, .string ⟨#[97, 110, 100]⟩, .string ⟨#[61, 61]⟩, .string ⟨#[33, 61]⟩, .string ⟨#[60]⟩, .string ⟨#[60, 61]⟩, .string ⟨#[43]⟩, .string ⟨#[45]⟩, .string ⟨#[42]⟩, .string ⟨#[47]⟩, .string ⟨#[37]⟩] 9)).alloc (.cells #[.int .i64 0, .int .i64 1, .int .i64 2, .int .i64 3, .int .i64 3, .int .i64 3, .int .i64 3, .int .i64 4, .int .i64 4, .int .i64 5, .int .i64 5, .int .i64 5] 3)).heap[W.heap.size]? = some (.cells #[.int .u8 18, .int .u8 16, .int .u8 15, .int .u8 11, .int .u8 12, .int .u8 13, .int .u8 14, .int .u8 6, .int .u8 7, .int .u8 8, .int .u8 9, .int .u8 10] 22 (0, 0))) := Lib.hid (blk_alloc (blk_alloc (heap_alloc_new W _) _) _)
 have HT2 : Hid ((((W.alloc (.cells #[.int .u8 18, .int .u8 16, .int .u8 15, .int .u8 11, .int .u8 12, .int .u8 13, .int .u8 14, .int .u8 6, .int .u8 7, .int .u8 8, .int .u8 9, .int .u8 10] 22)).alloc (.cells #[.string ⟨#[45, 62]⟩, .string ⟨#[111, 114]⟩, .string ⟨#[97, 110, 100]⟩, .string ⟨#[61, 61]⟩, .string ⟨#[33, 61]⟩, .string ⟨#[60]⟩, .string ⟨#[60, 61]⟩, .string ⟨#[43]⟩, .string ⟨#[45]⟩, .string ⟨#[42]⟩, .string ⟨#[47]⟩, .string ⟨#[37]⟩] 9)).alloc (.cells #[.int .i64 0, .int .i64 1, .int .i64 2, .int .i64 3, .int .i64 3, .int .i64 3, .int .i64 3, .int .i64 4, .int .i64 4, .int .i64 5, .int .i64 5, .int .i64 5] 3)).heap[W.heap.size + 1]? = some (.cells #[.string ⟨#[45, 62]⟩, .string ⟨#[111, 114]⟩, .string ⟨#[97, 110, 100]⟩, .string ⟨#[61, 61]⟩, .string ⟨#[33, 61]⟩, .string ⟨#[60]⟩, .string ⟨#[60, 61]⟩, .string ⟨#[43]⟩, .string ⟨#[45]⟩, .string ⟨#[42]⟩, .string ⟨#[47]⟩, .string ⟨#[37]⟩] 9 (0, 0))) := Lib.hid (blk_alloc (alloc2_new W _ _) _)
 have HT3 : Hid ((((W.alloc (.cells #[.int .u8 18, .int .u8 16, .int .u8 15, .int .u8 11, .int .u8 12, .int .u8 13, .int .u8 14, .int .u8 6, .int .u8 7, .int .u8 8, .int .u8 9, .int .u8 10] 22)).alloc (.cells #[.string ⟨#[45, 62]⟩, .string ⟨#[111, 114]⟩, .string ⟨#[97, 110, 100]⟩, .string ⟨#[61, 61]⟩, .string ⟨#[33, 61]⟩, .string ⟨#[60]⟩, .string ⟨#[60, 61]⟩, .string ⟨#[43]⟩, .string ⟨#[45]⟩, .string ⟨#[42]⟩, .string ⟨#[47]⟩, .string ⟨#[37]⟩] 9)).alloc (.cells #[.int .i64 0, .int .i64 1, .int .i64 2, .int .i64 3, .int .i64 3, .int .i64 3, .int .i64 3, .int .i64 4, .int .i64 4, .int .i64 5, .int .i64 5, .int .i64 5] 3)).heap[W.heap.size + 1 + 1]? = some (.cells #[.int .i64 0, .int .i64 1, .int .i64 2, .int .i64 3, .int .i64 3, .int .i64 3, .int .i64 3, .int .i64 4, .int .i64 4, .int .i64 5, .int .i64 5, .int .i64 5] 3 (0, 0))) := Lib.hid (alloc3_new W _ _ _)
 have HB : Hid (Below W.heap.size W (((W.alloc (.cells #[.int .u8 18, .int .u8 16, .int .u8 15, .int .u8 11, .int .u8 12, .int .u8 13, .int .u8 14, .int .u8 6, .int .u8 7, .int .u8 8, .int .u8 9, .int .u8 10] 22)).alloc (.cells #[.string ⟨#[45, 62]⟩, .string ⟨#[111, 114]⟩, .string ⟨#[97, 110, 100]⟩, .string ⟨#[61, 61]⟩, .string ⟨#[33, 61]⟩, .string ⟨#[60]⟩, .string ⟨#[60, 61]⟩, .string ⟨#[43]⟩, .string ⟨#[45]⟩, .string ⟨#[42]⟩, .string ⟨#[47]⟩, .string ⟨#[37]⟩] 9)).alloc (.cells #[.int .i64 0, .int .i64 1, .int .i64 2, .int .i64 3, .int .i64 3, .int .i64 3, .int .i64 3, .int .i64 4, .int .i64 4, .int .i64 5, .int .i64 5, .int .i64 5] 3))) := Lib.hid ((((Below.refl _ _).alloc (Nat.le_refl _) _).alloc (by simp) _).alloc (by simp; omega) _)
 have bi : (0 : Int) ≤ (i : Int) ∧ (i : Int) < 12 := ⟨by omega, by omega⟩
 have bk : (0 : Int) ≤ (k : Int) ∧ (k : Int) < 12 := ⟨by omega, by omega⟩
 have bi1 := bi.1; have bi2 := bi.2; have bk1 := bk.1; have bk2 := bk.2
 go_enter Tryd.func9, Tryd.ntmps9
 go_wp2_with fail
 generalize (((W.alloc (.cells #[.int .u8 18, .int .u8 16, .int .u8 15, .int .u8 11, .int .u8 12, .int .u8 13, .int .u8 14, .int .u8 6, .int .u8 7, .int .u8 8, .int .u8 9, .int .u8 10] 22)).alloc (.cells #[.string ⟨#[45, 62]⟩, .string ⟨#[111, 114]⟩, .string ⟨#[97, 110, 100]⟩, .string ⟨#[61, 61]⟩, .string ⟨#[33, 61]⟩, .string ⟨#[60]⟩, .string ⟨#[60, 61]⟩, .string ⟨#[43]⟩, .string ⟨#[45]⟩, .string ⟨#[42]⟩, .string ⟨#[47]⟩, .string ⟨#[37]⟩] 9)).alloc (.cells #[.int .i64 0, .int .i64 1, .int .i64 2, .int .i64 3, .int .i64 3, .int .i64 3, .int .i64 3, .int .i64 4, .int .i64 4, .int .i64 5, .int .i64 5, .int .i64 5] 3)) = x0 at *
 refine (name_law ⟨#[97]⟩ _).mono ?_
 rintro e w1_ ⟨rfl, hb⟩
 replace HT1 := kp hb (HT1.out)
 replace HT2 := kp hb (HT2.out)
 replace HT3 := kp hb (HT3.out)
 replace HB := Lib.hid ((HB.out).trans (hb.mono (HB.out).size))
 have HA := Lib.hid (heap_alloc_new w1_ (.cells #[.int .u8 3, .int .i64 0, .string ⟨#[97]⟩, .slice none 0 0] 25))
 replace HT1 := Lib.hid (blk_alloc HT1.out (.cells #[.int .u8 3, .int .i64 0, .string ⟨#[97]⟩, .slice none 0 0] 25))
 replace HT2 := Lib.hid (blk_alloc HT2.out (.cells #[.int .u8 3, .int .i64 0, .string ⟨#[97]⟩, .slice none 0 0] 25))
 replace HT3 := Lib.hid (blk_alloc HT3.out (.cells #[.int .u8 3, .int .i64 0, .string ⟨#[97]⟩, .slice none 0 0] 25))
 replace HB := Lib.hid (HB.out.alloc HB.out.size (.cells #[.int .u8 3, .int .i64 0, .string ⟨#[97]⟩, .slice none 0 0] 25))
 clear hb
 go_wp2_with fail
 refine (name_law ⟨#[98]⟩ _).mono ?_
 rintro e w2_ ⟨rfl, hb⟩
 replace HT1 := kp hb (HT1.out)
 replace HT2 := kp hb (HT2.out)
 replace HT3 := kp hb (HT3.out)
 replace HA := kp hb (HA.out)
 replace HB := Lib.hid ((HB.out).trans (hb.mono (HB.out).size))
 have HK := Lib.hid (heap_alloc_new w2_ (.cells #[.int .u8 3, .int .i64 0, .string ⟨#[98]⟩, .slice none 0 0] 25))
 replace HT1 := Lib.hid (blk_alloc HT1.out (.cells #[.int .u8 3, .int .i64 0, .string ⟨#[98]⟩, .slice none 0 0] 25))
 replace HT2 := Lib.hid (blk_alloc HT2.out (.cells #[.int .u8 3, .int .i64 0, .string ⟨#[98]⟩, .slice none 0 0] 25))
 replace HT3 := Lib.hid (blk_alloc HT3.out (.cells #[.int .u8 3, .int .i64 0, .string ⟨#[98]⟩, .slice none 0 0] 25))
 replace HA := Lib.hid (blk_alloc HA.out (.cells #[.int .u8 3, .int .i64 0, .string ⟨#[98]⟩, .slice none 0 0] 25))
 replace HB := Lib.hid (HB.out.alloc HB.out.size (.cells #[.int .u8 3, .int .i64 0, .string ⟨#[98]⟩, .slice none 0 0] 25))
 clear hb
 go_wp2_with fail
 refine (name_law ⟨#[99]⟩ _).mono ?_
 rintro e w3_ ⟨rfl, hb⟩
 replace HT1 := kp hb (HT1.out)
 replace HT2 := kp hb (HT2.out)
 replace HT3 := kp hb (HT3.out)
 replace HA := kp hb (HA.out)
 replace HK := kp hb (HK.out)
 replace HB := Lib.hid ((HB.out).trans (hb.mono (HB.out).size))
 have HC := Lib.hid (heap_alloc_new w3_ (.cells #[.int .u8 3, .int .i64 0, .string ⟨#[99]⟩, .slice none 0 0] 25))
 replace HT1 := Lib.hid (blk_alloc HT1.out (.cells #[.int .u8 3, .int .i64 0, .string ⟨#[99]⟩, .slice none 0 0] 25))
 replace HT2 := Lib.hid (blk_alloc HT2.out (.cells #[.int .u8 3, .int .i64 0, .string ⟨#[99]⟩, .slice none 0 0] 25))
 replace HT3 := Lib.hid (blk_alloc HT3.out (.cells #[.int .u8 3, .int .i64 0, .string ⟨#[99]⟩, .slice none 0 0] 25))
 replace HA := Lib.hid (blk_alloc HA.out (.cells #[.int .u8 3, .int .i64 0, .string ⟨#[99]⟩, .slice none 0 0] 25))
 replace HK := Lib.hid (blk_alloc HK.out (.cells #[.int .u8 3, .int .i64 0, .string ⟨#[99]⟩, .slice none 0 0] 25))
 replace HB := Lib.hid (HB.out.alloc HB.out.size (.cells #[.int .u8 3, .int .i64 0, .string ⟨#[99]⟩, .slice none 0 0] 25))
 clear hb
 go_wp2_with fail
 generalize w3_.alloc (.cells #[.int .u8 3, .int .i64 0, .string ⟨#[99]⟩, .slice none 0 0] 25) = x3 at *
 rename_i K0 hK0
 have fin9 : ∀ (z0 z1 z2 z3 z4 z14 z15 z16 z17 z18 z19 z20 z21 z22 z23 z24 z25 z26 z27 z28 z29 z30 z31 z32 z33 z34 z35 z36 z37 z38 z39 z40 z41 z42 z43 z44 z45 z46 z47 z48 z49 z50 z51 z52 z53 z54 z55 z56 z57 z58 z59 z60 z61 z62 z63 z64 z65 z66 z67 z68 z69 z70 z71 z72 z73 z74 z75 z76 z77 z78 z79 z80 z81 z82 z83 z84 z85 z86 z87 z88 z89 z90 z91 z92 z93 z94 z95 z96 z97 z98 z99 z100 z101 z102 z103 z104 z105 z106 z107 z108 z109 z110 z111 z112 z113 z114 z115 z116 z117 z118 z119 z120 z121 z122 z123 z124 z125 z126 z127 z128 z129 z130 z131 z132 z133 z134 z135 z136 z137 z138 z139 z140 z141 z142 z143 z144 z145 z146 z147 z148 z149 z150 z151 z152 z153 z154 z155 z156 z157 z158 z159 z160 z161 z162 z163 z164 z165 z166 z167 z168 z169 z170 z171 z172 z173 z174 z175 z176 z177 z178 : Value) (q13 b1 b2 : Nat) (Wf : World), Below W.heap.size W Wf → Wf.heap[W.heap.size]? = some (.cells #[.int .u8 18, .int .u8 16, .int .u8 15, .int .u8 11, .int .u8 12, .int .u8 13, .int .u8 14, .int .u8 6, .int .u8 7, .int .u8 8, .int .u8 9, .int .u8 10] 22 (0, 0)) → Wf.heap[W.heap.size + 1]? = some (.cells #[.string ⟨#[45, 62]⟩, .string ⟨#[111, 114]⟩, .string ⟨#[97, 110, 100]⟩, .string ⟨#[61, 61]⟩, .string ⟨#[33, 61]⟩, .string ⟨#[60]⟩, .string ⟨#[60, 61]⟩, .string ⟨#[43]⟩, .string ⟨#[45]⟩, .string ⟨#[42]⟩, .string ⟨#[47]⟩, .string ⟨#[37]⟩] 9 (0, 0)) → Wf.heap[W.heap.size + 1 + 1]? = some (.cells #[.int .i64 0, .int .i64 1, .int .i64 2, .int .i64 3, .int .i64 3, .int .i64 3, .int .i64 3, .int .i64 4, .int .i64 4, .int .i64 5, .int .i64 5, .int .i64 5] 3 (0, 0)) → Wf.heap[w1_.heap.size]? = some (.cells #[.int .u8 3, .int .i64 0, .string ⟨#[97]⟩, .slice none 0 0] 25 (0, 0)) → Wf.heap[w2_.heap.size]? = some (.cells #[.int .u8 3, .int .i64 0, .string ⟨#[98]⟩, .slice none 0 0] 25 (0, 0)) → Wf.heap[w3_.heap.size]? = some (.cells #[.int .u8 3, .int .i64 0, .string ⟨#[99]⟩, .slice none 0 0] 25 (0, 0)) → Wf.heap[b1]? = some (.cells #[.int .u8 3, .int .i64 0, .string ⟨#[97]⟩, .slice none 0 0, .int .u8 3, .int .i64 0, .string ⟨#[98]⟩, .slice none 0 0] 25 (0, 0)) → Wf.heap[b2]? = some (.cells #[.int .u8 (opT i), .int .i64 0, .string ⟨#[]⟩, .slice (some ⟨b1, 0, none⟩) 2 2, .int .u8 3, .int .i64 0, .string ⟨#[99]⟩, .slice none 0 0] 25 (0, 0)) → Wf.heap[q13]? = some (.cells #[.int .u8 (opT k), .int .i64 0, .string ⟨#[]⟩, .slice (some ⟨b2, 0, none⟩) 2 2] 25 (0, 0)) → K0 ⟨#[z0, z1, z2, z3, z4, .slice (some ⟨W.heap.size, 0, none⟩) 12 12, .slice (some ⟨W.heap.size + 1, 0, none⟩) 12 12, .slice (some ⟨W.heap.size + 1 + 1, 0, none⟩) 12 12, .int .i64 (i : Int), .int .i64 (k : Int), .pointer (some ⟨w1_.heap.size, 0, none⟩), .pointer (some ⟨w2_.heap.size, 0, none⟩), .pointer (some ⟨w3_.heap.size, 0, none⟩), .pointer (some ⟨q13, 0, none⟩), z14, z15, z16, z17, z18, z19, z20, z21, z22, z23, z24, z25, z26, z27, z28, z29, z30, z31, z32, z33, z34, z35, z36, z37, z38, z39, z40, z41, z42, z43, z44, z45, z46, z47, z48, z49, z50, z51, z52, z53, z54, z55, z56, z57, z58, z59, z60, z61, z62, z63, z64, z65, z66, z67, z68, z69, z70, z71, z72, z73, z74, z75, z76, z77, z78, z79, z80, z81, z82, z83, z84, z85, z86, z87, z88, z89, z90, z91, z92, z93, z94, z95, z96, z97, z98, z99, z100, z101, z102, z103, z104, z105, z106, z107, z108, z109, z110, z111, z112, z113, z114, z115, z116, z117, z118, z119, z120, z121, z122, z123, z124, z125, z126, z127, z128, z129, z130, z131, z132, z133, z134, z135, z136, z137, z138, z139, z140, z141, z142, z143, z144, z145, z146, z147, z148, z149, z150, z151, z152, z153, z154, z155, z156, z157, z158, z159, z160, z161, z162, z163, z164, z165, z166, z167, z168, z169, z170, z171, z172, z173, z174, z175, z176, z177, z178], []⟩ Wf := by
  intro z0 z1 z2 z3 z4 z14 z15 z16 z17 z18 z19 z20 z21 z22 z23 z24 z25 z26 z27 z28 z29 z30 z31 z32 z33 z34 z35 z36 z37 z38 z39 z40 z41 z42 z43 z44 z45 z46 z47 z48 z49 z50 z51 z52 z53 z54 z55 z56 z57 z58 z59 z60 z61 z62 z63 z64 z65 z66 z67 z68 z69 z70 z71 z72 z73 z74 z75 z76 z77 z78 z79 z80 z81 z82 z83 z84 z85 z86 z87 z88 z89 z90 z91 z92 z93 z94 z95 z96 z97 z98 z99 z100 z101 z102 z103 z104 z105 z106 z107 z108 z109 z110 z111 z112 z113 z114 z115 z116 z117 z118 z119 z120 z121 z122 z123 z124 z125 z126 z127 z128 z129 z130 z131 z132 z133 z134 z135 z136 z137 z138 z139 z140 z141 z142 z143 z144 z145 z146 z147 z148 z149 z150 z151 z152 z153 z154 z155 z156 z157 z158 z159 z160 z161 z162 z163 z164 z165 z166 z167 z168 z169 z170 z171 z172 z173 z174 z175 z176 z177 z178 q13 b1 b2 Wf hHB hHT1 hHT2 hHT3 hHA hHK hHC hG1 hG2 hG3
  clear HB HT1 HT2 HT3 HA HK HC
  have HB := Lib.hid hHB; have HT1 := Lib.hid hHT1; have HT2 := Lib.hid hHT2; have HT3 := Lib.hid hHT3; have HA := Lib.hid hHA; have HK := Lib.hid hHK; have HC := Lib.hid hHC; have HG1 := Lib.hid hG1; have HG2 := Lib.hid hG2; have HG3 := Lib.hid hG3
  clear hHB hHT1 hHT2 hHT3 hHA hHK hHC hG1 hG2 hG3
  apply hK0
  go_wp2_with fail
  rename_i K1 hK1
  have fin10 : ∀ (z0 z1 z2 z3 z4 z15 z16 z17 z18 z19 z20 z21 z22 z23 z24 z25 z26 z27 z28 z29 z30 z31 z32 z33 z34 z35 z36 z37 z38 z39 z40 z41 z42 z43 z44 z45 z46 z47 z48 z49 z50 z51 z52 z53 z54 z55 z56 z57 z58 z59 z60 z61 z62 z63 z64 z65 z66 z67 z68 z69 z70 z71 z72 z73 z74 z75 z76 z77 z78 z79 z80 z81 z82 z83 z84 z85 z86 z87 z88 z89 z90 z91 z92 z93 z94 z95 z96 z97 z98 z99 z100 z101 z102 z103 z104 z105 z106 z107 z108 z109 z110 z111 z112 z113 z114 z115 z116 z117 z118 z119 z120 z121 z122 z123 z124 z125 z126 z127 z128 z129 z130 z131 z132 z133 z134 z135 z136 z137 z138 z139 z140 z141 z142 z143 z144 z145 z146 z147 z148 z149 z150 z151 z152 z153 z154 z155 z156 z157 z158 z159 z160 z161 z162 z163 z164 z165 z166 z167 z168 z169 z170 z171 z172 z173 z174 z175 z176 z177 z178 : Value) (q14 d1 d2 : Nat) (Wf : World), Below W.heap.size W Wf → Wf.heap[W.heap.size]? = some (.cells #[.int .u8 18, .int .u8 16, .int .u8 15, .int .u8 11, .int .u8 12, .int .u8 13, .int .u8 14, .int .u8 6, .int .u8 7, .int .u8 8, .int .u8 9, .int .u8 10] 22 (0, 0)) → Wf.heap[W.heap.size + 1]? = some (.cells #[.string ⟨#[45, 62]⟩, .string ⟨#[111, 114]⟩, .string ⟨#[97, 110, 100]⟩, .string ⟨#[61, 61]⟩, .string ⟨#[33, 61]⟩, .string ⟨#[60]⟩, .string ⟨#[60, 61]⟩, .string ⟨#[43]⟩, .string ⟨#[45]⟩, .string ⟨#[42]⟩, .string ⟨#[47]⟩, .string ⟨#[37]⟩] 9 (0, 0)) → Wf.heap[W.heap.size + 1 + 1]? = some (.cells #[.int .i64 0, .int .i64 1, .int .i64 2, .int .i64 3, .int .i64 3, .int .i64 3, .int .i64 3, .int .i64 4, .int .i64 4, .int .i64 5, .int .i64 5, .int .i64 5] 3 (0, 0)) → Wf.heap[w1_.heap.size]? = some (.cells #[.int .u8 3, .int .i64 0, .string ⟨#[97]⟩, .slice none 0 0] 25 (0, 0)) → Wf.heap[w2_.heap.size]? = some (.cells #[.int .u8 3, .int .i64 0, .string ⟨#[98]⟩, .slice none 0 0] 25 (0, 0)) → Wf.heap[w3_.heap.size]? = some (.cells #[.int .u8 3, .int .i64 0, .string ⟨#[99]⟩, .slice none 0 0] 25 (0, 0)) → Wf.heap[b1]? = some (.cells #[.int .u8 3, .int .i64 0, .string ⟨#[97]⟩, .slice none 0 0, .int .u8 3, .int .i64 0, .string ⟨#[98]⟩, .slice none 0 0] 25 (0, 0)) → Wf.heap[b2]? = some (.cells #[.int .u8 (opT i), .int .i64 0, .string ⟨#[]⟩, .slice (some ⟨b1, 0, none⟩) 2 2, .int .u8 3, .int .i64 0, .string ⟨#[99]⟩, .slice none 0 0] 25 (0, 0)) → Wf.heap[q13]? = some (.cells #[.int .u8 (opT k), .int .i64 0, .string ⟨#[]⟩, .slice (some ⟨b2, 0, none⟩) 2 2] 25 (0, 0)) → Wf.heap[d1]? = some (.cells #[.int .u8 3, .int .i64 0, .string ⟨#[98]⟩, .slice none 0 0, .int .u8 3, .int .i64 0, .string ⟨#[99]⟩, .slice none 0 0] 25 (0, 0)) → Wf.heap[d2]? = some (.cells #[.int .u8 3, .int .i64 0, .string ⟨#[97]⟩, .slice none 0 0, .int .u8 (opT k), .int .i64 0, .string ⟨#[]⟩, .slice (some ⟨d1, 0, none⟩) 2 2] 25 (0, 0)) → Wf.heap[q14]? = some (.cells #[.int .u8 (opT i), .int .i64 0, .string ⟨#[]⟩, .slice (some ⟨d2, 0, none⟩) 2 2] 25 (0, 0)) → K1 ⟨#[z0, z1, z2, z3, z4, .slice (some ⟨W.heap.size, 0, none⟩) 12 12, .slice (some ⟨W.heap.size + 1, 0, none⟩) 12 12, .slice (some ⟨W.heap.size + 1 + 1, 0, none⟩) 12 12, .int .i64 (i : Int), .int .i64 (k : Int), .pointer (some ⟨w1_.heap.size, 0, none⟩), .pointer (some ⟨w2_.heap.size, 0, none⟩), .pointer (some ⟨w3_.heap.size, 0, none⟩), .pointer (some ⟨q13, 0, none⟩), .pointer (some ⟨q14, 0, none⟩), z15, z16, z17, z18, z19, z20, z21, z22, z23, z24, z25, z26, z27, z28, z29, z30, z31, z32, z33, z34, z35, z36, z37, z38, z39, z40, z41, z42, z43, z44, z45, z46, z47, z48, z49, z50, z51, z52, z53, z54, z55, z56, z57, z58, z59, z60, z61, z62, z63, z64, z65, z66, z67, z68, z69, z70, z71, z72, z73, z74, z75, z76, z77, z78, z79, z80, z81, z82, z83, z84, z85, z86, z87, z88, z89, z90, z91, z92, z93, z94, z95, z96, z97, z98, z99, z100, z101, z102, z103, z104, z105, z106, z107, z108, z109, z110, z111, z112, z113, z114, z115, z116, z117, z118, z119, z120, z121, z122, z123, z124, z125, z126, z127, z128, z129, z130, z131, z132, z133, z134, z135, z136, z137, z138, z139, z140, z141, z142, z143, z144, z145, z146, z147, z148, z149, z150, z151, z152, z153, z154, z155, z156, z157, z158, z159, z160, z161, z162, z163, z164, z165, z166, z167, z168, z169, z170, z171, z172, z173, z174, z175, z176, z177, z178], []⟩ Wf := by
   intro z0 z1 z2 z3 z4 z15 z16 z17 z18 z19 z20 z21 z22 z23 z24 z25 z26 z27 z28 z29 z30 z31 z32 z33 z34 z35 z36 z37 z38 z39 z40 z41 z42 z43 z44 z45 z46 z47 z48 z49 z50 z51 z52 z53 z54 z55 z56 z57 z58 z59 z60 z61 z62 z63 z64 z65 z66 z67 z68 z69 z70 z71 z72 z73 z74 z75 z76 z77 z78 z79 z80 z81 z82 z83 z84 z85 z86 z87 z88 z89 z90 z91 z92 z93 z94 z95 z96 z97 z98 z99 z100 z101 z102 z103 z104 z105 z106 z107 z108 z109 z110 z111 z112 z113 z114 z115 z116 z117 z118 z119 z120 z121 z122 z123 z124 z125 z126 z127 z128 z129 z130 z131 z132 z133 z134 z135 z136 z137 z138 z139 z140 z141 z142 z143 z144 z145 z146 z147 z148 z149 z150 z151 z152 z153 z154 z155 z156 z157 z158 z159 z160 z161 z162 z163 z164 z165 z166 z167 z168 z169 z170 z171 z172 z173 z174 z175 z176 z177 z178 q14 d1 d2 Wf hHB hHT1 hHT2 hHT3 hHA hHK hHC hG1 hG2 hG3 hR1 hR2 hR3
   clear HB HT1 HT2 HT3 HA HK HC HG1 HG2 HG3
   have HB := Lib.hid hHB; have HT1 := Lib.hid hHT1; have HT2 := Lib.hid hHT2; have HT3 := Lib.hid hHT3; have HA := Lib.hid hHA; have HK := Lib.hid hHK; have HC := Lib.hid hHC; have HG1 := Lib.hid hG1; have HG2 := Lib.hid hG2; have HG3 := Lib.hid hG3; have HR1 := Lib.hid hR1; have HR2 := Lib.hid hR2; have HR3 := Lib.hid hR3
   clear hHB hHT1 hHT2 hHT3 hHA hHK hHC hG1 hG2 hG3 hR1 hR2 hR3
   apply hK1
   go_wp2_with fail
   have si := (blk_cell HT2.out i).trans (tab2 i hi12); have sk := (blk_cell HT2.out k).trans (tab2 k hk12)
   have li := siT_le i hi12; have lk := siT_le k hk12
   have hs0 : (9223372036854775807 < 2 + (siT i).size) = False := eq_false (by omega)
   have hs1 : (9223372036854775807 < 2 + (siT i).size + 3) = False := eq_false (by omega)
   have hs2 : (9223372036854775807 < 2 + (siT i).size + 3 + (siT k).size) = False := eq_false (by omega)
   have hs3 : (9223372036854775807 < 2 + (siT i).size + 3 + (siT k).size + 2) = False := eq_false (by omega)
   go_region_held3 (fun w' => w'.cell? ⟨W.heap.size + 1, i, none⟩ = some (.string (siT i)) ∧ w'.cell? ⟨W.heap.size + 1, k, none⟩ = some (.string (siT k))) (first | (with_reducible exact ⟨si, sk⟩) | go_keep) (fail)
   clear hs0 hs1 hs2 hs3
   go_wp2_with fail
   have hs0 : (9223372036854775807 < 3 + (siT i).size) = False := eq_false (by omega)
   have hs1 : (9223372036854775807 < 3 + (siT i).size + 4) = False := eq_false (by omega)
   have hs2 : (9223372036854775807 < 3 + (siT i).size + 4 + (siT k).size) = False := eq_false (by omega)
   have hs3 : (9223372036854775807 < 3 + (siT i).size + 4 + (siT k).size + 2) = False := eq_false (by omega)
   go_region_held3 (fun w' => w'.cell? ⟨W.heap.size + 1, i, none⟩ = some (.string (siT i)) ∧ w'.cell? ⟨W.heap.size + 1, k, none⟩ = some (.string (siT k))) (first | (with_reducible exact ⟨si, sk⟩) | go_keep) (fail)
   clear hs0 hs1 hs2 hs3
   go_wp2_with fail
   have hs0 : (9223372036854775807 < 2 + (siT i).size) = False := eq_false (by omega)
   have hs1 : (9223372036854775807 < 2 + (siT i).size + 4) = False := eq_false (by omega)
   have hs2 : (9223372036854775807 < 2 + (siT i).size + 4 + (siT k).size) = False := eq_false (by omega)
   have hs3 : (9223372036854775807 < 2 + (siT i).size + 4 + (siT k).size + 3) = False := eq_false (by omega)
   go_region_held3 (fun w' => w'.cell? ⟨W.heap.size + 1, i, none⟩ = some (.string (siT i)) ∧ w'.cell? ⟨W.heap.size + 1, k, none⟩ = some (.string (siT k))) (first | (with_reducible exact ⟨si, sk⟩) | go_keep) (fail)
   clear hs0 hs1 hs2 hs3
   replace HT1 := Lib.hid (blk_drew (blk_drew (blk_drew HT1.out)))
   replace HT2 := Lib.hid (blk_drew (blk_drew (blk_drew HT2.out)))
   replace HT3 := Lib.hid (blk_drew (blk_drew (blk_drew HT3.out)))
   replace HA := Lib.hid (blk_drew (blk_drew (blk_drew HA.out)))
   replace HK := Lib.hid (blk_drew (blk_drew (blk_drew HK.out)))
   replace HC := Lib.hid (blk_drew (blk_drew (blk_drew HC.out)))
   replace HG1 := Lib.hid (blk_drew (blk_drew (blk_drew HG1.out)))
   replace HG2 := Lib.hid (blk_drew (blk_drew (blk_drew HG2.out)))
   replace HG3 := Lib.hid (blk_drew (blk_drew (blk_drew HG3.out)))
   replace HR1 := Lib.hid (blk_drew (blk_drew (blk_drew HR1.out)))
   replace HR2 := Lib.hid (blk_drew (blk_drew (blk_drew HR2.out)))
   replace HR3 := Lib.hid (blk_drew (blk_drew (blk_drew HR3.out)))
   replace HB := Lib.hid HB.out.drew.drew.drew
   clear si sk li lk
   generalize Wf.drew.drew.drew = wz at *
   have ri := (blk_cell HT3.out i).trans (tab3 i hi12); have rk := (blk_cell HT3.out k).trans (tab3 k hk12)
   by_cases i3 : raT i = 3
   ·by_cases k3 : raT k = 3
    ·have q1 : (raT i == 3) = true := by simpa using i3
     have q2 : (raT k == 3) = true := by simpa using k3
     have hw : way i k = 0 := by unfold way; rw [if_pos ⟨i3, k3⟩]
     go_wp2_with fail
     clear ri rk
     refine (read_law (plainT i k) _ false _ (HV.out.step HB.out) ((wayT_plain i k hi12 hk12).1 hw)).mono ?_
     rintro e vr ⟨Ar, cr, rfl, hlr, hFr, hb⟩
     clear hFr
     replace HT1 := kp hb (HT1.out)
     replace HT2 := kp hb (HT2.out)
     replace HT3 := kp hb (HT3.out)
     replace HA := kp hb (HA.out)
     replace HK := kp hb (HK.out)
     replace HC := kp hb (HC.out)
     replace HG1 := kp hb (HG1.out)
     replace HG2 := kp hb (HG2.out)
     replace HG3 := kp hb (HG3.out)
     replace HR1 := kp hb (HR1.out)
     replace HR2 := kp hb (HR2.out)
     replace HR3 := kp hb (HR3.out)
     replace HB := Lib.hid ((HB.out).trans (hb.mono (HB.out).size))
     clear hb
     go_wp2_with fail
     refine (alive_law _ (HV.out.step (HB.out.alloc HB.out.size _)) (HT.out.step (HB.out.alloc HB.out.size _))).mono ?_
     rintro e va ⟨rfl, hb⟩
     replace HT1 := kp hb (blk_alloc (HT1.out) _)
     replace HT2 := kp hb (blk_alloc (HT2.out) _)
     replace HT3 := kp hb (blk_alloc (HT3.out) _)
     replace HA := kp hb (blk_alloc (HA.out) _)
     replace HK := kp hb (blk_alloc (HK.out) _)
     replace HC := kp hb (blk_alloc (HC.out) _)
     replace HG1 := kp hb (blk_alloc (HG1.out) _)
     replace HG2 := kp hb (blk_alloc (HG2.out) _)
     replace HG3 := kp hb (blk_alloc (HG3.out) _)
     replace HR1 := kp hb (blk_alloc (HR1.out) _)
     replace HR2 := kp hb (blk_alloc (HR2.out) _)
     replace HR3 := kp hb (blk_alloc (HR3.out) _)
     replace HB := Lib.hid ((((HB.out).alloc (HB.out).size _)).trans (hb.mono (((HB.out).alloc (HB.out).size _)).size))
     clear hb
     have g0 := blk_cell HG3.out 0; have g1 := blk_cell HG3.out 1; have g2 := blk_cell HG3.out 2; have g3 := blk_cell HG3.out 3
     have y0 := blk_cell HR3.out 0; have y1 := blk_cell HR3.out 1; have y2 := blk_cell HR3.out 2; have y3 := blk_cell HR3.out 3
     dsimp at g0 g1 g2 g3 y0 y1 y2 y3
     go_wp2_with fail
     clear g0 g1 g2 g3 y0 y1 y2 y3
     have hT := wayT_first i k hi12 hk12 (by omega)
     refine (is_law (firstT i k) (leftT i k) (some ⟨b2, 0, none⟩) 2 _ (HV.out.step HB.out) (HT.out.step HB.out) (wfl i k hi12 hk12) (Nat.le_refl _) (Kd.F_now (lit2 (b := b2) (tO (opT i) [tA, tB]) tC (some ⟨b1, 0, none⟩) none 2 0 _ rfl HG2.out (Nat.le_refl _) (lit2 (b := b1) tA tB none none 0 0 _ rfl HG1.out (Nat.le_refl _) (F_none _ _ _) (Nat.le_refl _) (F_none _ _ _)) (Nat.le_refl _) (F_none _ _ _))) hT.1 hT.2).mono ?_
     rintro e vq ⟨rfl, hb⟩
     clear hT
     replace HT1 := kp hb (HT1.out)
     replace HT2 := kp hb (HT2.out)
     replace HT3 := kp hb (HT3.out)
     replace HA := kp hb (HA.out)
     replace HK := kp hb (HK.out)
     replace HC := kp hb (HC.out)
     replace HG1 := kp hb (HG1.out)
     replace HG2 := kp hb (HG2.out)
     replace HG3 := kp hb (HG3.out)
     replace HR1 := kp hb (HR1.out)
     replace HR2 := kp hb (HR2.out)
     replace HR3 := kp hb (HR3.out)
     replace HB := Lib.hid ((HB.out).trans (hb.mono (HB.out).size))
     clear hb
     have g0 := blk_cell HG3.out 0; have g1 := blk_cell HG3.out 1; have g2 := blk_cell HG3.out 2; have g3 := blk_cell HG3.out 3
     have y0 := blk_cell HR3.out 0; have y1 := blk_cell HR3.out 1; have y2 := blk_cell HR3.out 2; have y3 := blk_cell HR3.out 3
     dsimp at g0 g1 g2 g3 y0 y1 y2 y3
     go_wp2_with fail
     clear g0 g1 g2 g3 y0 y1 y2 y3
     have hT := wayT_second i k hi12 hk12 (by omega)
     refine (is_law (secondT i k) (rightT i k) (some ⟨d2, 0, none⟩) 2 _ (HV.out.step HB.out) (HT.out.step HB.out) (wfr i k hi12 hk12) (Nat.le_refl _) (Kd.F_now (lit2 (b := d2) tA (tO (opT k) [tB, tC]) none (some ⟨d1, 0, none⟩) 0 2 _ rfl HR2.out (Nat.le_refl _) (F_none _ _ _) (Nat.le_refl _) (lit2 (b := d1) tB tC none none 0 0 _ rfl HR1.out (Nat.le_refl _) (F_none _ _ _) (Nat.le_refl _) (F_none _ _ _)))) hT.1 hT.2).mono ?_
     rintro e vq ⟨rfl, hb⟩
     clear hT
     replace HT1 := kp hb (HT1.out)
     replace HT2 := kp hb (HT2.out)
     replace HT3 := kp hb (HT3.out)
     replace HA := kp hb (HA.out)
     replace HK := kp hb (HK.out)
     replace HC := kp hb (HC.out)
     replace HG1 := kp hb (HG1.out)
     replace HG2 := kp hb (HG2.out)
     replace HG3 := kp hb (HG3.out)
     replace HR1 := kp hb (HR1.out)
     replace HR2 := kp hb (HR2.out)
     replace HR3 := kp hb (HR3.out)
     replace HB := Lib.hid ((HB.out).trans (hb.mono (HB.out).size))
     clear hb
     go_wp2_with fail
     go_ret
     exact ⟨rfl, HB.out⟩
    ·have q1 : (raT i == 3) = true := by simpa using i3
     have q2 : (raT k == 3) = false := by simpa using k3
     have hn : ¬ (raT i = 3 ∧ raT k = 3) := by omega
     by_cases hgt : raT k < raT i
     ·have e1 : decide (raT k < raT i) = true := decide_eq_true hgt
      have hw : way i k = 1 := by unfold way; rw [if_neg hn, if_pos (.inl hgt)]
      clear i3
      go_wp2_with fail
      go_quiet (fail)
      replace HT1 := Lib.hid (blk_drewN HT1.out nq)
      replace HT2 := Lib.hid (blk_drewN HT2.out nq)
      replace HT3 := Lib.hid (blk_drewN HT3.out nq)
      replace HA := Lib.hid (blk_drewN HA.out nq)
      replace HK := Lib.hid (blk_drewN HK.out nq)
      replace HC := Lib.hid (blk_drewN HC.out nq)
      replace HG1 := Lib.hid (blk_drewN HG1.out nq)
      replace HG2 := Lib.hid (blk_drewN HG2.out nq)
      replace HG3 := Lib.hid (blk_drewN HG3.out nq)
      replace HR1 := Lib.hid (blk_drewN HR1.out nq)
      replace HR2 := Lib.hid (blk_drewN HR2.out nq)
      replace HR3 := Lib.hid (blk_drewN HR3.out nq)
      replace HB := Lib.hid (pw_below_drewN HB.out nq)
      clear ri rk
      generalize wz.drewN nq = wy at *
      go_wp2_with fail
      refine (alive_law _ (HV.out.step HB.out) (HT.out.step HB.out)).mono ?_
      rintro e va ⟨rfl, hb⟩
      replace HT1 := kp hb (HT1.out)
      replace HT2 := kp hb (HT2.out)
      replace HT3 := kp hb (HT3.out)
      replace HA := kp hb (HA.out)
      replace HK := kp hb (HK.out)
      replace HC := kp hb (HC.out)
      replace HG1 := kp hb (HG1.out)
      replace HG2 := kp hb (HG2.out)
      replace HG3 := kp hb (HG3.out)
      replace HR1 := kp hb (HR1.out)
      replace HR2 := kp hb (HR2.out)
      replace HR3 := kp hb (HR3.out)
      replace HB := Lib.hid ((HB.out).trans (hb.mono (HB.out).size))
      clear hb
      have g0 := blk_cell HG3.out 0; have g1 := blk_cell HG3.out 1; have g2 := blk_cell HG3.out 2; have g3 := blk_cell HG3.out 3
      have y0 := blk_cell HR3.out 0; have y1 := blk_cell HR3.out 1; have y2 := blk_cell HR3.out 2; have y3 := blk_cell HR3.out 3
      dsimp at g0 g1 g2 g3 y0 y1 y2 y3
      go_wp2_with fail
      clear g0 g1 g2 g3 y0 y1 y2 y3
      have hT := (wayT_plain i k hi12 hk12).2.1 hw
      refine (is_law (plainT i k) (leftT i k) (some ⟨b2, 0, none⟩) 2 _ (HV.out.step HB.out) (HT.out.step HB.out) (wfl i k hi12 hk12) (Nat.le_refl _) (Kd.F_now (lit2 (b := b2) (tO (opT i) [tA, tB]) tC (some ⟨b1, 0, none⟩) none 2 0 _ rfl HG2.out (Nat.le_refl _) (lit2 (b := b1) tA tB none none 0 0 _ rfl HG1.out (Nat.le_refl _) (F_none _ _ _) (Nat.le_refl _) (F_none _ _ _)) (Nat.le_refl _) (F_none _ _ _))) hT.1 hT.2).mono ?_
      rintro e vq ⟨rfl, hb⟩
      clear hT
      replace HT1 := kp hb (HT1.out)
      replace HT2 := kp hb (HT2.out)
      replace HT3 := kp hb (HT3.out)
      replace HA := kp hb (HA.out)
      replace HK := kp hb (HK.out)
      replace HC := kp hb (HC.out)
      replace HG1 := kp hb (HG1.out)
      replace HG2 := kp hb (HG2.out)
      replace HG3 := kp hb (HG3.out)
      replace HR1 := kp hb (HR1.out)
      replace HR2 := kp hb (HR2.out)
      replace HR3 := kp hb (HR3.out)
      replace HB := Lib.hid ((HB.out).trans (hb.mono (HB.out).size))
      clear hb
      have g0 := blk_cell HG3.out 0; have g1 := blk_cell HG3.out 1; have g2 := blk_cell HG3.out 2; have g3 := blk_cell HG3.out 3
      have y0 := blk_cell HR3.out 0; have y1 := blk_cell HR3.out 1; have y2 := blk_cell HR3.out 2; have y3 := blk_cell HR3.out 3
      dsimp at g0 g1 g2 g3 y0 y1 y2 y3
      go_wp2_with fail
      clear g0 g1 g2 g3 y0 y1 y2 y3
      have hT := wayT_second i k hi12 hk12 (by omega)
      refine (is_law (secondT i k) (rightT i k) (some ⟨d2, 0, none⟩) 2 _ (HV.out.step HB.out) (HT.out.step HB.out) (wfr i k hi12 hk12) (Nat.le_refl _) (Kd.F_now (lit2 (b := d2) tA (tO (opT k) [tB, tC]) none (some ⟨d1, 0, none⟩) 0 2 _ rfl HR2.out (Nat.le_refl _) (F_none _ _ _) (Nat.le_refl _) (lit2 (b := d1) tB tC none none 0 0 _ rfl HR1.out (Nat.le_refl _) (F_none _ _ _) (Nat.le_refl _) (F_none _ _ _)))) hT.1 hT.2).mono ?_
      rintro e vq ⟨rfl, hb⟩
      clear hT
      replace HT1 := kp hb (HT1.out)
      replace HT2 := kp hb (HT2.out)
      replace HT3 := kp hb (HT3.out)
      replace HA := kp hb (HA.out)
      replace HK := kp hb (HK.out)
      replace HC := kp hb (HC.out)
      replace HG1 := kp hb (HG1.out)
      replace HG2 := kp hb (HG2.out)
      replace HG3 := kp hb (HG3.out)
      replace HR1 := kp hb (HR1.out)
      replace HR2 := kp hb (HR2.out)
      replace HR3 := kp hb (HR3.out)
      replace HB := Lib.hid ((HB.out).trans (hb.mono (HB.out).size))
      clear hb
      go_wp2_with fail
      go_ret
      exact ⟨rfl, HB.out⟩
     ·have e1 : decide (raT k < raT i) = false := decide_eq_false hgt
      by_cases heq : raT i = raT k
      ·by_cases h0 : 0 < raT i
       ·have e2 : (raT i == raT k) = true := by simpa using heq
        have e3 : decide (0 < raT i) = true := decide_eq_true h0
        have hw : way i k = 1 := by unfold way; rw [if_neg hn, if_pos (.inr ⟨heq, h0⟩)]
        exfalso; omega
       ·have e2 : (raT i == raT k) = true := by simpa using heq
        have e3 : decide (0 < raT i) = false := decide_eq_false h0
        have hw : way i k = 2 := by unfold way; rw [if_neg hn, if_neg (by omega)]
        exfalso; omega
      ·have e2 : (raT i == raT k) = false := by simpa using heq
       have hw : way i k = 2 := by unfold way; rw [if_neg hn, if_neg (by omega)]
       clear i3
       go_wp2_with fail
       go_quiet (fail)
       replace HT1 := Lib.hid (blk_drewN HT1.out nq)
       replace HT2 := Lib.hid (blk_drewN HT2.out nq)
       replace HT3 := Lib.hid (blk_drewN HT3.out nq)
       replace HA := Lib.hid (blk_drewN HA.out nq)
       replace HK := Lib.hid (blk_drewN HK.out nq)
       replace HC := Lib.hid (blk_drewN HC.out nq)
       replace HG1 := Lib.hid (blk_drewN HG1.out nq)
       replace HG2 := Lib.hid (blk_drewN HG2.out nq)
       replace HG3 := Lib.hid (blk_drewN HG3.out nq)
       replace HR1 := Lib.hid (blk_drewN HR1.out nq)
       replace HR2 := Lib.hid (blk_drewN HR2.out nq)
       replace HR3 := Lib.hid (blk_drewN HR3.out nq)
       replace HB := Lib.hid (pw_below_drewN HB.out nq)
       clear ri rk
       generalize wz.drewN nq = wy at *
       go_wp2_with fail
       refine (alive_law _ (HV.out.step HB.out) (HT.out.step HB.out)).mono ?_
       rintro e va ⟨rfl, hb⟩
       replace HT1 := kp hb (HT1.out)
       replace HT2 := kp hb (HT2.out)
       replace HT3 := kp hb (HT3.out)
       replace HA := kp hb (HA.out)
       replace HK := kp hb (HK.out)
       replace HC := kp hb (HC.out)
       replace HG1 := kp hb (HG1.out)
       replace HG2 := kp hb (HG2.out)
       replace HG3 := kp hb (HG3.out)
       replace HR1 := kp hb (HR1.out)
       replace HR2 := kp hb (HR2.out)
       replace HR3 := kp hb (HR3.out)
       replace HB := Lib.hid ((HB.out).trans (hb.mono (HB.out).size))
       clear hb
       have g0 := blk_cell HG3.out 0; have g1 := blk_cell HG3.out 1; have g2 := blk_cell HG3.out 2; have g3 := blk_cell HG3.out 3
       have y0 := blk_cell HR3.out 0; have y1 := blk_cell HR3.out 1; have y2 := blk_cell HR3.out 2; have y3 := blk_cell HR3.out 3
       dsimp at g0 g1 g2 g3 y0 y1 y2 y3
       go_wp2_with fail
       clear g0 g1 g2 g3 y0 y1 y2 y3
       have hT := (wayT_plain i k hi12 hk12).2.2 hw
       refine (is_law (plainT i k) (rightT i k) (some ⟨d2, 0, none⟩) 2 _ (HV.out.step HB.out) (HT.out.step HB.out) (wfr i k hi12 hk12) (Nat.le_refl _) (Kd.F_now (lit2 (b := d2) tA (tO (opT k) [tB, tC]) none (some ⟨d1, 0, none⟩) 0 2 _ rfl HR2.out (Nat.le_refl _) (F_none _ _ _) (Nat.le_refl _) (lit2 (b := d1) tB tC none none 0 0 _ rfl HR1.out (Nat.le_refl _) (F_none _ _ _) (Nat.le_refl _) (F_none _ _ _)))) hT.1 hT.2).mono ?_
       rintro e vq ⟨rfl, hb⟩
       clear hT
       replace HT1 := kp hb (HT1.out)
       replace HT2 := kp hb (HT2.out)
       replace HT3 := kp hb (HT3.out)
       replace HA := kp hb (HA.out)
       replace HK := kp hb (HK.out)
       replace HC := kp hb (HC.out)
       replace HG1 := kp hb (HG1.out)
       replace HG2 := kp hb (HG2.out)
       replace HG3 := kp hb (HG3.out)
       replace HR1 := kp hb (HR1.out)
       replace HR2 := kp hb (HR2.out)
       replace HR3 := kp hb (HR3.out)
       replace HB := Lib.hid ((HB.out).trans (hb.mono (HB.out).size))
       clear hb
       have g0 := blk_cell HG3.out 0; have g1 := blk_cell HG3.out 1; have g2 := blk_cell HG3.out 2; have g3 := blk_cell HG3.out 3
       have y0 := blk_cell HR3.out 0; have y1 := blk_cell HR3.out 1; have y2 := blk_cell HR3.out 2; have y3 := blk_cell HR3.out 3
       dsimp at g0 g1 g2 g3 y0 y1 y2 y3
       go_wp2_with fail
       clear g0 g1 g2 g3 y0 y1 y2 y3
       have hT := wayT_first i k hi12 hk12 (by omega)
       refine (is_law (firstT i k) (leftT i k) (some ⟨b2, 0, none⟩) 2 _ (HV.out.step HB.out) (HT.out.step HB.out) (wfl i k hi12 hk12) (Nat.le_refl _) (Kd.F_now (lit2 (b := b2) (tO (opT i) [tA, tB]) tC (some ⟨b1, 0, none⟩) none 2 0 _ rfl HG2.out (Nat.le_refl _) (lit2 (b := b1) tA tB none none 0 0 _ rfl HG1.out (Nat.le_refl _) (F_none _ _ _) (Nat.le_refl _) (F_none _ _ _)) (Nat.le_refl _) (F_none _ _ _))) hT.1 hT.2).mono ?_
       rintro e vq ⟨rfl, hb⟩
       clear hT
       replace HT1 := kp hb (HT1.out)
       replace HT2 := kp hb (HT2.out)
       replace HT3 := kp hb (HT3.out)
       replace HA := kp hb (HA.out)
       replace HK := kp hb (HK.out)
       replace HC := kp hb (HC.out)
       replace HG1 := kp hb (HG1.out)
       replace HG2 := kp hb (HG2.out)
       replace HG3 := kp hb (HG3.out)
       replace HR1 := kp hb (HR1.out)
       replace HR2 := kp hb (HR2.out)
       replace HR3 := kp hb (HR3.out)
       replace HB := Lib.hid ((HB.out).trans (hb.mono (HB.out).size))
       clear hb
       go_wp2_with fail
       go_ret
       exact ⟨rfl, HB.out⟩
   ·have q1 : (raT i == 3) = false := by simpa using i3
    have hn : ¬ (raT i = 3 ∧ raT k = 3) := by omega
    by_cases hgt : raT k < raT i
    ·have e1 : decide (raT k < raT i) = true := decide_eq_true hgt
     have hw : way i k = 1 := by unfold way; rw [if_neg hn, if_pos (.inl hgt)]
     go_wp2_with fail
     go_quiet (fail)
     replace HT1 := Lib.hid (blk_drewN HT1.out nq)
     replace HT2 := Lib.hid (blk_drewN HT2.out nq)
     replace HT3 := Lib.hid (blk_drewN HT3.out nq)
     replace HA := Lib.hid (blk_drewN HA.out nq)
     replace HK := Lib.hid (blk_drewN HK.out nq)
     replace HC := Lib.hid (blk_drewN HC.out nq)
     replace HG1 := Lib.hid (blk_drewN HG1.out nq)
     replace HG2 := Lib.hid (blk_drewN HG2.out nq)
     replace HG3 := Lib.hid (blk_drewN HG3.out nq)
     replace HR1 := Lib.hid (blk_drewN HR1.out nq)
     replace HR2 := Lib.hid (blk_drewN HR2.out nq)
     replace HR3 := Lib.hid (blk_drewN HR3.out nq)
     replace HB := Lib.hid (pw_below_drewN HB.out nq)
     clear ri rk
     generalize wz.drewN nq = wy at *
     go_wp2_with fail
     refine (alive_law _ (HV.out.step HB.out) (HT.out.step HB.out)).mono ?_
     rintro e va ⟨rfl, hb⟩
     replace HT1 := kp hb (HT1.out)
     replace HT2 := kp hb (HT2.out)
     replace HT3 := kp hb (HT3.out)
     replace HA := kp hb (HA.out)
     replace HK := kp hb (HK.out)
     replace HC := kp hb (HC.out)
     replace HG1 := kp hb (HG1.out)
     replace HG2 := kp hb (HG2.out)
     replace HG3 := kp hb (HG3.out)
     replace HR1 := kp hb (HR1.out)
     replace HR2 := kp hb (HR2.out)
     replace HR3 := kp hb (HR3.out)
     replace HB := Lib.hid ((HB.out).trans (hb.mono (HB.out).size))
     clear hb
     have g0 := blk_cell HG3.out 0; have g1 := blk_cell HG3.out 1; have g2 := blk_cell HG3.out 2; have g3 := blk_cell HG3.out 3
     have y0 := blk_cell HR3.out 0; have y1 := blk_cell HR3.out 1; have y2 := blk_cell HR3.out 2; have y3 := blk_cell HR3.out 3
     dsimp at g0 g1 g2 g3 y0 y1 y2 y3
     go_wp2_with fail
     clear g0 g1 g2 g3 y0 y1 y2 y3
     have hT := (wayT_plain i k hi12 hk12).2.1 hw
     refine (is_law (plainT i k) (leftT i k) (some ⟨b2, 0, none⟩) 2 _ (HV.out.step HB.out) (HT.out.step HB.out) (wfl i k hi12 hk12) (Nat.le_refl _) (Kd.F_now (lit2 (b := b2) (tO (opT i) [tA, tB]) tC (some ⟨b1, 0, none⟩) none 2 0 _ rfl HG2.out (Nat.le_refl _) (lit2 (b := b1) tA tB none none 0 0 _ rfl HG1.out (Nat.le_refl _) (F_none _ _ _) (Nat.le_refl _) (F_none _ _ _)) (Nat.le_refl _) (F_none _ _ _))) hT.1 hT.2).mono ?_
     rintro e vq ⟨rfl, hb⟩
     clear hT
     replace HT1 := kp hb (HT1.out)
     replace HT2 := kp hb (HT2.out)
     replace HT3 := kp hb (HT3.out)
     replace HA := kp hb (HA.out)
     replace HK := kp hb (HK.out)
     replace HC := kp hb (HC.out)
     replace HG1 := kp hb (HG1.out)
     replace HG2 := kp hb (HG2.out)
     replace HG3 := kp hb (HG3.out)
     replace HR1 := kp hb (HR1.out)
     replace HR2 := kp hb (HR2.out)
     replace HR3 := kp hb (HR3.out)
     replace HB := Lib.hid ((HB.out).trans (hb.mono (HB.out).size))
     clear hb
     have g0 := blk_cell HG3.out 0; have g1 := blk_cell HG3.out 1; have g2 := blk_cell HG3.out 2; have g3 := blk_cell HG3.out 3
     have y0 := blk_cell HR3.out 0; have y1 := blk_cell HR3.out 1; have y2 := blk_cell HR3.out 2; have y3 := blk_cell HR3.out 3
     dsimp at g0 g1 g2 g3 y0 y1 y2 y3
     go_wp2_with fail
     clear g0 g1 g2 g3 y0 y1 y2 y3
     have hT := wayT_second i k hi12 hk12 (by omega)
     refine (is_law (secondT i k) (rightT i k) (some ⟨d2, 0, none⟩) 2 _ (HV.out.step HB.out) (HT.out.step HB.out) (wfr i k hi12 hk12) (Nat.le_refl _) (Kd.F_now (lit2 (b := d2) tA (tO (opT k) [tB, tC]) none (some ⟨d1, 0, none⟩) 0 2 _ rfl HR2.out (Nat.le_refl _) (F_none _ _ _) (Nat.le_refl _) (lit2 (b := d1) tB tC none none 0 0 _ rfl HR1.out (Nat.le_refl _) (F_none _ _ _) (Nat.le_refl _) (F_none _ _ _)))) hT.1 hT.2).mono ?_
     rintro e vq ⟨rfl, hb⟩
     clear hT
     replace HT1 := kp hb (HT1.out)
     replace HT2 := kp hb (HT2.out)
     replace HT3 := kp hb (HT3.out)
     replace HA := kp hb (HA.out)
     replace HK := kp hb (HK.out)
     replace HC := kp hb (HC.out)
     replace HG1 := kp hb (HG1.out)
     replace HG2 := kp hb (HG2.out)
     replace HG3 := kp hb (HG3.out)
     replace HR1 := kp hb (HR1.out)
     replace HR2 := kp hb (HR2.out)
     replace HR3 := kp hb (HR3.out)
     replace HB := Lib.hid ((HB.out).trans (hb.mono (HB.out).size))
     clear hb
     go_wp2_with fail
     go_ret
     exact ⟨rfl, HB.out⟩
    ·have e1 : decide (raT k < raT i) = false := decide_eq_false hgt
     by_cases heq : raT i = raT k
     ·by_cases h0 : 0 < raT i
      ·have e2 : (raT i == raT k) = true := by simpa using heq
       have e3 : decide (0 < raT i) = true := decide_eq_true h0
       have hw : way i k = 1 := by unfold way; rw [if_neg hn, if_pos (.inr ⟨heq, h0⟩)]
       clear heq
       go_wp2_with fail
       go_quiet (fail)
       replace HT1 := Lib.hid (blk_drewN HT1.out nq)
       replace HT2 := Lib.hid (blk_drewN HT2.out nq)
       replace HT3 := Lib.hid (blk_drewN HT3.out nq)
       replace HA := Lib.hid (blk_drewN HA.out nq)
       replace HK := Lib.hid (blk_drewN HK.out nq)
       replace HC := Lib.hid (blk_drewN HC.out nq)
       replace HG1 := Lib.hid (blk_drewN HG1.out nq)
       replace HG2 := Lib.hid (blk_drewN HG2.out nq)
       replace HG3 := Lib.hid (blk_drewN HG3.out nq)
       replace HR1 := Lib.hid (blk_drewN HR1.out nq)
       replace HR2 := Lib.hid (blk_drewN HR2.out nq)
       replace HR3 := Lib.hid (blk_drewN HR3.out nq)
       replace HB := Lib.hid (pw_below_drewN HB.out nq)
       clear ri rk
       generalize wz.drewN nq = wy at *
       go_wp2_with fail
       refine (alive_law _ (HV.out.step HB.out) (HT.out.step HB.out)).mono ?_
       rintro e va ⟨rfl, hb⟩
       replace HT1 := kp hb (HT1.out)
       replace HT2 := kp hb (HT2.out)
       replace HT3 := kp hb (HT3.out)
       replace HA := kp hb (HA.out)
       replace HK := kp hb (HK.out)
       replace HC := kp hb (HC.out)
       replace HG1 := kp hb (HG1.out)
       replace HG2 := kp hb (HG2.out)
       replace HG3 := kp hb (HG3.out)
       replace HR1 := kp hb (HR1.out)
       replace HR2 := kp hb (HR2.out)
       replace HR3 := kp hb (HR3.out)
       replace HB := Lib.hid ((HB.out).trans (hb.mono (HB.out).size))
       clear hb
       have g0 := blk_cell HG3.out 0; have g1 := blk_cell HG3.out 1; have g2 := blk_cell HG3.out 2; have g3 := blk_cell HG3.out 3
       have y0 := blk_cell HR3.out 0; have y1 := blk_cell HR3.out 1; have y2 := blk_cell HR3.out 2; have y3 := blk_cell HR3.out 3
       dsimp at g0 g1 g2 g3 y0 y1 y2 y3
       go_wp2_with fail
       clear g0 g1 g2 g3 y0 y1 y2 y3
       have hT := (wayT_plain i k hi12 hk12).2.1 hw
       refine (is_law (plainT i k) (leftT i k) (some ⟨b2, 0, none⟩) 2 _ (HV.out.step HB.out) (HT.out.step HB.out) (wfl i k hi12 hk12) (Nat.le_refl _) (Kd.F_now (lit2 (b := b2) (tO (opT i) [tA, tB]) tC (some ⟨b1, 0, none⟩) none 2 0 _ rfl HG2.out (Nat.le_refl _) (lit2 (b := b1) tA tB none none 0 0 _ rfl HG1.out (Nat.le_refl _) (F_none _ _ _) (Nat.le_refl _) (F_none _ _ _)) (Nat.le_refl _) (F_none _ _ _))) hT.1 hT.2).mono ?_
       rintro e vq ⟨rfl, hb⟩
       clear hT
       replace HT1 := kp hb (HT1.out)
       replace HT2 := kp hb (HT2.out)
       replace HT3 := kp hb (HT3.out)
       replace HA := kp hb (HA.out)
       replace HK := kp hb (HK.out)
       replace HC := kp hb (HC.out)
       replace HG1 := kp hb (HG1.out)
       replace HG2 := kp hb (HG2.out)
       replace HG3 := kp hb (HG3.out)
       replace HR1 := kp hb (HR1.out)
       replace HR2 := kp hb (HR2.out)
       replace HR3 := kp hb (HR3.out)
       replace HB := Lib.hid ((HB.out).trans (hb.mono (HB.out).size))
       clear hb
       have g0 := blk_cell HG3.out 0; have g1 := blk_cell HG3.out 1; have g2 := blk_cell HG3.out 2; have g3 := blk_cell HG3.out 3
       have y0 := blk_cell HR3.out 0; have y1 := blk_cell HR3.out 1; have y2 := blk_cell HR3.out 2; have y3 := blk_cell HR3.out 3
       dsimp at g0 g1 g2 g3 y0 y1 y2 y3
       go_wp2_with fail
       clear g0 g1 g2 g3 y0 y1 y2 y3
       have hT := wayT_second i k hi12 hk12 (by omega)
       refine (is_law (secondT i k) (rightT i k) (some ⟨d2, 0, none⟩) 2 _ (HV.out.step HB.out) (HT.out.step HB.out) (wfr i k hi12 hk12) (Nat.le_refl _) (Kd.F_now (lit2 (b := d2) tA (tO (opT k) [tB, tC]) none (some ⟨d1, 0, none⟩) 0 2 _ rfl HR2.out (Nat.le_refl _) (F_none _ _ _) (Nat.le_refl _) (lit2 (b := d1) tB tC none none 0 0 _ rfl HR1.out (Nat.le_refl _) (F_none _ _ _) (Nat.le_refl _) (F_none _ _ _)))) hT.1 hT.2).mono ?_
       rintro e vq ⟨rfl, hb⟩
       clear hT
       replace HT1 := kp hb (HT1.out)
       replace HT2 := kp hb (HT2.out)
       replace HT3 := kp hb (HT3.out)
       replace HA := kp hb (HA.out)
       replace HK := kp hb (HK.out)
       replace HC := kp hb (HC.out)
       replace HG1 := kp hb (HG1.out)
       replace HG2 := kp hb (HG2.out)
       replace HG3 := kp hb (HG3.out)
       replace HR1 := kp hb (HR1.out)
       replace HR2 := kp hb (HR2.out)
       replace HR3 := kp hb (HR3.out)
       replace HB := Lib.hid ((HB.out).trans (hb.mono (HB.out).size))
       clear hb
       go_wp2_with fail
       go_ret
       exact ⟨rfl, HB.out⟩
      ·have e2 : (raT i == raT k) = true := by simpa using heq
       have e3 : decide (0 < raT i) = false := decide_eq_false h0
       have hw : way i k = 2 := by unfold way; rw [if_neg hn, if_neg (by omega)]
       clear heq
       go_wp2_with fail
       go_quiet (fail)
       replace HT1 := Lib.hid (blk_drewN HT1.out nq)
       replace HT2 := Lib.hid (blk_drewN HT2.out nq)
       replace HT3 := Lib.hid (blk_drewN HT3.out nq)
       replace HA := Lib.hid (blk_drewN HA.out nq)
       replace HK := Lib.hid (blk_drewN HK.out nq)
       replace HC := Lib.hid (blk_drewN HC.out nq)
       replace HG1 := Lib.hid (blk_drewN HG1.out nq)
       replace HG2 := Lib.hid (blk_drewN HG2.out nq)
       replace HG3 := Lib.hid (blk_drewN HG3.out nq)
       replace HR1 := Lib.hid (blk_drewN HR1.out nq)
       replace HR2 := Lib.hid (blk_drewN HR2.out nq)
       replace HR3 := Lib.hid (blk_drewN HR3.out nq)
       replace HB := Lib.hid (pw_below_drewN HB.out nq)
       clear ri rk
       generalize wz.drewN nq = wy at *
       go_wp2_with fail
       refine (alive_law _ (HV.out.step HB.out) (HT.out.step HB.out)).mono ?_
       rintro e va ⟨rfl, hb⟩
       replace HT1 := kp hb (HT1.out)
       replace HT2 := kp hb (HT2.out)
       replace HT3 := kp hb (HT3.out)
       replace HA := kp hb (HA.out)
       replace HK := kp hb (HK.out)
       replace HC := kp hb (HC.out)
       replace HG1 := kp hb (HG1.out)
       replace HG2 := kp hb (HG2.out)
       replace HG3 := kp hb (HG3.out)
       replace HR1 := kp hb (HR1.out)
       replace HR2 := kp hb (HR2.out)
       replace HR3 := kp hb (HR3.out)
       replace HB := Lib.hid ((HB.out).trans (hb.mono (HB.out).size))
       clear hb
       have g0 := blk_cell HG3.out 0; have g1 := blk_cell HG3.out 1; have g2 := blk_cell HG3.out 2; have g3 := blk_cell HG3.out 3
       have y0 := blk_cell HR3.out 0; have y1 := blk_cell HR3.out 1; have y2 := blk_cell HR3.out 2; have y3 := blk_cell HR3.out 3
       dsimp at g0 g1 g2 g3 y0 y1 y2 y3
       go_wp2_with fail
       clear g0 g1 g2 g3 y0 y1 y2 y3
       have hT := (wayT_plain i k hi12 hk12).2.2 hw
       refine (is_law (plainT i k) (rightT i k) (some ⟨d2, 0, none⟩) 2 _ (HV.out.step HB.out) (HT.out.step HB.out) (wfr i k hi12 hk12) (Nat.le_refl _) (Kd.F_now (lit2 (b := d2) tA (tO (opT k) [tB, tC]) none (some ⟨d1, 0, none⟩) 0 2 _ rfl HR2.out (Nat.le_refl _) (F_none _ _ _) (Nat.le_refl _) (lit2 (b := d1) tB tC none none 0 0 _ rfl HR1.out (Nat.le_refl _) (F_none _ _ _) (Nat.le_refl _) (F_none _ _ _)))) hT.1 hT.2).mono ?_
       rintro e vq ⟨rfl, hb⟩
       clear hT
       replace HT1 := kp hb (HT1.out)
       replace HT2 := kp hb (HT2.out)
       replace HT3 := kp hb (HT3.out)
       replace HA := kp hb (HA.out)
       replace HK := kp hb (HK.out)
       replace HC := kp hb (HC.out)
       replace HG1 := kp hb (HG1.out)
       replace HG2 := kp hb (HG2.out)
       replace HG3 := kp hb (HG3.out)
       replace HR1 := kp hb (HR1.out)
       replace HR2 := kp hb (HR2.out)
       replace HR3 := kp hb (HR3.out)
       replace HB := Lib.hid ((HB.out).trans (hb.mono (HB.out).size))
       clear hb
       have g0 := blk_cell HG3.out 0; have g1 := blk_cell HG3.out 1; have g2 := blk_cell HG3.out 2; have g3 := blk_cell HG3.out 3
       have y0 := blk_cell HR3.out 0; have y1 := blk_cell HR3.out 1; have y2 := blk_cell HR3.out 2; have y3 := blk_cell HR3.out 3
       dsimp at g0 g1 g2 g3 y0 y1 y2 y3
       go_wp2_with fail
       clear g0 g1 g2 g3 y0 y1 y2 y3
       have hT := wayT_first i k hi12 hk12 (by omega)
       refine (is_law (firstT i k) (leftT i k) (some ⟨b2, 0, none⟩) 2 _ (HV.out.step HB.out) (HT.out.step HB.out) (wfl i k hi12 hk12) (Nat.le_refl _) (Kd.F_now (lit2 (b := b2) (tO (opT i) [tA, tB]) tC (some ⟨b1, 0, none⟩) none 2 0 _ rfl HG2.out (Nat.le_refl _) (lit2 (b := b1) tA tB none none 0 0 _ rfl HG1.out (Nat.le_refl _) (F_none _ _ _) (Nat.le_refl _) (F_none _ _ _)) (Nat.le_refl _) (F_none _ _ _))) hT.1 hT.2).mono ?_
       rintro e vq ⟨rfl, hb⟩
       clear hT
       replace HT1 := kp hb (HT1.out)
       replace HT2 := kp hb (HT2.out)
       replace HT3 := kp hb (HT3.out)
       replace HA := kp hb (HA.out)
       replace HK := kp hb (HK.out)
       replace HC := kp hb (HC.out)
       replace HG1 := kp hb (HG1.out)
       replace HG2 := kp hb (HG2.out)
       replace HG3 := kp hb (HG3.out)
       replace HR1 := kp hb (HR1.out)
       replace HR2 := kp hb (HR2.out)
       replace HR3 := kp hb (HR3.out)
       replace HB := Lib.hid ((HB.out).trans (hb.mono (HB.out).size))
       clear hb
       go_wp2_with fail
       go_ret
       exact ⟨rfl, HB.out⟩
     ·have e2 : (raT i == raT k) = false := by simpa using heq
      have hw : way i k = 2 := by unfold way; rw [if_neg hn, if_neg (by omega)]
      go_wp2_with fail
      go_quiet (fail)
      replace HT1 := Lib.hid (blk_drewN HT1.out nq)
      replace HT2 := Lib.hid (blk_drewN HT2.out nq)
      replace HT3 := Lib.hid (blk_drewN HT3.out nq)
      replace HA := Lib.hid (blk_drewN HA.out nq)
      replace HK := Lib.hid (blk_drewN HK.out nq)
      replace HC := Lib.hid (blk_drewN HC.out nq)
      replace HG1 := Lib.hid (blk_drewN HG1.out nq)
      replace HG2 := Lib.hid (blk_drewN HG2.out nq)
      replace HG3 := Lib.hid (blk_drewN HG3.out nq)
      replace HR1 := Lib.hid (blk_drewN HR1.out nq)
      replace HR2 := Lib.hid (blk_drewN HR2.out nq)
      replace HR3 := Lib.hid (blk_drewN HR3.out nq)
      replace HB := Lib.hid (pw_below_drewN HB.out nq)
      clear ri rk
      generalize wz.drewN nq = wy at *
      go_wp2_with fail
      refine (alive_law _ (HV.out.step HB.out) (HT.out.step HB.out)).mono ?_
      rintro e va ⟨rfl, hb⟩
      replace HT1 := kp hb (HT1.out)
      replace HT2 := kp hb (HT2.out)
      replace HT3 := kp hb (HT3.out)
      replace HA := kp hb (HA.out)
      replace HK := kp hb (HK.out)
      replace HC := kp hb (HC.out)
      replace HG1 := kp hb (HG1.out)
      replace HG2 := kp hb (HG2.out)
      replace HG3 := kp hb (HG3.out)
      replace HR1 := kp hb (HR1.out)
      replace HR2 := kp hb (HR2.out)
      replace HR3 := kp hb (HR3.out)
      replace HB := Lib.hid ((HB.out).trans (hb.mono (HB.out).size))
      clear hb
      have g0 := blk_cell HG3.out 0; have g1 := blk_cell HG3.out 1; have g2 := blk_cell HG3.out 2; have g3 := blk_cell HG3.out 3
      have y0 := blk_cell HR3.out 0; have y1 := blk_cell HR3.out 1; have y2 := blk_cell HR3.out 2; have y3 := blk_cell HR3.out 3
      dsimp at g0 g1 g2 g3 y0 y1 y2 y3
      go_wp2_with fail
      clear g0 g1 g2 g3 y0 y1 y2 y3
      have hT := (wayT_plain i k hi12 hk12).2.2 hw
      refine (is_law (plainT i k) (rightT i k) (some ⟨d2, 0, none⟩) 2 _ (HV.out.step HB.out) (HT.out.step HB.out) (wfr i k hi12 hk12) (Nat.le_refl _) (Kd.F_now (lit2 (b := d2) tA (tO (opT k) [tB, tC]) none (some ⟨d1, 0, none⟩) 0 2 _ rfl HR2.out (Nat.le_refl _) (F_none _ _ _) (Nat.le_refl _) (lit2 (b := d1) tB tC none none 0 0 _ rfl HR1.out (Nat.le_refl _) (F_none _ _ _) (Nat.le_refl _) (F_none _ _ _)))) hT.1 hT.2).mono ?_
      rintro e vq ⟨rfl, hb⟩
      clear hT
      replace HT1 := kp hb (HT1.out)
      replace HT2 := kp hb (HT2.out)
      replace HT3 := kp hb (HT3.out)
      replace HA := kp hb (HA.out)
      replace HK := kp hb (HK.out)
      replace HC := kp hb (HC.out)
      replace HG1 := kp hb (HG1.out)
      replace HG2 := kp hb (HG2.out)
      replace HG3 := kp hb (HG3.out)
      replace HR1 := kp hb (HR1.out)
      replace HR2 := kp hb (HR2.out)
      replace HR3 := kp hb (HR3.out)
      replace HB := Lib.hid ((HB.out).trans (hb.mono (HB.out).size))
      clear hb
      have g0 := blk_cell HG3.out 0; have g1 := blk_cell HG3.out 1; have g2 := blk_cell HG3.out 2; have g3 := blk_cell HG3.out 3
      have y0 := blk_cell HR3.out 0; have y1 := blk_cell HR3.out 1; have y2 := blk_cell HR3.out 2; have y3 := blk_cell HR3.out 3
      dsimp at g0 g1 g2 g3 y0 y1 y2 y3
      go_wp2_with fail
      clear g0 g1 g2 g3 y0 y1 y2 y3
      have hT := wayT_first i k hi12 hk12 (by omega)
      refine (is_law (firstT i k) (leftT i k) (some ⟨b2, 0, none⟩) 2 _ (HV.out.step HB.out) (HT.out.step HB.out) (wfl i k hi12 hk12) (Nat.le_refl _) (Kd.F_now (lit2 (b := b2) (tO (opT i) [tA, tB]) tC (some ⟨b1, 0, none⟩) none 2 0 _ rfl HG2.out (Nat.le_refl _) (lit2 (b := b1) tA tB none none 0 0 _ rfl HG1.out (Nat.le_refl _) (F_none _ _ _) (Nat.le_refl _) (F_none _ _ _)) (Nat.le_refl _) (F_none _ _ _))) hT.1 hT.2).mono ?_
      rintro e vq ⟨rfl, hb⟩
      clear hT
      replace HT1 := kp hb (HT1.out)
      replace HT2 := kp hb (HT2.out)
      replace HT3 := kp hb (HT3.out)
      replace HA := kp hb (HA.out)
      replace HK := kp hb (HK.out)
      replace HC := kp hb (HC.out)
      replace HG1 := kp hb (HG1.out)
      replace HG2 := kp hb (HG2.out)
      replace HG3 := kp hb (HG3.out)
      replace HR1 := kp hb (HR1.out)
      replace HR2 := kp hb (HR2.out)
      replace HR3 := kp hb (HR3.out)
      replace HB := Lib.hid ((HB.out).trans (hb.mono (HB.out).size))
      clear hb
      go_wp2_with fail
      go_ret
      exact ⟨rfl, HB.out⟩
  have a0 := blk_cell HA.out 0
  have a1 := blk_cell HA.out 1
  have a2 := blk_cell HA.out 2
  have a3 := blk_cell HA.out 3
  have k0 := blk_cell HK.out 0
  have k1 := blk_cell HK.out 1
  have k2 := blk_cell HK.out 2
  have k3 := blk_cell HK.out 3
  have c0 := blk_cell HC.out 0
  have c1 := blk_cell HC.out 1
  have c2 := blk_cell HC.out 2
  have c3 := blk_cell HC.out 3
  dsimp at a0 a1 a2 a3 k0 k1 k2 k3 c0 c1 c2 c3
  have oi := (blk_cell HT1.out i).trans (tab1 i hi12)
  have ok := (blk_cell HT1.out k).trans (tab1 k hk12)
  have n110 := blk_lt HT1.out
  have n210 := blk_lt HT2.out
  have n310 := blk_lt HT3.out
  have n410 := blk_lt HA.out
  have n510 := blk_lt HK.out
  have n610 := blk_lt HC.out
  have nx010 := blk_lt HG1.out
  have nx110 := blk_lt HG2.out
  have nx210 := blk_lt HG3.out
  go_region_held3 (fun w' => w'.cell? ⟨W.heap.size, i, none⟩ = some (.int .u8 (opT i)) ∧ w'.cell? ⟨W.heap.size, k, none⟩ = some (.int .u8 (opT k)) ∧ w'.cell? ⟨w1_.heap.size, 0, none⟩ = some (.int .u8 3) ∧ w'.cell? ⟨w1_.heap.size, 1, none⟩ = some (.int .i64 0) ∧ w'.cell? ⟨w1_.heap.size, 2, none⟩ = some (.string ⟨#[97]⟩) ∧ w'.cell? ⟨w1_.heap.size, 3, none⟩ = some (.slice none 0 0) ∧ w'.cell? ⟨w2_.heap.size, 0, none⟩ = some (.int .u8 3) ∧ w'.cell? ⟨w2_.heap.size, 1, none⟩ = some (.int .i64 0) ∧ w'.cell? ⟨w2_.heap.size, 2, none⟩ = some (.string ⟨#[98]⟩) ∧ w'.cell? ⟨w2_.heap.size, 3, none⟩ = some (.slice none 0 0) ∧ w'.cell? ⟨w3_.heap.size, 0, none⟩ = some (.int .u8 3) ∧ w'.cell? ⟨w3_.heap.size, 1, none⟩ = some (.int .i64 0) ∧ w'.cell? ⟨w3_.heap.size, 2, none⟩ = some (.string ⟨#[99]⟩) ∧ w'.cell? ⟨w3_.heap.size, 3, none⟩ = some (.slice none 0 0)) (first | (with_reducible exact ⟨oi, ok, a0, a1, a2, a3, k0, k1, k2, k3, c0, c1, c2, c3⟩) | (with_reducible exact ⟨cfar4 oi (by omega) _ _ _ _, cfar4 ok (by omega) _ _ _ _, cfar4 a0 (by omega) _ _ _ _, cfar4 a1 (by omega) _ _ _ _, cfar4 a2 (by omega) _ _ _ _, cfar4 a3 (by omega) _ _ _ _, cfar4 k0 (by omega) _ _ _ _, cfar4 k1 (by omega) _ _ _ _, cfar4 k2 (by omega) _ _ _ _, cfar4 k3 (by omega) _ _ _ _, cfar4 c0 (by omega) _ _ _ _, cfar4 c1 (by omega) _ _ _ _, cfar4 c2 (by omega) _ _ _ _, cfar4 c3 (by omega) _ _ _ _⟩) | go_keep) (first | (go_at_call 24; with_reducible refine (of_law (opT k) (some ⟨Wf.heap.size + 1, 0, none⟩) 2 2 (((Wf.alloc (.cells #[.int .u8 0, .int .i64 0, .string ⟨#[]⟩, .slice none 0 0] 25)).alloc (.cells #[.int .u8 3, .int .i64 0, .string ⟨#[98]⟩, .slice none 0 0, .int .u8 3, .int .i64 0, .string ⟨#[99]⟩, .slice none 0 0] 25)).drew)).mono ?_; rintro e q1_10 ⟨rfl, hb⟩; have HD110 := kp hb (blk_drew (alloc2_new Wf _ _)); have m110 := blk_lt HD110.out; have HZ10 := kp hb (blk_drew (blk_alloc (heap_alloc_new Wf _) _)); have mz10 := blk_lt HZ10.out; replace HT1 := kp hb (blk_drew (blk_alloc (blk_alloc (HT1.out) _) _)); replace HT2 := kp hb (blk_drew (blk_alloc (blk_alloc (HT2.out) _) _)); replace HT3 := kp hb (blk_drew (blk_alloc (blk_alloc (HT3.out) _) _)); replace HA := kp hb (blk_drew (blk_alloc (blk_alloc (HA.out) _) _)); replace HK := kp hb (blk_drew (blk_alloc (blk_alloc (HK.out) _) _)); replace HC := kp hb (blk_drew (blk_alloc (blk_alloc (HC.out) _) _)); replace HG1 := kp hb (blk_drew (blk_alloc (blk_alloc (HG1.out) _) _)); replace HG2 := kp hb (blk_drew (blk_alloc (blk_alloc (HG2.out) _) _)); replace HG3 := kp hb (blk_drew (blk_alloc (blk_alloc (HG3.out) _) _)); replace HB := Lib.hid (((((((HB.out).alloc (HB.out).size _)).alloc (((HB.out).alloc (HB.out).size _)).size _)).drew).trans (hb.mono ((((((HB.out).alloc (HB.out).size _)).alloc (((HB.out).alloc (HB.out).size _)).size _)).drew).size)); clear hb; have a0 := blk_cell HA.out 0; have a1 := blk_cell HA.out 1; have a2 := blk_cell HA.out 2; have a3 := blk_cell HA.out 3; have k0 := blk_cell HK.out 0; have k1 := blk_cell HK.out 1; have k2 := blk_cell HK.out 2; have k3 := blk_cell HK.out 3; have c0 := blk_cell HC.out 0; have c1 := blk_cell HC.out 1; have c2 := blk_cell HC.out 2; have c3 := blk_cell HC.out 3; dsimp at a0 a1 a2 a3 k0 k1 k2 k3 c0 c1 c2 c3; have oi := (blk_cell HT1.out i).trans (tab1 i hi12); have ok := (blk_cell HT1.out k).trans (tab1 k hk12)) | (go_at_call 24; with_reducible refine (of_law (opT k) (some ⟨Wf.heap.size, 0, none⟩) 2 2 (((Wf.alloc (.cells #[.int .u8 3, .int .i64 0, .string ⟨#[98]⟩, .slice none 0 0, .int .u8 3, .int .i64 0, .string ⟨#[99]⟩, .slice none 0 0] 25)).alloc (.cells #[.int .u8 0, .int .i64 0, .string ⟨#[]⟩, .slice none 0 0] 25)).drew)).mono ?_; rintro e q1_10 ⟨rfl, hb⟩; have HD110 := kp hb (blk_drew (blk_alloc (heap_alloc_new Wf _) _)); have m110 := blk_lt HD110.out; have HZ10 := kp hb (blk_drew (alloc2_new Wf _ _)); have mz10 := blk_lt HZ10.out; replace HT1 := kp hb (blk_drew (blk_alloc (blk_alloc (HT1.out) _) _)); replace HT2 := kp hb (blk_drew (blk_alloc (blk_alloc (HT2.out) _) _)); replace HT3 := kp hb (blk_drew (blk_alloc (blk_alloc (HT3.out) _) _)); replace HA := kp hb (blk_drew (blk_alloc (blk_alloc (HA.out) _) _)); replace HK := kp hb (blk_drew (blk_alloc (blk_alloc (HK.out) _) _)); replace HC := kp hb (blk_drew (blk_alloc (blk_alloc (HC.out) _) _)); replace HG1 := kp hb (blk_drew (blk_alloc (blk_alloc (HG1.out) _) _)); replace HG2 := kp hb (blk_drew (blk_alloc (blk_alloc (HG2.out) _) _)); replace HG3 := kp hb (blk_drew (blk_alloc (blk_alloc (HG3.out) _) _)); replace HB := Lib.hid (((((((HB.out).alloc (HB.out).size _)).alloc (((HB.out).alloc (HB.out).size _)).size _)).drew).trans (hb.mono ((((((HB.out).alloc (HB.out).size _)).alloc (((HB.out).alloc (HB.out).size _)).size _)).drew).size)); clear hb; have a0 := blk_cell HA.out 0; have a1 := blk_cell HA.out 1; have a2 := blk_cell HA.out 2; have a3 := blk_cell HA.out 3; have k0 := blk_cell HK.out 0; have k1 := blk_cell HK.out 1; have k2 := blk_cell HK.out 2; have k3 := blk_cell HK.out 3; have c0 := blk_cell HC.out 0; have c1 := blk_cell HC.out 1; have c2 := blk_cell HC.out 2; have c3 := blk_cell HC.out 3; dsimp at a0 a1 a2 a3 k0 k1 k2 k3 c0 c1 c2 c3; have oi := (blk_cell HT1.out i).trans (tab1 i hi12); have ok := (blk_cell HT1.out k).trans (tab1 k hk12)) | (go_at_call 24; with_reducible refine (of_law (opT k) (some ⟨Wf.heap.size, 0, none⟩) 2 2 ((Wf.alloc _).drew)).mono ?_; rintro e q1_10 ⟨rfl, hb⟩; have HD110 := kp hb (blk_drew (heap_alloc_new Wf _)); have m110 := blk_lt HD110.out; replace HT1 := kp hb (blk_drew (blk_alloc (HT1.out) _)); replace HT2 := kp hb (blk_drew (blk_alloc (HT2.out) _)); replace HT3 := kp hb (blk_drew (blk_alloc (HT3.out) _)); replace HA := kp hb (blk_drew (blk_alloc (HA.out) _)); replace HK := kp hb (blk_drew (blk_alloc (HK.out) _)); replace HC := kp hb (blk_drew (blk_alloc (HC.out) _)); replace HG1 := kp hb (blk_drew (blk_alloc (HG1.out) _)); replace HG2 := kp hb (blk_drew (blk_alloc (HG2.out) _)); replace HG3 := kp hb (blk_drew (blk_alloc (HG3.out) _)); replace HB := Lib.hid (((((HB.out).alloc (HB.out).size _)).drew).trans (hb.mono ((((HB.out).alloc (HB.out).size _)).drew).size)); clear hb; have a0 := blk_cell HA.out 0; have a1 := blk_cell HA.out 1; have a2 := blk_cell HA.out 2; have a3 := blk_cell HA.out 3; have k0 := blk_cell HK.out 0; have k1 := blk_cell HK.out 1; have k2 := blk_cell HK.out 2; have k3 := blk_cell HK.out 3; have c0 := blk_cell HC.out 0; have c1 := blk_cell HC.out 1; have c2 := blk_cell HC.out 2; have c3 := blk_cell HC.out 3; dsimp at a0 a1 a2 a3 k0 k1 k2 k3 c0 c1 c2 c3; have oi := (blk_cell HT1.out i).trans (tab1 i hi12); have ok := (blk_cell HT1.out k).trans (tab1 k hk12)) | (go_at_call 24; with_reducible refine (of_law (opT i) (some ⟨q1_10.heap.size, 0, none⟩) 2 2 (q1_10.alloc _)).mono ?_; rintro e q2_10 ⟨rfl, hb⟩; have HD210 := kp hb (heap_alloc_new q1_10 _); have m210 := blk_lt HD210.out; replace HT1 := kp hb (blk_alloc (HT1.out) _); replace HT2 := kp hb (blk_alloc (HT2.out) _); replace HT3 := kp hb (blk_alloc (HT3.out) _); replace HA := kp hb (blk_alloc (HA.out) _); replace HK := kp hb (blk_alloc (HK.out) _); replace HC := kp hb (blk_alloc (HC.out) _); replace HG1 := kp hb (blk_alloc (HG1.out) _); replace HG2 := kp hb (blk_alloc (HG2.out) _); replace HG3 := kp hb (blk_alloc (HG3.out) _); replace HD110 := kp hb (blk_alloc (HD110.out) _); replace HZ10 := kp hb (blk_alloc (HZ10.out) _); replace HB := Lib.hid ((((HB.out).alloc (HB.out).size _)).trans (hb.mono (((HB.out).alloc (HB.out).size _)).size)); clear hb; have r0 := blk_cell HZ10.out 0; have r1 := blk_cell HZ10.out 1; have r2 := blk_cell HZ10.out 2; have r3 := blk_cell HZ10.out 3; have f0 := blk_frozen HZ10.out 0; have f1 := blk_frozen HZ10.out 1; have f2 := blk_frozen HZ10.out 2; have f3 := blk_frozen HZ10.out 3; dsimp at r0 r1 r2 r3; have a0 := blk_cell HA.out 0; have a1 := blk_cell HA.out 1; have a2 := blk_cell HA.out 2; have a3 := blk_cell HA.out 3; have k0 := blk_cell HK.out 0; have k1 := blk_cell HK.out 1; have k2 := blk_cell HK.out 2; have k3 := blk_cell HK.out 3; have c0 := blk_cell HC.out 0; have c1 := blk_cell HC.out 1; have c2 := blk_cell HC.out 2; have c3 := blk_cell HC.out 3; dsimp at a0 a1 a2 a3 k0 k1 k2 k3 c0 c1 c2 c3; have oi := (blk_cell HT1.out i).trans (tab1 i hi12); have ok := (blk_cell HT1.out k).trans (tab1 k hk12)) | (go_at_call 24; with_reducible refine (of_law (opT i) (some ⟨q1_10.heap.size + 1, 0, none⟩) 2 2 ((q1_10.alloc (.cells #[.int .u8 0, .int .i64 0, .string ⟨#[]⟩, .slice none 0 0] 25)).alloc _)).mono ?_; rintro e q2_10 ⟨rfl, hb⟩; have HD210 := kp hb (alloc2_new q1_10 _ _); have m210 := blk_lt HD210.out; have HZ10 := kp hb (blk_alloc (heap_alloc_new q1_10 _) _); have mz10 := blk_lt HZ10.out; replace HT1 := kp hb (blk_alloc (blk_alloc (HT1.out) _) _); replace HT2 := kp hb (blk_alloc (blk_alloc (HT2.out) _) _); replace HT3 := kp hb (blk_alloc (blk_alloc (HT3.out) _) _); replace HA := kp hb (blk_alloc (blk_alloc (HA.out) _) _); replace HK := kp hb (blk_alloc (blk_alloc (HK.out) _) _); replace HC := kp hb (blk_alloc (blk_alloc (HC.out) _) _); replace HG1 := kp hb (blk_alloc (blk_alloc (HG1.out) _) _); replace HG2 := kp hb (blk_alloc (blk_alloc (HG2.out) _) _); replace HG3 := kp hb (blk_alloc (blk_alloc (HG3.out) _) _); replace HD110 := kp hb (blk_alloc (blk_alloc (HD110.out) _) _); replace HB := Lib.hid ((((((HB.out).alloc (HB.out).size _)).alloc (((HB.out).alloc (HB.out).size _)).size _)).trans (hb.mono (((((HB.out).alloc (HB.out).size _)).alloc (((HB.out).alloc (HB.out).size _)).size _)).size)); clear hb; have r0 := blk_cell HZ10.out 0; have r1 := blk_cell HZ10.out 1; have r2 := blk_cell HZ10.out 2; have r3 := blk_cell HZ10.out 3; have f0 := blk_frozen HZ10.out 0; have f1 := blk_frozen HZ10.out 1; have f2 := blk_frozen HZ10.out 2; have f3 := blk_frozen HZ10.out 3; dsimp at r0 r1 r2 r3; have a0 := blk_cell HA.out 0; have a1 := blk_cell HA.out 1; have a2 := blk_cell HA.out 2; have a3 := blk_cell HA.out 3; have k0 := blk_cell HK.out 0; have k1 := blk_cell HK.out 1; have k2 := blk_cell HK.out 2; have k3 := blk_cell HK.out 3; have c0 := blk_cell HC.out 0; have c1 := blk_cell HC.out 1; have c2 := blk_cell HC.out 2; have c3 := blk_cell HC.out 3; dsimp at a0 a1 a2 a3 k0 k1 k2 k3 c0 c1 c2 c3; have oi := (blk_cell HT1.out i).trans (tab1 i hi12); have ok := (blk_cell HT1.out k).trans (tab1 k hk12)) | (go_at_call 24; with_reducible refine (of_law (opT i) (some ⟨q1_10.heap.size, 0, none⟩) 2 2 ((q1_10.alloc _).alloc (.cells #[.int .u8 0, .int .i64 0, .string ⟨#[]⟩, .slice none 0 0] 25))).mono ?_; rintro e q2_10 ⟨rfl, hb⟩; have HD210 := kp hb (blk_alloc (heap_alloc_new q1_10 _) _); have m210 := blk_lt HD210.out; have HZ10 := kp hb (alloc2_new q1_10 _ _); have mz10 := blk_lt HZ10.out; replace HT1 := kp hb (blk_alloc (blk_alloc (HT1.out) _) _); replace HT2 := kp hb (blk_alloc (blk_alloc (HT2.out) _) _); replace HT3 := kp hb (blk_alloc (blk_alloc (HT3.out) _) _); replace HA := kp hb (blk_alloc (blk_alloc (HA.out) _) _); replace HK := kp hb (blk_alloc (blk_alloc (HK.out) _) _); replace HC := kp hb (blk_alloc (blk_alloc (HC.out) _) _); replace HG1 := kp hb (blk_alloc (blk_alloc (HG1.out) _) _); replace HG2 := kp hb (blk_alloc (blk_alloc (HG2.out) _) _); replace HG3 := kp hb (blk_alloc (blk_alloc (HG3.out) _) _); replace HD110 := kp hb (blk_alloc (blk_alloc (HD110.out) _) _); replace HB := Lib.hid ((((((HB.out).alloc (HB.out).size _)).alloc (((HB.out).alloc (HB.out).size _)).size _)).trans (hb.mono (((((HB.out).alloc (HB.out).size _)).alloc (((HB.out).alloc (HB.out).size _)).size _)).size)); clear hb; have r0 := blk_cell HZ10.out 0; have r1 := blk_cell HZ10.out 1; have r2 := blk_cell HZ10.out 2; have r3 := blk_cell HZ10.out 3; have f0 := blk_frozen HZ10.out 0; have f1 := blk_frozen HZ10.out 1; have f2 := blk_frozen HZ10.out 2; have f3 := blk_frozen HZ10.out 3; dsimp at r0 r1 r2 r3; have a0 := blk_cell HA.out 0; have a1 := blk_cell HA.out 1; have a2 := blk_cell HA.out 2; have a3 := blk_cell HA.out 3; have k0 := blk_cell HK.out 0; have k1 := blk_cell HK.out 1; have k2 := blk_cell HK.out 2; have k3 := blk_cell HK.out 3; have c0 := blk_cell HC.out 0; have c1 := blk_cell HC.out 1; have c2 := blk_cell HC.out 2; have c3 := blk_cell HC.out 3; dsimp at a0 a1 a2 a3 k0 k1 k2 k3 c0 c1 c2 c3; have oi := (blk_cell HT1.out i).trans (tab1 i hi12); have ok := (blk_cell HT1.out k).trans (tab1 k hk12)) | (go_at_call 24; with_reducible refine (of_law (opT i) (some ⟨q1_10.heap.size, 0, none⟩) 2 2 (q1_10.alloc _)).mono ?_; rintro e q2_10 ⟨rfl, hb⟩; have HD210 := kp hb (heap_alloc_new q1_10 _); have m210 := blk_lt HD210.out; replace HT1 := kp hb (blk_alloc (HT1.out) _); replace HT2 := kp hb (blk_alloc (HT2.out) _); replace HT3 := kp hb (blk_alloc (HT3.out) _); replace HA := kp hb (blk_alloc (HA.out) _); replace HK := kp hb (blk_alloc (HK.out) _); replace HC := kp hb (blk_alloc (HC.out) _); replace HG1 := kp hb (blk_alloc (HG1.out) _); replace HG2 := kp hb (blk_alloc (HG2.out) _); replace HG3 := kp hb (blk_alloc (HG3.out) _); replace HD110 := kp hb (blk_alloc (HD110.out) _); replace HB := Lib.hid ((((HB.out).alloc (HB.out).size _)).trans (hb.mono (((HB.out).alloc (HB.out).size _)).size)); clear hb; have a0 := blk_cell HA.out 0; have a1 := blk_cell HA.out 1; have a2 := blk_cell HA.out 2; have a3 := blk_cell HA.out 3; have k0 := blk_cell HK.out 0; have k1 := blk_cell HK.out 1; have k2 := blk_cell HK.out 2; have k3 := blk_cell HK.out 3; have c0 := blk_cell HC.out 0; have c1 := blk_cell HC.out 1; have c2 := blk_cell HC.out 2; have c3 := blk_cell HC.out 3; dsimp at a0 a1 a2 a3 k0 k1 k2 k3 c0 c1 c2 c3; have oi := (blk_cell HT1.out i).trans (tab1 i hi12); have ok := (blk_cell HT1.out k).trans (tab1 k hk12)))
  ·exact fin10 _ _ _ _ _ _ _ _ _ _ _ _ _ _ _ _ _ _ _ _ _ _ _ _ _ _ _ _ _ _ _ _ _ _ _ _ _ _ _ _ _ _ _ _ _ _ _ _ _ _ _ _ _ _ _ _ _ _ _ _ _ _ _ _ _ _ _ _ _ _ _ _ _ _ _ _ _ _ _ _ _ _ _ _ _ _ _ _ _ _ _ _ _ _ _ _ _ _ _ _ _ _ _ _ _ _ _ _ _ _ _ _ _ _ _ _ _ _ _ _ _ _ _ _ _ _ _ _ _ _ _ _ _ _ _ _ _ _ _ _ _ _ _ _ _ _ _ _ _ _ _ _ _ _ _ _ _ _ _ _ _ _ _ _ _ _ _ _ _ (q2_10.heap.size) (Wf.heap.size) (q1_10.heap.size) _ (HB.out.alloc HB.out.size _) (blk_alloc HT1.out _) (blk_alloc HT2.out _) (blk_alloc HT3.out _) (blk_alloc HA.out _) (blk_alloc HK.out _) (blk_alloc HC.out _) (blk_alloc HG1.out _) (blk_alloc HG2.out _) (blk_alloc HG3.out _) (blk_alloc HD110.out _) (blk_alloc HD210.out _) (heap_alloc_new q2_10 _)
  ·exact fin10 _ _ _ _ _ _ _ _ _ _ _ _ _ _ _ _ _ _ _ _ _ _ _ _ _ _ _ _ _ _ _ _ _ _ _ _ _ _ _ _ _ _ _ _ _ _ _ _ _ _ _ _ _ _ _ _ _ _ _ _ _ _ _ _ _ _ _ _ _ _ _ _ _ _ _ _ _ _ _ _ _ _ _ _ _ _ _ _ _ _ _ _ _ _ _ _ _ _ _ _ _ _ _ _ _ _ _ _ _ _ _ _ _ _ _ _ _ _ _ _ _ _ _ _ _ _ _ _ _ _ _ _ _ _ _ _ _ _ _ _ _ _ _ _ _ _ _ _ _ _ _ _ _ _ _ _ _ _ _ _ _ _ _ _ _ _ _ _ _ (q1_10.heap.size + 1) (Wf.heap.size) (q1_10.heap.size) _ (below4 HB.out (by omega) _ _ _ _) (blk_far4 HT1.out (by omega) _ _ _ _) (blk_far4 HT2.out (by omega) _ _ _ _) (blk_far4 HT3.out (by omega) _ _ _ _) (blk_far4 HA.out (by omega) _ _ _ _) (blk_far4 HK.out (by omega) _ _ _ _) (blk_far4 HC.out (by omega) _ _ _ _) (blk_far4 HG1.out (by omega) _ _ _ _) (blk_far4 HG2.out (by omega) _ _ _ _) (blk_far4 HG3.out (by omega) _ _ _ _) (blk_far4 HD110.out (by omega) _ _ _ _) (blk_far4 HD210.out (by omega) _ _ _ _) (put4 HZ10.out _ _ _ _)
  ·exact fin10 _ _ _ _ _ _ _ _ _ _ _ _ _ _ _ _ _ _ _ _ _ _ _ _ _ _ _ _ _ _ _ _ _ _ _ _ _ _ _ _ _ _ _ _ _ _ _ _ _ _ _ _ _ _ _ _ _ _ _ _ _ _ _ _ _ _ _ _ _ _ _ _ _ _ _ _ _ _ _ _ _ _ _ _ _ _ _ _ _ _ _ _ _ _ _ _ _ _ _ _ _ _ _ _ _ _ _ _ _ _ _ _ _ _ _ _ _ _ _ _ _ _ _ _ _ _ _ _ _ _ _ _ _ _ _ _ _ _ _ _ _ _ _ _ _ _ _ _ _ _ _ _ _ _ _ _ _ _ _ _ _ _ _ _ _ _ _ _ _ (q1_10.heap.size) (Wf.heap.size) (q1_10.heap.size + 1) _ (below4 HB.out (by omega) _ _ _ _) (blk_far4 HT1.out (by omega) _ _ _ _) (blk_far4 HT2.out (by omega) _ _ _ _) (blk_far4 HT3.out (by omega) _ _ _ _) (blk_far4 HA.out (by omega) _ _ _ _) (blk_far4 HK.out (by omega) _ _ _ _) (blk_far4 HC.out (by omega) _ _ _ _) (blk_far4 HG1.out (by omega) _ _ _ _) (blk_far4 HG2.out (by omega) _ _ _ _) (blk_far4 HG3.out (by omega) _ _ _ _) (blk_far4 HD110.out (by omega) _ _ _ _) (blk_far4 HD210.out (by omega) _ _ _ _) (put4 HZ10.out _ _ _ _)
  ·exact fin10 _ _ _ _ _ _ _ _ _ _ _ _ _ _ _ _ _ _ _ _ _ _ _ _ _ _ _ _ _ _ _ _ _ _ _ _ _ _ _ _ _ _ _ _ _ _ _ _ _ _ _ _ _ _ _ _ _ _ _ _ _ _ _ _ _ _ _ _ _ _ _ _ _ _ _ _ _ _ _ _ _ _ _ _ _ _ _ _ _ _ _ _ _ _ _ _ _ _ _ _ _ _ _ _ _ _ _ _ _ _ _ _ _ _ _ _ _ _ _ _ _ _ _ _ _ _ _ _ _ _ _ _ _ _ _ _ _ _ _ _ _ _ _ _ _ _ _ _ _ _ _ _ _ _ _ _ _ _ _ _ _ _ _ _ _ _ _ _ _ (Wf.heap.size + 1) (Wf.heap.size) (q1_10.heap.size) _ (below4 HB.out (by omega) _ _ _ _) (blk_far4 HT1.out (by omega) _ _ _ _) (blk_far4 HT2.out (by omega) _ _ _ _) (blk_far4 HT3.out (by omega) _ _ _ _) (blk_far4 HA.out (by omega) _ _ _ _) (blk_far4 HK.out (by omega) _ _ _ _) (blk_far4 HC.out (by omega) _ _ _ _) (blk_far4 HG1.out (by omega) _ _ _ _) (blk_far4 HG2.out (by omega) _ _ _ _) (blk_far4 HG3.out (by omega) _ _ _ _) (blk_far4 HD110.out (by omega) _ _ _ _) (blk_far4 HD210.out (by omega) _ _ _ _) (put4 HZ10.out _ _ _ _)
  ·exact fin10 _ _ _ _ _ _ _ _ _ _ _ _ _ _ _ _ _ _ _ _ _ _ _ _ _ _ _ _ _ _ _ _ _ _ _ _ _ _ _ _ _ _ _ _ _ _ _ _ _ _ _ _ _ _ _ _ _ _ _ _ _ _ _ _ _ _ _ _ _ _ _ _ _ _ _ _ _ _ _ _ _ _ _ _ _ _ _ _ _ _ _ _ _ _ _ _ _ _ _ _ _ _ _ _ _ _ _ _ _ _ _ _ _ _ _ _ _ _ _ _ _ _ _ _ _ _ _ _ _ _ _ _ _ _ _ _ _ _ _ _ _ _ _ _ _ _ _ _ _ _ _ _ _ _ _ _ _ _ _ _ _ _ _ _ _ _ _ _ _ (Wf.heap.size) (Wf.heap.size + 1) (q1_10.heap.size) _ (below4 HB.out (by omega) _ _ _ _) (blk_far4 HT1.out (by omega) _ _ _ _) (blk_far4 HT2.out (by omega) _ _ _ _) (blk_far4 HT3.out (by omega) _ _ _ _) (blk_far4 HA.out (by omega) _ _ _ _) (blk_far4 HK.out (by omega) _ _ _ _) (blk_far4 HC.out (by omega) _ _ _ _) (blk_far4 HG1.out (by omega) _ _ _ _) (blk_far4 HG2.out (by omega) _ _ _ _) (blk_far4 HG3.out (by omega) _ _ _ _) (blk_far4 HD110.out (by omega) _ _ _ _) (blk_far4 HD210.out (by omega) _ _ _ _) (put4 HZ10.out _ _ _ _)
 have a0 := blk_cell HA.out 0
 have a1 := blk_cell HA.out 1
 have a2 := blk_cell HA.out 2
 have a3 := blk_cell HA.out 3
 have k0 := blk_cell HK.out 0
 have k1 := blk_cell HK.out 1
 have k2 := blk_cell HK.out 2
 have k3 := blk_cell HK.out 3
 have c0 := blk_cell HC.out 0
 have c1 := blk_cell HC.out 1
 have c2 := blk_cell HC.out 2
 have c3 := blk_cell HC.out 3
 dsimp at a0 a1 a2 a3 k0 k1 k2 k3 c0 c1 c2 c3
 have oi := (blk_cell HT1.out i).trans (tab1 i hi12)
 have ok := (blk_cell HT1.out k).trans (tab1 k hk12)
 have n19 := blk_lt HT1.out
 have n29 := blk_lt HT2.out
 have n39 := blk_lt HT3.out
 have n49 := blk_lt HA.out
 have n59 := blk_lt HK.out
 have n69 := blk_lt HC.out
 go_region_held3 (fun w' => w'.cell? ⟨W.heap.size, i, none⟩ = some (.int .u8 (opT i)) ∧ w'.cell? ⟨W.heap.size, k, none⟩ = some (.int .u8 (opT k)) ∧ w'.cell? ⟨w1_.heap.size, 0, none⟩ = some (.int .u8 3) ∧ w'.cell? ⟨w1_.heap.size, 1, none⟩ = some (.int .i64 0) ∧ w'.cell? ⟨w1_.heap.size, 2, none⟩ = some (.string ⟨#[97]⟩) ∧ w'.cell? ⟨w1_.heap.size, 3, none⟩ = some (.slice none 0 0) ∧ w'.cell? ⟨w2_.heap.size, 0, none⟩ = some (.int .u8 3) ∧ w'.cell? ⟨w2_.heap.size, 1, none⟩ = some (.int .i64 0) ∧ w'.cell? ⟨w2_.heap.size, 2, none⟩ = some (.string ⟨#[98]⟩) ∧ w'.cell? ⟨w2_.heap.size, 3, none⟩ = some (.slice none 0 0) ∧ w'.cell? ⟨w3_.heap.size, 0, none⟩ = some (.int .u8 3) ∧ w'.cell? ⟨w3_.heap.size, 1, none⟩ = some (.int .i64 0) ∧ w'.cell? ⟨w3_.heap.size, 2, none⟩ = some (.string ⟨#[99]⟩) ∧ w'.cell? ⟨w3_.heap.size, 3, none⟩ = some (.slice none 0 0)) (first | (with_reducible exact ⟨oi, ok, a0, a1, a2, a3, k0, k1, k2, k3, c0, c1, c2, c3⟩) | (with_reducible exact ⟨cfar4 oi (by omega) _ _ _ _, cfar4 ok (by omega) _ _ _ _, cfar4 a0 (by omega) _ _ _ _, cfar4 a1 (by omega) _ _ _ _, cfar4 a2 (by omega) _ _ _ _, cfar4 a3 (by omega) _ _ _ _, cfar4 k0 (by omega) _ _ _ _, cfar4 k1 (by omega) _ _ _ _, cfar4 k2 (by omega) _ _ _ _, cfar4 k3 (by omega) _ _ _ _, cfar4 c0 (by omega) _ _ _ _, cfar4 c1 (by omega) _ _ _ _, cfar4 c2 (by omega) _ _ _ _, cfar4 c3 (by omega) _ _ _ _⟩) | go_keep) (first | (go_at_call 24; with_reducible refine (of_law (opT i) (some ⟨x3.heap.size + 1, 0, none⟩) 2 2 (((x3.alloc (.cells #[.int .u8 0, .int .i64 0, .string ⟨#[]⟩, .slice none 0 0] 25)).alloc (.cells #[.int .u8 3, .int .i64 0, .string ⟨#[97]⟩, .slice none 0 0, .int .u8 3, .int .i64 0, .string ⟨#[98]⟩, .slice none 0 0] 25)).drew)).mono ?_; rintro e q1_9 ⟨rfl, hb⟩; have HD19 := kp hb (blk_drew (alloc2_new x3 _ _)); have m19 := blk_lt HD19.out; have HZ9 := kp hb (blk_drew (blk_alloc (heap_alloc_new x3 _) _)); have mz9 := blk_lt HZ9.out; replace HT1 := kp hb (blk_drew (blk_alloc (blk_alloc (HT1.out) _) _)); replace HT2 := kp hb (blk_drew (blk_alloc (blk_alloc (HT2.out) _) _)); replace HT3 := kp hb (blk_drew (blk_alloc (blk_alloc (HT3.out) _) _)); replace HA := kp hb (blk_drew (blk_alloc (blk_alloc (HA.out) _) _)); replace HK := kp hb (blk_drew (blk_alloc (blk_alloc (HK.out) _) _)); replace HC := kp hb (blk_drew (blk_alloc (blk_alloc (HC.out) _) _)); replace HB := Lib.hid (((((((HB.out).alloc (HB.out).size _)).alloc (((HB.out).alloc (HB.out).size _)).size _)).drew).trans (hb.mono ((((((HB.out).alloc (HB.out).size _)).alloc (((HB.out).alloc (HB.out).size _)).size _)).drew).size)); clear hb; have a0 := blk_cell HA.out 0; have a1 := blk_cell HA.out 1; have a2 := blk_cell HA.out 2; have a3 := blk_cell HA.out 3; have k0 := blk_cell HK.out 0; have k1 := blk_cell HK.out 1; have k2 := blk_cell HK.out 2; have k3 := blk_cell HK.out 3; have c0 := blk_cell HC.out 0; have c1 := blk_cell HC.out 1; have c2 := blk_cell HC.out 2; have c3 := blk_cell HC.out 3; dsimp at a0 a1 a2 a3 k0 k1 k2 k3 c0 c1 c2 c3; have oi := (blk_cell HT1.out i).trans (tab1 i hi12); have ok := (blk_cell HT1.out k).trans (tab1 k hk12)) | (go_at_call 24; with_reducible refine (of_law (opT i) (some ⟨x3.heap.size, 0, none⟩) 2 2 (((x3.alloc (.cells #[.int .u8 3, .int .i64 0, .string ⟨#[97]⟩, .slice none 0 0, .int .u8 3, .int .i64 0, .string ⟨#[98]⟩, .slice none 0 0] 25)).alloc (.cells #[.int .u8 0, .int .i64 0, .string ⟨#[]⟩, .slice none 0 0] 25)).drew)).mono ?_; rintro e q1_9 ⟨rfl, hb⟩; have HD19 := kp hb (blk_drew (blk_alloc (heap_alloc_new x3 _) _)); have m19 := blk_lt HD19.out; have HZ9 := kp hb (blk_drew (alloc2_new x3 _ _)); have mz9 := blk_lt HZ9.out; replace HT1 := kp hb (blk_drew (blk_alloc (blk_alloc (HT1.out) _) _)); replace HT2 := kp hb (blk_drew (blk_alloc (blk_alloc (HT2.out) _) _)); replace HT3 := kp hb (blk_drew (blk_alloc (blk_alloc (HT3.out) _) _)); replace HA := kp hb (blk_drew (blk_alloc (blk_alloc (HA.out) _) _)); replace HK := kp hb (blk_drew (blk_alloc (blk_alloc (HK.out) _) _)); replace HC := kp hb (blk_drew (blk_alloc (blk_alloc (HC.out) _) _)); replace HB := Lib.hid (((((((HB.out).alloc (HB.out).size _)).alloc (((HB.out).alloc (HB.out).size _)).size _)).drew).trans (hb.mono ((((((HB.out).alloc (HB.out).size _)).alloc (((HB.out).alloc (HB.out).size _)).size _)).drew).size)); clear hb; have a0 := blk_cell HA.out 0; have a1 := blk_cell HA.out 1; have a2 := blk_cell HA.out 2; have a3 := blk_cell HA.out 3; have k0 := blk_cell HK.out 0; have k1 := blk_cell HK.out 1; have k2 := blk_cell HK.out 2; have k3 := blk_cell HK.out 3; have c0 := blk_cell HC.out 0; have c1 := blk_cell HC.out 1; have c2 := blk_cell HC.out 2; have c3 := blk_cell HC.out 3; dsimp at a0 a1 a2 a3 k0 k1 k2 k3 c0 c1 c2 c3; have oi := (blk_cell HT1.out i).trans (tab1 i hi12); have ok := (blk_cell HT1.out k).trans (tab1 k hk12)) | (go_at_call 24; with_reducible refine (of_law (opT i) (some ⟨x3.heap.size, 0, none⟩) 2 2 ((x3.alloc _).drew)).mono ?_; rintro e q1_9 ⟨rfl, hb⟩; have HD19 := kp hb (blk_drew (heap_alloc_new x3 _)); have m19 := blk_lt HD19.out; replace HT1 := kp hb (blk_drew (blk_alloc (HT1.out) _)); replace HT2 := kp hb (blk_drew (blk_alloc (HT2.out) _)); replace HT3 := kp hb (blk_drew (blk_alloc (HT3.out) _)); replace HA := kp hb (blk_drew (blk_alloc (HA.out) _)); replace HK := kp hb (blk_drew (blk_alloc (HK.out) _)); replace HC := kp hb (blk_drew (blk_alloc (HC.out) _)); replace HB := Lib.hid (((((HB.out).alloc (HB.out).size _)).drew).trans (hb.mono ((((HB.out).alloc (HB.out).size _)).drew).size)); clear hb; have a0 := blk_cell HA.out 0; have a1 := blk_cell HA.out 1; have a2 := blk_cell HA.out 2; have a3 := blk_cell HA.out 3; have k0 := blk_cell HK.out 0; have k1 := blk_cell HK.out 1; have k2 := blk_cell HK.out 2; have k3 := blk_cell HK.out 3; have c0 := blk_cell HC.out 0; have c1 := blk_cell HC.out 1; have c2 := blk_cell HC.out 2; have c3 := blk_cell HC.out 3; dsimp at a0 a1 a2 a3 k0 k1 k2 k3 c0 c1 c2 c3; have oi := (blk_cell HT1.out i).trans (tab1 i hi12); have ok := (blk_cell HT1.out k).trans (tab1 k hk12)) | (go_at_call 24; with_reducible refine (of_law (opT k) (some ⟨q1_9.heap.size, 0, none⟩) 2 2 (q1_9.alloc _)).mono ?_; rintro e q2_9 ⟨rfl, hb⟩; have HD29 := kp hb (heap_alloc_new q1_9 _); have m29 := blk_lt HD29.out; replace HT1 := kp hb (blk_alloc (HT1.out) _); replace HT2 := kp hb (blk_alloc (HT2.out) _); replace HT3 := kp hb (blk_alloc (HT3.out) _); replace HA := kp hb (blk_alloc (HA.out) _); replace HK := kp hb (blk_alloc (HK.out) _); replace HC := kp hb (blk_alloc (HC.out) _); replace HD19 := kp hb (blk_alloc (HD19.out) _); replace HZ9 := kp hb (blk_alloc (HZ9.out) _); replace HB := Lib.hid ((((HB.out).alloc (HB.out).size _)).trans (hb.mono (((HB.out).alloc (HB.out).size _)).size)); clear hb; have r0 := blk_cell HZ9.out 0; have r1 := blk_cell HZ9.out 1; have r2 := blk_cell HZ9.out 2; have r3 := blk_cell HZ9.out 3; have f0 := blk_frozen HZ9.out 0; have f1 := blk_frozen HZ9.out 1; have f2 := blk_frozen HZ9.out 2; have f3 := blk_frozen HZ9.out 3; dsimp at r0 r1 r2 r3; have a0 := blk_cell HA.out 0; have a1 := blk_cell HA.out 1; have a2 := blk_cell HA.out 2; have a3 := blk_cell HA.out 3; have k0 := blk_cell HK.out 0; have k1 := blk_cell HK.out 1; have k2 := blk_cell HK.out 2; have k3 := blk_cell HK.out 3; have c0 := blk_cell HC.out 0; have c1 := blk_cell HC.out 1; have c2 := blk_cell HC.out 2; have c3 := blk_cell HC.out 3; dsimp at a0 a1 a2 a3 k0 k1 k2 k3 c0 c1 c2 c3; have oi := (blk_cell HT1.out i).trans (tab1 i hi12); have ok := (blk_cell HT1.out k).trans (tab1 k hk12)) | (go_at_call 24; with_reducible refine (of_law (opT k) (some ⟨q1_9.heap.size + 1, 0, none⟩) 2 2 ((q1_9.alloc (.cells #[.int .u8 0, .int .i64 0, .string ⟨#[]⟩, .slice none 0 0] 25)).alloc _)).mono ?_; rintro e q2_9 ⟨rfl, hb⟩; have HD29 := kp hb (alloc2_new q1_9 _ _); have m29 := blk_lt HD29.out; have HZ9 := kp hb (blk_alloc (heap_alloc_new q1_9 _) _); have mz9 := blk_lt HZ9.out; replace HT1 := kp hb (blk_alloc (blk_alloc (HT1.out) _) _); replace HT2 := kp hb (blk_alloc (blk_alloc (HT2.out) _) _); replace HT3 := kp hb (blk_alloc (blk_alloc (HT3.out) _) _); replace HA := kp hb (blk_alloc (blk_alloc (HA.out) _) _); replace HK := kp hb (blk_alloc (blk_alloc (HK.out) _) _); replace HC := kp hb (blk_alloc (blk_alloc (HC.out) _) _); replace HD19 := kp hb (blk_alloc (blk_alloc (HD19.out) _) _); replace HB := Lib.hid ((((((HB.out).alloc (HB.out).size _)).alloc (((HB.out).alloc (HB.out).size _)).size _)).trans (hb.mono (((((HB.out).alloc (HB.out).size _)).alloc (((HB.out).alloc (HB.out).size _)).size _)).size)); clear hb; have r0 := blk_cell HZ9.out 0; have r1 := blk_cell HZ9.out 1; have r2 := blk_cell HZ9.out 2; have r3 := blk_cell HZ9.out 3; have f0 := blk_frozen HZ9.out 0; have f1 := blk_frozen HZ9.out 1; have f2 := blk_frozen HZ9.out 2; have f3 := blk_frozen HZ9.out 3; dsimp at r0 r1 r2 r3; have a0 := blk_cell HA.out 0; have a1 := blk_cell HA.out 1; have a2 := blk_cell HA.out 2; have a3 := blk_cell HA.out 3; have k0 := blk_cell HK.out 0; have k1 := blk_cell HK.out 1; have k2 := blk_cell HK.out 2; have k3 := blk_cell HK.out 3; have c0 := blk_cell HC.out 0; have c1 := blk_cell HC.out 1; have c2 := blk_cell HC.out 2; have c3 := blk_cell HC.out 3; dsimp at a0 a1 a2 a3 k0 k1 k2 k3 c0 c1 c2 c3; have oi := (blk_cell HT1.out i).trans (tab1 i hi12); have ok := (blk_cell HT1.out k).trans (tab1 k hk12)) | (go_at_call 24; with_reducible refine (of_law (opT k) (some ⟨q1_9.heap.size, 0, none⟩) 2 2 ((q1_9.alloc _).alloc (.cells #[.int .u8 0, .int .i64 0, .string ⟨#[]⟩, .slice none 0 0] 25))).mono ?_; rintro e q2_9 ⟨rfl, hb⟩; have HD29 := kp hb (blk_alloc (heap_alloc_new q1_9 _) _); have m29 := blk_lt HD29.out; have HZ9 := kp hb (alloc2_new q1_9 _ _); have mz9 := blk_lt HZ9.out; replace HT1 := kp hb (blk_alloc (blk_alloc (HT1.out) _) _); replace HT2 := kp hb (blk_alloc (blk_alloc (HT2.out) _) _); replace HT3 := kp hb (blk_alloc (blk_alloc (HT3.out) _) _); replace HA := kp hb (blk_alloc (blk_alloc (HA.out) _) _); replace HK := kp hb (blk_alloc (blk_alloc (HK.out) _) _); replace HC := kp hb (blk_alloc (blk_alloc (HC.out) _) _); replace HD19 := kp hb (blk_alloc (blk_alloc (HD19.out) _) _); replace HB := Lib.hid ((((((HB.out).alloc (HB.out).size _)).alloc (((HB.out).alloc (HB.out).size _)).size _)).trans (hb.mono (((((HB.out).alloc (HB.out).size _)).alloc (((HB.out).alloc (HB.out).size _)).size _)).size)); clear hb; have r0 := blk_cell HZ9.out 0; have r1 := blk_cell HZ9.out 1; have r2 := blk_cell HZ9.out 2; have r3 := blk_cell HZ9.out 3; have f0 := blk_frozen HZ9.out 0; have f1 := blk_frozen HZ9.out 1; have f2 := blk_frozen HZ9.out 2; have f3 := blk_frozen HZ9.out 3; dsimp at r0 r1 r2 r3; have a0 := blk_cell HA.out 0; have a1 := blk_cell HA.out 1; have a2 := blk_cell HA.out 2; have a3 := blk_cell HA.out 3; have k0 := blk_cell HK.out 0; have k1 := blk_cell HK.out 1; have k2 := blk_cell HK.out 2; have k3 := blk_cell HK.out 3; have c0 := blk_cell HC.out 0; have c1 := blk_cell HC.out 1; have c2 := blk_cell HC.out 2; have c3 := blk_cell HC.out 3; dsimp at a0 a1 a2 a3 k0 k1 k2 k3 c0 c1 c2 c3; have oi := (blk_cell HT1.out i).trans (tab1 i hi12); have ok := (blk_cell HT1.out k).trans (tab1 k hk12)) | (go_at_call 24; with_reducible refine (of_law (opT k) (some ⟨q1_9.heap.size, 0, none⟩) 2 2 (q1_9.alloc _)).mono ?_; rintro e q2_9 ⟨rfl, hb⟩; have HD29 := kp hb (heap_alloc_new q1_9 _); have m29 := blk_lt HD29.out; replace HT1 := kp hb (blk_alloc (HT1.out) _); replace HT2 := kp hb (blk_alloc (HT2.out) _); replace HT3 := kp hb (blk_alloc (HT3.out) _); replace HA := kp hb (blk_alloc (HA.out) _); replace HK := kp hb (blk_alloc (HK.out) _); replace HC := kp hb (blk_alloc (HC.out) _); replace HD19 := kp hb (blk_alloc (HD19.out) _); replace HB := Lib.hid ((((HB.out).alloc (HB.out).size _)).trans (hb.mono (((HB.out).alloc (HB.out).size _)).size)); clear hb; have a0 := blk_cell HA.out 0; have a1 := blk_cell HA.out 1; have a2 := blk_cell HA.out 2; have a3 := blk_cell HA.out 3; have k0 := blk_cell HK.out 0; have k1 := blk_cell HK.out 1; have k2 := blk_cell HK.out 2; have k3 := blk_cell HK.out 3; have c0 := blk_cell HC.out 0; have c1 := blk_cell HC.out 1; have c2 := blk_cell HC.out 2; have c3 := blk_cell HC.out 3; dsimp at a0 a1 a2 a3 k0 k1 k2 k3 c0 c1 c2 c3; have oi := (blk_cell HT1.out i).trans (tab1 i hi12); have ok := (blk_cell HT1.out k).trans (tab1 k hk12)))
 ·exact fin9 _ _ _ _ _ _ _ _ _ _ _ _ _ _ _ _ _ _ _ _ _ _ _ _ _ _ _ _ _ _ _ _ _ _ _ _ _ _ _ _ _ _ _ _ _ _ _ _ _ _ _ _ _ _ _ _ _ _ _ _ _ _ _ _ _ _ _ _ _ _ _ _ _ _ _ _ _ _ _ _ _ _ _ _ _ _ _ _ _ _ _ _ _ _ _ _ _ _ _ _ _ _ _ _ _ _ _ _ _ _ _ _ _ _ _ _ _ _ _ _ _ _ _ _ _ _ _ _ _ _ _ _ _ _ _ _ _ _ _ _ _ _ _ _ _ _ _ _ _ _ _ _ _ _ _ _ _ _ _ _ _ _ _ _ _ _ _ _ _ _ (q2_9.heap.size) (x3.heap.size) (q1_9.heap.size) _ (HB.out.alloc HB.out.size _) (blk_alloc HT1.out _) (blk_alloc HT2.out _) (blk_alloc HT3.out _) (blk_alloc HA.out _) (blk_alloc HK.out _) (blk_alloc HC.out _) (blk_alloc HD19.out _) (blk_alloc HD29.out _) (heap_alloc_new q2_9 _)
 ·exact fin9 _ _ _ _ _ _ _ _ _ _ _ _ _ _ _ _ _ _ _ _ _ _ _ _ _ _ _ _ _ _ _ _ _ _ _ _ _ _ _ _ _ _ _ _ _ _ _ _ _ _ _ _ _ _ _ _ _ _ _ _ _ _ _ _ _ _ _ _ _ _ _ _ _ _ _ _ _ _ _ _ _ _ _ _ _ _ _ _ _ _ _ _ _ _ _ _ _ _ _ _ _ _ _ _ _ _ _ _ _ _ _ _ _ _ _ _ _ _ _ _ _ _ _ _ _ _ _ _ _ _ _ _ _ _ _ _ _ _ _ _ _ _ _ _ _ _ _ _ _ _ _ _ _ _ _ _ _ _ _ _ _ _ _ _ _ _ _ _ _ _ (q1_9.heap.size + 1) (x3.heap.size) (q1_9.heap.size) _ (below4 HB.out (by omega) _ _ _ _) (blk_far4 HT1.out (by omega) _ _ _ _) (blk_far4 HT2.out (by omega) _ _ _ _) (blk_far4 HT3.out (by omega) _ _ _ _) (blk_far4 HA.out (by omega) _ _ _ _) (blk_far4 HK.out (by omega) _ _ _ _) (blk_far4 HC.out (by omega) _ _ _ _) (blk_far4 HD19.out (by omega) _ _ _ _) (blk_far4 HD29.out (by omega) _ _ _ _) (put4 HZ9.out _ _ _ _)
 ·exact fin9 _ _ _ _ _ _ _ _ _ _ _ _ _ _ _ _ _ _ _ _ _ _ _ _ _ _ _ _ _ _ _ _ _ _ _ _ _ _ _ _ _ _ _ _ _ _ _ _ _ _ _ _ _ _ _ _ _ _ _ _ _ _ _ _ _ _ _ _ _ _ _ _ _ _ _ _ _ _ _ _ _ _ _ _ _ _ _ _ _ _ _ _ _ _ _ _ _ _ _ _ _ _ _ _ _ _ _ _ _ _ _ _ _ _ _ _ _ _ _ _ _ _ _ _ _ _ _ _ _ _ _ _ _ _ _ _ _ _ _ _ _ _ _ _ _ _ _ _ _ _ _ _ _ _ _ _ _ _ _ _ _ _ _ _ _ _ _ _ _ _ (q1_9.heap.size) (x3.heap.size) (q1_9.heap.size + 1) _ (below4 HB.out (by omega) _ _ _ _) (blk_far4 HT1.out (by omega) _ _ _ _) (blk_far4 HT2.out (by omega) _ _ _ _) (blk_far4 HT3.out (by omega) _ _ _ _) (blk_far4 HA.out (by omega) _ _ _ _) (blk_far4 HK.out (by omega) _ _ _ _) (blk_far4 HC.out (by omega) _ _ _ _) (blk_far4 HD19.out (by omega) _ _ _ _) (blk_far4 HD29.out (by omega) _ _ _ _) (put4 HZ9.out _ _ _ _)
 ·exact fin9 _ _ _ _ _ _ _ _ _ _ _ _ _ _ _ _ _ _ _ _ _ _ _ _ _ _ _ _ _ _ _ _ _ _ _ _ _ _ _ _ _ _ _ _ _ _ _ _ _ _ _ _ _ _ _ _ _ _ _ _ _ _ _ _ _ _ _ _ _ _ _ _ _ _ _ _ _ _ _ _ _ _ _ _ _ _ _ _ _ _ _ _ _ _ _ _ _ _ _ _ _ _ _ _ _ _ _ _ _ _ _ _ _ _ _ _ _ _ _ _ _ _ _ _ _ _ _ _ _ _ _ _ _ _ _ _ _ _ _ _ _ _ _ _ _ _ _ _ _ _ _ _ _ _ _ _ _ _ _ _ _ _ _ _ _ _ _ _ _ _ (x3.heap.size + 1) (x3.heap.size) (q1_9.heap.size) _ (below4 HB.out (by omega) _ _ _ _) (blk_far4 HT1.out (by omega) _ _ _ _) (blk_far4 HT2.out (by omega) _ _ _ _) (blk_far4 HT3.out (by omega) _ _ _ _) (blk_far4 HA.out (by omega) _ _ _ _) (blk_far4 HK.out (by omega) _ _ _ _) (blk_far4 HC.out (by omega) _ _ _ _) (blk_far4 HD19.out (by omega) _ _ _ _) (blk_far4 HD29.out (by omega) _ _ _ _) (put4 HZ9.out _ _ _ _)
 ·exact fin9 _ _ _ _ _ _ _ _ _ _ _ _ _ _ _ _ _ _ _ _ _ _ _ _ _ _ _ _ _ _ _ _ _ _ _ _ _ _ _ _ _ _ _ _ _ _ _ _ _ _ _ _ _ _ _ _ _ _ _ _ _ _ _ _ _ _ _ _ _ _ _ _ _ _ _ _ _ _ _ _ _ _ _ _ _ _ _ _ _ _ _ _ _ _ _ _ _ _ _ _ _ _ _ _ _ _ _ _ _ _ _ _ _ _ _ _ _ _ _ _ _ _ _ _ _ _ _ _ _ _ _ _ _ _ _ _ _ _ _ _ _ _ _ _ _ _ _ _ _ _ _ _ _ _ _ _ _ _ _ _ _ _ _ _ _ _ _ _ _ _ (x3.heap.size) (x3.heap.size + 1) (q1_9.heap.size) _ (below4 HB.out (by omega) _ _ _ _) (blk_far4 HT1.out (by omega) _ _ _ _) (blk_far4 HT2.out (by omega) _ _ _ _) (blk_far4 HT3.out (by omega) _ _ _ _) (blk_far4 HA.out (by omega) _ _ _ _) (blk_far4 HK.out (by omega) _ _ _ _) (blk_far4 HC.out (by omega) _ _ _ _) (blk_far4 HD19.out (by omega) _ _ _ _) (blk_far4 HD29.out (by omega) _ _ _ _) (put4 HZ9.out _ _ _ _)
end Go.Proofs.YtbdciibbgiphcaaDoor.V

/- What the cell 'laid' gives: the table of the powers of ten. -/
namespace Go.Proofs.YtbdciibbgiphcaaDoor.V
open Go.RowKit
theorem g10Type : (Tryd.prog.globals[0]?).map (·.type) = some 138 := by kernel_rfl
theorem u138 : Tryd.prog.underlying 138 = some (.array 20 123) := by kernel_rfl
theorem laid10 {H : Type} : (Rows.laid_internal_strconv_uint64pow10 : DataW H) = Lib.tabData .u64 Lib.pow10Tab := by kernel_rfl
theorem varT_head {W : World} {r : List (String × DataW Unit)} (h : laidMet Tryd.prog (("internal/strconv.uint64pow10", Rows.laid_internal_strconv_uint64pow10) :: r) W) : VarT W := by
 rw [laid10] at h
 exact Lib.tabIs_of_head (e := 123) pow10_named g10Type u138 (by kernel_rfl) (by kernel_rfl) (by kernel_rfl) h
end Go.Proofs.YtbdciibbgiphcaaDoor.V

/- What the cell 'laid' gives: the variable that a number too great leads to holds an error. -/
namespace Go.Proofs.YtbdciibbgiphcaaDoor.V
open Go.RowKit Go.ChangeShapes
theorem star : "*" ++ "errors.errorString" = "*errors.errorString" := by decide
theorem row170 (u : TypeId) (h : Tryd.prog.typeName? 3 u = some "*errors.errorString") : u = 170 :=
 typeName_ptr_named (nm := "errors.errorString") (by rw [star]; kernel_rfl) (by kernel_rfl) (by decide) u (by rw [star]; exact h)
theorem gR : Tryd.prog.globalNamed "strconv.ErrRange" = some 7 := by kernel_rfl
theorem gRType : (Tryd.prog.globals[7]?).map (·.type) = some 146 := by kernel_rfl
theorem cells172 : Tryd.prog.cellsOf 172 = 1 := by kernel_rfl
theorem cells9 : Tryd.prog.cellsOf 9 = 1 := by kernel_rfl
theorem varOk_head {W : World} {r : List (String × DataW Unit)} (h : laidMet Tryd.prog (("strconv.ErrRange", Rows.laid_strconv_ErrRange) :: r) W) : VarOk W := by
 obtain ⟨a, s, hv, _⟩ := laid_sentinel h gR gRType Tryd.underlying146 row170 Tryd.underlying170 Tryd.underlying172 rfl rfl Tryd.underlying9 cells172 cells9
 exact ⟨_, _, hv⟩
end Go.Proofs.YtbdciibbgiphcaaDoor.V
