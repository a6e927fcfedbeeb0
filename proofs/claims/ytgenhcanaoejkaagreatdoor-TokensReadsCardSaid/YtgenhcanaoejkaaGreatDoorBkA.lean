/- belfrylaw01's marks: word, markToken, isToken: walks. -/
import Derived.Test.YtgenhcanaoejkaaGreatDoorShelf
import Derived.Test.YtgenhcanaoejkaaGreatDoorSx0
import Derived.Lib.Hide
import Derived.Deep.RegionHeld3
namespace Go.Proofs.YtgenhcanaoejkaaGreatDoor.B
set_option linter.unusedVariables false
set_option linter.unusedSimpArgs false
set_option linter.unusedSectionVars false
open Go.RowKit Go.Proofs.YtgenhcanaoejkaaGreatDoorW.PrintWords Go.Proofs.YtgenhcanaoejkaaGreatDoorW.PrintLast Go.Proofs.YtgenhcanaoejkaaGreatDoorW.PrintMore
/-- a mark's text. -/
def mk (n : Nat) : ByteArray := (⟨#[35]⟩ : ByteArray) ++ ⟨(Lib.decDigits n).toArray⟩
theorem small_len : ∀ n : Nat, n < 100 → (Lib.decDigits n).length ≤ 2 := by decide +kernel
set_option maxHeartbeats 2000000 in
set_option maxRecDepth 100000 in
theorem word_walk (n : Nat) (hn : n < 100) (w : World) : Calls Tryz.prog 118 #[.int .i64 n] w fun e w' => e = .returned (.string (mk n)) ∧ w' = w := by
  go_enter Tryz.func118, Tryz.ntmps118
  go_wp2_with fail
  refine (Tryz.strconv_Itoa_small n hn _).mono ?_
  rintro _ _ ⟨rfl, rfl⟩
  have hl : (Lib.decDigits n).length ≤ 2 := small_len n hn
  have hz : (⟨(Lib.decDigits n).toArray⟩ : ByteArray).size ≤ 2 := hl
  have hs : (⟨#[35]⟩ : ByteArray).size + (⟨(Lib.decDigits n).toArray⟩ : ByteArray).size ≤ 9223372036854775807 := by
    show 1 + _ ≤ _
    omega
  go_wp2_with fail
  go_ret
  exact ⟨rfl, rfl⟩
end Go.Proofs.YtgenhcanaoejkaaGreatDoor.B
