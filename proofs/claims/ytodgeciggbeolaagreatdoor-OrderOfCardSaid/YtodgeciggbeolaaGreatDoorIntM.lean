/- A mark of a list of numbers: what it is, and whether one is it. -/
import Derived.Test.YtodgeciggbeolaaGreatDoorBkK
import Derived.Tactics
namespace Go.Proofs.YtodgeciggbeolaaGreatDoor.B
set_option linter.unusedVariables false
set_option linter.unusedSimpArgs false
open Go.RowKit Go.Proofs.YtodgeciggbeolaaGreatDoorW.PrintWords Go.Proofs.YtodgeciggbeolaaGreatDoorW.PrintLast Go.Proofs.YtodgeciggbeolaaGreatDoorW.PrintMore
theorem mark_Int (n : Nat) (h : n ≤ 1000) (w : World) : Calls Tryz.prog 80 #[.int .i64 (n : Int)] w (fun e w' => e = .returned (.int .i64 (-1000 - (n : Int))) ∧ Below w.heap.size w w') := by
  go_enter Tryz.func80, Tryz.ntmps80
  go_wp2_with fail
  go_ret
  exact ⟨rfl, Below.refl _ _⟩
theorem is_Int (n : Nat) (h : n ≤ 1000) (w : World) : Calls Tryz.prog 97 #[.int .i64 (-1000 - (n : Int)), .int .i64 (n : Int)] w (fun e w' => e = .returned (.bool true) ∧ Below w.heap.size w w') := by
  go_enter Tryz.func97, Tryz.ntmps97
  go_wp2_with fail
  go_ret
  exact ⟨by simp, Below.refl _ _⟩
end Go.Proofs.YtodgeciggbeolaaGreatDoor.B
