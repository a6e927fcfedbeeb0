/- TokensReads: for every text. -/
import Derived.Test.YtgenhcanaoejkaaGreatDoorSzL
import Derived.Test.YtgenhcanaoejkaaGreatDoorPzR
namespace Go.Proofs.YtgenhcanaoejkaaGreatDoor.B
set_option linter.unusedVariables false
set_option linter.unusedSimpArgs false
set_option linter.unusedSectionVars false
open Go.RowKit Go.Proofs.YtgenhcanaoejkaaGreatDoorW.PrintWords Go.Proofs.YtgenhcanaoejkaaGreatDoorW.PrintLast Go.Proofs.YtgenhcanaoejkaaGreatDoorW.PrintMore
open Go.Proofs.YtgenhcanaoejkaaGreatDoor.S
set_option maxHeartbeats 2000000 in
set_option maxRecDepth 100000 in
theorem great_walk (s : ByteArray) (w : World) (hz : ¬ s.size ≤ 100000) : Calls Tryz.prog 3 #[.string s] w (fun e w' => e = .returned (.bool true) ∧ Below w.heap.size w w') := by
  have hd1 : decide (100000 < (s.size : Int)) = true := decide_eq_true (by omega)
  have hd2 : decide (100000 < s.size) = true := decide_eq_true (by omega)
  go_enter Tryz.func3, Tryz.ntmps3
  go_wp2_with fail
  go_ret
  exact ⟨rfl, Below.refl _ _⟩
theorem reads_walk (s : ByteArray) (w : World) : Calls Tryz.prog 3 #[.string s] w (fun e w' => e = .returned (.bool true) ∧ Below w.heap.size w w') := by
  by_cases hz : s.size ≤ 100000
  · obtain ⟨r1, r2, r3, h1, hl, h2⟩ := Pure.read_ref s
    exact law_walk 400000 s r1 r2 r3 w h1 h2 (Pure.same_f r1 (by omega) 400000 (by omega)) (by omega) hz
  · exact great_walk s w hz
end Go.Proofs.YtgenhcanaoejkaaGreatDoor.B
