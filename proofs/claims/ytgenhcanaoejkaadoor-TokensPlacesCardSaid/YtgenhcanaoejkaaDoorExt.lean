/- The contract of belfrylaw04.alive, in the form in which the printed texts take it. -/
import Derived.Test.YtgenhcanaoejkaaDoorAlP
namespace Go.Proofs.YtgenhcanaoejkaaDoor.S
set_option linter.unusedVariables false
set_option linter.unusedSimpArgs false
open Go.RowKit Go.Proofs.YtgenhcanaoejkaaDoorW.PrintWords Go.Proofs.YtgenhcanaoejkaaDoorW.PrintLast Go.Proofs.YtgenhcanaoejkaaDoorW.PrintMore
theorem belfrylaw04_alive.callsB  (r : Bool) (w : World) {w0 : World} (hv : VarOk w0) (hb : Below w0.heap.size w0 w) (h : belfrylaw04_alive.f  = some r) :
    Calls Tryd.prog 15 #[] w fun e w' => e = .returned (.bool r) ∧ Below w.heap.size w w' := by
  have hr : r = true := by injection h with h; exact h.symm
  subst hr
  exact A.belfrylaw04_alive.calls 9 true w (hv.step hb) A.alive_true
end Go.Proofs.YtgenhcanaoejkaaDoor.S
