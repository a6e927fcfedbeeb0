/- TwinInts' contract, in the form in which the printed texts take it. -/
import Derived.Test.YtodgeciggbeolaaTwI
namespace Go.Proofs.Ytodgeciggbeolaa.S
set_option linter.unusedVariables false
set_option linter.unusedSimpArgs false
set_option linter.unusedSectionVars false
open Go.RowKit Go.Proofs.YtodgeciggbeolaaW.PrintWords Go.Proofs.YtodgeciggbeolaaW.PrintLast Go.Proofs.YtodgeciggbeolaaW.PrintMore

def belfrylaw01_TwinInts.f (l0 : List Int) : Option (List Int) := if l0.length ≤ 17592186044000 then some l0 else none
theorem belfrylaw01_TwinInts.calls (A0 : Option Addr) (c0 : Nat) (l0 : List Int) (r : List Int) (w : World) (hr0 : Kd.C (Kd.int .i64) w A0 l0.length l0) (hc0 : l0.length ≤ c0) (h : belfrylaw01_TwinInts.f l0 = some r) :
    Calls Try.prog 20 #[.slice A0 l0.length c0] w fun e w' => ∃ v0_ : Value, e = .returned (v0_) ∧ Kd.R (Kd.int .i64) 3 w' w.heap.size (fun _ => True) v0_ r ∧ Below w.heap.size w w' := by
  unfold belfrylaw01_TwinInts.f at h
  split at h
  · rename_i hc
    injection h with h
    subst h
    exact twin_ints A0 c0 _ l0 w rfl hr0 hc
  · cases h
end Go.Proofs.Ytodgeciggbeolaa.S
