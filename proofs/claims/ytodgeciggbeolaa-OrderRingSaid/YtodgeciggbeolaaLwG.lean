/- OrderRing's walk, from what the row reads. -/
import Derived.Test.YtodgeciggbeolaaRgW
import Derived.Test.YtodgeciggbeolaaTr
namespace Go.Proofs.Ytodgeciggbeolaa
set_option linter.unusedVariables false
set_option linter.unusedSimpArgs false
set_option linter.unusedSectionVars false
open Go.RowKit Go.Proofs.YtodgeciggbeolaaW.PrintWords

theorem u8_range {x : Int} (h : (Lit.int .u8 x).wf = true) : 0 ≤ x ∧ x ≤ 255 := by
  simp [Lit.wf, IntKind.min, IntKind.max, IntKind.signed, IntKind.bits] at h
  omega

theorem lawOrderRing (W : World) (x : Int) (hx : (Lit.int .u8 x).wf = true) (y : Int) (hy : (Lit.int .u8 y).wf = true) :
    Calls Try.prog 6 #[.int .u8 x, .int .u8 y] W fun e W' => e = .returned (.bool true) ∧ Below W.heap.size W W' :=
  S.ring_walk x y (u8_range hx) (u8_range hy) W
end Go.Proofs.Ytodgeciggbeolaa
