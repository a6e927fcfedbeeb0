/- OrderLess' walk, from what the row reads. -/
import Derived.Test.YtodgeciggbeolaaLsW
import Derived.Test.YtodgeciggbeolaaTr
namespace Go.Proofs.Ytodgeciggbeolaa
set_option linter.unusedVariables false
set_option linter.unusedSimpArgs false
set_option linter.unusedSectionVars false
open Go.RowKit Go.Proofs.YtodgeciggbeolaaW.PrintWords
open Go.Proofs.Ord

theorem lawOrderLess (W : World) (A : Option Addr) (c : Nat) (l : List (List Int)) (hr : Kd.C (Kd.slice 3 (Kd.int .i64)) W A l.length l) (hc : l.length ≤ c)
    (hw : l.length * Try.prog.bytesOf 25 ≤ 140737488351232 ∧ l.length ≤ 9223372036854775807 ∧ ∀ a ∈ l, a.length * Try.prog.bytesOf 3 ≤ 140737488351232 ∧ a.length ≤ 9223372036854775807 ∧ ∀ n ∈ a, (Lit.int .i64 n).wf = true)
    (y : Int) (hy : (Lit.int .u8 y).wf = true) :
    Calls Try.prog 4 #[.slice A l.length c, .int .u8 y] W fun e W' => e = .returned (.bool true) ∧ Below W.heap.size W W' := by
  have b25 : Try.prog.bytesOf 25 = 24 := by kernel_rfl
  have b3 : Try.prog.bytesOf 3 = 8 := by kernel_rfl
  rw [b25, b3] at hw
  have hx : S.WfL l := by
    refine ⟨by omega, fun k => ?_⟩
    by_cases hk : k < l.length
    · have := (hw.2.2 _ (List.getElem_mem hk)).1
      unfold at_
      rw [List.getD_eq_getElem?_getD, List.getElem?_eq_getElem hk]
      show (l[k]).length ≤ _
      omega
    · rw [S.at_beyond (by omega)]; simp
  have hy2 : 0 ≤ y ∧ y ≤ 255 := by
    simp [Lit.wf, IntKind.min, IntKind.max, IntKind.signed, IntKind.bits] at hy
    omega
  exact S.less_walk A c l.length l y hy2 W rfl hr hc hx
end Go.Proofs.Ytodgeciggbeolaa
