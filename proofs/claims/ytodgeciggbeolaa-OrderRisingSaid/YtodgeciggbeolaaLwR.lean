/- OrderRising's walk, from what the row reads. -/
import Derived.Test.YtodgeciggbeolaaPuR
import Derived.Test.YtodgeciggbeolaaTr
namespace Go.Proofs.Ytodgeciggbeolaa
set_option linter.unusedVariables false
set_option linter.unusedSimpArgs false
set_option linter.unusedSectionVars false
open Go.RowKit Go.Proofs.YtodgeciggbeolaaW.PrintWords
open Go.Proofs.Ord

theorem lawOrderRising (W : World) (A : Option Addr) (c : Nat) (l : List (List Int)) (hr : Kd.C (Kd.slice 5 (Kd.int .u8)) W A l.length l) (hc : l.length ≤ c)
    (hw : l.length * Try.prog.bytesOf 33 ≤ 140737488351232 ∧ l.length ≤ 9223372036854775807 ∧ ∀ a ∈ l, a.length * Try.prog.bytesOf 5 ≤ 140737488351232 ∧ a.length ≤ 9223372036854775807 ∧ ∀ n ∈ a, (Lit.int .u8 n).wf = true) :
    Calls Try.prog 5 #[.slice A l.length c] W fun e W' => e = .returned (.bool true) ∧ Below W.heap.size W W' := by
  have b1 : Try.prog.bytesOf 5 = 1 := by kernel_rfl
  rw [b1] at hw
  have key : ∀ k, (∀ y ∈ at_ l k, 0 ≤ y ∧ y ≤ 255) ∧ (at_ l k).length ≤ 9223372036854775806 := by
    intro k
    by_cases hk : k < l.length
    · have h := hw.2.2 _ (List.getElem_mem hk)
      have e : at_ l k = l[k] := by
        unfold at_
        rw [List.getD_eq_getElem?_getD, List.getElem?_eq_getElem hk]; rfl
      rw [e]
      refine ⟨fun y hy => ?_, by omega⟩
      have := h.2.2 y hy
      simp [Lit.wf, IntKind.min, IntKind.max, IntKind.signed, IntKind.bits] at this
      omega
    · rw [S.at_beyond (by omega)]; simp
  obtain ⟨k, hf⟩ := (S.rising_ev l (fun k => (key k).1) (fun k => (key k).2)).rounds
  exact S.belfrylaw13_OrderRising.calls k A c l true W hr hc hf
end Go.Proofs.Ytodgeciggbeolaa
