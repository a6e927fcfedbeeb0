/- How many parts a tree has. Selected by wip/sel.py (ours) out of other texts. -/
import Derived.Test.YtbdciibbgiphcaaGreatDoorZrA
namespace Go.Proofs.YtbdciibbgiphcaaGreatDoor.V
set_option linter.unusedVariables false
set_option linter.unusedSimpArgs false
set_option linter.unusedSectionVars false
open Go.RowKit Go.Proofs.YtbdciibbgiphcaaGreatDoorW.PrintWords Go.Proofs.YtbdciibbgiphcaaGreatDoorW.PrintLast Go.Proofs.YtbdciibbgiphcaaGreatDoorW.PrintMore
mutual
def cntE : S25 → Nat
  | ⟨o, n, s, xs⟩ => 1 + (cntL xs).sum
def cntL : List S25 → List Nat
  | [] => []
  | x :: r => cntE x :: cntL r
end
theorem cntL_len : ∀ xs : List S25, (cntL xs).length = xs.length
  | [] => rfl
  | x :: r => by simp [cntL, cntL_len r]
theorem cntL_get : ∀ (xs : List S25) (i : Nat) (y : S25) (m : Nat), xs[i]? = some y → (cntL xs)[i]? = some m → m = cntE y
  | [], i, y, m, h, _ => by simp at h
  | x :: r, 0, y, m, h, h1 => by simp [cntL] at h h1; rw [← h, ← h1]
  | x :: r, i + 1, y, m, h, h1 => by simp [cntL] at h h1; exact cntL_get r i y m h h1
theorem nodes_cnt {x : S25} (h : WfE x) : Nodes x (cntE x) := by
  induction h with
  | mk o n s xs h1 h2 h3 h4 h5 h6 hk ih =>
    have : cntE ⟨o, n, s, xs⟩ = 1 + (cntL xs).sum := by simp [cntE]
    rw [this]
    exact .mk o n s xs (cntL xs) (cntL_len xs) (fun i y m hy hm => by rw [cntL_get xs i y m hy hm]; exact ih y (List.mem_of_getElem? hy))
end Go.Proofs.YtbdciibbgiphcaaGreatDoor.V
