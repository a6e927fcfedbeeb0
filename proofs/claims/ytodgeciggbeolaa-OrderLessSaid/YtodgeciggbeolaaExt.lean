/- order.Of's contract, in the form in which the printed texts take it. -/
import Derived.Test.YtodgeciggbeolaaOrdW
namespace Go.Proofs.Ytodgeciggbeolaa.S
set_option linter.unusedVariables false
set_option linter.unusedSimpArgs false
set_option linter.unusedSectionVars false
open Go.RowKit Go.Proofs.YtodgeciggbeolaaW.PrintWords Go.Proofs.YtodgeciggbeolaaW.PrintLast Go.Proofs.YtodgeciggbeolaaW.PrintMore
open Go.Proofs.Ord

def order_Of.f (l0 : List (List Int)) : Option (List Int × Int) := if l0.length ≤ 300 ∧ ∀ x ∈ l0, x.length ≤ 20000 then some (Ord.of l0) else none
theorem order_Of.calls (A0 : Option Addr) (c0 : Nat) (l0 : List (List Int)) (r1 : List Int) (r2 : Int) (w : World) (hr0 : Kd.C (Kd.slice 3 (Kd.int .i64)) w A0 l0.length l0) (hc0 : l0.length ≤ c0) (h : order_Of.f l0 = some (r1, r2)) :
    Calls Try.prog 10 #[.slice A0 l0.length c0] w fun e w' => ∃ v0_ : Value, e = .returned (.tuple #[v0_, .int .i64 r2]) ∧ Kd.R (Kd.int .i64) 3 w' w.heap.size (fun _ => True) v0_ r1 ∧ Below w.heap.size w w' := by
  unfold order_Of.f at h
  split at h
  · rename_i hc
    injection h with h
    refine (of_walk A0 c0 l0 w hr0 hc.1 (fun k => ?_)).mono ?_
    · unfold at_
      rw [List.getD_eq_getElem?_getD]
      cases hk : l0[k]? with
      | none => simp
      | some x => exact hc.2 x (List.mem_of_getElem? hk)
    · rintro e w' ⟨v, rfl, ho, hb⟩
      rw [h] at ho ⊢
      exact ⟨v, rfl, Kd.R_of_own ho (fun _ _ => trivial), hb⟩
  · cases h
end Go.Proofs.Ytodgeciggbeolaa.S
