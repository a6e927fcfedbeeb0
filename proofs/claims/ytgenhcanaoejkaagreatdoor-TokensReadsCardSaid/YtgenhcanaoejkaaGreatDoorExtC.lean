/- The contracts of tokens.Read, in the form in which the printed texts take them. -/
import Derived.Test.YtgenhcanaoejkaaGreatDoorRdW
namespace Go.Proofs.YtgenhcanaoejkaaGreatDoor.S
set_option linter.unusedVariables false
set_option linter.unusedSimpArgs false
open Go.RowKit Go.Proofs.YtgenhcanaoejkaaGreatDoorW.PrintWords Go.Proofs.YtgenhcanaoejkaaGreatDoorW.PrintLast Go.Proofs.YtgenhcanaoejkaaGreatDoorW.PrintMore
set_option maxHeartbeats 2000000 in
set_option maxRecDepth 100000 in
theorem read_great (s : ByteArray) (w : World) (hs : ¬ s.size ≤ 65536) : Calls Tryz.prog 4 #[.string s] w fun e w' => e = .returned (.tuple #[.slice none 0 0, .int .i64 0, .int .i64 3]) ∧ w' = w := by
  have hd1 : decide (65536 < (s.size : Int)) = true := decide_eq_true (by omega)
  have hd2 : decide (65536 < s.size) = true := decide_eq_true (by omega)
  go_enter Tryz.func4, Tryz.ntmps4
  go_wp2_with fail
  apply wp_scope_straight
  go_wp2_with fail
  rw [Exit.noGoto_ret]
  go_ret3
  exact ⟨rfl, rfl⟩
theorem tokens_Read.calls (a0 : ByteArray) (r1 : List (S54)) (r2 : Int) (r3 : Int) (w : World) (h : tokens_Read.f a0 = some (r1, r2, r3)) :
    Calls Tryz.prog 4 #[.string a0] w fun e w' => ∃ v0_ : Value, e = .returned (.tuple #[v0_, .int .i64 r2, .int .i64 r3]) ∧ Kd.R k54 54 w' w.heap.size (fun _ => True) v0_ r1 ∧ Below w.heap.size w w' := by
  unfold tokens_Read.f at h
  injection h with h
  by_cases hs : a0.size ≤ 65536
  · rw [if_pos hs] at h
    refine (read_walk a0 w hs).mono ?_
    rintro e w' ⟨v, rfl, hr, hb⟩
    rw [h] at hr ⊢
    exact ⟨v, rfl, hr, hb⟩
  · rw [if_neg hs] at h
    injection h with h1 h
    injection h with h2 h3
    subst h1; subst h2; subst h3
    refine (read_great a0 w hs).mono ?_
    rintro e w' ⟨rfl, rfl⟩
    exact ⟨_, rfl, Kd.R_nil _ _ _ _ _, Below.refl _ _⟩
end Go.Proofs.YtgenhcanaoejkaaGreatDoor.S
