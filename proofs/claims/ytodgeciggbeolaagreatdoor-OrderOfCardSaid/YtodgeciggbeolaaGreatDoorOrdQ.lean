/- What the order that the chapter tells is like: told once, behind what it waits for, the least first. -/
import Derived.Test.YtodgeciggbeolaaGreatDoorOrdP
namespace Go.Proofs.Ord
set_option linter.unusedVariables false
set_option linter.unusedSimpArgs false

theorem next_some {l : List (List Int)} {out : List Int} {k : Nat} (h : next l out = some k) : k < l.length ∧ rdy l out k = true ∧ ∀ j, j < k → rdy l out j = false := by
  unfold next at h
  rw [List.find?_eq_some_iff_getElem] at h
  obtain ⟨h1, i, hi, h2, h3⟩ := h
  simp only [List.getElem_range] at h2
  subst h2
  have hil : i < l.length := by simpa using hi
  refine ⟨hil, h1, fun j hj => ?_⟩
  have := h3 j hj
  simp only [List.getElem_range] at this
  simpa using this

theorem next_eq_none {l : List (List Int)} {out : List Int} (h : next l out = none) : ∀ k, k < l.length → rdy l out k = false := by
  unfold next at h
  rw [List.find?_eq_none] at h
  intro k hk
  have := h k (List.mem_range.2 hk)
  simpa using this

/-- each number that is told is the next one behind those ahead of it. -/
def Steps (l : List (List Int)) (out : List Int) : Prop := ∀ i, i < out.length → ∃ k : Nat, out[i]? = some (k : Int) ∧ next l (out.take i) = some k

theorem steps_nil (l : List (List Int)) : Steps l [] := fun i h => absurd h (by simp)
theorem Steps.snoc {l : List (List Int)} {out : List Int} {k : Nat} (h : Steps l out) (hk : next l out = some k) : Steps l (out ++ [(k : Int)]) := by
  intro i hi
  simp only [List.length_append, List.length_singleton] at hi
  by_cases e : i = out.length
  · subst e
    exact ⟨k, by simp, by rw [List.take_left]; exact hk⟩
  · obtain ⟨j, h1, h2⟩ := h i (by omega)
    exact ⟨j, by rw [List.getElem?_append_left (by omega)]; exact h1, by rw [List.take_append_of_le_length (by omega)]; exact h2⟩
theorem run_steps (l : List (List Int)) : ∀ (f : Nat) (out : List Int), Steps l out → Steps l (run l f out)
  | 0, out, h => h
  | f + 1, out, h => by
    unfold run
    cases hn : next l out with
    | none => exact h
    | some k => exact run_steps l f _ (h.snoc hn)
theorem run_length (l : List (List Int)) : ∀ (f : Nat) (out : List Int), out.length ≤ (run l f out).length ∧ (run l f out).length ≤ out.length + f
  | 0, out => ⟨Nat.le_refl _, Nat.le_refl _⟩
  | f + 1, out => by
    unfold run
    cases hn : next l out with
    | none => exact ⟨Nat.le_refl _, Nat.le_add_right _ _⟩
    | some k =>
      have := run_length l f (out ++ [(k : Int)])
      simp only [List.length_append, List.length_singleton] at this
      show out.length ≤ (run l f (out ++ [(k : Int)])).length ∧ (run l f (out ++ [(k : Int)])).length ≤ out.length + (f + 1)
      omega

theorem Steps.mem {l : List (List Int)} {out : List Int} (h : Steps l out) {x : Int} (hx : x ∈ out) : ∃ k : Nat, x = k ∧ k < l.length := by
  obtain ⟨i, hi, rfl⟩ := List.getElem_of_mem hx
  obtain ⟨k, h1, h2⟩ := h i hi
  rw [List.getElem?_eq_getElem hi] at h1
  injection h1 with h1
  exact ⟨k, h1, (next_some h2).1⟩
theorem Steps.nodup {l : List (List Int)} {out : List Int} (h : Steps l out) : out.Nodup := by
  rw [List.nodup_iff_pairwise_ne, List.pairwise_iff_getElem]
  intro i j hi hj hij e
  obtain ⟨k, h1, h2⟩ := h j hj
  rw [List.getElem?_eq_getElem hj] at h1
  injection h1 with h1
  have := ((rdy_iff _ _ _).1 (next_some h2).2.1).1
  apply this
  rw [← h1, ← e]
  exact List.mem_iff_getElem.2 ⟨i, by simp; omega, by simp⟩
/-- what a number waits for stands ahead of it. -/
theorem Steps.behind {l : List (List Int)} {out : List Int} (h : Steps l out) {i : Nat} (hi : i < out.length) : ∀ y ∈ at_ l (out[i]).toNat, y ∈ out.take i := by
  obtain ⟨k, h1, h2⟩ := h i hi
  rw [List.getElem?_eq_getElem hi] at h1
  injection h1 with h1
  rw [h1]
  exact ((rdy_iff _ _ _).1 (next_some h2).2.1).2
/-- a lesser one behind a greater one waits for it. -/
theorem Steps.lesser {l : List (List Int)} {out : List Int} (h : Steps l out) {i : Nat} (hi : i + 1 < out.length) (hlt : out[i + 1] < out[i]) : out[i] ∈ at_ l (out[i + 1]).toNat := by
  obtain ⟨a, h1, h2⟩ := h i (by omega)
  obtain ⟨b, h3, h4⟩ := h (i + 1) hi
  rw [List.getElem?_eq_getElem (by omega)] at h1
  injection h1 with h1
  rw [List.getElem?_eq_getElem hi] at h3
  injection h3 with h3
  have hba : b < a := by rw [h1, h3] at hlt; omega
  have hnr := (next_some h2).2.2 b hba
  obtain ⟨q1, q2⟩ := (rdy_iff _ _ _).1 (next_some h4).2.1
  have ht : out.take (i + 1) = out.take i ++ [out[i]] := List.take_succ_eq_append_getElem (by omega)
  rw [ht] at q1 q2
  rw [h3]
  simp only [Int.toNat_natCast]
  by_cases hm : out[i] ∈ at_ l b
  · exact hm
  · exfalso
    have : rdy l (out.take i) b = true := (rdy_iff _ _ _).2 ⟨fun e => q1 (List.mem_append_left _ e), fun y hy => by
      rcases List.mem_append.1 (q2 y hy) with q | q
      · exact q
      · simp at q; rw [q] at hy; exact absurd hy hm⟩
    rw [hnr] at this
    cases this

theorem of_cases (l : List (List Int)) : (of l).2 = 0 ∧ Steps l (of l).1 ∧ (of l).1.length = l.length ∧ bad l = false ∨ ((of l).2 = 1 ∧ bad l = true ∨ (of l).2 = 8 ∧ bad l = false) ∧ (of l).1 = [] := by
  unfold of
  cases hb : bad l with
  | true => right; simp
  | false =>
    simp only [Bool.false_eq_true, if_false]
    by_cases h : (run l l.length []).length < l.length
    · rw [if_pos h]; right; simp
    · rw [if_neg h]
      left
      have h1 := (run_length l l.length []).2
      simp only [List.length_nil, Nat.zero_add] at h1
      exact ⟨rfl, run_steps l _ _ (steps_nil l), by show (run l l.length []).length = l.length; omega, trivial⟩
end Go.Proofs.Ord
