/- Plain facts about the tokens of a text: how many, how far, of which bytes. -/
import Derived.Test.YtgenhcanaoejkaaGreatDoorTokQ
namespace Go.Proofs.YtgenhcanaoejkaaGreatDoor.Tok
set_option linter.unusedVariables false
set_option linter.unusedSimpArgs false
/-! ## How many, how far, of which bytes. -/
theorem R_upto (l : List Int) : ∀ p ts q, R l p = (some ts, q) → ts.length ≤ l.length ∧ (∀ t ∈ ts, t.pos ≤ ((p + l.length : Nat) : Int)) ∧ ∀ t ∈ ts, ∀ c ∈ t.text, c ∈ l := by
  induction l using R_cases with
  | nil => intro p ts q h; rw [R_nil] at h; injection h with h; injection h with h; subst h; exact ⟨Nat.le_refl _, by simp, by simp⟩
  | bl c r hb ih =>
    intro p ts q h
    rw [R_blank _ _ hb] at h
    obtain ⟨h1, h2, h3⟩ := ih _ _ _ h
    refine ⟨by rw [List.length_cons]; omega, fun t ht => ?_, fun t ht x hx => List.mem_cons_of_mem _ (h3 t ht x hx)⟩
    have := h2 t ht; rw [List.length_cons]; omega
  | cm r ih =>
    intro p ts q h
    rw [R_dash] at h
    have hle := tw_le (fun c => c != 10) r
    obtain ⟨h1, h2, h3⟩ := ih _ _ _ h
    rw [List.length_drop] at h1
    refine ⟨by simp only [List.length_cons]; omega, fun t ht => ?_, fun t ht x hx => List.mem_cons_of_mem _ (List.mem_cons_of_mem _ (List.mem_of_mem_drop (h3 t ht x hx)))⟩
    have := h2 t ht; rw [List.length_drop] at this; simp only [List.length_cons]; omega
  | no c r hs hh => intro p ts q h; rw [R_none _ hs hh] at h; injection h with h; cases h
  | tk c r hs hh ih =>
    intro p ts q h
    rw [R_head _ hs hh] at h
    rcases hx : R ((c :: r).drop (head (c :: r)).2) (p + (head (c :: r)).2) with ⟨_ | us, q2⟩
    · rw [hx] at h; simp [put] at h
    · rw [hx] at h
      simp only [put, Prod.mk.injEq, Option.some.injEq] at h
      obtain ⟨rfl, rfl⟩ := h
      obtain ⟨h1, h2, h3⟩ := ih _ _ _ hx
      have hle := head_le (c :: r)
      rw [List.length_drop] at h1
      refine ⟨by simp only [List.length_cons] at hle h1 ⊢; omega, fun t ht => ?_, fun t ht x hx => ?_⟩
      · cases ht with
        | head => show ((p : Nat) : Int) ≤ _; omega
        | tail _ ht => have := h2 t ht; rw [List.length_drop] at this; omega
      · cases ht with
        | head => exact List.mem_of_mem_take hx
        | tail _ ht => exact List.mem_of_mem_drop (h3 t ht x hx)
theorem R_flatlen {bl : List Int} (hb : bl.length ≤ 6) (l : List Int) : ∀ p ts q, R l p = (some ts, q) → (flat bl ts).length ≤ 7 * l.length := by
  induction l using R_cases with
  | nil => intro p ts q h; rw [R_nil] at h; injection h with h; injection h with h; subst h; exact Nat.le_refl _
  | bl c r hb2 ih => intro p ts q h; rw [R_blank _ _ hb2] at h; have := ih _ _ _ h; rw [List.length_cons]; omega
  | cm r ih =>
    intro p ts q h
    rw [R_dash] at h
    have := ih _ _ _ h
    rw [List.length_drop] at this
    simp only [List.length_cons]; omega
  | no c r hs hh => intro p ts q h; rw [R_none _ hs hh] at h; injection h with h; cases h
  | tk c r hs hh ih =>
    intro p ts q h
    rw [R_head _ hs hh] at h
    rcases hx : R ((c :: r).drop (head (c :: r)).2) (p + (head (c :: r)).2) with ⟨_ | us, q2⟩
    · rw [hx] at h; simp [put] at h
    · rw [hx] at h
      simp only [put, Prod.mk.injEq, Option.some.injEq] at h
      obtain ⟨rfl, rfl⟩ := h
      have h1 := ih _ _ _ hx
      have hle := head_le (c :: r)
      rw [List.length_drop] at h1
      show ((c :: r).take (head (c :: r)).2 ++ (bl ++ flat bl us)).length ≤ _
      rw [List.length_append, List.length_append, List.length_take]
      omega
end Go.Proofs.YtgenhcanaoejkaaGreatDoor.Tok
