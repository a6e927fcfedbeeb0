/- What the law functions' shared parts compute, in plain Lean: the size of lists, sameness. -/
import Derived.Test.YtodgeciggbeolaaGreatDoorVo
import Derived.Test.YtodgeciggbeolaaGreatDoorOrdR
namespace Go.Proofs.YtodgeciggbeolaaGreatDoor.V
set_option linter.unusedVariables false
set_option linter.unusedSimpArgs false
set_option linter.unusedSectionVars false
open Go.RowKit Go.Proofs.YtodgeciggbeolaaGreatDoorW.PrintWords Go.Proofs.YtodgeciggbeolaaGreatDoorW.PrintLast Go.Proofs.YtodgeciggbeolaaGreatDoorW.PrintMore
open Go.Proofs.Ord

theorem w64 {n : Int} (h0 : 0 ≤ n) (h1 : n ≤ 9223372036854775807) : wrap64 n = n := by unfold wrap64; omega
theorem rd_nat (xs : List Int) (i : Nat) : rd xs (i : Int) = xs.getD i 0 := rfl
theorem rd_lt {xs : List Int} {i : Nat} (h : i < xs.length) : rd xs (i : Int) = xs[i] := by rw [rd_nat, List.getD_eq_getElem?_getD, List.getElem?_eq_getElem h]; rfl
theorem rdL_nat (xs : List (List Int)) (i : Nat) : rd_L1 xs (i : Int) = at_ xs i := rfl
theorem at_beyond {l : List (List Int)} {k : Nat} (h : l.length ≤ k) : at_ l k = [] := by
  unfold at_; rw [List.getD_eq_getElem?_getD, List.getElem?_eq_none h]; rfl

/-- what a list of lists is that came in. -/
def WfL (l : List (List Int)) : Prop := l.length ≤ 140737488351232 ∧ ∀ k, (at_ l k).length ≤ 140737488351232

theorem size_ev (x : List (List Int)) (hx : WfL x) : ∀ d i (s : Int), i + d = x.length → 0 ≤ s → s ≤ 281474976710656 → ∃ r : Int, s ≤ r ∧ Ev (fun k => belfrylaw01_ListsSize.l0 k x s i) r ∧ (r ≤ 3000 → ∀ j, i ≤ j → (at_ x j).length ≤ 3000)
  | 0, i, s, hi, h0, h1 => ⟨s, by omega, Ev.step (fun k => by simp only [belfrylaw01_ListsSize.l0]; rw [if_neg (by omega)]) (Ev.now s), fun _ j hj => by rw [at_beyond (by omega)]; simp⟩
  | d + 1, i, s, hi, h0, h1 => by
    have hl := hx.2 i
    have hl0 := hx.1
    by_cases hs : s ≤ 1048576
    · obtain ⟨r, h2, h3, h4⟩ := size_ev x hx d (i + 1) (s + (at_ x i).length) (by omega) (by omega) (by omega)
      refine ⟨r, by omega, Ev.step (fun k => ?_) h3, fun hr j hj => ?_⟩
      · simp only [belfrylaw01_ListsSize.l0]
        rw [if_pos (by omega), if_pos hs, if_pos (by omega), rdL_nat, w64 (by omega) (by omega), w64 (by omega) (by omega)]
        rfl
      · by_cases e : j = i
        · subst e; omega
        · exact h4 hr j (by omega)
    · exact ⟨s, by omega, Ev.step (fun k => by simp only [belfrylaw01_ListsSize.l0]; rw [if_pos (by omega), if_neg hs]) (Ev.now s), fun hr => by omega⟩

/-- gone through, or not. -/
theorem great_ev (x : List (List Int)) (hx : WfL x) : ∃ b, Ev (fun k => belfrylaw13_great.f k x) b ∧ (b = false → x.length ≤ 200 ∧ ∀ k, (at_ x k).length ≤ 3000) := by
  by_cases h : (x.length : Int) > 200
  · exact ⟨true, ⟨0, fun k _ => by simp only [belfrylaw13_great.f]; rw [if_pos h]⟩, by simp⟩
  · have hx1 := hx.1
    obtain ⟨r, h1, h2, h3⟩ := size_ev x hx x.length 0 x.length (by omega) (by omega) (by omega)
    refine ⟨decide (r > 3000), Ev.congr (f := fun k => (belfrylaw01_ListsSize.f k x).bind fun t => some (decide (t > 3000))) (fun k => by simp only [belfrylaw13_great.f]; rw [if_neg h]) ?_, fun e => ⟨by omega, fun k => h3 (by simpa using e) k (by omega)⟩⟩
    refine Ev.bind (f := fun _ t => some (decide (t > 3000))) (a := r) ?_ (Ev.now _)
    exact Ev.congr (fun k => by simp only [belfrylaw01_ListsSize.f]; rfl) h2

theorem same_loop (x y : List Int) (hl : x.length = y.length) (hm : x.length ≤ 9223372036854775806) : ∀ d i, i + d = x.length → ∃ b, Ev (fun k => belfrylaw01_SameInts.l0 k x y i) b ∧ (b = true ↔ ∀ j, i ≤ j → j < x.length → x[j]? = y[j]?)
  | 0, i, hi => ⟨true, Ev.step (fun k => by simp only [belfrylaw01_SameInts.l0]; rw [if_neg (by omega)]) (Ev.now _), by simp; intro j h1 h2; omega⟩
  | d + 1, i, hi => by
    by_cases he : x[i]? = y[i]?
    · obtain ⟨b, h1, h2⟩ := same_loop x y hl hm d (i + 1) (by omega)
      refine ⟨b, Ev.step (fun k => ?_) h1, ?_⟩
      · simp only [belfrylaw01_SameInts.l0]
        rw [if_pos (by omega), if_pos (by omega), if_pos (by omega), rd_nat, rd_nat, if_pos (by rw [List.getD_eq_getElem?_getD, List.getD_eq_getElem?_getD, he]), w64 (by omega) (by omega)]
        rfl
      · rw [h2]
        constructor
        · intro h j hj hjl
          by_cases e : j = i
          · subst e; exact he
          · exact h j (by omega) hjl
        · intro h j hj hjl
          exact h j (by omega) hjl
    · refine ⟨false, Ev.step (fun k => ?_) (Ev.now _), ?_⟩
      · simp only [belfrylaw01_SameInts.l0]
        rw [if_pos (by omega), if_pos (by omega), if_pos (by omega), rd_lt (by omega), rd_lt (by omega), if_neg]
        intro e
        apply he
        rw [List.getElem?_eq_getElem (by omega), List.getElem?_eq_getElem (by omega), e]
      · constructor
        · intro h; cases h
        · intro h; exact absurd (h i (by omega) (by omega)) he

theorem same_ev (x y : List Int) (hm : x.length ≤ 9223372036854775806) : Ev (fun k => belfrylaw01_SameInts.f k x y) (decide (x = y)) := by
  by_cases hl : x.length = y.length
  · obtain ⟨b, h1, h2⟩ := same_loop x y hl hm x.length 0 (by omega)
    have : b = decide (x = y) := by
      rw [Bool.eq_iff_iff, h2, decide_eq_true_iff]
      constructor
      · intro h
        apply List.ext_getElem?
        intro j
        by_cases hj : j < x.length
        · exact h j (by omega) hj
        · rw [List.getElem?_eq_none (by omega), List.getElem?_eq_none (by omega)]
      · rintro rfl j _ _; rfl
    rw [← this]
    exact Ev.congr (fun k => by simp only [belfrylaw01_SameInts.f]; rw [if_pos (by omega)]; rfl) h1
  · have : decide (x = y) = false := by
      rw [decide_eq_false_iff_not]; rintro rfl; exact hl rfl
    rw [this]
    exact ⟨0, fun k _ => by simp only [belfrylaw01_SameInts.f]; rw [if_neg (by omega)]⟩

end Go.Proofs.YtodgeciggbeolaaGreatDoor.V
