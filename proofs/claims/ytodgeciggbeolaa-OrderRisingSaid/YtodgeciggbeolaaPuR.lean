/- OrderRising, in plain Lean: what it computes is true. -/
import Derived.Test.YtodgeciggbeolaaPuA
import Derived.Test.YtodgeciggbeolaaSx4
import Derived.Lib.Hide
namespace Go.Proofs.Ytodgeciggbeolaa.S
set_option linter.unusedVariables false
set_option linter.unusedSimpArgs false
set_option linter.unusedSectionVars false
open Go.RowKit Go.Proofs.YtodgeciggbeolaaW.PrintWords Go.Proofs.YtodgeciggbeolaaW.PrintLast Go.Proofs.YtodgeciggbeolaaW.PrintMore
open Go.Proofs.Ord

theorem tmod_lt {v m : Int} (h0 : 0 ≤ v) (hm : 0 < m) : 0 ≤ Int.tmod v m ∧ Int.tmod v m < m := ⟨Int.tmod_nonneg _ h0, Int.tmod_lt_of_pos _ hm⟩

section
variable {x0 : List (List Int)} (hn : x0.length ≤ 100) (hwf : ∀ k, ∀ y ∈ at_ x0 k, 0 ≤ y ∧ y ≤ 255) (hlen : ∀ k, (at_ x0 k).length ≤ 9223372036854775806)
include hn hwf hlen

theorem rising_j3 (x3 x4 : List (List Int)) (x5 : List Int) (n i q : Int) (x8 x9 : List Int) (h3 : x3.length ≤ 100) (h4 : x4.length ≤ 100) (h5 : x5.length ≤ 100)
    (hk : Ev (fun k => belfrylaw13_OrderRising.l0 k x0 (x3 ++ [x8]) (x4 ++ [x9]) (x5 ++ [i]) n (wrap64 (i + 1))) true) : Ev (fun k => belfrylaw13_OrderRising.j3 k x0 x3 x4 x5 n i x8 x9 q false) true := by
  refine Ev.step (fun k => ?_) hk
  simp only [belfrylaw13_OrderRising.j3]
  rw [if_neg (by simp), if_pos (by omega), if_pos (by omega), if_pos (by omega)]

set_option maxHeartbeats 4000000 in
theorem rising_l1 (x3 x4 : List (List Int)) (x5 : List Int) (i : Nat) (hi : i < x0.length) (h3 : x3.length ≤ 100) (h4 : x4.length ≤ 100) (h5 : x5.length ≤ 100)
    (hk : ∀ a b : List Int, (∀ y ∈ a, 0 ≤ y ∧ y < (i : Int)) → a.length ≤ 10 → (∀ y ∈ b, (i : Int) < y ∧ y < x0.length) → b.length ≤ 10 → Ev (fun k => belfrylaw13_OrderRising.l0 k x0 (x3 ++ [a]) (x4 ++ [b]) (x5 ++ [(i : Int)]) x0.length ((i + 1 : Nat) : Int)) true) :
    ∀ d q (a b : List Int), q + d = 10 → (∀ y ∈ a, 0 ≤ y ∧ y < (i : Int)) → a.length ≤ q → (∀ y ∈ b, (i : Int) < y ∧ y < x0.length) → b.length ≤ q →
      Ev (fun k => belfrylaw13_OrderRising.l1 k x0 x3 x4 x5 x0.length i a b (q : Nat)) true := by
  have hend : ∀ (q : Nat) (a b : List Int), (∀ y ∈ a, 0 ≤ y ∧ y < (i : Int)) → a.length ≤ 10 → (∀ y ∈ b, (i : Int) < y ∧ y < x0.length) → b.length ≤ 10 → Ev (fun k => belfrylaw13_OrderRising.j3 k x0 x3 x4 x5 x0.length i a b q false) true := by
    intro q a b h1 h2 h3' h4'
    refine rising_j3 hn hwf hlen x3 x4 x5 _ _ _ a b h3 h4 h5 ?_
    rw [w64 (by omega) (by omega)]
    exact hk a b h1 h2 h3' h4'
  have hL : rd_L3 x0 (i : Int) = at_ x0 i := rfl
  have hll := hlen i
  intro d
  induction d with
  | zero =>
    intro q a b hq ha hal hb hbl
    obtain rfl : q = 10 := by omega
    refine Ev.step (fun k => ?_) (hend 10 a b ha hal hb hbl)
    simp only [belfrylaw13_OrderRising.l1]
    have h10 : decide (((10 : Nat) : Int) < 10) = false := by decide
    rw [if_pos (by omega), if_pos (by omega), h10, ite_self]
  | succ d ih =>
    intro q a b hq ha hal hb hbl
    by_cases hql : q < (at_ x0 i).length
    · have hv := hwf i _ (List.getElem_mem hql)
      have hrd : Hid (wrap64 (rd (at_ x0 i) q) = (at_ x0 i)[q]) := Lib.hid (by rw [rd_lt hql, w64 (by omega) (by omega)])
      have hw1 : Hid (wrap64 ((x0.length : Int) - 1) = (x0.length : Int) - 1) := Lib.hid (w64 (by omega) (by omega))
      have hq1 : Hid (wrap64 ((q : Int) + 1) = ((q + 1 : Nat) : Int)) := Lib.hid (by rw [w64 (by omega) (by omega)]; rfl)
      have hi1 : Hid (wrap64 ((i : Int) + 1) = (i : Int) + 1) := Lib.hid (w64 (by omega) (by omega))
      have hdec : decide ((q : Int) < 10) = true := decide_eq_true (by omega)
      -- what comes in front
      have hgo : ∀ a' b', (∀ y ∈ a', 0 ≤ y ∧ y < (i : Int)) → a'.length ≤ q + 1 → (∀ y ∈ b', (i : Int) < y ∧ y < x0.length) → b'.length ≤ q + 1 → (∀ k, belfrylaw13_OrderRising.j3 (k + 1) x0 x3 x4 x5 x0.length i a b q true = belfrylaw13_OrderRising.l1 k x0 x3 x4 x5 x0.length i a' b' ((q + 1 : Nat) : Int)) → Ev (fun k => belfrylaw13_OrderRising.l1 k x0 x3 x4 x5 x0.length i a b (q : Nat)) true := by
        intro a' b' h1 h2 h3' h4' hj
        refine Ev.step (f := fun k => belfrylaw13_OrderRising.j3 k x0 x3 x4 x5 x0.length i a b q true) (fun k => ?_) (Ev.step (g := fun k => belfrylaw13_OrderRising.j3 k x0 x3 x4 x5 x0.length i a b q true) hj (ih (q + 1) a' b' (by omega) h1 h2 h3' h4'))
        simp only [belfrylaw13_OrderRising.l1]
        rw [if_pos (by omega), if_pos (by omega), hL, if_pos (by omega), hdec]
      have hA : 0 < i → ∀ y ∈ a ++ [Int.tmod ((at_ x0 i)[q]) i], 0 ≤ y ∧ y < (i : Int) := by
        intro hp y hy
        rcases List.mem_append.1 hy with hy | hy
        · exact ha y hy
        · rw [List.mem_singleton] at hy
          rw [hy]
          exact tmod_lt hv.1 (by omega)
      have hB : (i : Int) < (x0.length : Int) - 1 → ∀ y ∈ b ++ [wrap64 (((i : Int) + 1) + Int.tmod ((at_ x0 i)[q]) ((x0.length : Int) - 1 - i))], (i : Int) < y ∧ y < x0.length := by
        intro hp y hy
        rcases List.mem_append.1 hy with hy | hy
        · exact hb y hy
        · rw [List.mem_singleton] at hy
          have := tmod_lt (v := (at_ x0 i)[q]) (m := (x0.length : Int) - 1 - i) hv.1 (by omega)
          rw [w64 (by omega) (by omega)] at hy
          omega
      have hw2 : Hid (wrap64 ((x0.length : Int) - 1 - i) = (x0.length : Int) - 1 - i ∨ ¬ (i : Int) < (x0.length : Int) - 1) := by
        refine Lib.hid ?_
        by_cases h : (i : Int) < (x0.length : Int) - 1
        · left; exact w64 (by omega) (by omega)
        · exact .inr h
      by_cases h0 : 0 < i
      · by_cases h1 : (i : Int) < (x0.length : Int) - 1
        · have hw3 := Lib.hid (hw2.out.resolve_right (fun h => h h1))
          refine hgo _ _ (hA h0) (by simp; omega) (hB h1) (by simp; omega) (fun k => ?_)
          simp only [belfrylaw13_OrderRising.j3]
          rw [hL, hrd.out, hw1.out, hw3.out, hi1.out, hq1.out]
          rw [if_pos trivial, if_pos (by omega), if_pos (by omega), if_pos (by omega), if_pos (by omega), if_pos (by omega), if_neg (by omega), if_pos (by omega)]
          simp only [Option.bind_some]
          rw [if_pos (by omega), if_neg (by omega), if_pos (by omega)]
        · refine hgo _ _ (hA h0) (by simp; omega) hb (by omega) (fun k => ?_)
          simp only [belfrylaw13_OrderRising.j3]
          rw [hL, hrd.out, hw1.out, hq1.out]
          rw [if_pos trivial, if_pos (by omega), if_pos (by omega), if_pos (by omega), if_pos (by omega), if_pos (by omega), if_neg (by omega), if_pos (by omega)]
          simp only [Option.bind_some]
          rw [if_neg (by omega)]
      · by_cases h1 : (i : Int) < (x0.length : Int) - 1
        · have hw3 := Lib.hid (hw2.out.resolve_right (fun h => h h1))
          refine hgo _ _ ha (by omega) (hB h1) (by simp; omega) (fun k => ?_)
          simp only [belfrylaw13_OrderRising.j3]
          rw [hL, hrd.out, hw1.out, hw3.out, hi1.out, hq1.out]
          rw [if_pos trivial, if_neg (by omega), if_pos (by omega), if_pos (by omega), if_pos (by omega), if_pos (by omega), if_pos (by omega), if_neg (by omega), if_pos (by omega)]
        · refine hgo _ _ ha (by omega) hb (by omega) (fun k => ?_)
          simp only [belfrylaw13_OrderRising.j3]
          rw [hL, hrd.out, hw1.out, hq1.out]
          rw [if_pos trivial, if_neg (by omega), if_neg (by omega)]
    · refine Ev.step (fun k => ?_) (hend q a b ha (by omega) hb (by omega))
      simp only [belfrylaw13_OrderRising.l1]
      rw [if_pos (by omega), if_pos (by omega), hL, if_neg (by omega)]
omit hn hwf hlen in
theorem rising_l2 {x4 : List (List Int)} {y : List Int} {n k0 : Nat} (hk0 : k0 < n) (hl : x4.length = n) (hnn : n ≤ 100) (hy : rd y 0 = k0) (hyl : y.length = n) (he : at_ x4 k0 = []) (hne : ∀ j, j < k0 → at_ x4 j ≠ []) :
    ∀ d i, i + d = k0 → Ev (fun k => belfrylaw13_OrderRising.l2 k x4 n y (i : Nat)) true
  | 0, i, hi => by
    obtain rfl : i = k0 := by omega
    refine Ev.step (fun k => ?_) (Ev.now _)
    simp only [belfrylaw13_OrderRising.l2]
    rw [if_pos (by omega), if_pos (by omega), if_pos (by omega), rdL_nat, he, if_neg (by simp), if_neg (by omega), if_pos (by omega), hy]
    simp
  | d + 1, i, hi => by
    refine Ev.step (fun k => ?_) (rising_l2 hk0 hl hnn hy hyl he hne d (i + 1) (by omega))
    have h1 : 0 < (at_ x4 i).length := List.length_pos_iff.2 (hne i (by omega))
    simp only [belfrylaw13_OrderRising.l2]
    rw [if_pos (by omega), if_pos (by omega), if_pos (by omega), rdL_nat, if_pos (by omega), w64 (by omega) (by omega)]
    rfl

theorem rising_l0 : ∀ d i (x3 x4 : List (List Int)), i + d = x0.length → x3.length = i → x4.length = i → (∀ j, j < i → (∀ y ∈ at_ x3 j, 0 ≤ y ∧ y < (j : Int)) ∧ (at_ x3 j).length ≤ 10) → (∀ j, j < i → (∀ y ∈ at_ x4 j, (j : Int) < y ∧ y < x0.length) ∧ (at_ x4 j).length ≤ 10) →
    Ev (fun k => belfrylaw13_OrderRising.l0 k x0 x3 x4 (rg i) x0.length (i : Nat)) true
  | 0, i, x3, x4, hi, h3, h4, ha, hb => by
    obtain rfl : i = x0.length := by omega
    have f3 := of_f (l := x3) (by omega) (fun k => by
      by_cases hk : k < x0.length
      · have := (ha k hk).2; omega
      · rw [at_beyond (by omega)]; simp)
    have f4 := of_f (l := x4) (by omega) (fun k => by
      by_cases hk : k < x0.length
      · have := (hb k hk).2; omega
      · rw [at_beyond (by omega)]; simp)
    have g3 := rising_of (l := x3) (fun k hk => (ha k (by omega)).1)
    have g4 := falling_ok (l := x4) (fun k hk y hy => by have := (hb k (by omega)).1 y hy; omega)
    obtain ⟨_, s1, s2, s3⟩ : (of x4).2 = 0 ∧ Ord.Steps x4 (of x4).1 ∧ (of x4).1.length = x4.length ∧ bad x4 = false := by
      rcases of_cases x4 with h | ⟨h, _⟩
      · exact h
      · omega
    have hs := same_ev (rg x0.length) (rg x0.length) (by rw [rg_length]; omega)
    rw [decide_eq_true rfl] at hs
    have hfin : Ev (fun k => belfrylaw13_OrderRising.l2 k x4 x0.length (of x4).1 0) true := by
      by_cases h0 : x0.length = 0
      · refine Ev.step (fun k => ?_) (Ev.now _)
        simp only [belfrylaw13_OrderRising.l2]
        rw [if_neg (by omega), if_pos (by omega)]
      · obtain ⟨k0, e1, e2⟩ := s1 0 (by omega)
        rw [List.take_zero] at e2
        obtain ⟨r1, r2, r3⟩ := next_iff.1 e2
        refine rising_l2 (k0 := k0) (by omega) (by omega) hn ?_ (by omega) ?_ ?_ k0 0 (by omega)
        · have := rd_nat (of x4).1 0
          rw [List.getD_eq_getElem?_getD, e1] at this
          exact this
        · have := ((rdy_iff _ _ _).1 r2).2
          cases hc : at_ x4 k0 with
          | nil => rfl
          | cons z zs => exact absurd (this z (by rw [hc]; simp)) (by simp)
        · intro j hj hc
          rcases rdy_false.1 (r3 j hj) with h | ⟨z, h, _⟩
          · simp at h
          · rw [hc] at h; simp at h
    refine Ev.step (f := fun k => (belfrylaw01_SameInts.f k (rg x0.length) (rg x0.length)).bind fun t185 => (belfrylaw13_OrderRising.j4 k x4 x0.length (of x4).1 (!t185))) (fun k => ?_) ?_
    · simp only [belfrylaw13_OrderRising.l0, f3, f4, g3, Option.bind_some]
      rw [if_neg (by omega), if_pos trivial, if_pos g4, if_pos (by omega), h3]
    · refine Ev.bind (f := fun k t185 => belfrylaw13_OrderRising.j4 k x4 x0.length (of x4).1 (!t185)) hs ?_
      refine Ev.step (fun k => ?_) hfin
      simp only [belfrylaw13_OrderRising.j4, Bool.not_true]
      rw [if_neg (by simp)]
  | d + 1, i, x3, x4, hi, h3, h4, ha, hb => by
    refine Ev.step (fun k => ?_) (rising_l1 hn hwf hlen x3 x4 (rg i) i (by omega) (by omega) (by omega) (by rw [rg_length]; omega) (fun a b q1 q2 q3 q4 => ?_) 10 0 [] [] rfl (by simp) (by simp) (by simp) (by simp))
    · simp only [belfrylaw13_OrderRising.l0]
      rw [if_pos (by omega)]
      rfl
    · have := rising_l0 d (i + 1) (x3 ++ [a]) (x4 ++ [b]) (by omega) (by simp [h3]) (by simp [h4]) (fun j hj => ?_) (fun j hj => ?_)
      · rw [rg_succ] at this; exact this
      · by_cases e : j = i
        · subst e
          have : at_ (x3 ++ [a]) j = a := by rw [← h3]; exact at_snoc_last
          rw [this]; exact ⟨q1, q2⟩
        · rw [at_snoc (by omega)]; exact ha j (by omega)
      · by_cases e : j = i
        · subst e
          have : at_ (x4 ++ [b]) j = b := by rw [← h4]; exact at_snoc_last
          rw [this]; exact ⟨q3, q4⟩
        · rw [at_snoc (by omega)]; exact hb j (by omega)
end

theorem rising_ev (x0 : List (List Int)) (hwf : ∀ k, ∀ y ∈ at_ x0 k, 0 ≤ y ∧ y ≤ 255) (hlen : ∀ k, (at_ x0 k).length ≤ 9223372036854775806) : Ev (fun k => belfrylaw13_OrderRising.f k x0) true := by
  by_cases hg : (x0.length : Int) > 100
  · refine Ev.congr (f := fun k => belfrylaw13_OrderRising.j0 k x0 true) (fun k => by simp only [belfrylaw13_OrderRising.f, belfrylaw13_alive.f, Option.bind_some]; rw [if_pos trivial, decide_eq_true hg]) ?_
    exact Ev.step (fun k => by simp only [belfrylaw13_OrderRising.j0, belfrylaw13_alive.f, Option.bind_some]; rw [if_pos trivial]) (Ev.now _)
  · refine Ev.congr (f := fun k => belfrylaw13_OrderRising.j0 k x0 false) (fun k => by simp only [belfrylaw13_OrderRising.f, belfrylaw13_alive.f, Option.bind_some]; rw [if_pos trivial, decide_eq_false hg]) ?_
    refine Ev.step (fun k => ?_) (rising_l0 (by omega) hwf hlen x0.length 0 [] [] (by omega) rfl rfl (fun j hj => absurd hj (by omega)) (fun j hj => absurd hj (by omega)))
    simp only [belfrylaw13_OrderRising.j0]
    rw [if_neg (by simp)]
    rfl
end Go.Proofs.Ytodgeciggbeolaa.S
