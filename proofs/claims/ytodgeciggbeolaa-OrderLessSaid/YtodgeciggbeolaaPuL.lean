/- OrderLast, in plain Lean: what it computes is true. -/
import Derived.Test.YtodgeciggbeolaaPuA
import Derived.Test.YtodgeciggbeolaaUx1
namespace Go.Proofs.Ytodgeciggbeolaa.U
set_option linter.unusedVariables false
set_option linter.unusedSimpArgs false
set_option linter.unusedSectionVars false
open Go.Proofs.Ytodgeciggbeolaa.S Go.RowKit Go.Proofs.YtodgeciggbeolaaW.PrintWords Go.Proofs.YtodgeciggbeolaaW.PrintLast Go.Proofs.YtodgeciggbeolaaW.PrintMore
open Go.Proofs.Ord

theorem rdU_nat (xs : List (List Int)) (i : Nat) : rd_L1 xs (i : Int) = at_ xs i := rfl

theorem twin_loop (x : List (List Int)) (hl : x.length ≤ 5864062014805) (hs : ∀ k, (at_ x k).length ≤ 17592186044000) : ∀ d i, i + d = x.length → Ev (fun k => belfrylaw01_TwinLists.l0 k x (x.take i) (i : Nat)) x
  | 0, i, hi => by
    refine Ev.step (fun k => ?_) (Ev.now _)
    simp only [belfrylaw01_TwinLists.l0]
    rw [if_neg (by omega), List.take_of_length_le (by omega)]
  | d + 1, i, hi => by
    refine Ev.step (fun k => ?_) (twin_loop x hl hs d (i + 1) (by omega))
    have hf : belfrylaw01_TwinInts.f (at_ x i) = some (at_ x i) := by unfold belfrylaw01_TwinInts.f; rw [if_pos (hs i)]
    have ht : x.take i ++ [at_ x i] = x.take (i + 1) := by
      rw [List.take_succ_eq_append_getElem (by omega)]
      unfold at_
      rw [List.getD_eq_getElem?_getD, List.getElem?_eq_getElem (by omega)]; rfl
    simp only [belfrylaw01_TwinLists.l0]
    rw [if_pos (by omega), if_pos (by omega), rdU_nat, hf]
    simp only [Option.bind_some]
    rw [if_pos (by rw [List.length_take]; omega), ht, w64 (by omega) (by omega)]
    rfl
theorem twin_ev (x : List (List Int)) (hl : x.length ≤ 5864062014805) (hs : ∀ k, (at_ x k).length ≤ 17592186044000) : Ev (fun k => belfrylaw01_TwinLists.f k x) x :=
  Ev.congr (fun k => by simp only [belfrylaw01_TwinLists.f]; rfl) (twin_loop x hl hs x.length 0 (by omega))

theorem at_set {l : List (List Int)} {i j : Nat} {x : List Int} (hi : i < l.length) : at_ (l.set i x) j = if j = i then x else at_ l j := by
  unfold at_
  rw [List.getD_eq_getElem?_getD, List.getD_eq_getElem?_getD, List.getElem?_set]
  by_cases e : j = i
  · subst e; rw [if_pos rfl, if_pos hi, if_pos rfl]; rfl
  · rw [if_neg (fun h => e h.symm), if_neg e]

/-- what comes behind the last copy. -/
def LastF (k : Nat) (x0 : List (List Int)) (x3 : List Int) (x5 : Int) (x6 : List Int) (x7 : List (List Int)) : List (List Int) → Option Bool := fun t126 => (if t126.length < 5864062014805 then (if x7.length < 5864062014805 then ((order_Of.f (t126 ++ [x6])).bind fun bt135 => ((order_Of.f (x7 ++ [[]])).bind fun bt139 => (if bt135.2 = 0 then (if bt139.2 = 0 then (if (bt135.1.length : Int) = (wrap64 (x5 + 1)) then (if (bt139.1.length : Int) = (wrap64 (x5 + 1)) then (if 0 ≤ x5 then (if x5 ≤ (bt135.1.length : Int) then ((belfrylaw01_SameInts.f k (bt135.1.take (x5 : Int).toNat) x3).bind fun t147 => (if t147 = true then (if x5 < (bt135.1.length : Int) then (if (rd bt135.1 x5) = x5 then (if 0 < (bt139.1.length : Int) then (if (rd bt139.1 0) = x5 then (if 1 ≤ (bt139.1.length : Int) then ((belfrylaw01_SameInts.f k (bt139.1.drop 1) x3).bind fun t154 => (some t154)) else (none)) else (some false)) else (none)) else (some false)) else (none)) else (some false))) else (none)) else (none)) else (some false)) else (some false)) else (some false)) else (some false)))) else (none)) else (none))

section
variable {x0 : List (List Int)} (hn : x0.length ≤ 150) (hs : ∀ k, (at_ x0 k).length ≤ 3000) (hok : (of x0).2 = 0)
include hn hs hok

theorem last_end (x7 : List (List Int)) (h7 : x7.length = x0.length) (ha : ∀ j, j < x0.length → at_ x7 j = at_ x0 j ++ [(x0.length : Int)]) :
    Ev (fun k => belfrylaw13_OrderLast.l0 k x0 (of x0).1 x0.length (rg x0.length) x7 x0.length) true := by
  have hlen : (of x0).1.length = x0.length := by
    rcases of_cases x0 with ⟨_, _, h, _⟩ | ⟨h, _⟩
    · exact h
    · omega
  have e1 := of_last hok
  have e2 := of_first h7 ha hok
  have f1 := of_f (l := x0 ++ [rg x0.length]) (by simp; omega) (fun k => by
    by_cases hk : k < x0.length
    · rw [at_snoc hk]; have := hs k; omega
    · by_cases hk2 : k = x0.length
      · subst hk2; rw [at_snoc_last, rg_length]; omega
      · rw [at_beyond (by simp; omega)]; simp)
  have f2 := of_f (l := x7 ++ [[]]) (by simp; omega) (fun k => by
    by_cases hk : k < x7.length
    · rw [at_snoc hk, ha k (by omega)]; have := hs k; simp; omega
    · by_cases hk2 : k = x7.length
      · subst hk2; rw [at_snoc_last]; simp
      · rw [at_beyond (by simp; omega)]; simp)
  rw [e1] at f1
  rw [e2] at f2
  have hw : wrap64 ((x0.length : Int) + 1) = ((x0.length + 1 : Nat) : Int) := by rw [w64 (by omega) (by omega)]; rfl
  have htk : ((of x0).1 ++ [(x0.length : Int)]).take x0.length = (of x0).1 := by rw [List.take_append_of_le_length (by omega), List.take_of_length_le (by omega)]
  have hrd1 : rd ((of x0).1 ++ [(x0.length : Int)]) x0.length = x0.length := by
    rw [rd_nat, List.getD_eq_getElem?_getD, List.getElem?_append_right (by omega), hlen]; simp
  have hss := same_ev (of x0).1 (of x0).1 (by omega)
  rw [decide_eq_true rfl] at hss
  have W1 := Lib.hid hw
  clear hw
  refine Ev.step (f := fun k => (belfrylaw01_TwinLists.f k x0).bind (LastF k x0 (of x0).1 x0.length (rg x0.length) x7)) (fun k => ?_) ?_
  · simp only [belfrylaw13_OrderLast.l0]
    rw [if_neg (by omega)]
    unfold LastF
    with_reducible rfl
  · refine Ev.bind (f := fun k => LastF k x0 (of x0).1 x0.length (rg x0.length) x7) (twin_ev x0 (by omega) (fun k => by have := hs k; omega)) ?_
    refine Ev.congr (f := fun k => (belfrylaw01_SameInts.f k (of x0).1 (of x0).1).bind fun t => if t = true then (belfrylaw01_SameInts.f k (of x0).1 (of x0).1).bind fun t263 => (some t263) else some false) (fun k => ?_) ?_
    · unfold LastF
      rw [if_pos (by omega), if_pos (by omega), f1]
      rw [Option.bind_some, f2, Option.bind_some]
      dsimp only
      rw [if_pos rfl, if_pos rfl, W1.out, if_pos (by simp [hlen]), if_pos (by simp [hlen]), if_pos (by omega), if_pos (by simp [hlen]; omega), Int.toNat_natCast, htk]
      congr 1
      funext t
      cases t with
      | false => rfl
      | true =>
        rw [if_pos rfl, if_pos rfl, if_pos (by rw [List.length_append, hlen]; simp; omega), if_pos hrd1, if_pos (by rw [List.length_cons]; omega), if_pos (by simp [rd]), if_pos (by rw [List.length_cons]; omega), List.drop_one, List.tail_cons]
    · refine Ev.bind (f := fun k t => if t = true then (belfrylaw01_SameInts.f k (of x0).1 (of x0).1).bind fun t263 => (some t263) else some false) hss ?_
      refine Ev.congr (f := fun k => (belfrylaw01_SameInts.f k (of x0).1 (of x0).1).bind fun t263 => some t263) (fun k => by rw [if_pos rfl]) ?_
      exact Ev.bind (f := fun _ t263 => some t263) hss (Ev.now _)

theorem last_loop : ∀ d i (x7 : List (List Int)), i + d = x0.length → x7.length = x0.length → (∀ j, j < x0.length → at_ x7 j = if j < i then at_ x0 j ++ [(x0.length : Int)] else at_ x0 j) →
    Ev (fun k => belfrylaw13_OrderLast.l0 k x0 (of x0).1 x0.length (rg i) x7 (i : Nat)) true
  | 0, i, x7, hi, h7, ha => by
    obtain rfl : i = x0.length := by omega
    exact last_end hn hs hok x7 h7 (fun j hj => by rw [ha j hj, if_pos hj])
  | d + 1, i, x7, hi, h7, ha => by
    have hai : at_ x7 i = at_ x0 i := by rw [ha i (by omega), if_neg (by omega)]
    have hsi := hs i
    refine Ev.step (fun k => ?_) (last_loop d (i + 1) (x7.set i (at_ x7 i ++ [(x0.length : Int)])) (by omega) (by simp [h7]) (fun j hj => ?_))
    · simp only [belfrylaw13_OrderLast.l0]
      rw [if_pos (by omega), if_pos (by rw [rg_length]; omega), if_pos (by omega), if_pos (by omega), rdU_nat, if_pos (by rw [hai]; omega), w64 (by omega) (by omega), Int.toNat_natCast, rg_succ]
      rfl
    · rw [at_set (by omega)]
      by_cases e : j = i
      · subst e; rw [if_pos rfl, if_pos (by omega), hai]
      · rw [if_neg e, ha j hj]
        by_cases h : j < i
        · rw [if_pos h, if_pos (by omega)]
        · rw [if_neg h, if_neg (by omega)]
end

theorem last_ev (x0 : List (List Int)) (hx : WfL x0) : Ev (fun k => belfrylaw13_OrderLast.f k x0) true := by
  obtain ⟨b, hb, hs⟩ := great_ev x0 hx
  have hdone : Ev (fun k => belfrylaw13_OrderLast.j0 k x0 true) true := Ev.step (fun k => by simp only [belfrylaw13_OrderLast.j0, belfrylaw13_alive.f, Option.bind_some]; rw [if_pos trivial]) (Ev.now _)
  refine Ev.congr (f := fun k => (belfrylaw13_great.f k x0).bind fun t => if t = true then belfrylaw13_OrderLast.j0 k x0 true else belfrylaw13_OrderLast.j0 k x0 (decide ((x0.length : Int) > 150))) (fun k => by simp only [belfrylaw13_OrderLast.f, belfrylaw13_alive.f, Option.bind_some]; rw [if_pos trivial]) ?_
  refine Ev.bind (f := fun k t => if t = true then belfrylaw13_OrderLast.j0 k x0 true else belfrylaw13_OrderLast.j0 k x0 (decide ((x0.length : Int) > 150))) hb ?_
  cases b with
  | true => exact Ev.congr (fun k => by rw [if_pos rfl]) hdone
  | false =>
    obtain ⟨h1, h2⟩ := hs rfl
    refine Ev.congr (f := fun k => belfrylaw13_OrderLast.j0 k x0 (decide ((x0.length : Int) > 150))) (fun k => by rw [if_neg (by simp)]) ?_
    by_cases h150 : (x0.length : Int) > 150
    · rw [decide_eq_true h150]; exact hdone
    · rw [decide_eq_false h150]
      have hof := of_f (l := x0) (by omega) (fun k => by have := h2 k; omega)
      by_cases hok : (of x0).2 = 0
      · refine Ev.step (f := fun k => (belfrylaw01_TwinLists.f k x0).bind fun t224 => (belfrylaw13_OrderLast.l0 k x0 (of x0).1 (x0.length : Int) ([] : List Int) t224 0)) (fun k => ?_) ?_
        · simp only [belfrylaw13_OrderLast.j0, hof, Option.bind_some]
          rw [if_neg (by simp), if_pos hok]
        · refine Ev.bind (f := fun k t224 => belfrylaw13_OrderLast.l0 k x0 (of x0).1 (x0.length : Int) ([] : List Int) t224 0) (twin_ev x0 (by omega) (fun k => by have := h2 k; omega)) ?_
          exact last_loop (by omega) h2 hok x0.length 0 x0 (by omega) rfl (fun j hj => by rw [if_neg (by omega)])
      · refine Ev.step (fun k => ?_) (Ev.now _)
        simp only [belfrylaw13_OrderLast.j0, hof, Option.bind_some]
        rw [if_neg (by simp), if_neg hok]
end Go.Proofs.Ytodgeciggbeolaa.U
