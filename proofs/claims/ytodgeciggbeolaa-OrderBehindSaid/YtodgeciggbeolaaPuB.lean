/- OrderBehind, in plain Lean: what it computes is true. -/
import Derived.Test.YtodgeciggbeolaaPuA
import Derived.Test.YtodgeciggbeolaaSx2
namespace Go.Proofs.Ytodgeciggbeolaa.S
set_option linter.unusedVariables false
set_option linter.unusedSimpArgs false
set_option linter.unusedSectionVars false
open Go.RowKit Go.Proofs.YtodgeciggbeolaaW.PrintWords Go.Proofs.YtodgeciggbeolaaW.PrintLast Go.Proofs.YtodgeciggbeolaaW.PrintMore
open Go.Proofs.Ord
section
variable {x0 : List (List Int)} {X : List Int} (hS : Ord.Steps x0 X) (hX : X.length = x0.length) (hn : x0.length ≤ 300) (hlen : ∀ k, (at_ x0 k).length ≤ 20000)
include hS hX hn hlen

/-- where each number stands among the first i. -/
def Pos (x0 : List (List Int)) (X p : List Int) (i : Nat) : Prop := p.length = x0.length ∧ ∀ v : Nat, v < x0.length → (rd p v = -1 ∧ (v : Int) ∉ X.take i) ∨ ∃ j : Nat, j < i ∧ X[j]? = some (v : Int) ∧ rd p v = j

theorem behind_l3 {p : List Int} (hp : Pos x0 X p x0.length) {i : Nat} (hi : i < X.length) (b0 : Bool) (hb0 : b0 = true → ∃ h : 0 < i, X[i] < X[i - 1]) :
    ∀ d q (b : Bool), q + d = (at_ x0 X[i].toNat).length → (b = true → b0 = true ∧ ∀ t, t < q → (at_ x0 X[i].toNat)[t]? ≠ X[i - 1]?) → Ev (fun k => belfrylaw13_OrderBehind.l2 k x0 X p (i + 1 : Nat)) true → Ev (fun k => belfrylaw13_OrderBehind.l3 k x0 X p i X[i] b q) true := by
  obtain ⟨n, hn1, hn2⟩ := hS.mem (List.getElem_mem hi)
  have hbeh := hS.behind hi
  have hnn := hS.nodup
  have hll := hlen n
  rw [hn1] at hbeh ⊢
  simp only [Int.toNat_natCast] at hbeh ⊢
  intro d
  induction d with
  | zero =>
    intro q b hq hb hk
    refine Ev.step (fun k => ?_) hk
    simp only [belfrylaw13_OrderBehind.l3]
    rw [if_pos (by omega), if_pos (by omega), rdL_nat, if_neg (by omega), w64 (by omega) (by omega), if_neg]
    · rfl
    · intro e
      obtain ⟨h1, h2⟩ := hb e
      obtain ⟨h3, h4⟩ := hb0 h1
      have h5 : X[i - 1] ∈ at_ x0 (X[i - 1 + 1]'(by omega)).toNat := hS.lesser (i := i - 1) (by omega) (by simpa [show i - 1 + 1 = i by omega] using h4)
      have h6 : (X[i - 1 + 1]'(by omega)) = (n : Int) := by simp only [show i - 1 + 1 = i by omega]; exact hn1
      rw [h6, Int.toNat_natCast] at h5
      obtain ⟨t, ht, e2⟩ := List.getElem_of_mem h5
      refine h2 t (by omega) ?_
      rw [List.getElem?_eq_getElem ht, List.getElem?_eq_getElem (by omega), e2]
  | succ d ih =>
    intro q b hq hb hk
    have hql : q < (at_ x0 n).length := by omega
    have hmem := hbeh _ (List.getElem_mem hql)
    obtain ⟨m, hm1, hm2⟩ := hS.mem (List.mem_of_mem_take hmem)
    have hrd : rd (at_ x0 n) q = m := by rw [rd_lt hql, hm1]
    have hpm : rd p m < i := by
      rcases hp.2 m hm2 with ⟨h1, _⟩ | ⟨j, h1, h2, h3⟩
      · omega
      · rw [h3]
        rw [hm1] at hmem
        obtain ⟨j2, hj2, e2⟩ := List.getElem_of_mem hmem
        rw [List.length_take] at hj2
        rw [List.getElem_take] at e2
        have hjX : j < X.length := by omega
        rw [List.getElem?_eq_getElem hjX] at h2
        injection h2 with h2
        have := nodup_inj hnn hjX (by omega : j2 < X.length) (by rw [h2, e2])
        omega
    by_cases hbt : b = true
    · obtain ⟨h1, h2⟩ := hb hbt
      obtain ⟨h3, h4⟩ := hb0 h1
      refine Ev.step (fun k => ?_) (ih (q + 1) ((m : Int) != rd X ((i - 1 : Nat) : Int)) (by omega) ?_ hk)
      · simp only [belfrylaw13_OrderBehind.l3]
        have e1 : wrap64 ((i : Int) - 1) = ((i - 1 : Nat) : Int) := by rw [w64 (by omega) (by omega)]; omega
        rw [if_pos (by omega), if_pos (by omega), rdL_nat, if_pos (by omega), if_pos (by omega), hrd, if_neg (by omega), if_neg (by omega), if_pos (by omega), if_pos (by rw [hp.1]; omega), if_neg (by omega), if_pos hbt, e1, if_pos (by omega), if_pos (by omega), w64 (by omega) (by omega)]
        rfl
      · intro hne
        refine ⟨h1, fun t ht => ?_⟩
        by_cases e : t = q
        · subst e
          rw [List.getElem?_eq_getElem hql, hm1, List.getElem?_eq_getElem (by omega)]
          intro e3
          injection e3 with e3
          rw [rd_lt (by omega)] at hne
          simp [e3] at hne
        · exact h2 t (by omega)
    · refine Ev.step (fun k => ?_) (ih (q + 1) false (by omega) (by simp) hk)
      simp only [belfrylaw13_OrderBehind.l3]
      rw [if_pos (by omega), if_pos (by omega), rdL_nat, if_pos (by omega), if_pos (by omega), hrd, if_neg (by omega), if_neg (by omega), if_pos (by omega), if_pos (by rw [hp.1]; omega), if_neg (by omega), if_neg hbt, w64 (by omega) (by omega)]
      rfl

theorem behind_l2 {p : List Int} (hp : Pos x0 X p x0.length) : ∀ d i, i + d = X.length → Ev (fun k => belfrylaw13_OrderBehind.l2 k x0 X p (i : Nat)) true
  | 0, i, hi => Ev.step (fun k => by simp only [belfrylaw13_OrderBehind.l2]; rw [if_neg (by omega)]) (Ev.now _)
  | d + 1, i, hi => by
    have hk := behind_l2 hp d (i + 1) (by omega)
    have hiX : i < X.length := by omega
    by_cases h0 : 0 < i
    · have h3 := behind_l3 hS hX hn hlen hp hiX (decide (X[i] < X[i - 1])) (fun e => ⟨h0, by simpa using e⟩) _ 0 (decide (X[i] < X[i - 1])) (Nat.zero_add _) (fun e => ⟨e, fun t ht => by omega⟩) hk
      refine Ev.step (fun k => ?_) (Ev.step (g := fun k => belfrylaw13_OrderBehind.j4 k x0 X p i X[i] (decide (X[i] < X[i - 1]))) (fun k => by simp only [belfrylaw13_OrderBehind.j4]; rfl) h3)
      have e1 : wrap64 ((i : Int) - 1) = ((i - 1 : Nat) : Int) := by rw [w64 (by omega) (by omega)]; omega
      simp only [belfrylaw13_OrderBehind.l2]
      rw [if_pos (by omega), if_pos (by omega), if_pos (by omega), e1, if_pos (by omega), if_pos (by omega), rd_lt hiX, rd_lt (by omega)]
    · have h3 := behind_l3 hS hX hn hlen hp hiX false (by simp) _ 0 false (Nat.zero_add _) (by simp) hk
      refine Ev.step (fun k => ?_) (Ev.step (g := fun k => belfrylaw13_OrderBehind.j4 k x0 X p i X[i] false) (fun k => by simp only [belfrylaw13_OrderBehind.j4]; rfl) h3)
      simp only [belfrylaw13_OrderBehind.l2]
      rw [if_pos (by omega), if_pos (by omega), if_neg (by omega), rd_lt hiX]

theorem behind_l1 : ∀ d i p, i + d = X.length → Pos x0 X p i → Ev (fun k => belfrylaw13_OrderBehind.l1 k x0 X p (i : Nat)) true
  | 0, i, p, hi, hp => Ev.step (fun k => by simp only [belfrylaw13_OrderBehind.l1]; rw [if_neg (by omega)]; rfl) (behind_l2 hS hX hn hlen (by rw [← hX, ← hi]; exact hp) X.length 0 (by omega))
  | d + 1, i, p, hi, hp => by
    have hiX : i < X.length := by omega
    obtain ⟨n, hn1, hn2⟩ := hS.mem (List.getElem_mem hiX)
    have hnew : (n : Int) ∉ X.take i := by
      intro e
      obtain ⟨j2, hj2, e2⟩ := List.getElem_of_mem e
      rw [List.length_take] at hj2
      rw [List.getElem_take] at e2
      have := nodup_inj hS.nodup (by omega : j2 < X.length) hiX (by rw [e2, hn1])
      omega
    have hpn : rd p n = -1 := by
      rcases hp.2 n hn2 with ⟨h1, _⟩ | ⟨j, h1, h2, h3⟩
      · exact h1
      · exfalso
        apply hnew
        have hjX : j < X.length := by omega
        rw [List.getElem?_eq_getElem hjX] at h2
        injection h2 with h2
        exact List.mem_iff_getElem.2 ⟨j, by rw [List.length_take]; omega, by rw [List.getElem_take]; exact h2⟩
    refine Ev.step (fun k => ?_) (behind_l1 d (i + 1) (p.set n (i : Int)) (by omega) ⟨by rw [List.length_set]; exact hp.1, fun v hv => ?_⟩)
    · simp only [belfrylaw13_OrderBehind.l1]
      rw [if_pos (by omega), if_pos (by omega), rd_lt hiX, hn1, if_neg (by omega), if_neg (by omega), if_pos (by omega), if_pos (by rw [hp.1]; omega), if_neg (by omega), w64 (by omega) (by omega)]
      rfl
    · have hrd : rd (p.set n (i : Int)) v = if v = n then (i : Int) else rd p v := by
        rw [rd_nat, rd_nat, List.getD_eq_getElem?_getD, List.getD_eq_getElem?_getD, List.getElem?_set]
        by_cases e : v = n
        · subst e
          rw [if_pos rfl, if_pos (by rw [hp.1]; exact hv), if_pos rfl]; rfl
        · rw [if_neg (fun h => e h.symm), if_neg e]
      rw [hrd]
      by_cases e : v = n
      · subst e
        right
        exact ⟨i, by omega, by rw [List.getElem?_eq_getElem hiX, hn1], by rw [if_pos rfl]⟩
      · rw [if_neg e]
        rcases hp.2 v hv with ⟨h1, h2⟩ | ⟨j, h1, h2, h3⟩
        · left
          refine ⟨h1, ?_⟩
          rw [List.take_succ_eq_append_getElem hiX, hn1]
          simp only [List.mem_append, List.mem_singleton, not_or]
          exact ⟨h2, by omega⟩
        · right
          exact ⟨j, by omega, h2, h3⟩

theorem behind_l0 : ∀ d i p, i + d = x0.length → p.length = x0.length → (∀ v : Nat, v < i → rd p v = -1) → Ev (fun k => belfrylaw13_OrderBehind.l0 k x0 X p (i : Nat)) true
  | 0, i, p, hi, hp, hv => Ev.step (fun k => by simp only [belfrylaw13_OrderBehind.l0]; rw [if_neg (by omega)]; rfl) (behind_l1 hS hX hn hlen X.length 0 p (by omega) ⟨hp, fun v hvl => .inl ⟨hv v (by omega), by simp⟩⟩)
  | d + 1, i, p, hi, hp, hv => by
    refine Ev.step (fun k => ?_) (behind_l0 d (i + 1) (p.set i (-1)) (by omega) (by rw [List.length_set]; exact hp) (fun v hvi => ?_))
    · simp only [belfrylaw13_OrderBehind.l0]
      rw [if_pos (by omega), if_pos (by omega), w64 (by omega) (by omega)]
      rfl
    · rw [rd_nat, List.getD_eq_getElem?_getD, List.getElem?_set]
      by_cases e : i = v
      · rw [if_pos e, if_pos (by omega)]; rfl
      · rw [if_neg e, ← List.getD_eq_getElem?_getD, ← rd_nat]; exact hv v (by omega)
end

theorem behind_ev (x0 : List (List Int)) (hx : WfL x0) : Ev (fun k => belfrylaw13_OrderBehind.f k x0) true := by
  obtain ⟨b, hb, hs⟩ := great_ev x0 hx
  refine Ev.congr (f := fun k => (belfrylaw13_great.f k x0).bind fun t104 => (belfrylaw13_OrderBehind.j0 k x0 t104)) (fun k => by simp only [belfrylaw13_OrderBehind.f, belfrylaw13_alive.f, Option.bind_some]; rw [if_pos trivial]) ?_
  refine Ev.bind (f := fun k t104 => belfrylaw13_OrderBehind.j0 k x0 t104) hb ?_
  cases b with
  | true => exact Ev.step (fun k => by simp only [belfrylaw13_OrderBehind.j0, belfrylaw13_alive.f, Option.bind_some]; rw [if_pos trivial]) (Ev.now _)
  | false =>
    obtain ⟨h1, h2⟩ := hs rfl
    have hof := of_f (l := x0) (by omega) (fun k => by have := h2 k; omega)
    rcases of_cases x0 with ⟨q1, q2, q3, _⟩ | ⟨q1, q2⟩
    · refine Ev.step (fun k => ?_) (behind_l0 q2 q3 (by omega) (fun k => by have := h2 k; omega) x0.length 0 (List.replicate x0.length 0) (by omega) (by simp) (fun v hv => by omega))
      simp only [belfrylaw13_OrderBehind.j0, hof, Option.bind_some]
      rw [if_neg (by simp), if_pos q1, if_pos (by omega), if_pos (by omega), if_pos (by omega)]
      rfl
    · refine Ev.step (fun k => ?_) (Ev.now _)
      simp only [belfrylaw13_OrderBehind.j0, hof, Option.bind_some]
      rw [if_neg (by simp), if_neg (by omega), q2]
      rfl

end Go.Proofs.Ytodgeciggbeolaa.S
