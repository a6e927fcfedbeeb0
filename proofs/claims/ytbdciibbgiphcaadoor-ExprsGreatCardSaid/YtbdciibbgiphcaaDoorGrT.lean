/- ExprsGreat: the plain law of the row: pairs of pairs. -/
import Derived.Test.YtbdciibbgiphcaaDoorGrP
namespace Go.Proofs.YtbdciibbgiphcaaDoor.V
set_option linter.unusedVariables false
set_option linter.unusedSimpArgs false
set_option linter.unusedSectionVars false
open Go.RowKit Go.Proofs.YtbdciibbgiphcaaDoorW.PrintWords Go.Proofs.YtbdciibbgiphcaaDoorW.PrintLast Go.Proofs.YtbdciibbgiphcaaDoorW.PrintMore
def andE (x y : S25) : S25 := ⟨15, 0, ⟨#[]⟩, [x, y]⟩
/-- ands over names: at most so deep, so many parts. -/
inductive AndT : Nat → Nat → S25 → Prop
  | leaf (d : Nat) : 1 ≤ d → AndT d 1 lfA
  | node (d m n : Nat) (x y : S25) : AndT d m x → AndT d n y → AndT (d + 1) (m + n + 1) (andE x y)
theorem AndT.up {d n : Nat} {x : S25} (h : AndT d n x) : AndT (d + 1) n x := by
  induction h with
  | leaf d h => exact .leaf _ (by omega)
  | node d m n x y hx hy ihx ihy => exact .node _ _ _ _ _ ihx ihy
theorem AndT.pos {d n : Nat} {x : S25} (h : AndT d n x) : 1 ≤ n ∧ 1 ≤ d := by
  induction h with
  | leaf d h => exact ⟨by omega, h⟩
  | node d m n x y hx hy ihx ihy => omega
theorem AndT.wf {d n : Nat} {x : S25} (h : AndT d n x) : WfE x := by
  induction h with
  | leaf d h => exact .mk 3 0 _ [] (by omega) (by omega) (by omega) (by omega) (by decide) (by simp) (fun y hy => by simp at hy)
  | node d m n x y hx hy ihx ihy =>
    refine .mk 15 0 _ [x, y] (by omega) (by omega) (by omega) (by omega) (by decide) (by simp) (fun z hz => ?_)
    simp only [List.mem_cons, List.not_mem_nil, or_false] at hz
    rcases hz with rfl | rfl <;> assumption
theorem parts15 : parts 15 = 2 := by decide
theorem emp_nil : emp ⟨#[]⟩ = true := by unfold emp; rw [ByteArray.toList_eq]; rfl
theorem chk_and (nm : ByteArray → Bool) (hn : nm ⟨#[97]⟩ = true) {d n : Nat} {x : S25} (h : AndT d n x) : ∀ (D : Nat) (l : Int), d ≤ D → 0 ≤ l → ((n : Int) ≤ l → chk nm D x l = (true, l - n)) ∧ (l < (n : Int) → (chk nm D x l).1 = false) := by
  induction h with
  | leaf d h =>
    intro D l hd h0
    obtain ⟨D, rfl⟩ : ∃ e, D = e + 1 := ⟨D - 1, by omega⟩
    refine ⟨fun h1 => ?_, fun h1 => ?_⟩
    · simp only [lfA, chk]
      rw [if_neg (by omega), if_neg (by decide), if_neg (by decide), if_neg (by decide), if_pos trivial, hn]
      simp
    · simp only [lfA, chk]
      rw [if_pos (by omega)]
  | node d m n x y hx hy ihx ihy =>
    intro D l hd h0
    obtain ⟨D, rfl⟩ : ∃ e, D = e + 1 := ⟨D - 1, by omega⟩
    have px := hx.pos
    have py := hy.pos
    by_cases hl : l - 1 < 0
    · refine ⟨fun h1 => by omega, fun h1 => ?_⟩
      simp only [andE, chk]
      rw [if_pos hl]
    · have hX := ihx D (l - 1) (by omega) (by omega)
      by_cases hm : (m : Int) ≤ l - 1
      · have hY := ihy D (l - 1 - m) (by omega) (by omega)
        refine ⟨fun h1 => ?_, fun h1 => ?_⟩
        · simp only [andE, chk]
          rw [if_neg hl, if_neg (by rw [parts15]; simp), if_neg (by decide), if_neg (by decide), if_neg (by decide)]
          simp only [chks]
          rw [hX.1 hm]
          simp only [if_pos]
          rw [hY.1 (by omega)]
          simp only [if_pos, emp_nil]
          refine Prod.ext (by simp) ?_
          show l - 1 - (m : Int) - (n : Int) = l - ((m + n + 1 : Nat) : Int)
          omega
        · simp only [andE, chk]
          rw [if_neg hl, if_neg (by rw [parts15]; simp), if_neg (by decide), if_neg (by decide), if_neg (by decide)]
          simp only [chks]
          rw [hX.1 hm]
          simp only [if_pos]
          rw [if_neg (by rw [hY.2 (by omega)]; simp)]
          rfl
      · refine ⟨fun h1 => by omega, fun h1 => ?_⟩
        simp only [andE, chk]
        rw [if_neg hl, if_neg (by rw [parts15]; simp), if_neg (by decide), if_neg (by decide), if_neg (by decide)]
        simp only [chks]
        rw [if_neg (by rw [hX.2 (by omega)]; simp)]
        rfl
theorem ok_and {d n : Nat} {x : S25} (h : AndT d n x) (hd : d ≤ 32) : okE nameOk x = decide (n ≤ 200) := by
  have := chk_and nameOk nm_a h 32 200 hd (by omega)
  unfold okE
  by_cases hn : n ≤ 200
  · rw [this.1 (by omega), decide_eq_true hn]
  · rw [this.2 (by omega), decide_eq_false hn]
/-- a row of them, so many parts in all. -/
inductive AndL (d : Nat) : List S25 → Nat → Prop
  | nil : AndL d [] 0
  | cons (x : S25) (l : List S25) (n N : Nat) : AndT d n x → AndL d l N → AndL d (x :: l) (n + N)
def prs : List S25 → List S25
  | x :: y :: r => andE x y :: prs r
  | [x] => [x]
  | [] => []
theorem AndL.each {d : Nat} {l : List S25} {N : Nat} (h : AndL d l N) : ∀ x ∈ l, ∃ n, AndT d n x := by
  induction h with
  | nil => intro x hx; simp at hx
  | cons x l n N hx hl ih =>
    intro y hy
    rcases List.mem_cons.1 hy with rfl | hy
    · exact ⟨n, hx⟩
    · exact ih y hy
theorem prs_and (d : Nat) : ∀ (l : List S25) (N : Nat), AndL d l N → ∃ N', AndL (d + 1) (prs l) N' ∧ N' + (prs l).length = N + l.length ∧ (prs l).length = (l.length + 1) / 2
  | [], N, h => by cases h; exact ⟨0, .nil, rfl, rfl⟩
  | [x], N, h => by
    cases h with
    | cons _ _ n N hx hl =>
      cases hl
      exact ⟨n + 0, .cons _ _ _ _ hx.up .nil, rfl, by simp [prs]⟩
  | x :: y :: r, N, h => by
    cases h with
    | cons _ _ n N hx hl =>
      cases hl with
      | cons _ _ m M hy hr =>
        obtain ⟨N', h1, h2, h3⟩ := prs_and d r M hr
        refine ⟨(n + m + 1) + N', .cons _ _ _ _ (.node _ _ _ _ _ hx hy) h1, ?_, ?_⟩
        · simp only [prs, List.length_cons]; omega
        · simp only [prs, List.length_cons]; omega
theorem prs_two : ∀ (j : Nat) (l : List S25) (x y : S25), l[2 * j]? = some x → l[2 * j + 1]? = some y → prs (l.take (2 * (j + 1))) = prs (l.take (2 * j)) ++ [andE x y]
  | 0, l, x, y, hx, hy => by
    match l, hx, hy with
    | a :: b :: r, hx, hy =>
      simp at hx hy
      subst hx; subst hy
      simp [prs]
    | [a], hx, hy => simp at hy
    | [], hx, hy => simp at hx
  | j + 1, l, x, y, hx, hy => by
    match l, hx, hy with
    | a :: b :: r, hx, hy =>
      have e1 : 2 * (j + 1) = 2 * j + 1 + 1 := by omega
      have hx' : r[2 * j]? = some x := by rw [e1] at hx; simpa using hx
      have hy' : r[2 * j + 1]? = some y := by rw [show 2 * (j + 1) + 1 = (2 * j + 1) + 1 + 1 by omega] at hy; simpa using hy
      have ih := prs_two j r x y hx' hy'
      rw [show 2 * (j + 1 + 1) = (2 * (j + 1)) + 1 + 1 by omega, e1]
      simp only [List.take_succ_cons, prs]
      rw [← e1, ih]
      rfl
    | [a], hx, hy =>
      rw [show 2 * (j + 1) = 2 * j + 1 + 1 by omega] at hx
      simp at hx
    | [], hx, hy => simp at hx
theorem prs_odd : ∀ (j : Nat) (l : List S25) (x : S25), l.length = 2 * j + 1 → l[2 * j]? = some x → prs l = prs (l.take (2 * j)) ++ [x]
  | 0, l, x, hl, hx => by
    match l, hl, hx with
    | [a], hl, hx => simp at hx; subst hx; rfl
  | j + 1, l, x, hl, hx => by
    match l, hl, hx with
    | a :: b :: r, hl, hx =>
      have e1 : 2 * (j + 1) = 2 * j + 1 + 1 := by omega
      have hx' : r[2 * j]? = some x := by rw [e1] at hx; simpa using hx
      have ih := prs_odd j r x (by simp only [List.length_cons] at hl; omega) hx'
      rw [e1]
      simp only [List.take_succ_cons, prs]
      rw [ih]
      rfl
theorem prs_len : ∀ l : List S25, (prs l).length = (l.length + 1) / 2
  | [] => rfl
  | [x] => by simp [prs]
  | x :: y :: r => by
    simp only [prs, List.length_cons]
    rw [prs_len r]
    omega
theorem and_rep : ∀ k : Nat, AndL 1 (List.replicate k lfA) k
  | 0 => .nil
  | k + 1 => by
    have := AndL.cons lfA (List.replicate k lfA) 1 k (.leaf 1 (Nat.le_refl _)) (and_rep k)
    rw [Nat.add_comm] at this
    exact this
/-- what the row is, round by round: not too deep, so many parts in all. -/
def Bal (k : Nat) (l : List S25) : Prop := ∃ d e N, AndL d l N ∧ N + l.length = 2 * k ∧ l.length ≤ 2 ^ e ∧ d + e ≤ 11 ∧ (1 ≤ k → 1 ≤ l.length)
theorem bal_start (k : Nat) (h : k ≤ 512) : Bal k (List.replicate k lfA) := ⟨1, 9, k, and_rep k, by rw [List.length_replicate]; omega, by rw [List.length_replicate]; exact h, by omega, by rw [List.length_replicate]; exact id⟩
theorem bal_step {k : Nat} {l : List S25} (h : Bal k l) (h1 : 1 < l.length) : Bal k (prs l) ∧ (prs l).length < l.length := by
  obtain ⟨d, e, N, ha, hs, hl, hd, hk⟩ := h
  obtain ⟨N', p1, p2, p3⟩ := prs_and d l N ha
  cases e with
  | zero => simp at hl; omega
  | succ e =>
    rw [Nat.pow_succ] at hl
    exact ⟨⟨d + 1, e, N', p1, by omega, by omega, by omega, fun h => by omega⟩, by omega⟩
theorem bal_wf {k : Nat} {l : List S25} (h : Bal k l) : ∀ x ∈ l, WfE x := by
  obtain ⟨d, e, N, ha, _⟩ := h
  intro x hx
  obtain ⟨n, hn⟩ := ha.each x hx
  exact hn.wf
theorem bal_end {k : Nat} {x : S25} (h : Bal k [x]) : okE nameOk x = decide (2 * k - 1 ≤ 200) ∧ 1 ≤ k := by
  obtain ⟨d, e, N, ha, hs, hl, hd, hk⟩ := h
  cases ha with
  | cons _ _ n N hx hr =>
    cases hr
    simp only [List.length_singleton] at hs
    have := hx.pos
    rw [ok_and hx (by omega)]
    refine ⟨?_, by omega⟩
    rw [show 2 * k - 1 = n by omega]
theorem bal_ne {k : Nat} {l : List S25} (h : Bal k l) (h1 : ¬ 1 < l.length) (h0 : 1 ≤ k) : ∃ x, l = [x] := by
  obtain ⟨d, e, N, ha, hs, hl, hd, hk⟩ := h
  have := hk h0
  exact List.length_eq_one_iff.1 (by omega)
end Go.Proofs.YtbdciibbgiphcaaDoor.V
