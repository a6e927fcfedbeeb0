/- More of the order that the chapter tells: what order a set of lists has, of lists told otherwise. -/
import Derived.Test.YtodgeciggbeolaaGreatDoorOrdQ
namespace Go.Proofs.Ord
set_option linter.unusedVariables false
set_option linter.unusedSimpArgs false

theorem next_iff {l : List (List Int)} {out : List Int} {k : Nat} : next l out = some k ↔ k < l.length ∧ rdy l out k = true ∧ ∀ j, j < k → rdy l out j = false := by
  refine ⟨next_some, fun ⟨h1, h2, h3⟩ => ?_⟩
  unfold next
  rw [List.find?_eq_some_iff_getElem]
  refine ⟨h2, k, by simpa using h1, by simp, fun j hj => ?_⟩
  simp only [List.getElem_range]
  rw [h3 j hj]; rfl

theorem rdy_false {l : List (List Int)} {out : List Int} {k : Nat} : rdy l out k = false ↔ ((k : Int) ∈ out ∨ ∃ y ∈ at_ l k, y ∉ out) := by
  rw [← Bool.not_eq_true, rdy_iff]
  constructor
  · intro h
    by_cases hk : (k : Int) ∈ out
    · exact .inl hk
    · right
      apply Classical.byContradiction
      intro hn
      exact h ⟨hk, fun y hy => Classical.byContradiction fun hy2 => hn ⟨y, hy, hy2⟩⟩
  · rintro (h | ⟨y, h1, h2⟩) ⟨h3, h4⟩
    · exact h3 h
    · exact h2 (h4 y h1)

theorem run_of_steps {l : List (List Int)} {Y : List Int} (h : Steps l Y) : ∀ d i, i + d = Y.length → run l d (Y.take i) = Y
  | 0, i, hi => by rw [show i = Y.length by omega, List.take_length]; rfl
  | d + 1, i, hi => by
    obtain ⟨k, h1, h2⟩ := h i (by omega)
    unfold run
    rw [h2]
    have : Y.take i ++ [(k : Int)] = Y.take (i + 1) := by
      rw [List.getElem?_eq_getElem (by omega)] at h1
      injection h1 with h1
      rw [List.take_succ_eq_append_getElem (by omega), h1]
    show run l d (Y.take i ++ [(k : Int)]) = Y
    rw [this]
    exact run_of_steps h d (i + 1) (by omega)

theorem of_of_steps {l : List (List Int)} {Y : List Int} (hb : bad l = false) (h : Steps l Y) (hl : Y.length = l.length) : of l = (Y, 0) := by
  have hr := run_of_steps h Y.length 0 (by omega)
  simp only [List.take_zero, hl] at hr
  unfold of
  simp only [hb, Bool.false_eq_true, if_false, hr]
  rw [if_neg (by omega)]

theorem run_stuck (l : List (List Int)) : ∀ (f : Nat) (out : List Int), (run l f out).length < out.length + f → next l (run l f out) = none
  | 0, out, h => absurd h (by simp [run])
  | f + 1, out, h => by
    unfold run at h ⊢
    cases hn : next l out with
    | none => exact hn
    | some k =>
      rw [hn] at h
      exact run_stuck l f _ (by simpa [Nat.add_assoc, Nat.add_comm 1 f] using h)

/-- refused, where none is out of range: then there is a place where none may go next. -/
theorem of_stuck {l : List (List Int)} (hb : bad l = false) (h : (of l).2 ≠ 0) : ∃ out, Steps l out ∧ out.length < l.length ∧ next l out = none := by
  unfold of at h
  simp only [hb, Bool.false_eq_true, if_false] at h
  by_cases h1 : (run l l.length []).length < l.length
  · exact ⟨_, run_steps l _ _ (steps_nil l), h1, run_stuck l _ _ (by simpa using h1)⟩
  · rw [if_neg h1] at h; exact absurd rfl h

theorem bad_false {l : List (List Int)} : bad l = false ↔ ∀ k, k < l.length → ∀ y ∈ at_ l k, 0 ≤ y ∧ y < l.length := by
  rw [← Bool.not_eq_true, bad_iff]
  constructor
  · intro h k hk y hy
    apply Classical.byContradiction
    intro h2
    exact h ⟨k, hk, y, hy, by omega⟩
  · rintro h ⟨k, hk, y, hy, h2⟩
    have := h k hk y hy
    omega

/-- all told: then each number is. -/
theorem mem_full {n : Nat} {out : List Int} (hnd : out.Nodup) (hr : ∀ x ∈ out, 0 ≤ x ∧ x < (n : Int)) (hl : out.length = n) {v : Nat} (hv : v < n) : (v : Int) ∈ out := by
  apply Classical.byContradiction
  intro hc
  have := nodup_length_le n ((v : Int) :: out) (List.nodup_cons.2 ⟨hc, hnd⟩) (by
    intro x hx
    rcases List.mem_cons.1 hx with rfl | hx
    · omega
    · exact hr x hx)
  simp at this
  omega
theorem Steps.bound {l : List (List Int)} {out : List Int} (h : Steps l out) : ∀ x ∈ out, 0 ≤ x ∧ x < (l.length : Int) := by
  intro x hx
  obtain ⟨k, rfl, hk⟩ := h.mem hx
  omega
theorem exists_not_mem {n : Nat} {out : List Int} (h : out.length < n) : ∃ v : Nat, v < n ∧ (v : Int) ∉ out := by
  apply Classical.byContradiction
  intro hc
  have hall : ∀ v : Nat, v < n → (v : Int) ∈ out := fun v hv => Classical.byContradiction fun h2 => hc ⟨v, hv, h2⟩
  have hsub : ((List.range n).map fun (v : Nat) => (v : Int)) ⊆ out := by
    intro x hx
    obtain ⟨v, hv, rfl⟩ := List.mem_map.1 hx
    exact hall v (List.mem_range.1 hv)
  have hnd : ((List.range n).map fun (v : Nat) => (v : Int)).Nodup := by
    refine List.Pairwise.map _ (fun a b hab => ?_) List.nodup_range
    intro e; exact hab (by omega)
  have := hnd.length_le_of_subset hsub
  simp at this
  omega

/-- lists that tell less leave an order, where there was one. -/
theorem of_less {l l' : List (List Int)} (hlen : l'.length = l.length) (hs : ∀ k, ∀ y ∈ at_ l' k, y ∈ at_ l k) (h : (of l).2 = 0) : (of l').2 = 0 := by
  rcases of_cases l with ⟨_, h1, h2, h3⟩ | ⟨h1, _⟩
  · have hb' : bad l' = false := bad_false.2 fun k hk y hy => by
      rw [hlen]; exact bad_false.1 h3 k (by omega) y (hs k y hy)
    apply Classical.byContradiction
    intro hne
    obtain ⟨out, q1, q2, q3⟩ := of_stuck hb' hne
    obtain ⟨v, hv, hvo⟩ := exists_not_mem q2
    have hvX : (v : Int) ∈ (of l).1 := mem_full h1.nodup h1.bound h2 (by omega)
    obtain ⟨iv, hiv, ev⟩ := List.getElem_of_mem hvX
    -- the first one that is not told
    have hex : ∀ i (hi : i < (of l).1.length), (of l).1[i] ∈ out := by
      intro i
      induction i using Nat.strongRecOn with
      | _ i ih =>
        intro hi
        obtain ⟨k, e1, e2⟩ := h1 i hi
        rw [List.getElem?_eq_getElem hi] at e1
        injection e1 with e1
        have hkl := (next_some e2).1
        have hnr := next_eq_none q3 k (by omega)
        rcases rdy_false.1 hnr with h5 | ⟨y, h5, h6⟩
        · rw [e1]; exact h5
        · exfalso
          have h7 := h1.behind hi y (by rw [e1, Int.toNat_natCast]; exact hs k y h5)
          obtain ⟨j, hj, e3⟩ := List.getElem_of_mem h7
          rw [List.length_take] at hj
          rw [List.getElem_take] at e3
          exact h6 (e3 ▸ ih j (by omega) (by omega))
    exact hvo (ev ▸ hex iv hiv)
  · omega

/-- lists that tell the same numbers have the same order. -/
theorem rdy_same {l l' : List (List Int)} (hs : ∀ k y, y ∈ at_ l' k ↔ y ∈ at_ l k) (out : List Int) (k : Nat) : rdy l' out k = rdy l out k := by
  rw [Bool.eq_iff_iff, rdy_iff, rdy_iff]
  constructor
  · rintro ⟨h1, h2⟩; exact ⟨h1, fun y hy => h2 y ((hs k y).2 hy)⟩
  · rintro ⟨h1, h2⟩; exact ⟨h1, fun y hy => h2 y ((hs k y).1 hy)⟩
theorem next_same {l l' : List (List Int)} (hlen : l'.length = l.length) (hs : ∀ k y, y ∈ at_ l' k ↔ y ∈ at_ l k) (out : List Int) : next l' out = next l out := by
  unfold next
  rw [hlen, show rdy l' out = rdy l out from funext (rdy_same hs out)]
theorem run_same {l l' : List (List Int)} (hlen : l'.length = l.length) (hs : ∀ k y, y ∈ at_ l' k ↔ y ∈ at_ l k) : ∀ (f : Nat) (out : List Int), run l' f out = run l f out
  | 0, out => rfl
  | f + 1, out => by
    unfold run
    rw [next_same hlen hs]
    cases next l out with
    | none => rfl
    | some k => exact run_same hlen hs f _
theorem of_same {l l' : List (List Int)} (hlen : l'.length = l.length) (hs : ∀ k y, y ∈ at_ l' k ↔ y ∈ at_ l k) : of l' = of l := by
  have hb : bad l' = bad l := by
    rw [Bool.eq_iff_iff, bad_iff, bad_iff, hlen]
    constructor
    · rintro ⟨k, h1, y, h2, h3⟩; exact ⟨k, h1, y, (hs k y).1 h2, h3⟩
    · rintro ⟨k, h1, y, h2, h3⟩; exact ⟨k, h1, y, (hs k y).2 h2, h3⟩
  unfold of
  rw [hb, hlen, run_same hlen hs]

/-- the numbers below n, one by one. -/
def rg (n : Nat) : List Int := (List.range n).map fun (k : Nat) => (k : Int)
theorem rg_length (n : Nat) : (rg n).length = n := by simp [rg]
theorem rg_succ (n : Nat) : rg (n + 1) = rg n ++ [(n : Int)] := by simp [rg, List.range_succ]
theorem mem_rg {n : Nat} {x : Int} : x ∈ rg n ↔ ∃ k : Nat, k < n ∧ x = k := by
  simp only [rg, List.mem_map, List.mem_range]
  constructor
  · rintro ⟨k, h1, h2⟩; exact ⟨k, h1, h2.symm⟩
  · rintro ⟨k, h1, h2⟩; exact ⟨k, h1, h2.symm⟩
theorem rg_get {n i : Nat} (h : i < n) : (rg n)[i]? = some (i : Int) := by simp [rg, h]
theorem rg_take {n i : Nat} (h : i ≤ n) : (rg n).take i = rg i := by simp [rg, ← List.map_take, List.take_range, Nat.min_eq_left h]

theorem rising_of {l : List (List Int)} (h : ∀ k, k < l.length → ∀ y ∈ at_ l k, 0 ≤ y ∧ y < (k : Int)) : of l = (rg l.length, 0) := by
  refine of_of_steps (bad_false.2 fun k hk y hy => by have := h k hk y hy; omega) (fun i hi => ?_) (rg_length _)
  rw [rg_length] at hi
  refine ⟨i, rg_get hi, ?_⟩
  rw [rg_take (by omega)]
  refine next_iff.2 ⟨hi, (rdy_iff _ _ _).2 ⟨?_, ?_⟩, fun j hj => rdy_false.2 (.inl (mem_rg.2 ⟨j, hj, rfl⟩))⟩
  · intro e; obtain ⟨k, h1, h2⟩ := mem_rg.1 e; omega
  · intro y hy
    have := h i hi y hy
    exact mem_rg.2 ⟨y.toNat, by omega, by omega⟩

theorem falling_ok {l : List (List Int)} (h : ∀ k, k < l.length → ∀ y ∈ at_ l k, (k : Int) < y ∧ y < (l.length : Int)) : (of l).2 = 0 := by
  apply Classical.byContradiction
  intro hne
  have hb : bad l = false := bad_false.2 fun k hk y hy => by have := h k hk y hy; omega
  obtain ⟨out, q1, q2, q3⟩ := of_stuck hb hne
  have hall : ∀ d (v : Nat), v + d + 1 = l.length → (v : Int) ∈ out := by
    intro d
    induction d using Nat.strongRecOn with
    | _ d ih =>
      intro v hv
      rcases rdy_false.1 (next_eq_none q3 v (by omega)) with h1 | ⟨y, h1, h2⟩
      · exact h1
      · exfalso
        have h3 := h v (by omega) y h1
        apply h2
        have := ih (l.length - 1 - y.toNat) (by omega) y.toNat (by omega)
        rwa [Int.toNat_of_nonneg (by omega)] at this
  obtain ⟨v, hv, hvo⟩ := exists_not_mem q2
  exact hvo (hall (l.length - 1 - v) v (by omega))

theorem at_snoc {l : List (List Int)} {x : List Int} {k : Nat} (h : k < l.length) : at_ (l ++ [x]) k = at_ l k := by
  unfold at_; rw [List.getD_eq_getElem?_getD, List.getD_eq_getElem?_getD, List.getElem?_append_left h]
theorem at_snoc_last {l : List (List Int)} {x : List Int} : at_ (l ++ [x]) l.length = x := by
  unfold at_; rw [List.getD_eq_getElem?_getD]; simp

/-- one more that waits for all others goes last. -/
theorem of_last {l : List (List Int)} (h : (of l).2 = 0) : of (l ++ [rg l.length]) = ((of l).1 ++ [(l.length : Int)], 0) := by
  rcases of_cases l with ⟨_, h1, h2, h3⟩ | ⟨h1, _⟩
  · have hb := bad_false.1 h3
    refine of_of_steps (bad_false.2 fun k hk y hy => ?_) (fun i hi => ?_) (by simp [h2])
    · simp only [List.length_append, List.length_singleton] at hk ⊢
      by_cases e : k = l.length
      · subst e
        rw [at_snoc_last] at hy
        obtain ⟨v, q1, q2⟩ := mem_rg.1 hy
        omega
      · rw [at_snoc (by omega)] at hy
        have := hb k (by omega) y hy
        omega
    · simp only [List.length_append, List.length_singleton] at hi
      have hrd : ∀ (out : List Int) j, j < l.length → rdy (l ++ [rg l.length]) out j = rdy l out j := by
        intro out j hj
        rw [Bool.eq_iff_iff, rdy_iff, rdy_iff, at_snoc hj]
      by_cases e : i = (of l).1.length
      · subst e
        refine ⟨l.length, by simp, ?_⟩
        rw [List.take_left]
        refine next_iff.2 ⟨by simp, (rdy_iff _ _ _).2 ⟨fun e => ?_, fun y hy => ?_⟩, fun j hj => rdy_false.2 (.inl (mem_full h1.nodup h1.bound h2 hj))⟩
        · have := h1.bound _ e; omega
        · rw [at_snoc_last] at hy
          obtain ⟨v, q1, q2⟩ := mem_rg.1 hy
          rw [q2]; exact mem_full h1.nodup h1.bound h2 q1
      · obtain ⟨k, q1, q2⟩ := h1 i (by omega)
        refine ⟨k, by rw [List.getElem?_append_left (by omega)]; exact q1, ?_⟩
        rw [List.take_append_of_le_length (by omega)]
        obtain ⟨r1, r2, r3⟩ := next_iff.1 q2
        refine next_iff.2 ⟨by simp; omega, by rw [hrd _ _ r1]; exact r2, fun j hj => by rw [hrd _ _ (by omega)]; exact r3 j hj⟩
  · omega

/-- one that waits for none, and that all wait for, goes first. -/
theorem of_first {l l' : List (List Int)} (hl : l'.length = l.length) (ha : ∀ k, k < l.length → at_ l' k = at_ l k ++ [(l.length : Int)]) (h : (of l).2 = 0) : of (l' ++ [[]]) = ((l.length : Int) :: (of l).1, 0) := by
  rcases of_cases l with ⟨_, h1, h2, h3⟩ | ⟨h1, _⟩
  · have hb := bad_false.1 h3
    have hlast : at_ (l' ++ [[]]) l.length = [] := by rw [← hl]; exact at_snoc_last
    refine of_of_steps (bad_false.2 fun k hk y hy => ?_) (fun i hi => ?_) (by simp [h2, hl])
    · simp only [List.length_append, List.length_singleton, hl] at hk ⊢
      by_cases e : k = l.length
      · subst e
        rw [hlast] at hy
        simp at hy
      · rw [at_snoc (by omega), ha k (by omega)] at hy
        rcases List.mem_append.1 hy with hy | hy
        · have := hb k (by omega) y hy
          omega
        · simp at hy; omega
    · simp only [List.length_cons] at hi
      cases i with
      | zero =>
        refine ⟨l.length, by simp, ?_⟩
        rw [List.take_zero]
        refine next_iff.2 ⟨by simp [hl], (rdy_iff _ _ _).2 ⟨by simp, by rw [hlast]; simp⟩, fun j hj => rdy_false.2 (.inr ⟨l.length, ?_, by simp⟩)⟩
        rw [at_snoc (by omega), ha j hj]; simp
      | succ i =>
        obtain ⟨k, q1, q2⟩ := h1 i (by omega)
        refine ⟨k, by simpa using q1, ?_⟩
        rw [List.take_succ_cons]
        obtain ⟨r1, r2, r3⟩ := next_iff.1 q2
        have hrd : ∀ j, j < l.length → rdy (l' ++ [[]]) ((l.length : Int) :: (of l).1.take i) j = rdy l ((of l).1.take i) j := by
          intro j hj
          rw [Bool.eq_iff_iff, rdy_iff, rdy_iff, at_snoc (by omega), ha j hj]
          constructor
          · rintro ⟨s1, s2⟩
            refine ⟨fun e => s1 (List.mem_cons_of_mem _ e), fun y hy => ?_⟩
            have := hb j hj y hy
            rcases List.mem_cons.1 (s2 y (List.mem_append_left _ hy)) with e | e
            · omega
            · exact e
          · rintro ⟨s1, s2⟩
            refine ⟨fun e => ?_, fun y hy => ?_⟩
            · rcases List.mem_cons.1 e with e | e
              · omega
              · exact s1 e
            · rcases List.mem_append.1 hy with e | e
              · exact List.mem_cons_of_mem _ (s2 y e)
              · simp at e; simp [e]
        refine next_iff.2 ⟨by simp; omega, by rw [hrd _ r1]; exact r2, fun j hj => by rw [hrd _ (by omega)]; exact r3 j hj⟩
  · omega

/-- a ring has no order. -/
theorem of_ring {l : List (List Int)} (hn : 0 < l.length) (h : ∀ k, k < l.length → ∃ y : Int, at_ l k = [y] ∧ 0 ≤ y ∧ y < l.length) : of l = ([], 8) := by
  have hb : bad l = false := bad_false.2 fun k hk y hy => by
    obtain ⟨z, h1, h2⟩ := h k hk
    rw [h1] at hy
    simp at hy
    omega
  have hnx : next l [] = none := by
    unfold next
    rw [List.find?_eq_none]
    intro k hk
    rw [List.mem_range] at hk
    obtain ⟨z, h1, h2⟩ := h k hk
    simp [rdy, h1]
  unfold of
  simp only [hb, Bool.false_eq_true, if_false]
  rw [run_none l [] hnx, if_pos (by simpa using hn)]

/-- where number i of the opened ring goes. -/
def rw_ (at0 k i : Nat) : Nat := if i ≤ at0 then at0 - i else at0 + k - i
def nx_ (k i : Nat) : Nat := if i + 1 = k then 0 else i + 1
theorem nx_rw (at0 k i : Nat) (h0 : 0 < i) (hi : i < k) (hat : at0 < k) : nx_ k (rw_ at0 k i) = rw_ at0 k (i - 1) := by
  unfold nx_ rw_
  by_cases h1 : i ≤ at0
  · rw [if_pos h1, if_neg (by omega), if_pos (by omega)]; omega
  · rw [if_neg h1]
    by_cases h2 : i - 1 ≤ at0
    · rw [if_pos h2, if_pos (by omega)]; omega
    · rw [if_neg h2, if_neg (by omega)]; omega
/-- a ring without one of these has one. -/
theorem of_row {l : List (List Int)} {at0 : Nat} (hat : at0 < l.length) (h0 : at_ l at0 = []) (h : ∀ k, k < l.length → k ≠ at0 → at_ l k = [(nx_ l.length k : Int)]) : of l = ((List.range l.length).map fun i => (rw_ at0 l.length i : Int), 0) := by
  have hmem : ∀ i x, i ≤ l.length → (x ∈ ((List.range l.length).map fun i => (rw_ at0 l.length i : Int)).take i ↔ ∃ t, t < i ∧ x = (rw_ at0 l.length t : Int)) := by
    intro i x hi
    rw [← List.map_take, List.take_range, Nat.min_eq_left hi]
    simp only [List.mem_map, List.mem_range]
    constructor
    · rintro ⟨t, h1, h2⟩; exact ⟨t, h1, h2.symm⟩
    · rintro ⟨t, h1, h2⟩; exact ⟨t, h1, h2.symm⟩
  refine of_of_steps (bad_false.2 fun k hk y hy => ?_) (fun i hi => ?_) (by simp)
  · by_cases e : k = at0
    · subst e; rw [h0] at hy; simp at hy
    · rw [h k hk e] at hy
      simp at hy
      unfold nx_ at hy
      split at hy <;> omega
  · simp only [List.length_map, List.length_range] at hi
    refine ⟨rw_ at0 l.length i, by simp [hi], ?_⟩
    have hlt : rw_ at0 l.length i < l.length := by unfold rw_; split <;> omega
    have key : ∀ j, j < l.length → rdy l (((List.range l.length).map fun i => (rw_ at0 l.length i : Int)).take i) j = true → j = rw_ at0 l.length i := by
      intro j hj hr
      obtain ⟨r1, r2⟩ := (rdy_iff _ _ _).1 hr
      rw [hmem i _ (by omega)] at r1
      by_cases e : j = at0
      · subst e
        by_cases e2 : i = 0
        · subst e2; simp [rw_]
        · exact absurd ⟨0, by omega, by simp [rw_]⟩ r1
      · have := r2 (nx_ l.length j) (by rw [h j hj e]; simp)
        obtain ⟨t, ht, e3⟩ := (hmem i _ (by omega)).1 this
        by_cases e4 : t + 1 = i
        · subst e4
          unfold nx_ rw_ at *
          split at e3 <;> split at e3 <;> split <;> omega
        · refine absurd ⟨t + 1, by omega, ?_⟩ r1
          unfold nx_ rw_ at *
          split at e3 <;> split at e3 <;> split <;> omega
    refine next_iff.2 ⟨hlt, (rdy_iff _ _ _).2 ⟨fun e => ?_, fun y hy => ?_⟩, fun j hj => ?_⟩
    · obtain ⟨t, ht, e3⟩ := (hmem i _ (by omega)).1 e
      unfold rw_ at e3
      split at e3 <;> split at e3 <;> omega
    · rw [hmem i _ (by omega)]
      by_cases e : rw_ at0 l.length i = at0
      · rw [e, h0] at hy; simp at hy
      · rw [h _ hlt e] at hy
        simp at hy
        have hi0 : i ≠ 0 := by rintro rfl; exact e (by simp [rw_])
        refine ⟨i - 1, by omega, ?_⟩
        rw [hy, nx_rw at0 l.length i (by omega) hi hat]
    · rw [← Bool.not_eq_true]
      intro hr
      have := key j (by omega) hr
      omega
end Go.Proofs.Ord
