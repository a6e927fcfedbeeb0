/- The reader of tokens: more fuel changes nothing; it goes on; it always answers. Plain Lean. -/
import Derived.Test.YtbdciibbgiphcaaDoorND
namespace Go.Proofs.YtbdciibbgiphcaaDoor.V
set_option linter.unusedVariables false
set_option linter.unusedSimpArgs false
set_option linter.unusedSectionVars false
open Go.RowKit Go.Proofs.YtbdciibbgiphcaaDoorW.PrintWords Go.Proofs.YtbdciibbgiphcaaDoorW.PrintLast Go.Proofs.YtbdciibbgiphcaaDoorW.PrintMore
theorem go_mono {o o' : Option PR} {k k' : S25 → Int → Option PR} {r : PR} (h1 : ∀ q, o = some q → o' = some q) (h2 : ∀ x b q, k x b = some q → k' x b = some q) (h : PR.go o k = some r) : PR.go o' k' = some r := by
  cases o with
  | none => simp [PR.go] at h
  | some q =>
    rw [h1 q rfl]
    cases q with
    | bad e b => exact h
    | ok x b => exact h2 x b r h
theorem go_some {o : Option PR} {k : S25 → Int → Option PR} (h1 : o ≠ none) (h2 : ∀ x b, o = some (.ok x b) → k x b ≠ none) : PR.go o k ≠ none := by
  cases o with
  | none => exact absurd rfl h1
  | some q =>
    cases q with
    | bad e b => simp [PR.go]
    | ok x b => exact h2 x b rfl
theorem goM_ok {o : Option PR} {k : S25 → Int → Option PR} {y : S25} {c : Int} (h : PR.go o k = some (.ok y c)) : ∃ x b, o = some (.ok x b) ∧ k x b = some (.ok y c) := by
  cases o with
  | none => simp [PR.go] at h
  | some q =>
    cases q with
    | bad e b => simp [PR.go] at h
    | ok x b => exact ⟨x, b, rfl, h⟩
section
variable {nm : ByteArray → Bool} {num : ByteArray → Option (Int × Int)} {T : List S45}
/-- more fuel: the same. -/
theorem fuel_step : ∀ f : Nat, (∀ n a r, rk nm num T f n a = some r → rk nm num T (f + 1) n a = some r) ∧ (∀ n x a r, lp nm num T f n x a = some r → lp nm num T (f + 1) n x a = some r) ∧
    (∀ a r, ch nm num T f a = some r → ch nm num T (f + 1) a = some r) ∧ (∀ a r, pf nm num T f a = some r → pf nm num T (f + 1) a = some r)
  | 0 => ⟨fun n a r h => by simp [rk] at h, fun n x a r h => by simp [lp] at h, fun a r h => by simp [ch] at h, fun a r h => by simp [pf] at h⟩
  | f + 1 => by
    obtain ⟨ir, il, ic, ip⟩ := fuel_step f
    refine ⟨fun n a r h => ?_, fun n x a r h => ?_, fun a r h => ?_, fun a r h => ?_⟩
    · rw [rk] at h ⊢
      by_cases h6 : 6 ≤ n
      · rw [if_pos h6] at h ⊢; exact ip _ _ h
      · rw [if_neg h6] at h ⊢
        by_cases hi : n = 0 ∧ atK T a 1 ifS = true
        · rw [if_pos hi] at h ⊢; exact ic _ _ h
        · rw [if_neg hi] at h ⊢
          exact go_mono (fun q hq => ir _ _ _ hq) (fun x b q hq => il _ _ _ _ hq) h
    · rw [lp] at h ⊢
      cases hf : frm T n a with
      | none => rw [hf] at h; exact h
      | some g =>
        rw [hf] at h
        refine go_mono (fun q hq => ir _ _ _ hq) (fun y b q hq => ?_) h
        by_cases hn : n = 0 ∨ n = 3
        · rw [if_pos hn] at hq ⊢; exact hq
        · rw [if_neg hn] at hq ⊢; exact il _ _ _ _ hq
    · rw [ch] at h ⊢
      refine go_mono (fun q hq => ir _ _ _ hq) (fun x b q hq => ?_) h
      by_cases ht : atK T b 1 thenS = true
      · rw [if_pos ht] at hq ⊢
        refine go_mono (fun q hq => ir _ _ _ hq) (fun y c q hq => ?_) hq
        by_cases he : atK T c 1 elseS = true
        · rw [if_pos he] at hq ⊢
          exact go_mono (fun q hq => ir _ _ _ hq) (fun z d q hq => hq) hq
        · rw [if_neg he] at hq ⊢; exact hq
      · rw [if_neg ht] at hq ⊢; exact hq
    · rw [pf] at h ⊢
      cases hp : pfx T a with
      | some g =>
        rw [hp] at h
        exact go_mono (fun q hq => ip _ _ hq) (fun x b q hq => hq) h
      | none =>
        rw [hp] at h
        dsimp only at h ⊢
        by_cases ho : atK T a 3 opS = true
        · rw [if_pos ho] at h ⊢
          exact go_mono (fun q hq => ir _ _ _ hq) (fun x b q hq => hq) h
        · rw [if_neg ho] at h ⊢; exact h
theorem rk_fuel {f f' : Nat} (h : f ≤ f') {n a : Int} {r : PR} (hr : rk nm num T f n a = some r) : rk nm num T f' n a = some r := by
  induction h with
  | refl => exact hr
  | step _ ih => exact (fuel_step _).1 _ _ _ ih
theorem atK_lt {a k : Int} {s : ByteArray} (h : atK T a k s = true) : a < (T.length : Int) := by
  unfold atK at h
  rw [Bool.and_eq_true] at h
  exact of_decide_eq_true h.1
theorem frm_lt {n a : Int} {g : S83} (h : frm T n a = some g) : a < (T.length : Int) := by
  have := List.find?_some h
  rw [Bool.and_eq_true] at this
  exact atK_lt this.2
theorem pfx_lt {a : Int} {g : S83} (h : pfx T a = some g) : a < (T.length : Int) := by
  unfold pfx at h
  have := List.find?_some h
  exact atK_lt this
theorem atom_ok {a : Int} {x : S25} {b : Int} (h : atomP nm num T a = some (.ok x b)) : b = a + 1 ∧ a < (T.length : Int) := by
  unfold atomP at h
  by_cases h0 : a < (T.length : Int)
  · rw [if_pos h0] at h
    refine ⟨?_, h0⟩
    split at h
    · split at h
      · injection h with h; injection h with h1 h2; exact h2.symm
      · split at h
        · injection h with h; injection h with h1 h2; exact h2.symm
        · split at h
          · injection h with h; injection h with h1 h2; exact h2.symm
          · simp at h
    · split at h
      · split at h
        · simp at h
        · split at h
          · injection h with h; injection h with h1 h2; exact h2.symm
          · simp at h
      · simp at h
  · rw [if_neg h0] at h; simp at h
/-- it goes on. -/
theorem goes : ∀ f : Nat, (∀ n a x b, rk nm num T f n a = some (.ok x b) → a < b ∧ b ≤ (T.length : Int)) ∧ (∀ n y a x b, a ≤ (T.length : Int) → lp nm num T f n y a = some (.ok x b) → a ≤ b ∧ b ≤ (T.length : Int)) ∧
    (∀ a x b, ch nm num T f a = some (.ok x b) → a < b ∧ b ≤ (T.length : Int)) ∧ (∀ a x b, pf nm num T f a = some (.ok x b) → a < b ∧ b ≤ (T.length : Int))
  | 0 => ⟨fun n a x b h => by simp [rk] at h, fun n y a x b _ h => by simp [lp] at h, fun a x b h => by simp [ch] at h, fun a x b h => by simp [pf] at h⟩
  | f + 1 => by
    obtain ⟨ir, il, ic, ip⟩ := goes f
    refine ⟨fun n a x b h => ?_, fun n y a x b ha h => ?_, fun a x b h => ?_, fun a x b h => ?_⟩
    · rw [rk] at h
      by_cases h6 : 6 ≤ n
      · rw [if_pos h6] at h; exact ip _ _ _ h
      · rw [if_neg h6] at h
        by_cases hi : n = 0 ∧ atK T a 1 ifS = true
        · rw [if_pos hi] at h
          have := ic _ _ _ h
          omega
        · rw [if_neg hi] at h
          obtain ⟨z, c, h1, h2⟩ := goM_ok h
          have p1 := ir _ _ _ _ h1
          have p2 := il _ _ _ _ _ p1.2 h2
          omega
    · rw [lp] at h
      cases hf : frm T n a with
      | none =>
        rw [hf] at h
        injection h with h
        injection h with h1 h2
        omega
      | some g =>
        rw [hf] at h
        obtain ⟨z, c, h1, h2⟩ := goM_ok h
        have p1 := ir _ _ _ _ h1
        by_cases hn : n = 0 ∨ n = 3
        · rw [if_pos hn] at h2
          injection h2 with h2
          injection h2 with h3 h4
          omega
        · rw [if_neg hn] at h2
          have p2 := il _ _ _ _ _ p1.2 h2
          omega
    · rw [ch] at h
      obtain ⟨z, c, h1, h2⟩ := goM_ok h
      have p1 := ir _ _ _ _ h1
      by_cases ht : atK T c 1 thenS = true
      · rw [if_pos ht] at h2
        obtain ⟨z2, c2, h3, h4⟩ := goM_ok h2
        have p2 := ir _ _ _ _ h3
        by_cases he : atK T c2 1 elseS = true
        · rw [if_pos he] at h4
          obtain ⟨z3, c3, h5, h6⟩ := goM_ok h4
          have p3 := ir _ _ _ _ h5
          injection h6 with h6
          injection h6 with h7 h8
          omega
        · rw [if_neg he] at h4; simp at h4
      · rw [if_neg ht] at h2; simp at h2
    · rw [pf] at h
      cases hp : pfx T a with
      | some g =>
        rw [hp] at h
        obtain ⟨z, c, h1, h2⟩ := goM_ok h
        have p1 := ip _ _ _ h1
        injection h2 with h2
        injection h2 with h3 h4
        omega
      | none =>
        rw [hp] at h
        dsimp only at h
        by_cases ho : atK T a 3 opS = true
        · rw [if_pos ho] at h
          obtain ⟨z, c, h1, h2⟩ := goM_ok h
          have p1 := ir _ _ _ _ h1
          by_cases hc : atK T c 3 clS = true
          · rw [if_pos hc] at h2
            have := atK_lt hc
            injection h2 with h2
            injection h2 with h3 h4
            omega
          · rw [if_neg hc] at h2; simp at h2
        · rw [if_neg ho] at h
          have := atom_ok h
          omega
theorem atom_some (hnum : ∀ a, (rd_T45 T a).f0 = 2 → num (rd_T45 T a).f1 ≠ none) (a : Int) : atomP nm num T a ≠ none := by
  unfold atomP
  split
  · split
    · split
      · simp
      · split
        · simp
        · split <;> simp
    · split
      · rename_i hk
        split
        · rename_i h; exact absurd h (hnum a hk)
        · split <;> simp
      · simp
  · simp
/-- it answers, whatever the tokens. -/
theorem answers (hnum : ∀ a, (rd_T45 T a).f0 = 2 → num (rd_T45 T a).f1 ≠ none) : ∀ (f : Nat), (∀ n a, 0 ≤ n → a ≤ (T.length : Int) → 8 * ((T.length : Int) - a) + (if n ≤ 6 then 9 - n else 3) ≤ f → rk nm num T f n a ≠ none) ∧ (∀ n x a, a ≤ (T.length : Int) → 8 * ((T.length : Int) - a) + 2 ≤ f → lp nm num T f n x a ≠ none) ∧
    (∀ a, a ≤ (T.length : Int) → 8 * ((T.length : Int) - a) + 10 ≤ f → ch nm num T f a ≠ none) ∧ (∀ a, a ≤ (T.length : Int) → 8 * ((T.length : Int) - a) + 2 ≤ f → pf nm num T f a ≠ none)
  | 0 => ⟨fun n a h0 ha h => by split at h <;> omega, fun n x a ha h => by omega, fun a ha h => by omega, fun a ha h => by omega⟩
  | f + 1 => by
    obtain ⟨ir, il, ic, ip⟩ := answers hnum f
    obtain ⟨gr, gl, gc, gp⟩ := goes (nm := nm) (num := num) (T := T) f
    refine ⟨fun n a h0 ha h => ?_, fun n x a ha h => ?_, fun a ha h => ?_, fun a ha h => ?_⟩
    · rw [rk]
      by_cases h6 : 6 ≤ n
      · rw [if_pos h6]
        exact ip a ha (by split at h <;> omega)
      · rw [if_neg h6]
        rw [if_pos (by omega)] at h
        by_cases hi : n = 0 ∧ atK T a 1 ifS = true
        · rw [if_pos hi]
          have := atK_lt hi.2
          exact ic (a + 1) (by omega) (by omega)
        · rw [if_neg hi]
          refine go_some (ir (n + 1) a (by omega) ha (by rw [if_pos (by omega)]; omega)) (fun x b hx => ?_)
          have := gr _ _ _ _ hx
          exact il n x b this.2 (by omega)
    · rw [lp]
      cases hf : frm T n a with
      | none => simp
      | some g =>
        have hlt := frm_lt hf
        have hasks : 0 ≤ (asksOf g).2 := by
          have hm := List.mem_of_find?_eq_some hf
          unfold pairsL at hm
          simp only [List.mem_cons, List.not_mem_nil, or_false] at hm
          rcases hm with rfl | rfl | rfl | rfl | rfl | rfl | rfl | rfl | rfl | rfl | rfl | rfl <;> decide
        refine go_some (ir _ (a + 1) hasks (by omega) (by split <;> omega)) (fun y b hy => ?_)
        have := gr _ _ _ _ hy
        by_cases hn : n = 0 ∨ n = 3
        · rw [if_pos hn]; simp
        · rw [if_neg hn]
          exact il _ _ _ this.2 (by omega)
    · rw [ch]
      refine go_some (ir 0 a (by omega) ha (by rw [if_pos (by omega)]; omega)) (fun x b hx => ?_)
      have h1 := gr _ _ _ _ hx
      by_cases ht : atK T b 1 thenS = true
      · rw [if_pos ht]
        have h2 := atK_lt ht
        refine go_some (ir 0 (b + 1) (by omega) (by omega) (by rw [if_pos (by omega)]; omega)) (fun y c hy => ?_)
        have h3 := gr _ _ _ _ hy
        by_cases he : atK T c 1 elseS = true
        · rw [if_pos he]
          have h4 := atK_lt he
          exact go_some (ir 0 (c + 1) (by omega) (by omega) (by rw [if_pos (by omega)]; omega)) (fun z d _ => by simp)
        · rw [if_neg he]; simp
      · rw [if_neg ht]; simp
    · rw [pf]
      cases hp : pfx T a with
      | some g =>
        have := pfx_lt hp
        exact go_some (ip (a + 1) (by omega) (by omega)) (fun x b _ => by simp)
      | none =>
        dsimp only
        by_cases ho : atK T a 3 opS = true
        · rw [if_pos ho]
          have := atK_lt ho
          refine go_some (ir 0 (a + 1) (by omega) (by omega) (by rw [if_pos (by omega)]; omega)) (fun x b _ => ?_)
          by_cases hc : atK T b 3 clS = true
          · rw [if_pos hc]; simp
          · rw [if_neg hc]; simp
        · rw [if_neg ho]; exact atom_some hnum a
/-- whatever the tokens and the place: an answer. -/
theorem parse_answers (hnum : ∀ a, (rd_T45 T a).f0 = 2 → num (rd_T45 T a).f1 ≠ none) (fr : Int) : parseT nm num T fr ≠ none := by
  unfold parseT
  split
  · simp
  · have h := (answers (nm := nm) (T := T) hnum (10 * (T.length + 1))).1 0 fr (by omega) (by omega) (by rw [if_pos (by omega)]; omega)
    split
    · rename_i h2; exact absurd h2 h
    · simp
    · split <;> simp
/-- what it answers with some fuel it answers with its own. -/
theorem rk_own (hnum : ∀ a, (rd_T45 T a).f0 = 2 → num (rd_T45 T a).f1 ≠ none) {f : Nat} {fr : Int} (h0 : 0 ≤ fr) (h1 : fr ≤ (T.length : Int)) {r : PR} (h : rk nm num T f 0 fr = some r) : rk nm num T (10 * (T.length + 1)) 0 fr = some r := by
  have ha := (answers (nm := nm) (T := T) hnum (10 * (T.length + 1))).1 0 fr (by omega) h1 (by rw [if_pos (by omega)]; omega)
  cases hq : rk nm num T (10 * (T.length + 1)) 0 fr with
  | none => exact absurd hq ha
  | some q =>
    have e1 := rk_fuel (Nat.le_max_left f (10 * (T.length + 1))) h
    have e2 := rk_fuel (Nat.le_max_right f (10 * (T.length + 1))) hq
    rw [e1] at e2
    exact e2.symm
end
end Go.Proofs.YtbdciibbgiphcaaDoor.V
