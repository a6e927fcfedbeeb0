/- What the reader gives: well formed; whatever the text, it answers. Plain Lean. -/
import Derived.Test.YtbdciibbgiphcaaDoorRtT
namespace Go.Proofs.YtbdciibbgiphcaaDoor.V
set_option linter.unusedVariables false
set_option linter.unusedSimpArgs false
set_option linter.unusedSectionVars false
open Go.RowKit Go.Proofs.YtbdciibbgiphcaaDoorW.PrintWords Go.Proofs.YtbdciibbgiphcaaDoorW.PrintLast Go.Proofs.YtbdciibbgiphcaaDoorW.PrintMore
theorem num_in {s : ByteArray} {n : Int} (h : numT s = some (n, 0)) : 0 ≤ n ∧ n ≤ 9223372036854775807 := by
  have h : tokens_Number.f s = some (n, 0) := h
  by_cases hs : s.size ≤ 281474976710656
  · by_cases hw : Whole (bytesOf s)
    · rw [number_whole hs hw] at h
      split at h
      · simp only [Option.some.injEq, Prod.mk.injEq] at h
        omega
      · simp at h
    · rw [number_not hs hw] at h
      simp at h
  · unfold tokens_Number.f at h
    rw [if_neg hs] at h
    simp at h
theorem wf_opR {o : Int} (h0 : 0 ≤ o) (h1 : o ≤ 255) {xs : List S25} (hl : xs.length ≤ 3) (h : ∀ y ∈ xs, WfE y) : WfE ⟨o, 0, ⟨#[]⟩, xs⟩ :=
  .mk o 0 _ xs h0 h1 (by decide) (by decide) (Nat.zero_le _) (by omega) h
theorem pairs_byte {g : S83} (h : g ∈ pairsL ∨ g ∈ prefL) : 0 ≤ g.f0 ∧ g.f0 ≤ 255 := by
  rcases h with h | h
  · simp only [pairsL, List.mem_cons, List.not_mem_nil, or_false] at h
    rcases h with rfl | rfl | rfl | rfl | rfl | rfl | rfl | rfl | rfl | rfl | rfl | rfl <;> decide
  · simp only [prefL, List.mem_cons, List.not_mem_nil, or_false] at h
    rcases h with rfl | rfl | rfl <;> decide
section
variable {T : List S45}
theorem atom_wf {a : Int} {x : S25} {b : Int} (h : atomP nameOk numT T a = some (.ok x b)) : WfE x := by
  unfold atomP at h
  by_cases h0 : a < (T.length : Int)
  · rw [if_pos h0] at h
    split at h
    · split at h
      · injection h with h; injection h with h1 h2; subst h1
        exact .mk 2 1 _ [] (by decide) (by decide) (by decide) (by decide) (Nat.zero_le _) (Nat.zero_le _) (fun y hy => by cases hy)
      · split at h
        · injection h with h; injection h with h1 h2; subst h1
          exact .mk 2 0 _ [] (by decide) (by decide) (by decide) (by decide) (Nat.zero_le _) (Nat.zero_le _) (fun y hy => by cases hy)
        · split at h
          · rename_i hn
            injection h with h; injection h with h1 h2; subst h1
            have := nameOk40 _ hn
            exact .mk 3 0 _ [] (by decide) (by decide) (by decide) (by decide) (by omega) (Nat.zero_le _) (fun y hy => by cases hy)
          · simp at h
    · split at h
      · split at h
        · simp at h
        · rename_i n e hn
          split at h
          · rename_i he
            subst he
            have := num_in hn
            injection h with h; injection h with h1 h2; subst h1
            exact .mk 1 n _ [] (by decide) (by decide) (by omega) (by omega) (Nat.zero_le _) (Nat.zero_le _) (fun y hy => by cases hy)
          · simp at h
      · simp at h
  · rw [if_neg h0] at h; simp at h
/-- what is read is well formed. -/
theorem wf_rk : ∀ f : Nat, (∀ n a x b, rk nameOk numT T f n a = some (.ok x b) → WfE x) ∧ (∀ n y a x b, WfE y → lp nameOk numT T f n y a = some (.ok x b) → WfE x) ∧
    (∀ a x b, ch nameOk numT T f a = some (.ok x b) → WfE x) ∧ (∀ a x b, pf nameOk numT T f a = some (.ok x b) → WfE x)
  | 0 => ⟨fun n a x b h => by simp [rk] at h, fun n y a x b _ h => by simp [lp] at h, fun a x b h => by simp [ch] at h, fun a x b h => by simp [pf] at h⟩
  | f + 1 => by
    obtain ⟨ir, il, ic, ip⟩ := wf_rk f
    refine ⟨fun n a x b h => ?_, fun n y a x b hy h => ?_, fun a x b h => ?_, fun a x b h => ?_⟩
    · rw [rk] at h
      by_cases h6 : 6 ≤ n
      · rw [if_pos h6] at h; exact ip _ _ _ h
      · rw [if_neg h6] at h
        by_cases hi : n = 0 ∧ atK T a 1 ifS = true
        · rw [if_pos hi] at h
          exact ic _ _ _ h
        · rw [if_neg hi] at h
          obtain ⟨z, c, h1, h2⟩ := goM_ok h
          exact il _ _ _ _ _ (ir _ _ _ _ h1) h2
    · rw [lp] at h
      cases hf : frm T n a with
      | none =>
        rw [hf] at h
        injection h with h
        injection h with h1 h2
        exact h1 ▸ hy
      | some g =>
        rw [hf] at h
        obtain ⟨z, c, h1, h2⟩ := goM_ok h
        have hz := ir _ _ _ _ h1
        have hm := pairs_byte (.inl (List.mem_of_find?_eq_some hf))
        have hw : WfE ⟨g.f0, 0, ⟨#[]⟩, [y, z]⟩ := wf_opR hm.1 hm.2 (by simp) (fun u hu => by
          simp only [List.mem_cons, List.not_mem_nil, or_false] at hu
          rcases hu with rfl | rfl
          · exact hy
          · exact hz)
        by_cases hn : n = 0 ∨ n = 3
        · rw [if_pos hn] at h2
          injection h2 with h2
          injection h2 with h3 h4
          exact h3 ▸ hw
        · rw [if_neg hn] at h2
          exact il _ _ _ _ _ hw h2
    · rw [ch] at h
      obtain ⟨z, c, h1, h2⟩ := goM_ok h
      have p1 := ir _ _ _ _ h1
      by_cases ht : atK T c 1 thenS = true
      · rw [if_pos ht] at h2
        obtain ⟨z2, c2, h3, h4⟩ := goM_ok h2
        have p2 := ir _ _ _ _ h3
        by_cases he : atK T c2 1 elseS = true
        · rw [if_pos he] at h4
          obtain ⟨z3, c3, h5, h6⟩ := goM_ok h4
          have p3 := ir _ _ _ _ h5
          injection h6 with h6
          injection h6 with h7 h8
          subst h7
          exact wf_opR (by decide) (by decide) (by simp) (fun u hu => by
            simp only [List.mem_cons, List.not_mem_nil, or_false] at hu
            rcases hu with rfl | rfl | rfl
            · exact p1
            · exact p2
            · exact p3)
        · rw [if_neg he] at h4; simp at h4
      · rw [if_neg ht] at h2; simp at h2
    · rw [pf] at h
      cases hp : pfx T a with
      | some g =>
        rw [hp] at h
        obtain ⟨z, c, h1, h2⟩ := goM_ok h
        have p1 := ip _ _ _ h1
        injection h2 with h2
        injection h2 with h3 h4
        subst h3
        have hm := pairs_byte (.inr (List.mem_of_find?_eq_some hp))
        exact wf_opR hm.1 hm.2 (by simp) (fun u hu => by
          simp only [List.mem_cons, List.not_mem_nil, or_false] at hu
          exact hu ▸ p1)
      | none =>
        rw [hp] at h
        dsimp only at h
        by_cases ho : atK T a 3 opS = true
        · rw [if_pos ho] at h
          obtain ⟨z, c, h1, h2⟩ := goM_ok h
          have p1 := ir _ _ _ _ h1
          by_cases hc : atK T c 3 clS = true
          · rw [if_pos hc] at h2
            injection h2 with h2
            injection h2 with h3 h4
            exact h3 ▸ p1
          · rw [if_neg hc] at h2; simp at h2
        · rw [if_neg ho] at h
          exact atom_wf h
theorem go_bad {o : Option PR} {k : S25 → Int → Option PR} {e b : Int} (h : PR.go o k = some (.bad e b)) : o = some (.bad e b) ∨ ∃ x c, o = some (.ok x c) ∧ k x c = some (.bad e b) := by
  cases o with
  | none => simp [PR.go] at h
  | some q =>
    cases q with
    | bad e2 b2 => exact .inl h
    | ok x c => exact .inr ⟨x, c, rfl, h⟩
theorem atom_bad {a e b : Int} (h : atomP nameOk numT T a = some (.bad e b)) : e ≠ 0 := by
  unfold atomP at h
  by_cases h0 : a < (T.length : Int)
  · rw [if_pos h0] at h
    split at h
    · split at h
      · simp at h
      · split at h
        · simp at h
        · split at h
          · simp at h
          · injection h with h; injection h with h1 h2; omega
    · split at h
      · split at h
        · simp at h
        · split at h
          · simp at h
          · rename_i he
            injection h with h; injection h with h1 h2; exact h1 ▸ he
      · injection h with h; injection h with h1 h2; omega
  · rw [if_neg h0] at h
    injection h with h; injection h with h1 h2; omega
/-- where it is bad, that is told. -/
theorem bad_rk : ∀ f : Nat, (∀ n a e b, rk nameOk numT T f n a = some (.bad e b) → e ≠ 0) ∧ (∀ n y a e b, lp nameOk numT T f n y a = some (.bad e b) → e ≠ 0) ∧
    (∀ a e b, ch nameOk numT T f a = some (.bad e b) → e ≠ 0) ∧ (∀ a e b, pf nameOk numT T f a = some (.bad e b) → e ≠ 0)
  | 0 => ⟨fun n a e b h => by simp [rk] at h, fun n y a e b h => by simp [lp] at h, fun a e b h => by simp [ch] at h, fun a e b h => by simp [pf] at h⟩
  | f + 1 => by
    obtain ⟨ir, il, ic, ip⟩ := bad_rk f
    refine ⟨fun n a e b h => ?_, fun n y a e b h => ?_, fun a e b h => ?_, fun a e b h => ?_⟩
    · rw [rk] at h
      by_cases h6 : 6 ≤ n
      · rw [if_pos h6] at h; exact ip _ _ _ h
      · rw [if_neg h6] at h
        by_cases hi : n = 0 ∧ atK T a 1 ifS = true
        · rw [if_pos hi] at h
          exact ic _ _ _ h
        · rw [if_neg hi] at h
          rcases go_bad h with h1 | ⟨z, c, h1, h2⟩
          · exact ir _ _ _ _ h1
          · exact il _ _ _ _ _ h2
    · rw [lp] at h
      cases hf : frm T n a with
      | none => rw [hf] at h; simp at h
      | some g =>
        rw [hf] at h
        rcases go_bad h with h1 | ⟨z, c, h1, h2⟩
        · exact ir _ _ _ _ h1
        · by_cases hn : n = 0 ∨ n = 3
          · rw [if_pos hn] at h2; simp at h2
          · rw [if_neg hn] at h2
            exact il _ _ _ _ _ h2
    · rw [ch] at h
      rcases go_bad h with h1 | ⟨z, c, h1, h2⟩
      · exact ir _ _ _ _ h1
      · by_cases ht : atK T c 1 thenS = true
        · rw [if_pos ht] at h2
          rcases go_bad h2 with h1 | ⟨z2, c2, h3, h4⟩
          · exact ir _ _ _ _ h1
          · by_cases he : atK T c2 1 elseS = true
            · rw [if_pos he] at h4
              rcases go_bad h4 with h1 | ⟨z3, c3, h5, h6⟩
              · exact ir _ _ _ _ h1
              · simp at h6
            · rw [if_neg he] at h4
              injection h4 with h4; injection h4 with h5 h6; omega
        · rw [if_neg ht] at h2
          injection h2 with h4; injection h4 with h5 h6; omega
    · rw [pf] at h
      cases hp : pfx T a with
      | some g =>
        rw [hp] at h
        rcases go_bad h with h1 | ⟨z, c, h1, h2⟩
        · exact ip _ _ _ h1
        · simp at h2
      | none =>
        rw [hp] at h
        dsimp only at h
        by_cases ho : atK T a 3 opS = true
        · rw [if_pos ho] at h
          rcases go_bad h with h1 | ⟨z, c, h1, h2⟩
          · exact ir _ _ _ _ h1
          · by_cases hc : atK T c 3 clS = true
            · rw [if_pos hc] at h2; simp at h2
            · rw [if_neg hc] at h2
              injection h2 with h4; injection h4 with h5 h6; omega
        · rw [if_neg ho] at h
          exact atom_bad h
end
/-- whatever the text: it is read, and what is read may be. -/
theorem read_any (s : ByteArray) : ∃ y b, readP s = some (y, b) ∧ (b = true → okE nameOk y = true ∧ WfE y) := by
  obtain ⟨⟨T, p, e⟩, hr⟩ : ∃ r, tokens_Read.f s = some r := ⟨_, rfl⟩
  cases hp : parseT nameOk numT T 0 with
  | none => exact absurd hp (parse_answers (read_nums s T p e hr) 0)
  | some q =>
    obtain ⟨y, n, f⟩ := q
    refine ⟨y, decide (e = 0) && (decide (f = 0) && decide (n = (T.length : Int))), ?_, fun hb => ?_⟩
    · unfold readP
      rw [hr]
      show (parseT nameOk numT T 0).bind _ = _
      rw [hp]
      rfl
    · simp only [Bool.and_eq_true, decide_eq_true_eq] at hb
      obtain ⟨-, rfl, -⟩ := hb
      unfold parseT at hp
      rw [if_neg (by omega)] at hp
      cases hk : rk nameOk numT T (10 * (T.length + 1)) 0 0 with
      | none => rw [hk] at hp; simp at hp
      | some r =>
        rw [hk] at hp
        cases r with
        | bad er a =>
          simp only [Option.some.injEq, Prod.mk.injEq] at hp
          exact absurd hp.2.2 ((bad_rk _).1 _ _ _ _ hk)
        | ok z a =>
          dsimp only at hp
          by_cases ho : okE nameOk z = true
          · rw [if_pos ho] at hp
            simp only [Option.some.injEq, Prod.mk.injEq] at hp
            obtain ⟨rfl, -, -⟩ := hp
            exact ⟨ho, (wf_rk _).1 _ _ _ _ hk⟩
          · rw [if_neg ho] at hp
            simp at hp
end Go.Proofs.YtbdciibbgiphcaaDoor.V
