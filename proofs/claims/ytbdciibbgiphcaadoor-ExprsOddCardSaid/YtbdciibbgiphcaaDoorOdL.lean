/- odd: what it makes may not be. -/
import Derived.Test.YtbdciibbgiphcaaDoorOdP
namespace Go.Proofs.YtbdciibbgiphcaaDoor.V
set_option linter.unusedVariables false
set_option linter.unusedSimpArgs false
set_option linter.unusedSectionVars false
open Go.RowKit Go.Proofs.YtbdciibbgiphcaaDoorW.PrintWords Go.Proofs.YtbdciibbgiphcaaDoorW.PrintLast Go.Proofs.YtbdciibbgiphcaaDoorW.PrintMore
theorem nm_then : nameOk ⟨#[116, 104, 101, 110]⟩ = false := by kernel_rfl
theorem emp_then : emp ⟨#[116, 104, 101, 110]⟩ = false := by unfold emp; rw [ByteArray.toList_eq]; rfl
theorem parts_none : parts 0 = -1 ∧ parts 20 = -1 := by decide
theorem odd_leaf (nm : ByteArray → Bool) (hnm : nm ⟨#[116, 104, 101, 110]⟩ = false) (d : Nat) (x : S25) (l r : Int) (h : (chk nm d x l).1 = true) : (chk nm d (oddL r x) l).1 = false := by
  obtain ⟨o, n, s, xs⟩ := x
  cases d with
  | zero => simp [chk] at h
  | succ d =>
    by_cases h1 : l - 1 < 0
    · simp only [chk] at h; rw [if_pos h1] at h; simp at h
    · by_cases h2 : parts o = (xs.length : Int)
      · unfold oddL
        by_cases r0 : r = 0
        · rw [if_pos r0]; simp only [chk]; rw [if_neg h1, if_pos (by rw [List.length_append, h2]; simp only [List.length_cons, List.length_nil]; omega)]
        · rw [if_neg r0]
          by_cases r1 : r = 1
          · rw [if_pos r1]; simp only [chk]; rw [if_neg h1, if_neg (by simp [h2])]
            split
            · simp
            · split
              · simp
              · split <;> simp
          · rw [if_neg r1]
            by_cases r2 : r = 2
            · rw [if_pos r2]; simp only [chk]; rw [if_neg h1, if_neg (by simp [h2])]
              split
              · simp [emp_then]
              · split
                · simp [emp_then]
                · split
                  · simp [hnm]
                  · simp [emp_then]
            · rw [if_neg r2]
              by_cases r3 : r = 3
              · rw [if_pos r3]; simp only [chk]; rw [if_neg h1, if_pos (by rw [parts_none.1]; omega)]
              · rw [if_neg r3]; simp only [chk]; rw [if_neg h1, if_pos (by rw [parts_none.2]; omega)]
      · simp only [chk] at h; rw [if_neg h1, if_pos h2] at h; simp at h
theorem chks_set (f : S25 → Int → Bool × Int) : ∀ (xs : List S25) (l : Int) (K : Nat) (y z : S25), xs[K]? = some y → (chks f xs l).1 = true → (∀ m, (f y m).1 = true → (f z m).1 = false) → (chks f (xs.set K z) l).1 = false
  | [], l, K, y, z, hy, h, hz => by simp at hy
  | x :: xs, l, 0, y, z, hy, h, hz => by
    obtain rfl : x = y := by simpa using hy
    have h1 := hz l (chks_cons h).1
    simp only [List.set_cons_zero, chks]
    rw [if_neg (by rw [h1]; simp)]
  | x :: xs, l, K + 1, y, z, hy, h, hz => by
    have h1 := chks_cons h
    simp only [List.set_cons_succ, chks]
    rw [if_pos h1.1]
    exact chks_set f xs _ K y z (by simpa using hy) h1.2.1 hz
theorem odd_bad (nm : ByteArray → Bool) (hnm : nm ⟨#[116, 104, 101, 110]⟩ = false) : ∀ (k d : Nat) (x : S25) (l r : Int) (way : Nat), (chk nm d x l).1 = true → (chk nm d (oddP r k x way) l).1 = false
  | 0, d, x, l, r, way, h => odd_leaf nm hnm d x l r h
  | k + 1, 0, x, l, r, way, h => by simp [chk] at h
  | k + 1, d + 1, ⟨o, n, s, xs⟩, l, r, way, h => by
    simp only [oddP]
    by_cases hc : 0 < xs.length ∧ 0 < way
    · rw [if_pos hc]
      have hK : way % xs.length < xs.length := Nat.mod_lt _ hc.1
      obtain ⟨y, hy⟩ : ∃ y, xs[way % xs.length]? = some y := ⟨_, List.getElem?_eq_getElem hK⟩
      have hg : xs.getD (way % xs.length) z25 = y := by rw [List.getD_eq_getElem?_getD, hy]; rfl
      rw [hg]
      by_cases h1 : l - 1 < 0
      · simp only [chk] at h; rw [if_pos h1] at h; simp at h
      · by_cases h2 : parts o = (xs.length : Int)
        · have o1 : o ≠ 1 := by rintro rfl; rw [parts_zero (.inl rfl)] at h2; omega
          have o2 : o ≠ 2 := by rintro rfl; rw [parts_zero (.inr (.inl rfl))] at h2; omega
          have o3 : o ≠ 3 := by rintro rfl; rw [parts_zero (.inr (.inr rfl))] at h2; omega
          simp only [chk] at h ⊢
          rw [if_neg h1, if_neg (by simp [h2]), if_neg o1, if_neg o2, if_neg o3] at h
          rw [if_neg h1, if_neg (by simp [h2]), if_neg o1, if_neg o2, if_neg o3]
          simp only [Bool.and_eq_true] at h
          dsimp only
          rw [chks_set (chk nm d) xs (l - 1) _ y _ hy h.1 (fun m hm => odd_bad nm hnm k d y m r (way / 2) hm)]
          rfl
        · simp only [chk] at h; rw [if_neg h1, if_pos h2] at h; simp at h
    · rw [if_neg hc]
      exact odd_leaf nm hnm (d + 1) ⟨o, n, s, xs⟩ l r h
theorem s3_ok {nm : ByteArray → Bool} {d : Nat} {x : S25} {l l' : Int} (h : Ok nm d x l l') : S3 x := by
  induction h with
  | int => exact .mk _ _ _ _ (by simp) (fun y hy => by simp at hy)
  | bool => exact .mk _ _ _ _ (by simp) (fun y hy => by simp at hy)
  | name => exact .mk _ _ _ _ (by simp) (fun y hy => by simp at hy)
  | two d f s a b l l1 l2 h1 h2 h3 ha hb iha ihb => exact .mk _ _ _ _ (by simp) (fun y hy => by
      simp only [List.mem_cons, List.not_mem_nil, or_false] at hy
      rcases hy with rfl | rfl <;> assumption)
  | one d f s a l l1 h1 h2 h3 h4 ha iha => exact .mk _ _ _ _ (by simp) (fun y hy => by
      simp only [List.mem_cons, List.not_mem_nil, or_false] at hy
      rcases hy with rfl; assumption)
  | three d s a b c l l1 l2 l3 h1 h2 ha hb hc iha ihb ihc => exact .mk _ _ _ _ (by simp) (fun y hy => by
      simp only [List.mem_cons, List.not_mem_nil, or_false] at hy
      rcases hy with rfl | rfl | rfl <;> assumption)
theorem wf_oddL (r : Int) {x : S25} (h : WfE x) (h3 : S3 x) : WfE (oddL r x) := by
  obtain ⟨o, n, s, xs, a1, a2, a3, a4, a5, a6, a7⟩ := h
  obtain ⟨_, _, _, _, b1, b2⟩ := h3
  unfold oddL
  split
  · refine .mk _ _ _ _ a1 a2 a3 a4 a5 (by simp; omega) (fun y hy => ?_)
    rcases List.mem_append.1 hy with hy | hy
    · exact a7 y hy
    · simp only [List.mem_cons, List.not_mem_nil, or_false] at hy
      subst hy
      exact .mk 2 0 _ [] (by omega) (by omega) (by omega) (by omega) (by simp [ByteArray.size]) (by simp) (by simp)
  · split
    · exact .mk _ _ _ _ a1 a2 (by omega) (by omega) a5 a6 a7
    · split
      · exact .mk _ _ _ _ a1 a2 a3 a4 (by simp [ByteArray.size]) a6 a7
      · split
        · exact .mk _ _ _ _ (by omega) (by omega) a3 a4 a5 a6 a7
        · exact .mk _ _ _ _ (by omega) (by omega) a3 a4 a5 a6 a7
theorem wf_odd : ∀ (k : Nat) (x : S25) (way : Nat) (r : Int), WfE x → S3 x → WfE (oddP r k x way)
  | 0, x, way, r, h, h3 => wf_oddL r h h3
  | k + 1, x, way, r, h, h3 => by
    simp only [oddP]
    by_cases hc : 0 < x.f3.length ∧ 0 < way
    · rw [if_pos hc]
      obtain ⟨o, n, s, xs, a1, a2, a3, a4, a5, a6, a7⟩ := h
      obtain ⟨_, _, _, _, b1, b2⟩ := h3
      dsimp only at hc ⊢
      have hK : way % xs.length < xs.length := Nat.mod_lt _ hc.1
      obtain ⟨y, hy⟩ : ∃ y, xs[way % xs.length]? = some y := ⟨_, List.getElem?_eq_getElem hK⟩
      have hg : xs.getD (way % xs.length) z25 = y := by rw [List.getD_eq_getElem?_getD, hy]; rfl
      rw [hg]
      have hm := List.mem_of_getElem? hy
      refine .mk _ _ _ _ a1 a2 a3 a4 a5 (by rw [List.length_set]; exact a6) (fun z hz => ?_)
      rcases List.mem_or_eq_of_mem_set hz with hz | rfl
      · exact a7 z hz
      · exact wf_odd k y (way / 2) r (a7 y hm) (b2 y hm)
    · rw [if_neg hc]; exact wf_oddL r h h3
theorem odd_law {x : S25} (h : okE nameOk x = true) (r : Int) (k way : Nat) : okE nameOk (oddP r k x way) = false ∧ textE nameOk (oddP r k x way) = (⟨#[]⟩, 1) := by
  have h1 : okE nameOk (oddP r k x way) = false := odd_bad nameOk nm_then k 32 x 200 r way h
  refine ⟨h1, ?_⟩
  unfold textE
  rw [h1]
  rfl
end Go.Proofs.YtbdciibbgiphcaaDoor.V
