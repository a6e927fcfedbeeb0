/- TokensWords: what its printed function answers, in plain words. -/
import Derived.Test.YtgenhcanaoejkaaDoorSx6
import Derived.Test.YtgenhcanaoejkaaDoorPuT
namespace Go.Proofs.YtgenhcanaoejkaaDoor.Pure
set_option linter.unusedVariables false
set_option linter.unusedSimpArgs false
open Go.RowKit Go.Proofs.YtgenhcanaoejkaaDoor.S Go.Proofs.YtgenhcanaoejkaaDoorW.PrintWords Go.Proofs.YtgenhcanaoejkaaDoorW.PrintLast
theorem alive_eq : belfrylaw04_alive.f = some true := rfl
theorem name_parts {s : ByteArray} (h : nameOk s = true) : 0 < s.size ∧ s.size ≤ 40 ∧ Tok.wordLen (bytesOf s) = s.size := by
  simp only [nameOk, Bool.and_eq_true, decide_eq_true_eq] at h
  exact ⟨h.1, h.2.1, h.2.2.1⟩
theorem name_no {s : ByteArray} (h : Tok.wordLen (bytesOf s) ≠ s.size) : nameOk s = false := by
  cases hn : nameOk s with
  | false => rfl
  | true => exact absurd (name_parts hn).2.2 h
theorem words_j0 (k : Nat) (s : ByteArray) (c : Int) (l : List S32) (n e : Int) (h : tokens_Read.f s = some (l, n, e)) :
    belfrylaw04_TokensWords.j0 (k + 1) s c false = belfrylaw04_TokensWords.j1 k s c l e (Tok.inWord c) := by
  simp only [belfrylaw04_TokensWords.j0]
  rw [if_neg (by simp), h, Option.bind_some]
  simp only [Tok.inWord, Tok.letter, Tok.digit]
  by_cases h1 : 97 ≤ c <;> by_cases h2 : c ≤ 122 <;> by_cases h3 : 65 ≤ c <;> by_cases h4 : c ≤ 90 <;> by_cases h5 : 48 ≤ c <;> by_cases h6 : c ≤ 57 <;>
    simp only [ge_iff_le, h1, h2, h3, h4, h5, h6, if_true, if_false, decide_true, decide_false, Bool.and_true, Bool.and_false, Bool.true_or, Bool.false_or, Bool.or_true, Bool.or_false] <;> rfl
theorem TokensWords : belfrylaw04_TokensWords.Pure := by
  intro s c hs hwf
  obtain ⟨hc0, hc1⟩ := wf_u8 hwf
  refine ⟨3, ?_⟩
  unfold belfrylaw04_TokensWords.f
  rw [alive_eq, Option.bind_some, if_pos rfl]
  by_cases hg : (s.size : Int) > 1000
  · rw [if_pos hg]; rfl
  · rw [if_neg hg]
    have hn : tokens_Name.f s = some (nameOk s) := rfl
    rw [hn, Option.bind_some]
    cases hk : nameOk s with
    | false => rfl
    | true =>
      obtain ⟨h0, h40, hw⟩ := name_parts hk
      rw [← bytesOf_length] at hw
      have hl0 : 0 < (bytesOf s).length := by rw [bytesOf_length]; exact h0
      have hr := read_some (s := s) (by omega) (Tok.R_word 0 hl0 hw)
      show belfrylaw04_TokensWords.j0 3 s c false = some true
      rw [words_j0 2 s c _ _ _ hr]
      simp only [belfrylaw04_TokensWords.j1, List.map_cons, List.map_nil, toS, ofB_bytes]
      have hb : bytesOf (s ++ strOfNums [c]) = bytesOf s ++ [c] := by rw [bytesOf_append, bytesOf_byte hc0 hc1]
      have hz : (s ++ strOfNums [c]).size = s.size + 1 := by rw [size_append, size_byte]
      have hm := Tok.wordLen_more hl0 hw c
      rw [bytesOf_length] at hm
      rw [Option.bind_some, if_pos (by rw [size_byte]; omega)]
      obtain ⟨m, n, e, hmr⟩ : ∃ m n e, tokens_Read.f (s ++ strOfNums [c]) = some (m, n, e) := ⟨_, _, _, rfl⟩
      have hf : (!(((rd_T32 [(⟨1, s, ((0 : Nat) : Int)⟩ : S32)] 0).f0) == 1) || (!((((rd_T32 [(⟨1, s, ((0 : Nat) : Int)⟩ : S32)] 0).f1).toList) == s.toList) || (!(((rd_T32 [(⟨1, s, ((0 : Nat) : Int)⟩ : S32)] 0).f2) == 0)))) = false := by
        simp [rd_T32]
      rw [hmr, Option.bind_some]
      rw [if_pos trivial, if_pos (by rfl), if_pos (by simp), if_neg (by rw [hf]; simp), decide_eq_false (by omega)]
      simp only [belfrylaw04_TokensWords.j2]
      rw [if_neg (by simp)]
      have hnm : tokens_Name.f (s ++ strOfNums [c]) = some (nameOk (s ++ strOfNums [c])) := rfl
      cases hi : Tok.inWord c with
      | true =>
        rw [hi, if_pos rfl] at hm
        have hwm : Tok.wordLen (bytesOf (s ++ strOfNums [c])) = (bytesOf (s ++ strOfNums [c])).length := by rw [hb, hm, List.length_append, bytesOf_length]; rfl
        have hr2 := read_some (s := s ++ strOfNums [c]) (by omega) (Tok.R_word 0 (by rw [bytesOf_length]; omega) hwm)
        rw [hr2] at hmr
        simp only [Option.some.injEq, Prod.mk.injEq, List.map_cons, List.map_nil, toS, ofB_bytes] at hmr
        obtain ⟨rfl, rfl, rfl⟩ := hmr
        rw [if_pos rfl, if_pos rfl, if_pos (by rfl), if_pos (by simp), if_pos (by rfl), hnm, Option.bind_some]
        cases hk2 : nameOk (s ++ strOfNums [c]) with
        | false => rfl
        | true =>
          have := (name_parts hk2).2.1
          rw [if_pos rfl, decide_eq_true (by omega)]
      | false =>
        rw [hi, if_neg (by simp)] at hm
        have hno : nameOk (s ++ strOfNums [c]) = false := name_no (by rw [hb, hm, hz]; omega)
        rw [if_neg (by simp), hnm, hno, Option.bind_some, if_neg (by simp)]
        rcases Tok.R_word_more 0 hl0 hw c hi with hx | ⟨ts, hx⟩
        · have hr2 := read_none (s := s ++ strOfNums [c]) (q := (Tok.R (bytesOf s ++ [c]) 0).2) (by omega) (by rw [hb, ← hx])
          rw [hr2] at hmr
          simp only [Option.some.injEq, Prod.mk.injEq] at hmr
          obtain ⟨rfl, rfl, rfl⟩ := hmr
          rw [if_neg (by decide)]
        · have hr2 := read_some (s := s ++ strOfNums [c]) (ts := ⟨1, bytesOf s, ((0 : Nat) : Int)⟩ :: ts) (q := (Tok.R (bytesOf s ++ [c]) 0).2) (by omega) (by rw [hb, ← hx])
          rw [hr2] at hmr
          simp only [Option.some.injEq, Prod.mk.injEq, List.map_cons, toS, ofB_bytes] at hmr
          obtain ⟨rfl, rfl, rfl⟩ := hmr
          rw [if_pos rfl, if_pos (by simp only [List.length_cons]; omega), if_pos (by simp only [List.length_cons]; omega)]
          simp [rd_T32]
end Go.Proofs.YtgenhcanaoejkaaDoor.Pure
