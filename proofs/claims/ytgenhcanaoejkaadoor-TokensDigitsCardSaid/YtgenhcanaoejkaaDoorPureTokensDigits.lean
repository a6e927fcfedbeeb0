/- TokensDigits: what its printed function answers, in plain words. -/
import Derived.Test.YtgenhcanaoejkaaDoorSx5
import Derived.Test.YtgenhcanaoejkaaDoorPuN
namespace Go.Proofs.YtgenhcanaoejkaaDoor.Pure
set_option linter.unusedVariables false
set_option linter.unusedSimpArgs false
open Go.RowKit Go.Proofs.YtgenhcanaoejkaaDoor.S Go.Proofs.YtgenhcanaoejkaaDoorW.PrintWords Go.Proofs.YtgenhcanaoejkaaDoorW.PrintLast
theorem alive_eqD : belfrylaw04_alive.f = some true := rfl
theorem digit_byte (d : Nat) (h : d < 10) : bytesOf ((⟨#[48, 49, 50, 51, 52, 53, 54, 55, 56, 57]⟩ : ByteArray).extract d (d + 1)) = [((48 + d : Nat) : Int)] := by
  have : d = 0 ∨ d = 1 ∨ d = 2 ∨ d = 3 ∨ d = 4 ∨ d = 5 ∨ d = 6 ∨ d = 7 ∨ d = 8 ∨ d = 9 := by omega
  rcases this with rfl | rfl | rfl | rfl | rfl | rfl | rfl | rfl | rfl | rfl <;> rfl
/-- the end: what was written is told. -/
theorem digits_end (k : Nat) (s : ByteArray) (hs : s.size ≤ 1000) (hw : Whole (bytesOf s)) (hv : val 0 (bytesOf s) < 9223372036854775808) :
    belfrylaw04_TokensDigits.l0 (k + 1) (val 0 (bytesOf s) : Nat) s 0 = some true := by
  have hl0 : 0 < (bytesOf s).length := hw.1
  have hz : 0 < s.size := by rw [← bytesOf_length]; exact hl0
  have hne : ¬ s.toList = [] := fun q => by rw [ByteArray.toList_eq] at q; rw [← data_length, q] at hz; simp at hz
  have hb1 : bytesOf ((⟨#[48]⟩ : ByteArray) ++ s) = 48 :: bytesOf s := by rw [bytesOf_append]; rfl
  have hb2 : bytesOf ((⟨#[32, 48]⟩ : ByteArray) ++ s) = 32 :: 48 :: bytesOf s := by rw [bytesOf_append]; rfl
  have hz1 : ((⟨#[48]⟩ : ByteArray) ++ s).size = s.size + 1 := by rw [← bytesOf_length, hb1, List.length_cons, bytesOf_length]
  have hz2 : ((⟨#[32, 48]⟩ : ByteArray) ++ s).size = s.size + 2 := by rw [← bytesOf_length, hb2, List.length_cons, List.length_cons, bytesOf_length]
  have hn0 : ¬ Whole (bytesOf ((⟨#[48]⟩ : ByteArray) ++ s)) := by
    rw [hb1]
    exact fun q => q.2.2 (by rw [List.length_cons]; omega) rfl
  have hr1 := read_some (s := s) (by omega) (Tok.R_number 0 hl0 (whole_len hw))
  have hr2 := read_none (s := (⟨#[32, 48]⟩ : ByteArray) ++ s) (q := 1) (by omega) (by rw [hb2]; exact Tok.R_nought 0 hl0 hw.2.1)
  simp only [belfrylaw04_TokensDigits.l0]
  rw [if_neg (by omega), if_neg hne, number_whole (by omega) hw, if_pos hv, Option.bind_some, if_pos (by omega), number_not (by omega) hn0, Option.bind_some, hr1, Option.bind_some,
    if_pos (by omega), hr2, Option.bind_some, alive_eqD, Option.bind_some, if_pos rfl]
  simp [rd_T32, toS, ofB_bytes]
theorem digits_l0 : ∀ (j k : Nat) (x K : Nat) (s : ByteArray), x < 10 ^ j → (bytesOf s).length + j ≤ 20 → K < 9223372036854775808 → x ≤ K → val x (bytesOf s) = K → (∀ c ∈ bytesOf s, Tok.digit c = true) → (x = 0 → Whole (bytesOf s)) →
    belfrylaw04_TokensDigits.l0 (j + (k + 1)) (K : Int) s (x : Int) = some true
  | 0, k, x, K, s, hx, hl, hK, hxK, hv, hd, hw => by
    obtain rfl : x = 0 := by simpa using hx
    rw [Nat.zero_add]
    have hw := hw rfl
    subst hv
    exact digits_end k s (by rw [← bytesOf_length]; omega) hw hK
  | j + 1, k, x, K, s, hx, hl, hK, hxK, hv, hd, hw => by
    by_cases h0 : x = 0
    · subst h0
      have hw := hw rfl
      rw [show j + 1 + (k + 1) = (j + 1 + k) + 1 by omega]
      subst hv
      exact digits_end _ s (by rw [← bytesOf_length]; omega) hw hK
    · have hxq : x / 10 < 10 ^ j := by rw [Nat.pow_succ] at hx; omega
      clear hx
      have hpos : (x : Int) > 0 := by omega
      have hm : Int.tmod (x : Int) 10 = ((x % 10 : Nat) : Int) := rfl
      have hq : Int.tdiv (x : Int) 10 = ((x / 10 : Nat) : Int) := rfl
      have hm1 : wrap64 (((x % 10 : Nat) : Int) + 1) = ((x % 10 + 1 : Nat) : Int) := by unfold wrap64; omega
      have hq1 : wrap64 ((x / 10 : Nat) : Int) = ((x / 10 : Nat) : Int) := by unfold wrap64; omega
      have hlt : x % 10 < 10 := Nat.mod_lt _ (by omega)
      have hb := digit_byte (x % 10) hlt
      have hsz : ((⟨#[48, 49, 50, 51, 52, 53, 54, 55, 56, 57]⟩ : ByteArray).extract (x % 10) (x % 10 + 1)).size = 1 := by rw [← bytesOf_length, hb]; rfl
      have hb2 : bytesOf ((⟨#[48, 49, 50, 51, 52, 53, 54, 55, 56, 57]⟩ : ByteArray).extract (x % 10) (x % 10 + 1) ++ s) = ((48 + x % 10 : Nat) : Int) :: bytesOf s := by rw [bytesOf_append, hb]; rfl
      have hls : s.size ≤ 20 := by rw [← bytesOf_length]; omega
      rw [show j + 1 + (k + 1) = (j + (k + 1)) + 1 by omega]
      simp only [belfrylaw04_TokensDigits.l0]
      have e1 : (0 : Int) ≤ ((x % 10 : Nat) : Int) := Int.natCast_nonneg _
      have e2 : ((x % 10 : Nat) : Int) ≤ ((x % 10 + 1 : Nat) : Int) := by omega
      have e3 : ((x % 10 + 1 : Nat) : Int) ≤ 10 := by omega
      rw [if_pos hpos, hm, hm1, hq, hq1, if_pos e1, if_pos e2, if_pos e3, Int.toNat_natCast, Int.toNat_natCast, if_pos (by rw [hsz]; omega)]
      clear hm hm1 hq hq1 e1 e2 e3
      refine digits_l0 j k (x / 10) K _ hxq ?_ hK (by omega) ?_ ?_ ?_
      · rw [hb2, List.length_cons]; omega
      · rw [hb2, ← hv]
        simp only [val]
        congr 1
        omega
      · rw [hb2]
        intro c hc
        rcases List.mem_cons.1 hc with rfl | hc
        · rw [digit_iff]; omega
        · exact hd c hc
      · intro hz
        rw [hb2]
        refine ⟨by simp, ?_, ?_⟩
        · intro c hc
          rcases List.mem_cons.1 hc with rfl | hc
          · rw [digit_iff]; omega
          · exact hd c hc
        · intro _ q
          simp only [List.head?_cons, Option.some.injEq] at q
          omega
theorem digits_zero (k : Nat) : belfrylaw04_TokensDigits.l0 (k + 2) ((0 : Nat) : Int) ⟨#[]⟩ ((0 : Nat) : Int) = some true := by
  obtain ⟨z, hz⟩ : ∃ z, z = (⟨#[48, 49, 50, 51, 52, 53, 54, 55, 56, 57]⟩ : ByteArray).extract 0 1 ++ ⟨#[]⟩ := ⟨_, rfl⟩
  have hb : bytesOf z = [48] := by rw [hz]; rfl
  have hzs : z.size = 1 := by rw [← bytesOf_length, hb]; rfl
  have he := digits_end k z (by omega) (by rw [hb]; exact ⟨by simp, by simp [Tok.digit], by simp⟩) (by rw [hb]; decide)
  have hv : val 0 (bytesOf z) = 0 := by rw [hb]; rfl
  rw [hv] at he
  have hm : Int.tmod ((0 : Nat) : Int) 10 = 0 := rfl
  have hm1 : wrap64 ((0 : Int) + 1) = 1 := by unfold wrap64; omega
  have hq : wrap64 (Int.tdiv ((0 : Nat) : Int) 10) = 0 := by
    rw [show Int.tdiv ((0 : Nat) : Int) 10 = 0 from rfl]; unfold wrap64; omega
  have hne : (⟨#[]⟩ : ByteArray).toList = [] := by rw [ByteArray.toList_eq]
  have hs1 : ((⟨#[48, 49, 50, 51, 52, 53, 54, 55, 56, 57]⟩ : ByteArray).extract 0 1).size + (⟨#[]⟩ : ByteArray).size = 1 := rfl
  simp only [belfrylaw04_TokensDigits.l0]
  rw [if_neg (by decide), if_pos hne, hm, hm1, hq, if_pos (by decide), if_pos (by decide), if_pos (by decide), show (0 : Int).toNat = 0 from rfl, show (1 : Int).toNat = 1 from rfl, if_pos (by rw [hs1]; decide), ← hz]
  simp only [belfrylaw04_TokensDigits.l0] at he
  exact he
set_option maxHeartbeats 1000000 in
theorem TokensDigits : belfrylaw04_TokensDigits.Pure := by
  intro a hwf
  have hwf2 : 0 ≤ a ∧ a ≤ 18446744073709551615 := by
    have := hwf
    simp [Lit.wf, IntKind.min, IntKind.max, IntKind.bits, IntKind.signed] at this
    omega
  have hw : wrap64 (a / 2) = a / 2 := by unfold wrap64; omega
  obtain ⟨K, hK⟩ : ∃ K : Nat, a / 2 = K := ⟨(a / 2).toNat, by omega⟩
  have hK2 : K < 9223372036854775808 := by omega
  refine ⟨19 + (0 + 1) + 1, ?_⟩
  unfold belfrylaw04_TokensDigits.f
  rw [hw, hK]
  by_cases h0 : K = 0
  · subst h0
    exact digits_zero 19
  · have := digits_l0 19 1 K K ⟨#[]⟩ (by omega) (by simp [bytesOf]) hK2 (Nat.le_refl _) rfl (by simp [bytesOf]) (fun h => absurd h h0)
    exact this
end Go.Proofs.YtgenhcanaoejkaaDoor.Pure
