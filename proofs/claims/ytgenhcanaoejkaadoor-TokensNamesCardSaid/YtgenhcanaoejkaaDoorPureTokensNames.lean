/- TokensNames: what its printed function answers, in plain words. -/
import Derived.Test.YtgenhcanaoejkaaDoorSx3
import Derived.Test.YtgenhcanaoejkaaDoorPuN
namespace Go.Proofs.YtgenhcanaoejkaaDoor.Pure
set_option linter.unusedVariables false
set_option linter.unusedSimpArgs false
open Go.RowKit Go.Proofs.YtgenhcanaoejkaaDoor.S Go.Proofs.YtgenhcanaoejkaaDoorW.PrintWords Go.Proofs.YtgenhcanaoejkaaDoorW.PrintLast
theorem bt_nat (s : ByteArray) (i : Nat) (h : i < s.size) : (bytesOf s).drop i = bt s (i : Int) :: (bytesOf s).drop (i + 1) := by
  rw [drop_bytes s i h]
  congr 1
  unfold bt
  rw [dif_pos (by rw [Int.toNat_natCast]; exact h)]
  rfl
theorem bt_end (s : ByteArray) (i : Nat) (h : ¬ i < s.size) : (bytesOf s).drop i = [] := drop_end s i h
theorem ref_digit (c : Int) : belfryref04_digit.f c = some (Tok.digit c) := by
  unfold belfryref04_digit.f Tok.digit
  by_cases h : c ≥ 48
  · rw [if_pos h, decide_eq_true (show 48 ≤ c from h), Bool.true_and]
  · rw [if_neg h, decide_eq_false (show ¬ 48 ≤ c from h), Bool.false_and]
theorem ref_letter (c : Int) : belfryref04_letter.f c = some (Tok.letter c) := by
  unfold belfryref04_letter.f Tok.letter
  by_cases h1 : 97 ≤ c <;> by_cases h2 : c ≤ 122 <;> by_cases h3 : 65 ≤ c <;> by_cases h4 : c ≤ 90 <;>
    simp only [ge_iff_le, h1, h2, h3, h4, if_true, if_false, decide_true, decide_false, Bool.and_true, Bool.and_false, Bool.true_or, Bool.false_or, Bool.or_true, Bool.or_false] <;> rfl
/-- the end of a run of digits. -/
def fin (s : ByteArray) (n : Nat) : Int := if 1 < n then (if bt s 0 = 48 then 0 else (n : Int)) else n
theorem number_end (s : ByteArray) (i : Nat) (hi : i ≤ s.size) (hs : s.size ≤ 1048576) :
    (if (wrap64 ((i : Int) - 0)) > 1 then (if (0 : Int) ≤ 0 then (if 0 < (s.size : Int) then (if (bt s 0) = 48 then (some 0) else (some (wrap64 ((i : Int) - 0)))) else (none)) else (none)) else (some (wrap64 ((i : Int) - 0)))) = some (fin s i) := by
  have hw : wrap64 ((i : Int) - 0) = i := by unfold wrap64; omega
  rw [hw]
  unfold fin
  by_cases h : 1 < i
  · rw [if_pos (by omega), if_pos (by omega), if_pos (by omega), if_pos h]
    by_cases h2 : bt s 0 = 48
    · rw [if_pos h2, if_pos h2]
    · rw [if_neg h2, if_neg h2]
  · rw [if_neg (by omega), if_neg h]
theorem ref_number_l0 (s : ByteArray) (hs : s.size ≤ 1048576) : ∀ (d i k : Nat), i + d = s.size → d < k → belfryref04_number.l0 k s 0 (i : Int) = some (fin s (i + Tok.tw Tok.digit ((bytesOf s).drop i)))
  | 0, i, k, hi, hk => by
    obtain ⟨k, rfl⟩ : ∃ m, k = m + 1 := ⟨k - 1, by omega⟩
    simp only [belfryref04_number.l0]
    rw [if_neg (by omega), number_end s i (by omega) hs, bt_end s i (by omega), Tok.tw_nil, Nat.add_zero]
  | d + 1, i, k, hi, hk => by
    obtain ⟨k, rfl⟩ : ∃ m, k = m + 1 := ⟨k - 1, by omega⟩
    have hlt : i < s.size := by omega
    have hw : wrap64 ((i : Int) + 1) = ((i + 1 : Nat) : Int) := by unfold wrap64; omega
    simp only [belfryref04_number.l0]
    rw [if_pos (by omega), if_pos (by omega), ref_digit, Option.bind_some, bt_nat s i hlt]
    cases hd : Tok.digit (bt s (i : Int)) with
    | true =>
      rw [if_pos rfl, hw, ref_number_l0 s hs d (i + 1) k (by omega) (by omega), Tok.tw_yes _ hd]
      congr 2
      omega
    | false => rw [if_neg (by simp), number_end s i (by omega) hs, Tok.tw_no _ hd, Nat.add_zero]
theorem ref_number (s : ByteArray) (hs : s.size ≤ 1048576) (k : Nat) (hk : s.size < k) : belfryref04_number.f k s 0 = some ((Tok.numLen (bytesOf s) : Nat) : Int) := by
  unfold belfryref04_number.f
  have := ref_number_l0 s hs s.size 0 k (by omega) hk
  rw [List.drop_zero, Nat.zero_add] at this
  refine this.trans ?_
  congr 1
  unfold fin
  rw [Tok.numLen_eq]
  by_cases h : 1 < Tok.tw Tok.digit (bytesOf s)
  · rw [if_pos h]
    have h0 : 0 < s.size := by have := Tok.tw_le Tok.digit (bytesOf s); rw [bytesOf_length] at this; omega
    have hb := bt_nat s 0 h0
    rw [List.drop_zero] at hb
    have hhd : (bytesOf s).head? = some (bt s 0) := by rw [hb]; rfl
    rw [hhd]
    by_cases h2 : bt s 0 = 48
    · rw [if_pos h2, if_pos ⟨h, by rw [h2]⟩]; rfl
    · rw [if_neg h2, if_neg (fun q => h2 (Option.some.inj q.2))]
  · rw [if_neg h, if_neg (fun q => h q.1)]
theorem ref_word_l0 (s : ByteArray) (hs : s.size ≤ 1048576) : ∀ (d i k : Nat), i + d = s.size → 0 < i → d < k → belfryref04_word.l0 k s 0 (i : Int) = some ((i + Tok.tw Tok.inWord ((bytesOf s).drop i) : Nat) : Int)
  | 0, i, k, hi, h0, hk => by
    obtain ⟨k, rfl⟩ : ∃ m, k = m + 1 := ⟨k - 1, by omega⟩
    have hw0 : wrap64 ((i : Int) - 0) = i := by unfold wrap64; omega
    simp only [belfryref04_word.l0]
    rw [if_neg (by omega), hw0, bt_end s i (by omega), Tok.tw_nil, Nat.add_zero]
  | d + 1, i, k, hi, h0, hk => by
    obtain ⟨k, rfl⟩ : ∃ m, k = m + 1 := ⟨k - 1, by omega⟩
    have hlt : i < s.size := by omega
    have hw : wrap64 ((i : Int) + 1) = ((i + 1 : Nat) : Int) := by unfold wrap64; omega
    have hw0 : wrap64 ((i : Int) - 0) = i := by unfold wrap64; omega
    have ih := ref_word_l0 s hs d (i + 1) k (by omega) (by omega) (by omega)
    have hyes : Tok.inWord (bt s (i : Int)) = true → (i + 1) + Tok.tw Tok.inWord ((bytesOf s).drop (i + 1)) = i + Tok.tw Tok.inWord ((bytesOf s).drop i) := fun h => by
      rw [bt_nat s i hlt, Tok.tw_yes _ h]; omega
    simp only [belfryref04_word.l0]
    rw [if_pos (by omega), if_pos (by omega), ref_letter, Option.bind_some, hw, hw0, ih]
    cases hl : Tok.letter (bt s (i : Int)) with
    | true => rw [if_pos rfl, hyes (Tok.letter_inWord hl)]
    | false =>
      rw [if_neg (by simp), if_pos (by omega), ref_digit, Option.bind_some]
      cases hd : Tok.digit (bt s (i : Int)) with
      | true => rw [if_pos rfl, hyes (Tok.digit_inWord hd)]
      | false =>
        rw [if_neg (by simp)]
        by_cases h95 : bt s (i : Int) = 95
        · rw [if_pos h95, hyes (by simp [Tok.inWord, h95])]
        · rw [if_neg h95, bt_nat s i hlt, Tok.tw_no _ (by simp [Tok.inWord, hl, hd, h95]), Nat.add_zero]
theorem ref_word (s : ByteArray) (hs : s.size ≤ 1048576) (k : Nat) (hk : s.size < k) : belfryref04_word.f k s 0 = some ((Tok.wordLen (bytesOf s) : Nat) : Int) := by
  unfold belfryref04_word.f
  obtain ⟨k, rfl⟩ : ∃ m, k = m + 1 := ⟨k - 1, by omega⟩
  have hw0 : wrap64 ((0 : Int) - 0) = 0 := by unfold wrap64; omega
  have hw : wrap64 ((0 : Int) + 1) = ((1 : Nat) : Int) := by unfold wrap64; omega
  simp only [belfryref04_word.l0]
  by_cases h0 : 0 < s.size
  · have hb := bt_nat s 0 h0
    rw [List.drop_zero] at hb
    rw [if_pos (by omega), if_pos (by omega), ref_letter, Option.bind_some, hb]
    have e : ((0 : Nat) : Int) = 0 := rfl
    rw [e] 
    rw [Tok.wordLen_cons]
    cases hl : Tok.letter (bt s 0) with
    | true =>
      rw [if_pos rfl, if_pos rfl, hw, ref_word_l0 s hs (s.size - 1) 1 k (by omega) (by omega) (by omega)]
    | false => rw [if_neg (by simp), if_neg (by omega), if_neg (by simp), hw0]; rfl
  · have : bytesOf s = [] := List.eq_nil_of_length_eq_zero (by rw [bytesOf_length]; omega)
    rw [if_neg (by omega), hw0, this]; rfl
theorem wid (x : Int) (h0 : 0 ≤ x) (h1 : x ≤ 9223372036854775807) : wrap64 x = x := by unfold wrap64; omega
theorem ten_le (n c : Nat) (h : ¬ (n : Int) > (9223372036854775807 - (c : Int)) / 10) : n * 10 + c < 9223372036854775808 := by omega
theorem ten_wrap (n c : Nat) (h : n * 10 + c < 9223372036854775808) : wrap64 (wrap64 (10 * (n : Int)) + (c : Int)) = ((n * 10 + c : Nat) : Int) := by
  rw [wid (10 * (n : Int)) (by omega) (by omega), wid (10 * (n : Int) + (c : Int)) (by omega) (by omega)]
  omega
theorem ref_Number_l0 (s : ByteArray) (hs : s.size ≤ 1048576) (hd : ∀ c ∈ bytesOf s, Tok.digit c = true) : ∀ (d i k n : Nat), i + d = s.size → d < k → n < 9223372036854775808 →
    belfryref04_Number.l0 k s (n : Int) (i : Int) = if val n ((bytesOf s).drop i) < 9223372036854775808 then some (((val n ((bytesOf s).drop i) : Nat) : Int), 0) else some (0, 3)
  | 0, i, k, n, hi, hk, hn => by
    obtain ⟨k, rfl⟩ : ∃ m, k = m + 1 := ⟨k - 1, by omega⟩
    simp only [belfryref04_Number.l0]
    have e : val n [] = n := rfl
    rw [if_neg (by omega), bt_end s i (by omega), e, if_pos hn]
  | d + 1, i, k, n, hi, hk, hn => by
    obtain ⟨k, rfl⟩ : ∃ m, k = m + 1 := ⟨k - 1, by omega⟩
    have hlt : i < s.size := by omega
    have hb := bt_nat s i hlt
    have hdig := digit_iff.1 (hd (bt s (i : Int)) (List.mem_of_mem_drop (i := i) (by rw [hb]; exact List.mem_cons_self)))
    have hw : wrap64 ((i : Int) + 1) = ((i + 1 : Nat) : Int) := by unfold wrap64; omega
    obtain ⟨c, hc⟩ : ∃ c : Nat, bt s (i : Int) = ((48 + c : Nat) : Int) := ⟨(bt s (i : Int) - 48).toNat, by omega⟩
    rw [hc] at hdig
    have hm : (((48 + c : Nat) : Int) - 48) % 256 = (c : Int) := by omega
    have ht : (((48 + c : Nat) : Int) - 48).toNat = c := by omega
    have hg := val_ge ((bytesOf s).drop (i + 1)) (n * 10 + c)
    have e : val n ((bytesOf s).drop i) = val (n * 10 + c) ((bytesOf s).drop (i + 1)) := by
      rw [hb]
      show val (n * 10 + (bt s (i : Int) - 48).toNat) _ = _
      rw [hc, ht]
    rw [e]
    simp only [belfryref04_Number.l0]
    rw [hc, if_pos (by omega), if_pos (by omega), hm, hw]
    by_cases h : (n : Int) > (9223372036854775807 - (c : Int)) / 10
    · rw [if_pos h, if_neg (by omega)]
    · rw [if_neg h]
      have hn2 := ten_le n c h
      rw [ten_wrap n c hn2]
      clear hm ht hw h hdig hg e
      exact ref_Number_l0 s hs hd d (i + 1) k (n * 10 + c) (by omega) (by omega) hn2
theorem ref_Number (s : ByteArray) (hs : s.size ≤ 1048576) (k : Nat) (hk : s.size + 2 < k) : belfryref04_Number.f k s = tokens_Number.f s := by
  unfold belfryref04_Number.f
  obtain ⟨k, rfl⟩ : ∃ m, k = m + 1 := ⟨k - 1, by omega⟩
  by_cases h0 : s.size = 0
  · have hne : s.toList = [] := by rw [ByteArray.toList_eq]; exact List.eq_nil_of_length_eq_zero (by rw [data_length]; exact h0)
    have hnw : ¬ Whole (bytesOf s) := fun q => by have := q.1; rw [bytesOf_length] at this; omega
    rw [if_pos hne, number_not (by omega) hnw]
    rfl
  · have hne : ¬ s.toList = [] := fun q => h0 (by rw [ByteArray.toList_eq] at q; rw [← data_length, q]; rfl)
    rw [if_neg hne, ref_number s hs _ (by omega), Option.bind_some]
    simp only [belfryref04_Number.j0]
    by_cases hw : Whole (bytesOf s)
    · have hl := whole_len hw
      rw [bytesOf_length] at hl
      rw [hl, if_neg (by simp), number_whole (by omega) hw]
      have := ref_Number_l0 s hs hw.2.1 s.size 0 k 0 (by omega) (by omega) (by omega)
      rw [List.drop_zero] at this
      exact this
    · have hl : Tok.numLen (bytesOf s) ≠ s.size := fun q => hw (whole_of (by rw [bytesOf_length]; omega) (by rw [bytesOf_length]; exact q))
      rw [if_pos (by rw [bne_iff_ne]; omega), number_not (by omega) hw]
theorem ref_Name_l0 (s : ByteArray) (ws : List ByteArray) (hl : ws.length ≤ 100) : ∀ (d i k : Nat), i + d = ws.length → d < k → belfryref04_Name.l0 k s ws (i : Int) = some (!((ws.drop i).any fun x => x.data.toList == s.data.toList))
  | 0, i, k, hi, hk => by
    obtain ⟨k, rfl⟩ : ∃ m, k = m + 1 := ⟨k - 1, by omega⟩
    simp only [belfryref04_Name.l0]
    rw [if_neg (by omega), List.drop_eq_nil_of_le (by omega)]; rfl
  | d + 1, i, k, hi, hk => by
    obtain ⟨k, rfl⟩ : ∃ m, k = m + 1 := ⟨k - 1, by omega⟩
    have hw : wrap64 ((i : Int) + 1) = ((i + 1 : Nat) : Int) := by unfold wrap64; omega
    have hlt : i < ws.length := by omega
    have hrd : rdOf ByteArray.empty ws (i : Int) = ws[i] := by
      unfold rdOf
      rw [List.getD_eq_getElem?_getD, Int.toNat_natCast, List.getElem?_eq_getElem hlt]; rfl
    simp only [belfryref04_Name.l0]
    rw [if_pos (by omega), if_pos (by omega), hrd, hw, ref_Name_l0 s ws hl d (i + 1) k (by omega) (by omega), List.drop_eq_getElem_cons hlt, List.any_cons, ByteArray.toList_eq, ByteArray.toList_eq]
    by_cases h : ws[i].data.toList = s.data.toList
    · rw [if_pos h, h]; simp
    · rw [if_neg h, beq_eq_false_iff_ne.2 h, Bool.false_or]
theorem ref_Name (s : ByteArray) (k : Nat) (hk : s.size + 30 < k) : belfryref04_Name.f k s = some (nameOk s) := by
  unfold belfryref04_Name.f nameOk
  obtain ⟨k, rfl⟩ : ∃ m, k = m + 1 := ⟨k - 1, by omega⟩
  by_cases h0 : s.size = 0
  · have hne : s.toList = [] := by rw [ByteArray.toList_eq]; exact List.eq_nil_of_length_eq_zero (by rw [data_length]; exact h0)
    rw [if_pos hne, decide_eq_false (by omega)]
    rfl
  · have hne : ¬ s.toList = [] := fun q => h0 (by rw [ByteArray.toList_eq] at q; rw [← data_length, q]; rfl)
    rw [if_neg hne, decide_eq_true (show 0 < s.size by omega), Bool.true_and]
    by_cases h40 : s.size ≤ 40
    · rw [if_neg (by omega), decide_eq_true h40, Bool.true_and, ref_word s (by omega) _ (by omega), Option.bind_some]
      simp only [belfryref04_Name.j0]
      by_cases hw : Tok.wordLen (bytesOf s) = s.size
      · rw [hw, if_neg (by simp), decide_eq_true rfl, Bool.true_and]
        have := ref_Name_l0 s words (by decide) 17 0 k rfl (by omega)
        rw [List.drop_zero] at this
        exact this
      · rw [if_pos (by rw [bne_iff_ne]; omega), decide_eq_false hw]; rfl
    · rw [if_pos (by omega), decide_eq_false h40]; rfl
theorem beyond_one (n k : Nat) (hn : n ≤ 140737488351232) : belfrylaw01_Beyond.f (k + 2) [(n : Int)] = some (decide (n > 1048576)) := by
  unfold belfrylaw01_Beyond.f
  have hr : rd [(n : Int)] 0 = n := rfl
  have hw : wrap64 (0 + (n : Int)) = n := by unfold wrap64; omega
  have hw1 : wrap64 ((0 : Int) + 1) = 1 := by unfold wrap64; omega
  simp only [belfrylaw01_Beyond.l0, List.length_cons, List.length_nil]
  rw [if_pos (by decide), if_pos (by decide), hr, hw, hw1]
  by_cases h : n > 1048576
  · rw [if_pos (by omega), decide_eq_true h]
  · rw [if_neg (by omega), if_neg (by decide), decide_eq_false h]
theorem TokensNames : belfrylaw04_TokensNames.Pure := by
  intro s hs
  refine ⟨s.size + 40 + 2, ?_⟩
  unfold belfrylaw04_TokensNames.f
  rw [beyond_one s.size _ hs, Option.bind_some]
  by_cases h : s.size > 1048576
  · rw [decide_eq_true h, if_pos rfl]
  · rw [decide_eq_false h, if_neg (by simp), ref_Number s (by omega) _ (by omega), ref_Name s _ (by omega)]
    have hn : tokens_Name.f s = some (nameOk s) := rfl
    have hx : ∃ x y, tokens_Number.f s = some (x, y) := by
      by_cases hw : Whole (bytesOf s)
      · rw [number_whole (by omega) hw]
        split
        · exact ⟨_, _, rfl⟩
        · exact ⟨_, _, rfl⟩
      · exact ⟨_, _, number_not (by omega) hw⟩
    obtain ⟨x, y, hxy⟩ := hx
    rw [hxy, hn]
    simp
end Go.Proofs.YtgenhcanaoejkaaDoor.Pure
