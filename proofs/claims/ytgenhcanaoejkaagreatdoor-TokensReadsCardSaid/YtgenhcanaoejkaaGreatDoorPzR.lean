/- The reference's Read answers what the chapter's does: plain law. -/
import Derived.Test.YtgenhcanaoejkaaGreatDoorSzR
import Derived.Test.YtgenhcanaoejkaaGreatDoorSzS
import Derived.Test.YtgenhcanaoejkaaGreatDoorRdV
import Derived.Test.YtgenhcanaoejkaaGreatDoorTokR
namespace Go.Proofs.YtgenhcanaoejkaaGreatDoor.Pure
set_option linter.unusedVariables false
set_option linter.unusedSimpArgs false
open Go.RowKit Go.Proofs.YtgenhcanaoejkaaGreatDoor.S Go.Proofs.YtgenhcanaoejkaaGreatDoorW.PrintWords Go.Proofs.YtgenhcanaoejkaaGreatDoorW.PrintLast
theorem ofB_bytes (s : ByteArray) : ofB (bytesOf s) = s := by
  have := ofB_take s 0 s.size
  rw [List.drop_zero, List.take_of_length_le (by rw [bytesOf_length]; exact Nat.le_refl _)] at this
  rw [this]
  apply ByteArray.ext
  have h := Lib.extract_data s 0 (0 + s.size)
  rw [List.drop_zero, List.take_of_length_le (by rw [data_length]; omega)] at h
  exact Array.toList_inj.1 h
theorem toList_inj {a b : ByteArray} (h : a.toList = b.toList) : a = b := by
  rw [ByteArray.toList_eq, ByteArray.toList_eq] at h
  exact ByteArray.ext (Array.toList_inj.1 h)
theorem bt_cons (s : ByteArray) (i : Nat) (h : i < s.size) : (bytesOf s).drop i = bt s (i : Int) :: (bytesOf s).drop (i + 1) := by
  rw [drop_bytes s i h]
  congr 1
  unfold bt
  rw [dif_pos (by rw [Int.toNat_natCast]; exact h)]
  rfl
theorem drop_end (s : ByteArray) : (bytesOf s).drop s.size = [] := List.drop_of_length_le (by rw [bytesOf_length]; exact Nat.le_refl _)
theorem same_l0 (l : List S54) (hl : l.length ≤ 1000000) : ∀ (d k i : Nat), i + d = l.length → d < k → belfrylaw01_SameTokens.l0 k l l (i : Int) = some true
  | 0, k, i, hi, hk => by
    obtain ⟨k, rfl⟩ : ∃ m, k = m + 1 := ⟨k - 1, by omega⟩
    simp only [belfrylaw01_SameTokens.l0]
    rw [if_neg (by omega)]
  | d + 1, k, i, hi, hk => by
    obtain ⟨k, rfl⟩ : ∃ m, k = m + 1 := ⟨k - 1, by omega⟩
    have ih := same_l0 l hl d k (i + 1) (by omega) (by omega)
    have hw : wrap64 ((i : Int) + 1) = ((i + 1 : Nat) : Int) := by unfold wrap64; omega
    simp only [belfrylaw01_SameTokens.l0]
    rw [if_pos (by omega), if_pos (by omega), if_pos (by omega), hw, ih]
    simp
theorem same_f (l : List S54) (hl : l.length ≤ 1000000) (k : Nat) (hk : l.length < k) : belfrylaw01_SameTokens.f k l l = some true := by
  unfold belfrylaw01_SameTokens.f
  rw [if_pos rfl]
  exact same_l0 l hl l.length k 0 (by omega) hk
theorem letter_eq (c : Int) : belfryref04_letter.f c = some (Tok.letter c) := by
  unfold belfryref04_letter.f Tok.letter
  by_cases h1 : c ≥ 97
  · rw [if_pos h1, decide_eq_true (show 97 ≤ c from h1)]
    by_cases h2 : c ≤ 122
    · rw [if_pos h2, decide_eq_true h2]; simp
    · rw [if_neg h2, decide_eq_false h2, if_pos (by omega), decide_eq_true (show 65 ≤ c by omega)]; simp
  · rw [if_neg h1, decide_eq_false (show ¬ 97 ≤ c from h1)]
    by_cases h2 : c ≥ 65
    · rw [if_pos h2, decide_eq_true (show 65 ≤ c from h2)]; simp
    · rw [if_neg h2, decide_eq_false (show ¬ 65 ≤ c from h2)]; simp
theorem digit_eq (c : Int) : belfryref04_digit.f c = some (Tok.digit c) := by
  unfold belfryref04_digit.f Tok.digit
  by_cases h1 : c ≥ 48
  · rw [if_pos h1, decide_eq_true (show 48 ≤ c from h1)]; simp
  · rw [if_neg h1, decide_eq_false (show ¬ 48 ≤ c from h1)]; simp
theorem word_run (s : ByteArray) (hs : s.size ≤ 65536) (p : Nat) : ∀ (n x k : Nat), x + n = s.size → p < x → n < k → belfryref04_word.l0 k s p x = some (((x + Tok.tw Tok.inWord ((bytesOf s).drop x) : Nat) : Int) - p)
  | 0, x, k, hx, hp, hk => by
    obtain ⟨k, rfl⟩ : ∃ m, k = m + 1 := ⟨k - 1, by omega⟩
    obtain rfl : x = s.size := by omega
    have hw : wrap64 ((s.size : Int) - p) = (s.size : Int) - p := by unfold wrap64; omega
    simp only [belfryref04_word.l0]
    rw [if_neg (by omega), drop_end, Tok.tw_nil, hw]
    rfl
  | n + 1, x, k, hx, hp, hk => by
    obtain ⟨k, rfl⟩ : ∃ m, k = m + 1 := ⟨k - 1, by omega⟩
    have ih := word_run s hs p n (x + 1) k (by omega) (by omega) (by omega)
    have hw : wrap64 ((x : Int) + 1) = ((x + 1 : Nat) : Int) := by unfold wrap64; omega
    have hw2 : wrap64 ((x : Int) - p) = (x : Int) - p := by unfold wrap64; omega
    simp only [belfryref04_word.l0]
    rw [if_pos (by omega), if_pos (by omega), letter_eq, digit_eq, hw, hw2, ih, bt_cons s x (by omega)]
    simp only [Option.bind_some]
    have hgo : ∀ h : Tok.inWord (bt s (x : Int)) = true, ((x + 1 + Tok.tw Tok.inWord ((bytesOf s).drop (x + 1)) : Nat) : Int) - p = ((x + Tok.tw Tok.inWord (bt s (x : Int) :: (bytesOf s).drop (x + 1)) : Nat) : Int) - p := by
      intro h
      rw [Tok.tw_yes _ h]; omega
    by_cases h1 : Tok.letter (bt s (x : Int)) = true
    · rw [if_pos h1, hgo (Tok.letter_inWord h1)]
    · rw [if_neg h1, if_pos (by omega)]
      by_cases h2 : Tok.digit (bt s (x : Int)) = true
      · rw [if_pos h2, hgo (Tok.digit_inWord h2)]
      · rw [if_neg h2]
        by_cases h3 : bt s (x : Int) = 95
        · rw [if_pos h3, hgo (by simp [Tok.inWord, h3])]
        · rw [if_neg h3, Tok.tw_no _ (by simp [Tok.inWord, h1, h2, h3])]
          rfl
theorem word_eq (s : ByteArray) (hs : s.size ≤ 65536) (p k : Nat) (hp : p < s.size) (hk : s.size < k) : belfryref04_word.f k s p = some ((Tok.wordLen ((bytesOf s).drop p) : Nat) : Int) := by
  obtain ⟨k, rfl⟩ : ∃ m, k = m + 1 := ⟨k - 1, by omega⟩
  have hw : wrap64 ((p : Int) + 1) = ((p + 1 : Nat) : Int) := by unfold wrap64; omega
  have hw2 : wrap64 ((p : Int) - p) = 0 := by unfold wrap64; omega
  unfold belfryref04_word.f
  simp only [belfryref04_word.l0]
  rw [if_pos (by omega), if_pos (by omega), letter_eq, hw, hw2, bt_cons s p hp, Tok.wordLen_cons]
  simp only [Option.bind_some]
  by_cases h1 : Tok.letter (bt s (p : Int)) = true
  · rw [if_pos h1, if_pos h1, word_run s hs p (s.size - (p + 1)) (p + 1) k (by omega) (by omega) (by omega)]
    congr 1
    omega
  · rw [if_neg h1, if_neg h1, if_neg (by omega)]
    rfl
theorem num_run (s : ByteArray) (hs : s.size ≤ 65536) (p : Nat) : ∀ (n x k m : Nat), x + n = s.size → p ≤ x → n < k → m = x + Tok.tw Tok.digit ((bytesOf s).drop x) - p →
    belfryref04_number.l0 k s p x = some (if 1 < m ∧ ((bytesOf s).drop p).head? = some 48 then 0 else (m : Int))
  | 0, x, k, m, hx, hp, hk, hm => by
    obtain ⟨k, rfl⟩ : ∃ m, k = m + 1 := ⟨k - 1, by omega⟩
    obtain rfl : x = s.size := by omega
    have hw : wrap64 ((s.size : Int) - p) = (s.size : Int) - p := by unfold wrap64; omega
    rw [drop_end, Tok.tw_nil] at hm
    simp only [belfryref04_number.l0]
    rw [if_neg (by omega), hw]
    by_cases h1 : 1 < m
    · rw [if_pos (by omega), if_pos (by omega), if_pos (by omega), bt_cons s p (by omega)]
      by_cases h2 : bt s (p : Int) = 48
      · rw [if_pos h2, if_pos ⟨h1, by rw [h2]; rfl⟩]
      · rw [if_neg h2, if_neg (fun h => h2 (by have := h.2; simpa using this))]
        congr 1
        omega
    · rw [if_neg (by omega), if_neg (fun h => h1 h.1)]
      congr 1
      omega
  | n + 1, x, k, m, hx, hp, hk, hm => by
    obtain ⟨k, rfl⟩ : ∃ m, k = m + 1 := ⟨k - 1, by omega⟩
    have hw : wrap64 ((x : Int) + 1) = ((x + 1 : Nat) : Int) := by unfold wrap64; omega
    have hw2 : wrap64 ((x : Int) - p) = (x : Int) - p := by unfold wrap64; omega
    rw [bt_cons s x (by omega)] at hm
    simp only [belfryref04_number.l0]
    rw [if_pos (by omega), if_pos (by omega), digit_eq, hw, hw2]
    simp only [Option.bind_some]
    by_cases hd : Tok.digit (bt s (x : Int)) = true
    · rw [if_pos hd]
      rw [Tok.tw_yes _ hd] at hm
      exact num_run s hs p n (x + 1) k m (by omega) (by omega) (by omega) (by omega)
    · rw [if_neg hd]
      rw [Tok.tw_no _ (by simpa using hd)] at hm
      by_cases h1 : 1 < m
      · rw [if_pos (by omega), if_pos (by omega), if_pos (by omega), bt_cons s p (by omega)]
        by_cases h2 : bt s (p : Int) = 48
        · rw [if_pos h2, if_pos ⟨h1, by rw [h2]; rfl⟩]
        · rw [if_neg h2, if_neg (fun h => h2 (by have := h.2; simpa using this))]
          congr 1
          omega
      · rw [if_neg (by omega), if_neg (fun h => h1 h.1)]
        congr 1
        omega
theorem num_eq (s : ByteArray) (hs : s.size ≤ 65536) (p k : Nat) (hp : p < s.size) (hk : s.size < k) : belfryref04_number.f k s p = some ((Tok.numLen ((bytesOf s).drop p) : Nat) : Int) := by
  unfold belfryref04_number.f
  rw [num_run s hs p (s.size - p) p k (Tok.tw Tok.digit ((bytesOf s).drop p)) (by omega) (by omega) (by omega) (by omega), Tok.numLen_eq]
  split <;> rfl
/-- the first of these that a text begins with. -/
def firstLen : List ByteArray → List Int → Nat
  | [], _ => 0
  | x :: r, l => if (bytesOf x).isPrefixOf l then x.size else firstLen r l
theorem extract_pre (s x : ByteArray) (p : Nat) : (s.extract p (p + x.size)).toList = x.toList ↔ (bytesOf x).isPrefixOf ((bytesOf s).drop p) = true := by
  rw [List.isPrefixOf_iff_prefix]
  constructor
  · intro h
    have h := toList_inj h
    have h2 := ofB_take s p x.size
    have : bytesOf x = ((bytesOf s).drop p).take x.size := by
      conv => lhs; rw [← h]
      show ((s.extract p (p + x.size)).data.toList).map toI = _
      rw [Lib.extract_data, bytes_map, ← List.map_drop, ← List.map_take]
      congr 2
      omega
    rw [this]
    exact List.take_prefix _ _
  · intro h
    have e := List.prefix_iff_eq_take.1 h
    rw [bytesOf_length] at e
    have h2 := ofB_take s p x.size
    rw [← e, ofB_bytes] at h2
    rw [← h2]
theorem signs_run (s : ByteArray) (hs : s.size ≤ 65536) (p : Nat) (hp : p ≤ s.size) (L : List ByteArray) (hL : L.length ≤ 100) (hx : ∀ x ∈ L, x.size ≤ 2) : ∀ (n i k : Nat), i + n = L.length → n < k →
    belfryref04_signs.l0 k s p L i = some ((firstLen (L.drop i) ((bytesOf s).drop p) : Nat) : Int)
  | 0, i, k, hi, hk => by
    obtain ⟨k, rfl⟩ : ∃ m, k = m + 1 := ⟨k - 1, by omega⟩
    simp only [belfryref04_signs.l0]
    rw [if_neg (by omega), List.drop_of_length_le (by omega)]
    rfl
  | n + 1, i, k, hi, hk => by
    obtain ⟨k, rfl⟩ : ∃ m, k = m + 1 := ⟨k - 1, by omega⟩
    have ih := signs_run s hs p hp L hL hx n (i + 1) k (by omega) (by omega)
    have hlt : i < L.length := by omega
    have hrd : rdOf ByteArray.empty L (i : Int) = L[i] := by
      unfold rdOf
      rw [Int.toNat_natCast, List.getD_eq_getElem?_getD, List.getElem?_eq_getElem hlt]
      rfl
    have hsz := hx _ (List.getElem_mem hlt)
    have hw : wrap64 ((i : Int) + 1) = ((i + 1 : Nat) : Int) := by unfold wrap64; omega
    have hw2 : wrap64 ((s.size : Int) - p) = (s.size : Int) - p := by unfold wrap64; omega
    have hw3 : wrap64 ((p : Int) + (L[i].size : Int)) = ((p + L[i].size : Nat) : Int) := by unfold wrap64; omega
    simp only [belfryref04_signs.l0]
    rw [if_pos (by omega), if_pos (by omega), hrd, hw, hw2, hw3, ih, List.drop_eq_getElem_cons hlt]
    simp only [firstLen]
    by_cases h1 : p + L[i].size ≤ s.size
    · rw [if_pos (by omega), if_pos (by omega), if_pos (by omega), if_pos (by omega), Int.toNat_natCast, Int.toNat_natCast]
      by_cases h2 : (bytesOf L[i]).isPrefixOf ((bytesOf s).drop p) = true
      · rw [if_pos h2, if_pos ((extract_pre s L[i] p).2 h2)]
      · rw [if_neg h2, if_neg (fun h => h2 ((extract_pre s L[i] p).1 h))]
    · rw [if_neg (by omega), if_neg]
      intro h
      rw [List.isPrefixOf_iff_prefix] at h
      have := h.length_le
      rw [bytesOf_length, List.length_drop, bytesOf_length] at this
      omega
theorem firstLen_same (m : Nat) (Y : List ByteArray) (l : List Int) : ∀ X : List ByteArray, (∀ x ∈ X, x.size = m) → firstLen (X ++ Y) l = if X.any (fun x => (bytesOf x).isPrefixOf l) then m else firstLen Y l
  | [], _ => rfl
  | x :: X, h => by
    have ih := firstLen_same m Y l X (fun y hy => h y (List.mem_cons_of_mem _ hy))
    rw [List.cons_append]
    simp only [firstLen, List.any_cons]
    rw [ih, h x List.mem_cons_self]
    by_cases h1 : (bytesOf x).isPrefixOf l = true
    · rw [if_pos h1]; simp [h1]
    · rw [if_neg h1]; simp [h1]
def L2 : List ByteArray := [⟨#[60, 61]⟩, ⟨#[61, 61]⟩, ⟨#[33, 61]⟩, ⟨#[45, 62]⟩]
def L1 : List ByteArray := [⟨#[40]⟩, ⟨#[41]⟩, ⟨#[58]⟩, ⟨#[59]⟩, ⟨#[44]⟩, ⟨#[61]⟩, ⟨#[43]⟩, ⟨#[45]⟩, ⟨#[42]⟩, ⟨#[47]⟩, ⟨#[37]⟩, ⟨#[60]⟩]
theorem any_two (l : List Int) : L2.any (fun x => (bytesOf x).isPrefixOf l) = Tok.two l := rfl
theorem any_one_nil : L1.any (fun x => (bytesOf x).isPrefixOf []) = false := rfl
theorem any_one (c : Int) (r : List Int) : L1.any (fun x => (bytesOf x).isPrefixOf (c :: r)) = Tok.signs.contains c := by
  have e : L1.any (fun x => (bytesOf x).isPrefixOf (c :: r)) = Tok.signs.any (fun a => [a].isPrefixOf (c :: r)) := rfl
  rw [e, List.contains_eq_any_beq]
  congr 1
  funext a
  simp [List.isPrefixOf, Tok.int_beq_comm]
theorem first_sign (l : List Int) : firstLen (L2 ++ (L1 ++ [])) l = Tok.signLen l := by
  have h2 : ∀ x ∈ L2, x.size = 2 := by
    intro x hx
    simp only [L2, List.mem_cons, List.not_mem_nil, or_false] at hx
    rcases hx with rfl | rfl | rfl | rfl <;> rfl
  have h1 : ∀ x ∈ L1, x.size = 1 := by
    intro x hx
    simp only [L1, List.mem_cons, List.not_mem_nil, or_false] at hx
    rcases hx with rfl | rfl | rfl | rfl | rfl | rfl | rfl | rfl | rfl | rfl | rfl | rfl <;> rfl
  rw [firstLen_same 2 _ l L2 h2, firstLen_same 1 _ l L1 h1, any_two]
  unfold Tok.signLen
  by_cases ht : Tok.two l = true
  · rw [if_pos ht, if_pos ht]
  · rw [if_neg ht, if_neg ht]
    cases l with
    | nil => rw [any_one_nil]; rfl
    | cons c r => rw [any_one]; rfl
theorem sign_eq (s : ByteArray) (hs : s.size ≤ 65536) (p k : Nat) (hp : p < s.size) (hk : 20 < k) : belfryref04_signs.f k s p = some ((Tok.signLen ((bytesOf s).drop p) : Nat) : Int) := by
  unfold belfryref04_signs.f
  have hz : ∀ x ∈ L2 ++ (L1 ++ []), x.size ≤ 2 := by
    intro x hx
    simp only [L2, L1, List.mem_cons, List.not_mem_nil, or_false, List.cons_append, List.nil_append, List.append_nil] at hx
    rcases hx with rfl | rfl | rfl | rfl | rfl | rfl | rfl | rfl | rfl | rfl | rfl | rfl | rfl | rfl | rfl | rfl <;> decide
  have h := signs_run s hs p (by omega) (L2 ++ (L1 ++ [])) (by decide) hz 16 0 k (by decide) (by omega)
  rw [List.drop_zero, first_sign] at h
  exact h
theorem comment_run (s : ByteArray) (hs : s.size ≤ 65536) (ts : List S54) : ∀ (n x k : Nat), x + n = s.size → Tok.tw (fun c => c != 10) ((bytesOf s).drop x) < k →
    belfryref04_Read.l1 k s ts x = belfryref04_Read.l0 (k - Tok.tw (fun c => c != 10) ((bytesOf s).drop x) - 1) s ts ((x + Tok.tw (fun c => c != 10) ((bytesOf s).drop x) : Nat) : Int)
  | 0, x, k, hx, hk => by
    obtain ⟨k, rfl⟩ : ∃ m, k = m + 1 := ⟨k - 1, by omega⟩
    obtain rfl : x = s.size := by omega
    rw [drop_end, Tok.tw_nil]
    simp only [belfryref04_Read.l1]
    rw [if_neg (by omega)]
    rfl
  | n + 1, x, k, hx, hk => by
    obtain ⟨k, rfl⟩ : ∃ m, k = m + 1 := ⟨k - 1, by omega⟩
    have hw : wrap64 ((x : Int) + 1) = ((x + 1 : Nat) : Int) := by unfold wrap64; omega
    rw [bt_cons s x (by omega)] at hk ⊢
    simp only [belfryref04_Read.l1]
    rw [if_pos (by omega), if_pos (by omega), hw]
    by_cases h1 : bt s (x : Int) = 10
    · rw [if_pos h1, Tok.tw_no _ (by simp [h1])]
      rfl
    · have hy : (fun c : Int => c != 10) (bt s (x : Int)) = true := by simp [h1]
      rw [Tok.tw_yes (f := fun c : Int => c != 10) _ hy] at hk ⊢
      rw [if_neg h1, comment_run s hs ts n (x + 1) k (by omega) (by omega)]
      congr 1 <;> omega
theorem head_eq (l : List Int) : Tok.head l = if 0 < Tok.wordLen l then (1, Tok.wordLen l) else if 0 < Tok.numLen l then (2, Tok.numLen l) else (3, Tok.signLen l) := rfl
theorem token_round (s : ByteArray) (hs : s.size ≤ 65536) (p k m : Nat) (kd : Int) (ts : List Tok.T) (hl : ts.length ≤ p) (hp : p < s.size) (hm : m ≤ s.size - p) (h0 : 0 < m)
    (ih : belfryref04_Read.l0 k s ((ts ++ [(⟨kd, ((bytesOf s).drop p).take m, p⟩ : Tok.T)]).map toS) ((p + m : Nat) : Int) = some (readOf (S.ahead (ts ++ [⟨kd, ((bytesOf s).drop p).take m, p⟩]) (Tok.R ((bytesOf s).drop (p + m)) (p + m))))) :
    (if 0 ≤ (p : Int) then (if (p : Int) ≤ (wrap64 ((p : Int) + (m : Int))) then (if (wrap64 ((p : Int) + (m : Int))) ≤ (s.size : Int) then (if (ts.map toS).length < 4398046511104 then (belfryref04_Read.l0 k s (ts.map toS ++ [(⟨kd, s.extract (p : Int).toNat ((wrap64 ((p : Int) + (m : Int))) : Int).toNat, p⟩ : S54)]) (wrap64 ((p : Int) + (m : Int)))) else (none)) else (none)) else (none)) else (none)) = some (readOf (S.ahead (ts ++ [⟨kd, ((bytesOf s).drop p).take m, p⟩]) (Tok.R ((bytesOf s).drop (p + m)) (p + m)))) := by
  have hw : wrap64 ((p : Int) + (m : Int)) = ((p + m : Nat) : Int) := by unfold wrap64; omega
  rw [hw, if_pos (by omega), if_pos (by omega), if_pos (by omega), if_pos (by rw [List.length_map]; omega), ← ih, List.map_append, Int.toNat_natCast, Int.toNat_natCast, ← ofB_take]
  rfl
theorem run (s : ByteArray) (hs : s.size ≤ 65536) : ∀ (n p k : Nat) (ts : List Tok.T), s.size - p ≤ n → p ≤ s.size → ts.length ≤ p → 4 * (s.size - p) + s.size + 40 ≤ k →
    belfryref04_Read.l0 k s (ts.map toS) p = some (readOf (S.ahead ts (Tok.R ((bytesOf s).drop p) p))) := by
  intro n
  induction n with
  | zero =>
    intro p k ts hn hp hl hk
    obtain ⟨k, rfl⟩ : ∃ m, k = m + 1 := ⟨k - 1, by omega⟩
    obtain rfl : p = s.size := by omega
    simp only [belfryref04_Read.l0]
    rw [if_neg (by omega), drop_end, Tok.R_nil]
    simp [S.ahead, readOf]
  | succ n IH =>
    intro p k ts hn hp hl hk
    by_cases hlt : p < s.size
    case neg =>
      obtain ⟨k, rfl⟩ : ∃ m, k = m + 1 := ⟨k - 1, by omega⟩
      obtain rfl : p = s.size := by omega
      simp only [belfryref04_Read.l0]
      rw [if_neg (by omega), drop_end, Tok.R_nil]
      simp [S.ahead, readOf]
    obtain ⟨k, rfl⟩ : ∃ m, k = m + 4 := ⟨k - 4, by omega⟩
    have hw : wrap64 ((p : Int) + 1) = ((p + 1 : Nat) : Int) := by unfold wrap64; omega
    have hb := bt_cons s p hlt
    -- a blank
    have hblank : ∀ v : Bool, v = true → Tok.blank (bt s (p : Int)) = true → belfryref04_Read.j1 (k + 3) s (ts.map toS) p (bt s (p : Int)) v = some (readOf (S.ahead ts (Tok.R ((bytesOf s).drop p) p))) := by
      intro v hv hbl
      simp only [belfryref04_Read.j1]
      rw [if_pos hv, hw, hb, Tok.R_blank _ _ hbl]
      exact IH (p + 1) (k + 2) ts (by omega) (by omega) (by omega) (by omega)
    -- no comment: a token, or none
    have htoken : Tok.blank (bt s (p : Int)) = false → Tok.dash ((bytesOf s).drop p) = false → belfryref04_Read.j2 (k + 2) s (ts.map toS) p false = some (readOf (S.ahead ts (Tok.R ((bytesOf s).drop p) p))) := by
      intro hbl hda
      rw [hb] at hda
      have hsil : Tok.silentLen (bt s (p : Int) :: (bytesOf s).drop (p + 1)) = 0 := Tok.silent_zero hbl hda
      simp only [belfryref04_Read.j2]
      rw [if_neg (by simp), word_eq s hs p (k + 1) hlt (by omega), num_eq s hs p (k + 1) hlt (by omega)]
      simp only [Option.bind_some]
      have hle := Tok.head_le ((bytesOf s).drop p)
      rw [List.length_drop, bytesOf_length] at hle
      have hround : ∀ (kd : Int) (m : Nat), Tok.head ((bytesOf s).drop p) = (kd, m) → 0 < m →
          belfryref04_Read.l0 k s ((ts ++ [(⟨kd, ((bytesOf s).drop p).take m, p⟩ : Tok.T)]).map toS) ((p + m : Nat) : Int) = some (readOf (S.ahead (ts ++ [⟨kd, ((bytesOf s).drop p).take m, p⟩]) (Tok.R ((bytesOf s).drop (p + m)) (p + m)))) ∧
          some (readOf (S.ahead ts (Tok.R ((bytesOf s).drop p) p))) = some (readOf (S.ahead (ts ++ [⟨kd, ((bytesOf s).drop p).take m, p⟩]) (Tok.R ((bytesOf s).drop (p + m)) (p + m)))) := by
        intro kd m hh h0
        rw [hh] at hle
        simp only at hle
        refine ⟨IH (p + m) k _ (by omega) (by omega) (by rw [List.length_append, List.length_singleton]; omega) (by omega), ?_⟩
        rw [← ahead_put]
        congr 3
        have hR := Tok.R_head (c := bt s (p : Int)) (r := (bytesOf s).drop (p + 1)) p hsil (by rw [← hb, hh]; exact h0)
        rw [← hb, hh] at hR
        simp only at hR
        rw [hR, List.drop_drop]
      by_cases h1 : 0 < Tok.wordLen ((bytesOf s).drop p)
      · have hh : Tok.head ((bytesOf s).drop p) = (1, Tok.wordLen ((bytesOf s).drop p)) := by rw [head_eq, if_pos h1]
        obtain ⟨q1, q2⟩ := hround _ _ hh h1
        rw [hh] at hle
        rw [if_neg (by omega), q2]
        simp only [belfryref04_Read.j4]
        rw [if_neg (by omega)]
        exact token_round s hs p k _ 1 ts hl hlt hle h1 q1
      · rw [if_pos (by omega)]
        by_cases h2 : 0 < Tok.numLen ((bytesOf s).drop p)
        · have hh : Tok.head ((bytesOf s).drop p) = (2, Tok.numLen ((bytesOf s).drop p)) := by rw [head_eq, if_neg h1, if_pos h2]
          obtain ⟨q1, q2⟩ := hround _ _ hh h2
          rw [hh] at hle
          rw [q2]
          simp only [belfryref04_Read.j4]
          rw [if_neg (by omega)]
          exact token_round s hs p k _ 2 ts hl hlt hle h2 q1
        · have hh : Tok.head ((bytesOf s).drop p) = (3, Tok.signLen ((bytesOf s).drop p)) := by rw [head_eq, if_neg h1, if_neg h2]
          simp only [belfryref04_Read.j4]
          rw [if_pos (by omega), sign_eq s hs p k hlt (by omega)]
          simp only [Option.bind_some]
          by_cases h3 : 0 < Tok.signLen ((bytesOf s).drop p)
          · obtain ⟨q1, q2⟩ := hround _ _ hh h3
            rw [hh] at hle
            rw [if_neg (by omega), q2]
            exact token_round s hs p k _ 3 ts hl hlt hle h3 q1
          · rw [if_pos (by omega), hb, Tok.R_none _ hsil (by rw [← hb, hh]; simp only; omega)]
            rfl
    have hnot : ∀ v : Bool, v = false → Tok.blank (bt s (p : Int)) = false → belfryref04_Read.j1 (k + 3) s (ts.map toS) p (bt s (p : Int)) v = some (readOf (S.ahead ts (Tok.R ((bytesOf s).drop p) p))) := by
      intro v hv hbl
      simp only [belfryref04_Read.j1]
      rw [if_neg (by simp [hv]), hw]
      by_cases h45 : bt s (p : Int) = 45
      · rw [if_pos h45]
        by_cases hnx : p + 1 < s.size
        · have hb2 := bt_cons s (p + 1) hnx
          rw [if_pos (by omega), if_pos (by omega)]
          by_cases h46 : bt s ((p + 1 : Nat) : Int) = 45
          · rw [h46]
            have hd : (bytesOf s).drop p = 45 :: 45 :: (bytesOf s).drop (p + 2) := by rw [hb, hb2, h45, h46]
            simp only [belfryref04_Read.j2]
            rw [if_pos (show ((45 : Int) == 45) = true from rfl)]
            have htw : Tok.tw (fun c => c != 10) ((bytesOf s).drop p) = Tok.tw (fun c => c != 10) ((bytesOf s).drop (p + 2)) + 2 := by
              rw [hd, Tok.tw_yes (f := fun c : Int => c != 10) _ (by rfl), Tok.tw_yes (f := fun c : Int => c != 10) _ (by rfl)]
            have htl := Tok.tw_le (fun c => c != 10) ((bytesOf s).drop (p + 2))
            rw [List.length_drop, bytesOf_length] at htl
            rw [comment_run s hs _ (s.size - p) p (k + 1) (by omega) (by omega), htw, hd, Tok.R_dash, List.drop_drop]
            have e : p + 2 + Tok.tw (fun c => c != 10) ((bytesOf s).drop (p + 2)) = p + (Tok.tw (fun c => c != 10) ((bytesOf s).drop (p + 2)) + 2) := by omega
            rw [e]
            exact IH _ _ ts (by omega) (by omega) (by omega) (by omega)
          · have h46b : (bt s ((p + 1 : Nat) : Int) == 45) = false := beq_eq_false_iff_ne.2 h46
            rw [h46b]
            exact htoken hbl (by rw [hb, hb2, Tok.dash_cons, h46b, Bool.and_false])
        · rw [if_neg (by omega)]
          refine htoken hbl ?_
          have : (bytesOf s).drop (p + 1) = [] := List.drop_of_length_le (by rw [bytesOf_length]; omega)
          rw [hb, this, Tok.dash_one]
      · rw [if_neg h45]
        refine htoken hbl ?_
        rw [hb]
        cases (bytesOf s).drop (p + 1) with
        | nil => exact Tok.dash_one _
        | cons d r => rw [Tok.dash_cons]; simp [h45]
    simp only [belfryref04_Read.l0]
    rw [if_pos (by omega), if_pos (by omega)]
    by_cases h1 : bt s (p : Int) = 32
    · rw [if_pos h1]; exact hblank true rfl (by simp [Tok.blank, h1])
    · rw [if_neg h1]
      by_cases h2 : bt s (p : Int) = 9
      · rw [if_pos h2]; exact hblank true rfl (by simp [Tok.blank, h2])
      · rw [if_neg h2]
        by_cases h3 : bt s (p : Int) = 10
        · rw [if_pos h3]; exact hblank true rfl (by simp [Tok.blank, h3])
        · rw [if_neg h3]
          by_cases h4 : bt s (p : Int) = 13
          · exact hblank _ (by simp [h4]) (by simp [Tok.blank, h4])
          · exact hnot _ (by simp [h4]) (by simp [Tok.blank, h1, h2, h3, h4])
theorem readOf_len (s : ByteArray) : (readOf (Tok.R (bytesOf s) 0)).1.length ≤ s.size := by
  rcases h : Tok.R (bytesOf s) 0 with ⟨_ | ts, q⟩
  · simp [readOf]
  · have := (Tok.R_upto (bytesOf s) 0 ts q h).1
    rw [bytesOf_length] at this
    simpa [readOf] using this
theorem read_ref (s : ByteArray) : ∃ r1 r2 r3, tokens_Read.f s = some (r1, r2, r3) ∧ r1.length ≤ 65536 ∧ belfryref04_Read.f 400000 s = some (r1, r2, r3) := by
  unfold tokens_Read.f belfryref04_Read.f
  by_cases hs : s.size ≤ 65536
  · have h := run s hs s.size 0 400000 [] (by omega) (by omega) (by simp) (by omega)
    have hl := readOf_len s
    rw [List.drop_zero] at h
    rw [if_pos hs, if_neg (by omega)]
    have e : S.ahead [] (Tok.R (bytesOf s) 0) = Tok.R (bytesOf s) 0 := by
      rcases Tok.R (bytesOf s) 0 with ⟨_ | ts, q⟩ <;> rfl
    rw [e] at h
    generalize readOf (Tok.R (bytesOf s) 0) = x at *
    obtain ⟨r1, r2, r3⟩ := x
    exact ⟨r1, r2, r3, rfl, by simp only at hl; omega, h⟩
  · rw [if_neg hs, if_pos (by omega)]
    exact ⟨[], 0, 3, rfl, by simp, rfl⟩
end Go.Proofs.YtgenhcanaoejkaaGreatDoor.Pure
