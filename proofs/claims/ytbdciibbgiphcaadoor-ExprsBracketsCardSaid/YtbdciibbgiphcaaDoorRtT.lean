/- What is written is read again: the digits of a number. Plain Lean. -/
import Derived.Test.YtbdciibbgiphcaaDoorRtO
import Derived.Lib.ItoaLen
namespace Go.Proofs.YtbdciibbgiphcaaDoor.V
set_option linter.unusedVariables false
set_option linter.unusedSimpArgs false
open Go.RowKit Go.Proofs.YtbdciibbgiphcaaDoorW.PrintWords Go.Proofs.YtbdciibbgiphcaaDoorW.PrintLast
def dL (n : Nat) : List Int := (Lib.decDigits n).map toI
theorem toI_dig {k : Nat} (h : k < 10) : toI (UInt8.ofNat (48 + k)) = ((48 + k : Nat) : Int) := by
  unfold toI
  have : (UInt8.ofNat (48 + k)).toNat = (48 + k) % 256 := by simp
  rw [this, Nat.mod_eq_of_lt (by omega)]
theorem dL_lt {n : Nat} (h : n < 10) : dL n = [((48 + n : Nat) : Int)] := by
  unfold dL
  rw [Lib.decDigits, dif_pos h, List.map_cons, List.map_nil, toI_dig h]
theorem dL_ge {n : Nat} (h : ¬ n < 10) : dL n = dL (n / 10) ++ [((48 + n % 10 : Nat) : Int)] := by
  unfold dL
  rw [Lib.decDigits, dif_neg h, List.map_append, List.map_cons, List.map_nil, toI_dig (Nat.mod_lt _ (by omega))]
theorem val_snoc : ∀ (l : List Int) (a : Nat) (c : Int), val a (l ++ [c]) = val a l * 10 + (c - 48).toNat
  | [], a, c => rfl
  | d :: l, a, c => by simp only [List.cons_append, val]; exact val_snoc l _ c
theorem dL_all (n : Nat) : 0 < (dL n).length ∧ (∀ c ∈ dL n, Tok.digit c = true) ∧ (0 < n → (dL n).head? ≠ some 48) ∧ val 0 (dL n) = n ∧ (1 < (dL n).length → 10 ≤ n) := by
  induction n using Nat.strongRecOn with
  | ind n ih =>
    by_cases h : n < 10
    · rw [dL_lt h]
      refine ⟨by simp, fun c hc => ?_, fun h0 => ?_, ?_, fun h1 => by simp at h1⟩
      · rw [List.mem_singleton] at hc
        rw [hc, digit_iff]; omega
      · simp only [List.head?_cons, ne_eq, Option.some.injEq]; omega
      · simp only [val]; omega
    · obtain ⟨i1, i2, i3, i4, i5⟩ := ih (n / 10) (by omega)
      rw [dL_ge h]
      refine ⟨by simp, fun c hc => ?_, fun h0 => ?_, ?_, fun _ => by omega⟩
      · rcases List.mem_append.1 hc with hc | hc
        · exact i2 c hc
        · rw [List.mem_singleton] at hc
          rw [hc, digit_iff]; omega
      · cases hd : dL (n / 10) with
        | nil => rw [hd] at i1; simp at i1
        | cons c r =>
          have := i3 (by omega)
          rw [hd] at this
          simpa using this
      · rw [val_snoc, i4]; omega
theorem itoa_bytes {n : Int} (h : 0 ≤ n) : bytesOf ⟨(Lib.itoa n).toArray⟩ = dL n.toNat := by
  unfold bytesOf dL Lib.itoa
  rw [if_neg (by omega)]
  rfl
theorem itoa_whole {n : Int} (h : 0 ≤ n) : Whole (bytesOf ⟨(Lib.itoa n).toArray⟩) := by
  rw [itoa_bytes h]
  obtain ⟨i1, i2, i3, i4, i5⟩ := dL_all n.toNat
  exact ⟨i1, i2, fun hh => i3 (by have := i5 hh; omega)⟩
/-- a number's text is the number. -/
theorem itoa_num (n : Int) (h0 : 0 ≤ n) (h1 : n ≤ 9223372036854775807) : numT ⟨(Lib.itoa n).toArray⟩ = some (n, 0) := by
  have hs := itoaW_size n (by omega) h1
  show tokens_Number.f _ = _
  rw [number_whole (by omega) (itoa_whole h0), itoa_bytes h0, (dL_all n.toNat).2.2.2.1, if_pos (by omega)]
  congr 2
  omega
/-- .. and one token. -/
theorem itoa_wrt (n : Int) (h0 : 0 ≤ n) (h1 : n ≤ 9223372036854775807) : Wrt ⟨(Lib.itoa n).toArray⟩ [(2, ⟨(Lib.itoa n).toArray⟩)] := by
  have hw := itoa_whole h0
  have hl := bytesOf_length ⟨(Lib.itoa n).toArray⟩
  refine ⟨Lex.num (by rw [← hl]; exact hw.1) (by rw [whole_len hw, hl]), ?_⟩
  have h2 := hw.2.1
  have h3 := hw.1
  cases hb : bytesOf ⟨(Lib.itoa n).toArray⟩ with
  | nil => rw [hb] at h3; simp at h3
  | cons c r =>
    rw [hb] at h2
    have := digit_iff.1 (h2 c List.mem_cons_self)
    exact ⟨c, r, rfl, by omega⟩
theorem read_short : ∀ (f : Nat) (l : List Int) (p : Nat) (ts : List Tok.T) (q : Nat), Tok.read f l p = (some ts, q) → ∀ t ∈ ts, t.text.length ≤ l.length := by
  intro f
  induction f with
  | zero =>
    intro l p ts q h t ht
    cases l with
    | nil => simp [Tok.read] at h; obtain ⟨rfl, _⟩ := h; cases ht
    | cons c r => simp [Tok.read] at h
  | succ f ih =>
    intro l p ts q h t ht
    cases l with
    | nil => simp [Tok.read] at h; obtain ⟨rfl, _⟩ := h; cases ht
    | cons c r =>
      simp only [Tok.read] at h
      split at h
      · have := ih _ _ _ _ h t ht
        rw [List.length_drop] at this
        omega
      · split at h
        · split at h
          · rename_i ts2 q2 h2
            injection h with h3 h4
            injection h3 with h3
            subst h3
            rcases List.mem_cons.1 ht with rfl | ht
            · exact (List.take_sublist _ _).length_le
            · have := ih _ _ _ _ h2 t ht
              rw [List.length_drop] at this
              omega
          · simp at h
        · simp at h
/-- the numbers among a text's tokens answer. -/
theorem read_nums (s : ByteArray) (T : List S45) (p e : Int) (h : tokens_Read.f s = some (T, p, e)) : ∀ a, (rd_T45 T a).f0 = 2 → numT (rd_T45 T a).f1 ≠ none := by
  intro a ha
  unfold tokens_Read.f at h
  injection h with h
  have hnil : ∀ a, (rd_T45 [] a).f0 ≠ 2 := fun a => by unfold rd_T45; simp [z45]
  by_cases hs : s.size ≤ 65536
  · rw [if_pos hs] at h
    unfold readOf at h
    split at h
    · rename_i ts q hq
      injection h with h1 h2
      subst h1
      unfold rd_T45 at ha ⊢
      rw [List.getD_eq_getElem?_getD, List.getElem?_map] at ha ⊢
      cases hu : ts[a.toNat]? with
      | none => rw [hu] at ha; simp [z45] at ha
      | some u =>
        have hl := read_short _ _ _ _ _ hq u (List.mem_of_getElem? hu)
        rw [bytesOf_length] at hl
        have hz : (ofB u.text).size ≤ 281474976710656 := by
          unfold ofB
          show ((u.text.map fun c => UInt8.ofNat c.toNat).toArray).size ≤ _
          rw [List.size_toArray, List.length_map]
          omega
        exact number_some hz
    · injection h with h1 h2
      subst h1
      exact absurd ha (hnil a)
  · rw [if_neg hs] at h
    injection h with h1 h2
    subst h1
    exact absurd ha (hnil a)
/-- WHAT IS WRITTEN IS READ AGAIN, all of it, as it was. -/
theorem written_read {x : S25} (hok : okE nameOk x = true) (hwf : WfE x) : readP (wr 32 x) = some (x, true) :=
  read_wr names_ok itoa_wrt itoa_num read_nums hok hwf
end Go.Proofs.YtbdciibbgiphcaaDoor.V
