/- Numbers and their digits: plain facts (carried over from the tokens); a number's text is one token, and it. -/
import Derived.Test.YtbdciibbgiphcaaDoorRtN
namespace Go.Proofs.YtbdciibbgiphcaaDoor.V
set_option linter.unusedVariables false
set_option linter.unusedSimpArgs false
open Go.RowKit Go.Proofs.YtbdciibbgiphcaaDoorW.PrintWords Go.Proofs.YtbdciibbgiphcaaDoorW.PrintLast
def toI (b : UInt8) : Int := (b.toNat : Int)
theorem numLen_eqN (l : List Int) : Tok.numLen l = if 1 < Tok.tw Tok.digit l ∧ l.head? = some 48 then 0 else Tok.tw Tok.digit l := rfl
open Tok in
theorem tw_allN (f : Int → Bool) : ∀ (l : List Int), tw f l = l.length ↔ ∀ c ∈ l, f c = true
  | [] => by simp [show tw f [] = 0 from rfl]
  | c :: l => by
    have ih := tw_allN f l
    cases h : f c with
    | true => rw [tw_yes _ h, List.length_cons]; simp [h, ← ih]
    | false => rw [tw_no _ h, List.length_cons]; simp [h]

/-- what digits spell, behind what was read ahead of them. -/
def val : Nat → List Int → Nat
  | a, [] => a
  | a, c :: r => val (a * 10 + (c - 48).toNat) r
theorem val_ge : ∀ (l : List Int) (a : Nat), a ≤ val a l
  | [], a => Nat.le_refl _
  | c :: r, a => Nat.le_trans (by omega) (val_ge r (a * 10 + (c - 48).toNat))
theorem digit_iff {c : Int} : Tok.digit c = true ↔ 48 ≤ c ∧ c ≤ 57 := by simp [Tok.digit]
theorem parseM (l : List UInt8) : ∀ a : Nat, (∀ c ∈ l.map toI, Tok.digit c = true) → a ≤ 18446744073709551615 →
    Lib.parseUintM 18446744073709551615 a l = if val a (l.map toI) ≤ 18446744073709551615 then .ok (val a (l.map toI)) else .range := by
  induction l with
  | nil => intro a _ ha; simp [Lib.parseUintM, val, ha]
  | cons b l ih =>
    intro a hd ha
    have hb := digit_iff.1 (hd (toI b) (by simp))
    have hb2 : 48 ≤ b.toNat ∧ b.toNat ≤ 57 := by unfold toI at hb; omega
    have he : (toI b - 48).toNat = b.toNat - 48 := by unfold toI; omega
    have hg := val_ge (l.map toI) (a * 10 + (b.toNat - 48))
    simp only [Lib.parseUintM, List.map_cons, val, he]
    rw [if_pos hb2]
    by_cases h1 : 1844674407370955162 ≤ a
    · rw [if_pos h1, if_neg (by omega)]
    · rw [if_neg h1]
      by_cases h2 : 18446744073709551615 < a * 10 + (b.toNat - 48)
      · rw [if_pos h2, if_neg (by omega)]
      · rw [if_neg h2]
        exact ih _ (fun c hc => hd c (by rw [List.map_cons]; exact List.mem_cons_of_mem _ hc)) (by omega)
theorem parseB {s : ByteArray} (h0 : 0 < s.size) (hd : ∀ c ∈ bytesOf s, Tok.digit c = true) :
    Lib.parseIntB 64 s.data.toList = if val 0 (bytesOf s) < 9223372036854775808 then .ok ((val 0 (bytesOf s) : Nat) : Int) else .range := by
  have hl : s.data.toList ≠ [] := fun e => by rw [← data_length, e] at h0; simp at h0
  have hd2 : ∀ c ∈ s.data.toList.map toI, Tok.digit c = true := hd
  have hm := parseM s.data.toList 0 hd2 (by omega)
  have e : bytesOf s = s.data.toList.map toI := rfl
  rw [e]
  cases hx : s.data.toList with
  | nil => exact absurd hx hl
  | cons b l =>
    rw [hx] at hm hd2
    have hb := digit_iff.1 (hd2 (toI b) (by simp))
    have hb2 : 48 ≤ b.toNat ∧ b.toNat ≤ 57 := by unfold toI at hb; omega
    have h43 : ¬ (b.toNat = 43 ∨ b.toNat = 45) := by omega
    have h45 : ¬ b.toNat = 45 := by omega
    have hU : Lib.parseUintB 64 (b :: l) = Lib.parseUintM 18446744073709551615 0 (b :: l) := by
      unfold Lib.parseUintB
      rw [if_neg (by simp)]
    simp only [Lib.parseIntB]
    rw [if_neg h43, hU, hm]
    by_cases h1 : val 0 ((b :: l).map toI) ≤ 18446744073709551615
    · rw [if_pos h1]
      simp only [h45, not_false_eq_true, true_and, false_and, if_false]
      by_cases h2 : val 0 ((b :: l).map toI) < 9223372036854775808
      · rw [if_pos h2, if_neg (by omega)]
      · rw [if_neg h2, if_pos (by omega)]
    · rw [if_neg h1, if_neg (by omega)]
/-- a number's own digits. -/
def Whole (l : List Int) : Prop := 0 < l.length ∧ (∀ c ∈ l, Tok.digit c = true) ∧ (1 < l.length → l.head? ≠ some 48)
theorem whole_len {l : List Int} (h : Whole l) : Tok.numLen l = l.length := by
  rw [numLen_eqN, (tw_allN Tok.digit l).2 h.2.1, if_neg (fun q => h.2.2 q.1 q.2)]
theorem whole_of {l : List Int} (h0 : 0 < l.length) (h : Tok.numLen l = l.length) : Whole l := by
  rw [numLen_eqN] at h
  split at h
  · omega
  · rename_i hn
    exact ⟨h0, (tw_allN Tok.digit l).1 h, fun q1 q2 => hn ⟨by omega, q2⟩⟩
theorem number_whole {s : ByteArray} (hs : s.size ≤ 281474976710656) (h : Whole (bytesOf s)) :
    tokens_Number.f s = if val 0 (bytesOf s) < 9223372036854775808 then some (((val 0 (bytesOf s) : Nat) : Int), 0) else some (0, 3) := by
  have h0 : 0 < s.size := by rw [← bytesOf_length]; exact h.1
  unfold tokens_Number.f
  rw [if_pos hs]
  unfold numberOf
  rw [if_pos ⟨h0, by rw [whole_len h, bytesOf_length]⟩, parseB h0 h.2.1]
  by_cases hv : val 0 (bytesOf s) < 9223372036854775808
  · rw [if_pos hv, if_pos hv]
  · rw [if_neg hv, if_neg hv]
theorem number_not {s : ByteArray} (hs : s.size ≤ 281474976710656) (h : ¬ Whole (bytesOf s)) : tokens_Number.f s = some (0, 5) := by
  unfold tokens_Number.f
  rw [if_pos hs]
  unfold numberOf
  rw [if_neg]
  rintro ⟨h0, h1⟩
  exact h (whole_of (by rw [bytesOf_length]; exact h0) (by rw [h1, bytesOf_length]))
/-- Number of whatever text that is not too long answers. -/
theorem number_some {s : ByteArray} (hs : s.size ≤ 281474976710656) : tokens_Number.f s ≠ none := by
  by_cases h : Whole (bytesOf s)
  · rw [number_whole hs h]; split <;> simp
  · rw [number_not hs h]; simp
end Go.Proofs.YtbdciibbgiphcaaDoor.V
