/- Plain facts for the laws of the tokens: strings as bytes, what Read answers, rows of tokens compared. -/
import Derived.Test.YtgenhcanaoejkaaDoorSx2
namespace Go.Proofs.YtgenhcanaoejkaaDoor.Pure
set_option linter.unusedVariables false
set_option linter.unusedSimpArgs false
open Go.RowKit Go.Proofs.YtgenhcanaoejkaaDoor.S Go.Proofs.YtgenhcanaoejkaaDoorW.PrintWords Go.Proofs.YtgenhcanaoejkaaDoorW.PrintLast
theorem bytesOf_append (a b : ByteArray) : bytesOf (a ++ b) = bytesOf a ++ bytesOf b := by
  unfold bytesOf
  have : (a ++ b).data.toList = a.data.toList ++ b.data.toList := by
    rw [ByteArray.data_append, Array.toList_append]
  rw [this, List.map_append]
theorem ofB_bytes (s : ByteArray) : ofB (bytesOf s) = s := by
  have := ofB_take s 0 s.size
  rw [List.drop_zero, List.take_of_length_le (by rw [bytesOf_length]; exact Nat.le_refl _)] at this
  rw [this]
  apply ByteArray.ext
  have h := Lib.extract_data s 0 (0 + s.size)
  rw [List.drop_zero, List.take_of_length_le (by rw [data_length]; omega)] at h
  exact Array.toList_inj.1 h
theorem bytesOf_inj {a b : ByteArray} (h : bytesOf a = bytesOf b) : a = b := by rw [← ofB_bytes a, ← ofB_bytes b, h]
theorem toList_inj {a b : ByteArray} (h : a.toList = b.toList) : a = b := by
  rw [ByteArray.toList_eq, ByteArray.toList_eq] at h
  exact ByteArray.ext (Array.toList_inj.1 h)
theorem bytesOf_byte {c : Int} (h0 : 0 ≤ c) (h1 : c ≤ 255) : bytesOf (strOfNums [c]) = [c] := by
  show [((UInt8.ofNat c.toNat).toNat : Int)] = [c]
  have h2 : (UInt8.ofNat c.toNat).toNat = c.toNat % 256 := UInt8.toNat_ofNat'
  rw [h2]
  congr 1
  omega
theorem size_byte (c : Int) : (strOfNums [c]).size = 1 := rfl
theorem size_append (a b : ByteArray) : (a ++ b).size = a.size + b.size := by
  rw [← bytesOf_length, bytesOf_append, List.length_append, bytesOf_length, bytesOf_length]
theorem wf_u8 {c : Int} (h : (Lit.int .u8 c).wf = true) : 0 ≤ c ∧ c ≤ 255 := by
  have := h
  simp [Lit.wf, IntKind.min, IntKind.max, IntKind.bits, IntKind.signed] at this
  omega
theorem read_some {s : ByteArray} {ts : List Tok.T} {q : Nat} (hs : s.size ≤ 65536) (h : Tok.R (bytesOf s) 0 = (some ts, q)) : tokens_Read.f s = some (ts.map toS, 0, 0) := by
  unfold tokens_Read.f
  rw [if_pos hs, h]
  rfl
theorem read_none {s : ByteArray} {q : Nat} (hs : s.size ≤ 65536) (h : Tok.R (bytesOf s) 0 = (none, q)) : tokens_Read.f s = some ([], (q : Int), 5) := by
  unfold tokens_Read.f
  rw [if_pos hs, h]
  rfl
/-- rows of tokens that are the same are told to be. -/
theorem same_l0 (l : List S32) (hl : l.length ≤ 1000000) : ∀ (d k i : Nat), i + d = l.length → d < k → belfrylaw01_SameTokens.l0 k l l (i : Int) = some true
  | 0, k, i, hi, hk => by
    obtain ⟨k, rfl⟩ : ∃ m, k = m + 1 := ⟨k - 1, by omega⟩
    simp only [belfrylaw01_SameTokens.l0]
    rw [if_neg (by omega)]
  | d + 1, k, i, hi, hk => by
    obtain ⟨k, rfl⟩ : ∃ m, k = m + 1 := ⟨k - 1, by omega⟩
    have ih := same_l0 l hl d k (i + 1) (by omega) (by omega)
    have hw : wrap64 ((i : Int) + 1) = ((i + 1 : Nat) : Int) := by unfold wrap64; omega
    simp only [belfrylaw01_SameTokens.l0]
    rw [if_pos (by omega), if_pos (by omega), if_pos (by omega), hw, ih]
    simp
theorem same_f (l : List S32) (hl : l.length ≤ 1000000) (k : Nat) (hk : l.length < k) : belfrylaw01_SameTokens.f k l l = some true := by
  unfold belfrylaw01_SameTokens.f
  rw [if_pos rfl]
  exact same_l0 l hl l.length k 0 (by omega) hk
end Go.Proofs.YtgenhcanaoejkaaDoor.Pure
