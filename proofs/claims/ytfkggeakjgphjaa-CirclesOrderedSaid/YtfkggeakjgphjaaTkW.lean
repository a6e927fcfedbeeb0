/- tokens.run, ofWord: walks. Selected by wip/sel.py (ours) out of other texts. -/
import Derived.Test.YtfkggeakjgphjaaTok
import Derived.Test.YtfkggeakjgphjaaProg
import Derived.Test.YtfkggeakjgphjaaWMore
import Derived.Tactics
import Derived.Tactics2
import Derived.OwnWalk
import Derived.Laws.RangeString
import Derived.Laws.RangeAny
import Derived.LoopTactic
import Derived.WalkKit
import Derived.KernelRfl
import Derived.Lib.Hide
import Derived.Deep.DeepCutAuto
namespace Go.Proofs.Ytfkggeakjgphjaa
set_option linter.unusedVariables false
set_option linter.unusedSimpArgs false
set_option linter.unusedSectionVars false
open Go.RowKit
open Go.Proofs.YtfkggeakjgphjaaW.PrintWords
/-- how many bytes a text begins with that are so; i: where it begins. -/
def pre (p : Nat → Int → Bool) : List Int → Nat → Nat
  | [], _ => 0
  | c :: r, i => if p i c then 1 + pre p r (i + 1) else 0
theorem drop_bytes (s : ByteArray) (i : Nat) (h : i < s.size) : (bytesOf s).drop i = ((s[i]'h).toNat : Int) :: (bytesOf s).drop (i + 1) := by
  have hl : i < (bytesOf s).length := by rw [bytesOf_length]; exact h
  rw [List.drop_eq_getElem_cons hl]
  congr 1
  simp [bytesOf]
  rfl
theorem drop_end (s : ByteArray) (i : Nat) (h : ¬ i < s.size) : (bytesOf s).drop i = [] := List.drop_eq_nil_of_le (by rw [bytesOf_length]; omega)
def RunPost (p : Nat → Int → Bool) (s : ByteArray) (w : World) (e : Ending) (w' : World) : Prop := e = .returned (.int .i64 (pre p (bytesOf s) 0 : Nat)) ∧ Below w.heap.size w w'
theorem below_iter (w : World) (s : ByteArray) (pos : Nat) : Below w.heap.size w (w.iter s pos) := below_alloc (Below.refl _ _) _
set_option maxHeartbeats 2000000 in
set_option maxRecDepth 100000 in
theorem run33 (p : Nat → Int → Bool) (hp : ∀ (i : Nat) (c : Int) (w : World), 0 ≤ c → c ≤ 2147483647 → Calls Try.prog 68 #[.int .i64 i, .int .i32 c] w fun e w' => e = .returned (.bool (p i c)) ∧ w' = w)
    (hasc : ∀ (i : Nat) (c : Int), 128 ≤ c → p i c = false) (s : ByteArray) (w : World) (hs : s.size ≤ 9223372036854775806) :
    Calls Try.prog 67 #[.string s, .func (Fn.func 68) #[] #[]] w (RunPost p s w) := by
  go_enter Try.func67, Try.ntmps67
  go_wp2_with fail
  go_loopw [5, 6] (fun a b w' => ∃ (pos : Nat), w' = w.iter s pos ∧ pos ≤ s.size ∧ Hid (pos + pre p ((bytesOf s).drop pos) pos = pre p (bytesOf s) 0)) (fun _ _ w' => s.size - w'.iterPos w.heap.size)
  case atStart => exact ⟨0, rfl, Nat.zero_le _, Lib.hid (by simp)⟩
  case round =>
    obtain ⟨pos, rfl, hle, HP⟩ := hrel
    by_cases h : pos < s.size
    · have hnx : ∀ ty, (Instr.next (.pointer (some ⟨w.heap.size, 0, none⟩)) true ty).run Try.prog (w.iter s pos) = _ := fun ty => run_next_any w s pos ty h
      have HD := Lib.hid (drop_bytes s pos h)
      go_wp2_with fail
      refine (hp pos (Utf8.decode s pos).1 _ (by omega) (by have := decode_le s pos; omega)).mono ?_
      rintro _ _ ⟨rfl, rfl⟩
      by_cases ha : (s[pos]'h).toNat < 128
      · have hd := decode_ascii s pos h ha
        rw [hd]
        cases hb : p pos ((s[pos]'h).toNat : Int) with
        | true =>
          have HB := Lib.hid hb
          clear hb
          go_wp2_with fail
          refine ⟨⟨pos + 1, rfl, by omega, Lib.hid ?_⟩, by simp; omega⟩
          rw [← HP.out, HD.out]
          simp only [pre, HB.out, if_true]
          omega
        | false =>
          have HB := Lib.hid hb
          clear hb
          go_wp2_with fail
          go_ret
          refine ⟨?_, below_iter _ _ _⟩
          rw [← HP.out, HD.out]
          simp [pre, HB.out]
      · have hdh := (decode_high s pos h (by omega)).1
        have hb := hasc pos ((Utf8.decode s pos).1 : Int) (by omega)
        have hb2 := hasc pos ((s[pos]'h).toNat : Int) (by omega)
        rw [hb]
        have HB2 := Lib.hid hb2
        clear hb hb2
        go_wp2_with fail
        go_ret
        refine ⟨?_, below_iter _ _ _⟩
        rw [← HP.out, HD.out]
        simp [pre, HB2.out]
    · have hnx : ∀ ty, (Instr.next (.pointer (some ⟨w.heap.size, 0, none⟩)) true ty).run Try.prog (w.iter s pos) = _ := fun ty => run_next_end w s pos ty h
      have HD := Lib.hid (drop_end s pos h)
      have HPS : Hid (pos = s.size) := Lib.hid (by omega)
      go_wp2_with fail
      go_ret
      refine ⟨?_, below_iter _ _ _⟩
      rw [← HP.out, HD.out]
      simp [pre, HPS.out]
theorem letter_walk (c : Int) (w : World) : Calls Try.prog 69 #[.int .i32 c] w fun e w' => e = .returned (.bool (Tok.letter c)) ∧ w' = w := by
  go_enter Try.func69, Try.ntmps69
  go_wp2_with fail
  all_goals
    go_ret
    refine ⟨congrArg (fun b => Ending.returned (Value.bool b)) (?_ : _ = Tok.letter c), rfl⟩
    rw [Bool.eq_iff_iff]
    simp [Tok.letter]
    try omega
theorem digit_walk (c : Int) (w : World) : Calls Try.prog 70 #[.int .i32 c] w fun e w' => e = .returned (.bool (Tok.digit c)) ∧ w' = w := by
  go_enter Try.func70, Try.ntmps70
  go_wp2_with fail
  all_goals
    go_ret
    refine ⟨congrArg (fun b => Ending.returned (Value.bool b)) (?_ : _ = Tok.digit c), rfl⟩
    rw [Bool.eq_iff_iff]
    simp [Tok.digit]
    try omega
def wordP (i : Nat) (c : Int) : Bool := Tok.letter c || (decide (0 < i) && (Tok.digit c || c == 95))
theorem pred33 (i : Nat) (c : Int) (w : World) : Calls Try.prog 68 #[.int .i64 i, .int .i32 c] w fun e w' => e = .returned (.bool (wordP i c)) ∧ w' = w := by
  go_enter Try.func68, Try.ntmps68
  go_wp2_with fail
  refine (letter_walk c w).mono ?_
  rintro _ _ ⟨rfl, rfl⟩
  cases hl : Tok.letter c with
  | true =>
    have HL := Lib.hid hl
    clear hl
    go_wp2_with fail
    go_ret
    exact ⟨by simp [wordP, HL.out], rfl⟩
  | false =>
    have HL := Lib.hid hl
    clear hl
    by_cases h0 : 0 < i
    · go_wp2_with fail
      refine (digit_walk c _).mono ?_
      rintro _ _ ⟨rfl, rfl⟩
      cases hd : Tok.digit c with
      | true =>
        have HD := Lib.hid hd
        clear hd
        go_wp2_with fail
        go_ret
        exact ⟨by simp [wordP, HL.out, HD.out, h0], rfl⟩
      | false =>
        have HD := Lib.hid hd
        clear hd
        go_wp2_with fail
        go_ret
        exact ⟨by simp [wordP, HL.out, HD.out, h0], rfl⟩
    · go_wp2_with fail
      go_ret
      exact ⟨by simp [wordP, HL.out, h0], rfl⟩
theorem ofWord_walk (s : ByteArray) (w : World) (hs : s.size ≤ 9223372036854775806) : Calls Try.prog 58 #[.string s] w (RunPost wordP s w) := by
  go_enter Try.func58, Try.ntmps58
  go_wp2_with fail
  refine (run33 wordP (fun i c w _ _ => pred33 i c w) (fun i c h => by simp [wordP, Tok.letter, Tok.digit]; omega) s w hs).mono ?_
  rintro _ w1 ⟨rfl, b1⟩
  go_wp2_with fail
  go_ret
  exact ⟨rfl, b1⟩
theorem pre_word1 : ∀ (l : List Int) (i : Nat), 0 < i → pre wordP l i = (l.takeWhile Tok.inWord).length
  | [], _, _ => rfl
  | c :: r, i, h => by
    have e : wordP i c = Tok.inWord c := by simp [wordP, Tok.inWord, h]
    unfold pre
    rw [List.takeWhile_cons, pre_word1 r (i + 1) (by omega), e]
    split <;> simp <;> omega
theorem pre_word (l : List Int) : pre wordP l 0 = Tok.wordLen l := by
  cases l with
  | nil => rfl
  | cons c r =>
    have e : wordP 0 c = Tok.letter c := by simp [wordP]
    unfold pre
    rw [e, pre_word1 r 1 (by omega)]
    rfl
end Go.Proofs.Ytfkggeakjgphjaa
