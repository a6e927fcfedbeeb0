/- The tokens of a text, as the chapter tells them, in plain Lean: a text is a list of bytes. -/
namespace Go.Proofs.Ytfkggeakjgphjaa.Tok
set_option linter.unusedVariables false
set_option linter.unusedSimpArgs false

def letter (c : Int) : Bool := decide (97 ≤ c) && decide (c ≤ 122) || decide (65 ≤ c) && decide (c ≤ 90)
def digit (c : Int) : Bool := decide (48 ≤ c) && decide (c ≤ 57)
def inWord (c : Int) : Bool := letter c || (digit c || c == 95)
def blank (c : Int) : Bool := c == 32 || c == 9 || c == 10 || c == 13

/-- how many bytes of a word, a number, signs, of what says nothing, a text begins with. -/
def wordLen : List Int → Nat
  | [] => 0
  | c :: r => if letter c then 1 + (r.takeWhile inWord).length else 0
def numLen (l : List Int) : Nat :=
  let n := (l.takeWhile digit).length
  if 1 < n ∧ l.head? = some 48 then 0 else n
def two (l : List Int) : Bool := [[60, 61], [61, 61], [33, 61], [45, 62]].any fun x => x.isPrefixOf l
def signs : List Int := [40, 41, 58, 59, 44, 61, 43, 45, 42, 71, 37, 60]
def signLen (l : List Int) : Nat := if two l then 2 else match l with | [] => 0 | c :: _ => if signs.contains c then 1 else 0
def silentLen (l : List Int) : Nat :=
  let k := (l.takeWhile blank).length
  let rest := l.drop k
  if [45, 45].isPrefixOf rest then k + (rest.takeWhile fun c => c != 10).length else k

structure T where
  kind : Int
  text : List Int
  pos : Int

/-- what stands at the head: which kind, how many bytes (0: no token). -/
def head (l : List Int) : Int × Nat := if 0 < wordLen l then (1, wordLen l) else if 0 < numLen l then (2, numLen l) else (3, signLen l)

/-- the tokens from a place on, or the place of a wrong byte. -/
def read : Nat → List Int → Nat → Option (List T) × Nat
  | _, [], p => (some [], p)
  | 0, _ :: _, p => (none, p)
  | f + 1, c :: r, p =>
    if 0 < silentLen (c :: r) then read f ((c :: r).drop (silentLen (c :: r))) (p + silentLen (c :: r))
    else if 0 < (head (c :: r)).2 then
      match read f ((c :: r).drop (head (c :: r)).2) (p + (head (c :: r)).2) with
      | (some ts, q) => (some (⟨(head (c :: r)).1, (c :: r).take (head (c :: r)).2, p⟩ :: ts), q)
      | (none, q) => (none, q)
    else (none, p)

theorem takeWhile_le (f : Int → Bool) (l : List Int) : (l.takeWhile f).length ≤ l.length := (List.takeWhile_sublist f).length_le
theorem wordLen_le : ∀ l : List Int, wordLen l ≤ l.length
  | [] => by simp [wordLen]
  | c :: r => by
    have := takeWhile_le inWord r
    simp only [wordLen, List.length_cons]
    split <;> omega
theorem numLen_le (l : List Int) : numLen l ≤ l.length := by
  have := takeWhile_le digit l
  unfold numLen
  simp only
  split <;> omega
theorem two_len {l : List Int} (h : two l = true) : 2 ≤ l.length := by
  unfold two at h
  match l with
  | [] => simp at h
  | [a] => simp [List.isPrefixOf] at h
  | _ :: _ :: r => simp
theorem signLen_le (l : List Int) : signLen l ≤ l.length := by
  unfold signLen
  split
  · rename_i h; exact two_len h
  · cases l with
    | nil => simp
    | cons c r => simp only; split <;> simp
theorem silentLen_le (l : List Int) : silentLen l ≤ l.length := by
  have h1 := takeWhile_le blank l
  have h2 := takeWhile_le (fun c => c != 10) (l.drop (l.takeWhile blank).length)
  rw [List.length_drop] at h2
  unfold silentLen
  simp only
  split <;> omega
theorem head_le (l : List Int) : (head l).2 ≤ l.length := by
  unfold head
  have := wordLen_le l; have := numLen_le l; have := signLen_le l
  split
  · assumption
  · split <;> assumption
theorem head_kind (l : List Int) : 1 ≤ (head l).1 ∧ (head l).1 ≤ 3 := by
  unfold head
  split
  · simp
  · split <;> simp

/-- rounds enough: as many as bytes. -/
theorem read_fuel : ∀ (f g : Nat) (l : List Int) (p : Nat), l.length ≤ f → l.length ≤ g → read f l p = read g l p
  | f, g, [], p, _, _ => by cases f <;> cases g <;> rfl
  | 0, g, c :: r, p, h, _ => absurd h (by simp)
  | f + 1, 0, c :: r, p, _, h => absurd h (by simp)
  | f + 1, g + 1, c :: r, p, hf, hg => by
    simp only [List.length_cons] at hf hg
    unfold read
    have h1 := silentLen_le (c :: r)
    have h2 := head_le (c :: r)
    by_cases hs : 0 < silentLen (c :: r)
    · rw [if_pos hs, if_pos hs]
      exact read_fuel f g _ _ (by rw [List.length_drop]; simp; omega) (by rw [List.length_drop]; simp; omega)
    · rw [if_neg hs, if_neg hs]
      by_cases ht : 0 < (head (c :: r)).2
      · rw [if_pos ht, if_pos ht, read_fuel f g ((c :: r).drop (head (c :: r)).2) _ (by rw [List.length_drop]; simp; omega) (by rw [List.length_drop]; simp; omega)]
      · rw [if_neg ht, if_neg ht]

/-- the tokens of a text. -/
def toks (l : List Int) : Option (List T) × Nat := read l.length l 0
end Go.Proofs.Ytfkggeakjgphjaa.Tok
