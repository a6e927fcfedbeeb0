/- What is written is read again: from bytes to tokens. Plain Lean. -/
import Derived.Test.YtbdciibbgiphcaaDoorRtP
namespace Go.Proofs.YtbdciibbgiphcaaDoor.V
set_option linter.unusedVariables false
set_option linter.unusedSimpArgs false
set_option linter.unusedSectionVars false
open Go.RowKit Go.Proofs.YtbdciibbgiphcaaDoorW.PrintWords Go.Proofs.YtbdciibbgiphcaaDoorW.PrintLast Go.Proofs.YtbdciibbgiphcaaDoorW.PrintMore
/-- nothing behind, or a blank, or a bracket. -/
def Sep (l : List Int) : Prop := l = [] ∨ ∃ c r, l = c :: r ∧ (c = 32 ∨ c = 41)
def tkOf (t : Tok.T) : Tk := (t.kind, ofB t.text)
/-- these bytes are these tokens, whatever stands behind. -/
def Lex (l : List Int) (ts : List Tk) : Prop := ∀ rest, Sep rest → ∀ p, ∃ us : List Tok.T, us.map tkOf = ts ∧ Tok.R (l ++ rest) p = us.foldr Tok.put (Tok.R rest (p + l.length))
theorem silent_no {c : Int} {r : List Int} (h1 : Tok.blank c = false) (h2 : Tok.dash (c :: r) = false) : Tok.silentLen (c :: r) = 0 := by
  rw [Tok.silent_eq, Tok.tw_no _ h1, List.drop_zero, h2]; rfl
theorem R_bl (l : List Int) (p : Nat) : Tok.R (32 :: l) p = Tok.R l (p + 1) := by
  by_cases h : 0 < Tok.silentLen (32 :: l)
  · have h2 : Tok.silentLen (32 :: l) = Tok.silentLen l + 1 := by
      rw [Tok.silent_eq, Tok.silent_eq, Tok.tw_yes _ (by decide), List.drop_succ_cons]
      split <;> omega
    rw [Tok.R_silent p h, h2, List.drop_succ_cons]
    by_cases h3 : 0 < Tok.silentLen l
    · cases l with
      | nil => rfl
      | cons c r =>
        rw [Tok.R_silent (p + 1) h3]
        congr 1
        omega
    · have h4 : Tok.silentLen l = 0 := by omega
      rw [h4]; rfl
  · exfalso
    apply h
    rw [Tok.silent_eq, Tok.tw_yes _ (by decide)]
    split <;> omega
/-- one token at the head. -/
theorem Lex.tok {c : Int} {r : List Int} {k : Int} (h : ∀ rest, Sep rest → Tok.silentLen (c :: r ++ rest) = 0 ∧ Tok.head (c :: r ++ rest) = (k, r.length + 1)) : Lex (c :: r) [(k, ofB (c :: r))] := by
  intro rest hr p
  obtain ⟨h1, h2⟩ := h rest hr
  refine ⟨[⟨k, c :: r, p⟩], rfl, ?_⟩
  have := Tok.R_head (c := c) (r := r ++ rest) p h1 (by rw [List.cons_append] at h2; rw [h2]; omega)
  rw [List.cons_append] at h2 ⊢
  rw [this, h2]
  simp only [List.foldr_cons, List.foldr_nil, List.take_succ_cons, List.drop_succ_cons, List.length_cons]
  rw [List.take_left, List.drop_left]
/-- a blank between. -/
theorem Lex.blank {l m : List Int} {ts us : List Tk} (h1 : Lex l ts) (h2 : Lex m us) : Lex (l ++ 32 :: m) (ts ++ us) := by
  intro rest hr p
  obtain ⟨x1, e1, r1⟩ := h1 (32 :: (m ++ rest)) (.inr ⟨32, _, rfl, .inl rfl⟩) p
  obtain ⟨x2, e2, r2⟩ := h2 rest hr (p + l.length + 1)
  refine ⟨x1 ++ x2, by rw [List.map_append, e1, e2], ?_⟩
  rw [List.append_assoc, List.cons_append, r1, R_bl, r2, List.foldr_append, List.length_append, List.length_cons]
  rw [show p + (l.length + (m.length + 1)) = p + l.length + 1 + m.length by omega]
theorem head_br {c : Int} (hc : c = 40 ∨ c = 41) (l : List Int) : Tok.silentLen (c :: l) = 0 ∧ Tok.head (c :: l) = (3, 1) := by
  have hd : Tok.dash (c :: l) = false := by
    unfold Tok.dash
    simp only [List.isPrefixOf]
    rcases hc with rfl | rfl <;> rfl
  have hw : Tok.wordLen (c :: l) = 0 := by rcases hc with rfl | rfl <;> rfl
  have hn : Tok.numLen (c :: l) = 0 := by
    have : Tok.tw Tok.digit (c :: l) = 0 := Tok.tw_no _ (by rcases hc with rfl | rfl <;> decide)
    show (if 1 < Tok.tw Tok.digit (c :: l) ∧ (c :: l).head? = some 48 then 0 else Tok.tw Tok.digit (c :: l)) = 0
    rw [this]; rfl
  have hs : Tok.signLen (c :: l) = 1 := by
    unfold Tok.signLen
    have ht : Tok.two (c :: l) = false := by
      unfold Tok.two
      simp only [List.any_cons, List.any_nil, List.isPrefixOf]
      rcases hc with rfl | rfl <;> rfl
    rw [ht]
    rcases hc with rfl | rfl <;> rfl
  refine ⟨silent_no (by rcases hc with rfl | rfl <;> decide) hd, ?_⟩
  unfold Tok.head
  rw [hw, hn, hs]
  rfl
theorem R_br {c : Int} (hc : c = 40 ∨ c = 41) (l : List Int) (p : Nat) : Tok.R (c :: l) p = Tok.put ⟨3, [c], p⟩ (Tok.R l (p + 1)) := by
  obtain ⟨h1, h2⟩ := head_br hc l
  rw [Tok.R_head p h1 (by rw [h2]; decide), h2]
  rfl
/-- in brackets. -/
theorem Lex.bracket {l : List Int} {ts : List Tk} (h : Lex l ts) : Lex (40 :: (l ++ [41])) ((3, opS) :: (ts ++ [(3, clS)])) := by
  intro rest hr p
  obtain ⟨x, e, r⟩ := h (41 :: rest) (.inr ⟨41, _, rfl, .inr rfl⟩) (p + 1)
  refine ⟨⟨3, [40], p⟩ :: (x ++ [⟨3, [41], ((p + 1 + l.length : Nat) : Int)⟩]), by rw [List.map_cons, List.map_append, e]; rfl, ?_⟩
  rw [List.cons_append, List.append_assoc, R_br (.inl rfl)]
  show Tok.put _ (Tok.R (l ++ 41 :: rest) (p + 1)) = _
  rw [r, R_br (.inr rfl), List.foldr_cons, List.foldr_append, List.foldr_cons, List.foldr_nil]
  have : p + (40 :: (l ++ [41])).length = p + 1 + l.length + 1 := by simp only [List.length_cons, List.length_append, List.length_nil]; omega
  rw [this]
/-- a word. -/
theorem Lex.word {c : Int} {r : List Int} (hc : Tok.letter c = true) (hr : Tok.tw Tok.inWord r = r.length) : Lex (c :: r) [(1, ofB (c :: r))] := by
  refine Lex.tok (fun rest hs => ?_)
  have ht : Tok.tw Tok.inWord (r ++ rest) = r.length := by
    unfold Tok.tw at hr ⊢
    have hrest : (rest.takeWhile Tok.inWord) = [] := by
      rcases hs with rfl | ⟨d, q, rfl, rfl | rfl⟩ <;> rfl
    rw [List.takeWhile_append, if_pos hr, hrest, List.append_nil]
  have hl : Tok.blank c = false ∧ c ≠ 45 := by
    unfold Tok.letter at hc
    unfold Tok.blank
    simp only [Bool.or_eq_true, Bool.and_eq_true, decide_eq_true_eq] at hc
    refine ⟨?_, by omega⟩
    simp only [Bool.or_eq_false_iff, beq_eq_false_iff_ne]
    omega
  have hd : Tok.dash (c :: (r ++ rest)) = false := by
    unfold Tok.dash
    simp only [List.isPrefixOf]
    have : ((45 : Int) == c) = false := by rw [beq_eq_false_iff_ne]; exact fun h => hl.2 h.symm
    rw [this]; rfl
  refine ⟨silent_no hl.1 hd, ?_⟩
  have hw : Tok.wordLen (c :: (r ++ rest)) = 1 + r.length := by
    show (if Tok.letter c then 1 + Tok.tw Tok.inWord (r ++ rest) else 0) = _
    rw [if_pos hc, ht]
  show Tok.head (c :: (r ++ rest)) = _
  unfold Tok.head
  rw [hw, if_pos (by omega)]
  exact Prod.ext rfl (by show 1 + r.length = r.length + 1; omega)
/-- an operator's text. -/
theorem Lex.op {f : S83} (hf : f ∈ pairsL) : Lex (bytesOf f.f3) [(f.f2, f.f3)] := by
  unfold pairsL at hf
  simp only [List.mem_cons, List.not_mem_nil, or_false] at hf
  rcases hf with rfl | rfl | rfl | rfl | rfl | rfl | rfl | rfl | rfl | rfl | rfl | rfl
  · exact (Lex.tok (k := 3) (fun rest hs => by rcases hs with rfl | ⟨d, q, rfl, rfl | rfl⟩ <;> exact ⟨rfl, rfl⟩) : Lex (45 :: [62]) [(3, ofB (45 :: [62]))])
  · exact (Lex.word (c := 111) (r := [114]) (by decide) rfl : Lex (111 :: [114]) [(1, ofB (111 :: [114]))])
  · exact (Lex.word (c := 97) (r := [110, 100]) (by decide) rfl : Lex (97 :: [110, 100]) [(1, ofB (97 :: [110, 100]))])
  · exact (Lex.tok (k := 3) (fun rest hs => by rcases hs with rfl | ⟨d, q, rfl, rfl | rfl⟩ <;> exact ⟨rfl, rfl⟩) : Lex (61 :: [61]) [(3, ofB (61 :: [61]))])
  · exact (Lex.tok (k := 3) (fun rest hs => by rcases hs with rfl | ⟨d, q, rfl, rfl | rfl⟩ <;> exact ⟨rfl, rfl⟩) : Lex (33 :: [61]) [(3, ofB (33 :: [61]))])
  · exact (Lex.tok (k := 3) (fun rest hs => by rcases hs with rfl | ⟨d, q, rfl, rfl | rfl⟩ <;> exact ⟨rfl, rfl⟩) : Lex (60 :: []) [(3, ofB (60 :: []))])
  · exact (Lex.tok (k := 3) (fun rest hs => by rcases hs with rfl | ⟨d, q, rfl, rfl | rfl⟩ <;> exact ⟨rfl, rfl⟩) : Lex (60 :: [61]) [(3, ofB (60 :: [61]))])
  · exact (Lex.tok (k := 3) (fun rest hs => by rcases hs with rfl | ⟨d, q, rfl, rfl | rfl⟩ <;> exact ⟨rfl, rfl⟩) : Lex (43 :: []) [(3, ofB (43 :: []))])
  · exact (Lex.tok (k := 3) (fun rest hs => by rcases hs with rfl | ⟨d, q, rfl, rfl | rfl⟩ <;> exact ⟨rfl, rfl⟩) : Lex (45 :: []) [(3, ofB (45 :: []))])
  · exact (Lex.tok (k := 3) (fun rest hs => by rcases hs with rfl | ⟨d, q, rfl, rfl | rfl⟩ <;> exact ⟨rfl, rfl⟩) : Lex (42 :: []) [(3, ofB (42 :: []))])
  · exact (Lex.tok (k := 3) (fun rest hs => by rcases hs with rfl | ⟨d, q, rfl, rfl | rfl⟩ <;> exact ⟨rfl, rfl⟩) : Lex (47 :: []) [(3, ofB (47 :: []))])
  · exact (Lex.tok (k := 3) (fun rest hs => by rcases hs with rfl | ⟨d, q, rfl, rfl | rfl⟩ <;> exact ⟨rfl, rfl⟩) : Lex (37 :: []) [(3, ofB (37 :: []))])
/-- the sign ahead of what does not begin with '-' or '>'. -/
theorem Lex.neg {c : Int} {r : List Int} {ts : List Tk} (h : Lex (c :: r) ts) (h1 : c ≠ 45) (h2 : c ≠ 62) : Lex (45 :: c :: r) ((3, ⟨#[45]⟩) :: ts) := by
  intro rest hr p
  obtain ⟨x, e, q⟩ := h rest hr (p + 1)
  refine ⟨⟨3, [45], p⟩ :: x, by rw [List.map_cons, e]; rfl, ?_⟩
  have b1 : ((45 : Int) == c) = false := by rw [beq_eq_false_iff_ne]; exact fun h => h1 h.symm
  have b2 : ((62 : Int) == c) = false := by rw [beq_eq_false_iff_ne]; exact fun h => h2 h.symm
  have hd : Tok.dash (45 :: (c :: r ++ rest)) = false := by
    unfold Tok.dash
    simp only [List.cons_append, List.isPrefixOf]
    rw [b1]; rfl
  have hh : Tok.head (45 :: (c :: r ++ rest)) = (3, 1) := by
    have ht : Tok.two (45 :: (c :: r ++ rest)) = false := by
      unfold Tok.two
      simp only [List.cons_append, List.any_cons, List.any_nil, List.isPrefixOf]
      rw [b2]; rfl
    have hs : Tok.signLen (45 :: (c :: r ++ rest)) = 1 := by
      unfold Tok.signLen
      rw [ht]; rfl
    have hn : Tok.numLen (45 :: (c :: r ++ rest)) = 0 := by
      have : Tok.tw Tok.digit (45 :: (c :: r ++ rest)) = 0 := Tok.tw_no _ (by decide)
      show (if 1 < Tok.tw Tok.digit (45 :: (c :: r ++ rest)) ∧ (45 :: (c :: r ++ rest)).head? = some 48 then 0 else Tok.tw Tok.digit (45 :: (c :: r ++ rest))) = 0
      rw [this]; rfl
    have hw : Tok.wordLen (45 :: (c :: r ++ rest)) = 0 := rfl
    unfold Tok.head
    rw [hw, hn, hs]
    rfl
  show Tok.R (45 :: (c :: r ++ rest)) p = _
  rw [Tok.R_head p (silent_no (by decide) hd) (by rw [hh]; decide), hh]
  show Tok.put _ (Tok.R (c :: r ++ rest) (p + 1)) = _
  rw [q, List.foldr_cons]
  have : p + (45 :: c :: r).length = p + 1 + (c :: r).length := by simp only [List.length_cons]; omega
  rw [this]
  rfl
theorem ofB_bytes (s : ByteArray) : ofB (bytesOf s) = s := by
  unfold ofB bytesOf
  apply ByteArray.ext
  rw [List.map_map]
  have : ((fun c : Int => UInt8.ofNat c.toNat) ∘ fun b : UInt8 => (b.toNat : Int)) = id := by
    funext b
    simp
  rw [this, List.map_id]
/-- a name. -/
theorem Lex.name {s : ByteArray} (h : nameOk s = true) : Lex (bytesOf s) [(1, s)] := by
  unfold nameOk at h
  simp only [Bool.and_eq_true, decide_eq_true_eq] at h
  obtain ⟨h0, _, h2, _⟩ := h
  have hb := ofB_bytes s
  have hl := bytesOf_length s
  generalize bytesOf s = l at *
  cases l with
  | nil => simp only [List.length_nil] at hl; omega
  | cons c r =>
    have hw : Tok.wordLen (c :: r) = if Tok.letter c then 1 + Tok.tw Tok.inWord r else 0 := rfl
    rw [hw] at h2
    by_cases hc : Tok.letter c = true
    · rw [if_pos hc] at h2
      have := Lex.word (c := c) (r := r) hc (by simp only [List.length_cons] at hl; omega)
      rw [hb] at this
      exact this
    · rw [if_neg hc] at h2; omega
/-- digits. -/
theorem Lex.num {s : ByteArray} (h0 : 0 < s.size) (h : Tok.numLen (bytesOf s) = s.size) : Lex (bytesOf s) [(2, s)] := by
  have hb := ofB_bytes s
  have hl := bytesOf_length s
  generalize bytesOf s = l at *
  cases l with
  | nil => simp only [List.length_nil] at hl; omega
  | cons c r =>
    have hn : ∀ m : List Int, Tok.numLen m = if 1 < Tok.tw Tok.digit m ∧ m.head? = some 48 then 0 else Tok.tw Tok.digit m := fun _ => rfl
    rw [hn] at h
    have hne : ¬ (1 < Tok.tw Tok.digit (c :: r) ∧ (c :: r).head? = some 48) := fun hh => by rw [if_pos hh] at h; omega
    rw [if_neg hne] at h
    have hdig : Tok.digit c = true := by
      cases hc : Tok.digit c with
      | true => rfl
      | false => rw [Tok.tw_no _ hc] at h; omega
    have htw : ∀ rest, Sep rest → Tok.tw Tok.digit (c :: r ++ rest) = (c :: r).length := by
      intro rest hs
      have h' : ((c :: r).takeWhile Tok.digit).length = (c :: r).length := by
        have : Tok.tw Tok.digit (c :: r) = ((c :: r).takeWhile Tok.digit).length := rfl
        rw [← this, h, ← hl]
      unfold Tok.tw
      have hrest : (rest.takeWhile Tok.digit) = [] := by
        rcases hs with rfl | ⟨d, q, rfl, rfl | rfl⟩ <;> rfl
      rw [List.takeWhile_append, if_pos h', hrest, List.append_nil]
    have := Lex.tok (c := c) (r := r) (k := 2) (fun rest hs => by
      have hl2 : Tok.blank c = false ∧ c ≠ 45 ∧ Tok.letter c = false := by
        unfold Tok.digit at hdig
        unfold Tok.blank Tok.letter
        simp only [Bool.and_eq_true, decide_eq_true_eq] at hdig
        refine ⟨?_, by omega, ?_⟩
        · simp only [Bool.or_eq_false_iff, beq_eq_false_iff_ne]; omega
        · simp only [Bool.or_eq_false_iff, Bool.and_eq_false_iff, decide_eq_false_iff_not]; omega
      have hd : Tok.dash (c :: (r ++ rest)) = false := by
        unfold Tok.dash
        simp only [List.isPrefixOf]
        have : ((45 : Int) == c) = false := by rw [beq_eq_false_iff_ne]; exact fun h => hl2.2.1 h.symm
        rw [this]; rfl
      refine ⟨silent_no hl2.1 hd, ?_⟩
      have hw : Tok.wordLen (c :: r ++ rest) = 0 := by
        show (if Tok.letter c then 1 + Tok.tw Tok.inWord (r ++ rest) else 0) = _
        rw [hl2.2.2]; rfl
      have hnl : Tok.numLen (c :: r ++ rest) = r.length + 1 := by
        rw [hn, htw rest hs, if_neg (fun hh => hne ⟨by rw [h, ← hl]; exact hh.1, hh.2⟩)]
        rfl
      unfold Tok.head
      rw [hw, hnl, if_neg (by omega), if_pos (by omega)])
    rw [hb] at this
    exact this
end Go.Proofs.YtbdciibbgiphcaaDoor.V
