/- Plain facts about the tokens of a text. -/
import Derived.Test.YtgenhcanaoejkaaGreatDoorTok
namespace Go.Proofs.YtgenhcanaoejkaaGreatDoor.Tok
set_option linter.unusedVariables false
set_option linter.unusedSimpArgs false

/-- how many bytes a text begins with that are so. -/
def tw (f : Int → Bool) (l : List Int) : Nat := (l.takeWhile f).length
theorem tw_nil (f : Int → Bool) : tw f [] = 0 := rfl
theorem tw_yes {f : Int → Bool} {c : Int} (r : List Int) (h : f c = true) : tw f (c :: r) = tw f r + 1 := by simp [tw, List.takeWhile_cons, h]
theorem tw_no {f : Int → Bool} {c : Int} (r : List Int) (h : f c = false) : tw f (c :: r) = 0 := by simp [tw, List.takeWhile_cons, h]
theorem tw_le (f : Int → Bool) (l : List Int) : tw f l ≤ l.length := takeWhile_le f l
theorem tw_min (f : Int → Bool) : ∀ (a b : List Int), tw f a = min (tw f (a ++ b)) a.length
  | [], b => by simp [tw_nil]
  | c :: a, b => by
    have ih := tw_min f a b
    cases h : f c with
    | true => rw [List.cons_append, tw_yes _ h, tw_yes _ h, ih, List.length_cons]; omega
    | false => rw [List.cons_append, tw_no _ h, tw_no _ h]; omega
theorem tw_stop (f : Int → Bool) {d : Int} (hd : f d = false) : ∀ (a b : List Int), tw f (a ++ d :: b) = tw f a
  | [], b => by simp [tw_nil, tw_no _ hd]
  | c :: a, b => by
    have ih := tw_stop f hd a b
    cases h : f c with
    | true => rw [List.cons_append, tw_yes _ h, tw_yes _ h, ih]
    | false => rw [List.cons_append, tw_no _ h, tw_no _ h]
theorem tw_all (f : Int → Bool) : ∀ (l : List Int), tw f l = l.length ↔ ∀ c ∈ l, f c = true
  | [] => by simp [tw_nil]
  | c :: l => by
    have ih := tw_all f l
    cases h : f c with
    | true => rw [tw_yes _ h, List.length_cons]; simp [h, ← ih]
    | false => rw [tw_no _ h, List.length_cons]; simp [h]

theorem wordLen_cons (c : Int) (r : List Int) : wordLen (c :: r) = if letter c then 1 + tw inWord r else 0 := rfl
theorem numLen_eq (l : List Int) : numLen l = if 1 < tw digit l ∧ l.head? = some 48 then 0 else tw digit l := rfl
theorem digit_inWord {c : Int} (h : digit c = true) : inWord c = true := by simp [inWord, h]
theorem letter_inWord {c : Int} (h : letter c = true) : inWord c = true := by simp [inWord, h]
theorem letter_not_digit {c : Int} (h : letter c = true) : digit c = false := by
  simp only [letter, digit, Bool.or_eq_true, Bool.and_eq_true, decide_eq_true_eq, Bool.and_eq_false_iff, decide_eq_false_iff_not] at h ⊢
  omega

theorem int_beq_comm (a b : Int) : (a == b) = (b == a) := by rw [Bool.eq_iff_iff, beq_iff_eq, beq_iff_eq]; exact eq_comm
theorem two_cons (c d : Int) (r : List Int) : two (c :: d :: r) = ((c == 60 && d == 61) || ((c == 61 && d == 61) || ((c == 33 && d == 61) || (c == 45 && d == 62)))) := by
  simp only [two, List.any_cons, List.any_nil, List.isPrefixOf, Bool.or_false, Bool.and_true, Bool.or_assoc, int_beq_comm 60 c, int_beq_comm 61 d, int_beq_comm 61 c, int_beq_comm 33 c, int_beq_comm 45 c, int_beq_comm 62 d]
theorem two_one (c : Int) : two [c] = false := by simp [two, List.isPrefixOf]
theorem two_nil : two [] = false := rfl
/-- a sign: what may begin one. -/
theorem sign_first {c : Int} {r : List Int} (h : 0 < signLen (c :: r)) : letter c = false ∧ digit c = false ∧ blank c = false := by
  have : c = 33 ∨ signs.contains c = true := by
    unfold signLen at h
    split at h
    · rename_i ht
      cases r with
      | nil => rw [two_one] at ht; cases ht
      | cons d r =>
        rw [two_cons] at ht
        simp only [Bool.or_eq_true, Bool.and_eq_true, beq_iff_eq] at ht
        rcases ht with ⟨rfl, _⟩ | ⟨rfl, _⟩ | ⟨rfl, _⟩ | ⟨rfl, _⟩
        · exact .inr rfl
        · exact .inr rfl
        · exact .inl rfl
        · exact .inr rfl
    · simp only at h
      split at h
      · rename_i hs; exact .inr hs
      · omega
  rcases this with rfl | h
  · exact ⟨rfl, rfl, rfl⟩
  · simp only [signs, List.contains_cons, List.contains_nil, Bool.or_false, Bool.or_eq_true, beq_iff_eq] at h
    rcases h with rfl | rfl | rfl | rfl | rfl | rfl | rfl | rfl | rfl | rfl | rfl | rfl <;> exact ⟨rfl, rfl, rfl⟩

/-- comment ahead. -/
def dash (l : List Int) : Bool := [45, 45].isPrefixOf l
theorem dash_cons (c d : Int) (r : List Int) : dash (c :: d :: r) = (c == 45 && d == 45) := by
  simp only [dash, List.isPrefixOf, Bool.and_true, int_beq_comm 45 c, int_beq_comm 45 d]
theorem dash_one (c : Int) : dash [c] = false := by simp [dash, List.isPrefixOf]
theorem dash_nil : dash [] = false := rfl

theorem silent_nil : silentLen [] = 0 := rfl
theorem silent_eq (l : List Int) : silentLen l = if dash (l.drop (tw blank l)) then tw blank l + tw (fun c => c != 10) (l.drop (tw blank l)) else tw blank l := rfl
theorem silent_blank {c : Int} (r : List Int) (h : blank c = true) : silentLen (c :: r) = silentLen r + 1 := by
  rw [silent_eq, silent_eq, tw_yes _ h, List.drop_succ_cons]
  split <;> omega
theorem silent_dash (r : List Int) : silentLen (45 :: 45 :: r) = tw (fun c => c != 10) r + 2 := by
  have hb : blank 45 = false := rfl
  rw [silent_eq, tw_no _ hb, List.drop_zero, dash_cons, if_pos (by rfl), tw_yes _ (by rfl), tw_yes _ (by rfl)]
  omega
theorem silent_zero {c : Int} {r : List Int} (h : blank c = false) (hd : dash (c :: r) = false) : silentLen (c :: r) = 0 := by
  rw [silent_eq, tw_no _ h, List.drop_zero, hd]
  rfl
theorem silent_zero_iff (c : Int) (r : List Int) : silentLen (c :: r) = 0 ↔ blank c = false ∧ dash (c :: r) = false := by
  constructor
  · intro h
    cases hb : blank c with
    | true => rw [silent_blank _ hb] at h; omega
    | false =>
      refine ⟨rfl, ?_⟩
      cases hd : dash (c :: r) with
      | false => rfl
      | true =>
        rw [silent_eq, tw_no _ hb, List.drop_zero, hd, if_pos rfl] at h
        cases r with
        | nil => rw [dash_one] at hd; cases hd
        | cons d r =>
          rw [dash_cons, Bool.and_eq_true, beq_iff_eq, beq_iff_eq] at hd
          obtain ⟨rfl, rfl⟩ := hd
          rw [tw_yes _ (by rfl)] at h
          omega
  · exact fun ⟨h, hd⟩ => silent_zero h hd

/-- the tokens from a place on. -/
def R (l : List Int) (p : Nat) : Option (List T) × Nat := read l.length l p
theorem read_R (f : Nat) (l : List Int) (p : Nat) (h : l.length ≤ f) : read f l p = R l p := read_fuel _ _ _ _ h (Nat.le_refl _)
theorem R_nil (p : Nat) : R [] p = (some [], p) := rfl
theorem R_silent {c : Int} {r : List Int} (p : Nat) (h : 0 < silentLen (c :: r)) : R (c :: r) p = R ((c :: r).drop (silentLen (c :: r))) (p + silentLen (c :: r)) := by
  conv => lhs; unfold R
  rw [List.length_cons]
  unfold read
  rw [if_pos h, read_R]
  rw [List.length_drop, List.length_cons]; omega
theorem R_blank {c : Int} (r : List Int) (p : Nat) (h : blank c = true) : R (c :: r) p = R r (p + 1) := by
  have hs := silent_blank r h
  rw [R_silent p (by omega), hs, List.drop_succ_cons]
  by_cases h0 : 0 < silentLen r
  · cases r with
    | nil => rw [silent_nil] at h0; omega
    | cons d r => rw [R_silent (p + 1) h0]; congr 1; omega
  · have : silentLen r = 0 := by omega
    rw [this, List.drop_zero]
theorem R_dash (r : List Int) (p : Nat) : R (45 :: 45 :: r) p = R (r.drop (tw (fun c => c != 10) r)) (p + (tw (fun c => c != 10) r + 2)) := by
  have hs := silent_dash r
  rw [R_silent p (by omega), hs, List.drop_succ_cons, List.drop_succ_cons]
def put (t : T) : Option (List T) × Nat → Option (List T) × Nat
  | (some ts, q) => (some (t :: ts), q)
  | (none, q) => (none, q)
theorem R_head {c : Int} {r : List Int} (p : Nat) (hs : silentLen (c :: r) = 0) (hh : 0 < (head (c :: r)).2) :
    R (c :: r) p = put ⟨(head (c :: r)).1, (c :: r).take (head (c :: r)).2, p⟩ (R ((c :: r).drop (head (c :: r)).2) (p + (head (c :: r)).2)) := by
  conv => lhs; unfold R
  rw [List.length_cons]
  unfold read
  rw [if_neg (by omega), if_pos hh, read_R _ _ _ (by rw [List.length_drop, List.length_cons]; omega)]
  unfold put
  split <;> simp_all
theorem R_none {c : Int} {r : List Int} (p : Nat) (hs : silentLen (c :: r) = 0) (hh : (head (c :: r)).2 = 0) : R (c :: r) p = (none, p) := by
  conv => lhs; unfold R
  rw [List.length_cons]
  unfold read
  rw [if_neg (by omega), if_neg (by omega)]

/-- to read is to go on in one of five ways. -/
theorem R_cases (P : List Int → Prop) (nil : P []) (bl : ∀ c r, blank c = true → P r → P (c :: r)) (cm : ∀ r, P (r.drop (tw (fun c => c != 10) r)) → P (45 :: 45 :: r))
    (tk : ∀ c r, silentLen (c :: r) = 0 → 0 < (head (c :: r)).2 → P ((c :: r).drop (head (c :: r)).2) → P (c :: r)) (no : ∀ c r, silentLen (c :: r) = 0 → (head (c :: r)).2 = 0 → P (c :: r)) (l : List Int) : P l := by
  suffices h : ∀ n (l : List Int), l.length ≤ n → P l from h _ l (Nat.le_refl _)
  intro n
  induction n with
  | zero => intro l h; cases l with
    | nil => exact nil
    | cons c r => simp at h
  | succ n ih =>
    intro l h
    cases l with
    | nil => exact nil
    | cons c r =>
      rw [List.length_cons] at h
      by_cases h0 : silentLen (c :: r) = 0
      · by_cases h1 : 0 < (head (c :: r)).2
        · exact tk c r h0 h1 (ih _ (by rw [List.length_drop, List.length_cons]; omega))
        · exact no c r h0 (by omega)
      · cases hb : blank c with
        | true => exact bl c r hb (ih r (by omega))
        | false =>
          cases hd : dash (c :: r) with
          | false => exact absurd (silent_zero hb hd) h0
          | true =>
            cases r with
            | nil => rw [dash_one] at hd; cases hd
            | cons d r =>
              rw [dash_cons, Bool.and_eq_true, beq_iff_eq, beq_iff_eq] at hd
              obtain ⟨rfl, rfl⟩ := hd
              exact cm r (ih _ (by rw [List.length_drop]; rw [List.length_cons] at h; omega))

/-! ## What stands at the head, of a text that goes on, and of one that is cut. -/
def stopper (d : Int) : Bool := !inWord d && (d != 61 && (d != 62 && d != 45))
theorem head_stop {d : Int} (hd : stopper d = true) (c : Int) (a b : List Int) : head (c :: a ++ d :: b) = head (c :: a) := by
  simp only [stopper, Bool.and_eq_true, Bool.not_eq_true', bne_iff_ne] at hd
  obtain ⟨h1, h2, h3, h4⟩ := hd
  have hdig : digit d = false := by cases h : digit d with | false => rfl | true => rw [digit_inWord h] at h1; cases h1
  have e1 : wordLen (c :: a ++ d :: b) = wordLen (c :: a) := by rw [List.cons_append, wordLen_cons, wordLen_cons, tw_stop _ h1]
  have e2 : numLen (c :: a ++ d :: b) = numLen (c :: a) := by rw [numLen_eq, numLen_eq, tw_stop _ hdig]; rfl
  have e3 : signLen (c :: a ++ d :: b) = signLen (c :: a) := by
    have : two (c :: a ++ d :: b) = two (c :: a) := by
      cases a with
      | nil => rw [two_one, List.cons_append, List.nil_append, two_cons]; simp [h2, h3]
      | cons e a => rw [List.cons_append, List.cons_append, two_cons, two_cons]
    unfold signLen
    rw [this]
    rfl
  unfold head
  rw [e1, e2, e3]
theorem silent_stop {d : Int} (hd : stopper d = true) (c : Int) (a b : List Int) (h : silentLen (c :: a) = 0) : silentLen (c :: a ++ d :: b) = 0 := by
  simp only [stopper, Bool.and_eq_true, Bool.not_eq_true', bne_iff_ne] at hd
  obtain ⟨h1, h2, h3, h4⟩ := hd
  rw [silent_zero_iff] at h
  show silentLen (c :: (a ++ d :: b)) = 0
  refine silent_zero h.1 ?_
  cases a with
  | nil => rw [List.nil_append, dash_cons]; simp [h4]
  | cons e a => rw [List.cons_append, dash_cons, ← dash_cons c e a]; exact h.2
theorem head_cut (a b : List Int) (h0 : 0 < (head (a ++ b)).2) (h : (head (a ++ b)).2 ≤ a.length) : head a = head (a ++ b) := by
  cases a with
  | nil => exact absurd h (by simp only [List.length_nil]; omega)
  | cons c a =>
    have m1 := tw_min inWord a b
    have m2 := tw_min digit (c :: a) b
    have ew : wordLen (c :: a) = min (wordLen (c :: a ++ b)) (a.length + 1) := by
      rw [List.cons_append, wordLen_cons, wordLen_cons, m1]
      split <;> omega
    unfold head at h0 h ⊢
    rw [List.length_cons] at h m2
    by_cases hw : 0 < wordLen (c :: a ++ b)
    · rw [if_pos hw] at h h0 ⊢
      simp only at h
      have : wordLen (c :: a) = wordLen (c :: a ++ b) := by omega
      rw [if_pos (by omega), this]
    · rw [if_neg hw] at h h0 ⊢
      rw [if_neg (show ¬ 0 < wordLen (c :: a) by omega)]
      by_cases hn : 0 < numLen (c :: a ++ b)
      · rw [if_pos hn] at h h0 ⊢
        simp only at h
        have : numLen (c :: a) = numLen (c :: a ++ b) := by
          rw [numLen_eq] at hn h
          rw [numLen_eq, numLen_eq]
          split at hn
          · omega
          · rename_i hx
            rw [if_neg hx] at h
            have e : tw digit (c :: a) = tw digit (c :: a ++ b) := by omega
            rw [e, if_neg hx, if_neg (fun q => hx ⟨q.1, q.2⟩)]
        rw [if_pos (by omega), this]
      · rw [if_neg hn] at h h0 ⊢
        simp only at h h0
        obtain ⟨_, hd, _⟩ := sign_first h0
        rw [if_neg (show ¬ 0 < numLen (c :: a) by rw [numLen_eq, tw_no _ hd]; simp)]
        congr 1
        unfold signLen at h h0 ⊢
        cases a with
        | nil =>
          have ht : two (c :: [] ++ b) = false := by
            cases ht : two (c :: [] ++ b) with
            | false => rfl
            | true => rw [if_pos ht] at h; simp at h
          rw [ht, two_one]
          rfl
        | cons e a =>
          rw [List.cons_append, List.cons_append, two_cons, two_cons]
theorem silent_cut (c : Int) (a b : List Int) (h : silentLen (c :: a ++ b) = 0) : silentLen (c :: a) = 0 := by
  rw [List.cons_append, silent_zero_iff] at h
  refine silent_zero h.1 ?_
  cases a with
  | nil => rw [dash_one]
  | cons e a => rw [dash_cons]; have := h.2; rw [List.cons_append, dash_cons] at this; exact this
theorem head_pos_ne (l : List Int) (h : 0 < (head l).2) : ∃ c r, l = c :: r := by
  cases l with
  | nil => exact absurd h (by decide)
  | cons c r => exact ⟨c, r, rfl⟩

/-! ## Elsewhere. -/
def T.by (t : T) (k : Nat) : T := ⟨t.kind, t.text, t.pos + k⟩
theorem R_shift (k : Nat) (l : List Int) : ∀ p, R l (p + k) = ((R l p).1.map (List.map fun t => t.by k), (R l p).2 + k) := by
  induction l using R_cases with
  | nil => intro p; rfl
  | bl c r hb ih => intro p; rw [R_blank _ _ hb, R_blank _ _ hb, ← ih]; congr 1; omega
  | cm r ih => intro p; rw [R_dash, R_dash, ← ih]; congr 1; omega
  | no c r hs hh => intro p; rw [R_none _ hs hh, R_none _ hs hh]; rfl
  | tk c r hs hh ih =>
    intro p
    rw [R_head _ hs hh, R_head _ hs hh, show p + k + (head (c :: r)).2 = p + (head (c :: r)).2 + k by omega, ih]
    rcases R ((c :: r).drop (head (c :: r)).2) (p + (head (c :: r)).2) with ⟨_ | ts, q⟩
    · rfl
    · simp only [put, Option.map_some, List.map_cons, T.by]
      congr 3

/-! ## Two texts with a line's end between. -/
def both (x : Option (List T) × Nat) (y : Option (List T) × Nat) : Option (List T) × Nat :=
  match x with
  | (none, q) => (none, q)
  | (some ts, _) => match y with
    | (none, q) => (none, q)
    | (some us, q) => (some (ts ++ us), q)
theorem both_put (t : T) (x y : Option (List T) × Nat) : both (put t x) y = put t (both x y) := by
  rcases x with ⟨_ | ts, q⟩ <;> rcases y with ⟨_ | us, q2⟩ <;> rfl
theorem R_join (t : List Int) (s : List Int) : ∀ p, R (s ++ 10 :: t) p = both (R s p) (R t (p + s.length + 1)) := by
  have hst : stopper 10 = true := rfl
  induction s using R_cases with
  | nil =>
    intro p
    rw [List.nil_append, R_blank _ _ (by rfl), R_nil]
    simp only [List.length_nil, Nat.add_zero, both, List.nil_append]
    rcases R t (p + 1) with ⟨_ | ts, q⟩ <;> rfl
  | bl c r hb ih =>
    intro p
    rw [List.cons_append, R_blank _ _ hb, R_blank _ _ hb, ih, List.length_cons, show p + 1 + r.length + 1 = p + (r.length + 1) + 1 by omega]
  | cm r ih =>
    intro p
    have hl := tw_le (fun c => c != 10) r
    rw [List.cons_append, List.cons_append, R_dash, R_dash, tw_stop _ (by rfl), List.drop_append_of_le_length hl, ih, List.length_drop]
    congr 2
    simp only [List.length_cons]
    omega
  | no c r hs hh =>
    intro p
    have h1 := silent_stop hst c r t hs
    have h2 := head_stop hst c r t
    rw [List.cons_append] at h1 h2 ⊢
    rw [R_none _ hs hh, R_none _ h1 (by rw [h2]; exact hh)]
    rfl
  | tk c r hs hh ih =>
    intro p
    have h1 := silent_stop hst c r t hs
    have h2 := head_stop hst c r t
    have hl := head_le (c :: r)
    rw [List.cons_append] at h1 h2 ⊢
    rw [R_head _ hs hh, R_head _ h1 (by rw [h2]; exact hh), h2, both_put, ← List.cons_append, List.drop_append_of_le_length hl, ih, List.length_drop,
      List.take_append_of_le_length hl]
    congr 3
    omega

/-! ## Cut where a token begins. -/
theorem R_from (l : List Int) : ∀ p ts q, R l p = (some ts, q) → ∀ t ∈ ts, (p : Int) ≤ t.pos := by
  induction l using R_cases with
  | nil => intro p ts q h t ht; rw [R_nil] at h; injection h with h; injection h with h; subst h; cases ht
  | bl c r hb ih => intro p ts q h t ht; rw [R_blank _ _ hb] at h; have := ih _ _ _ h t ht; omega
  | cm r ih => intro p ts q h t ht; rw [R_dash] at h; have := ih _ _ _ h t ht; omega
  | no c r hs hh => intro p ts q h; rw [R_none _ hs hh] at h; injection h with h; cases h
  | tk c r hs hh ih =>
    intro p ts q h t ht
    rw [R_head _ hs hh] at h
    rcases hx : R ((c :: r).drop (head (c :: r)).2) (p + (head (c :: r)).2) with ⟨_ | us, q2⟩
    · rw [hx] at h; simp [put] at h
    · rw [hx] at h
      simp only [put, Prod.mk.injEq, Option.some.injEq] at h
      obtain ⟨rfl, rfl⟩ := h
      cases ht with
      | head => simp
      | tail _ ht => have := ih _ _ _ hx t ht; omega
theorem R_cut (l : List Int) : ∀ p ts q, R l p = (some ts, q) → ∀ (k : Nat) (t : T), ts[k]? = some t → ∃ q', R (l.take (t.pos.toNat - p)) p = (some (ts.take k), q') := by
  induction l using R_cases with
  | nil => intro p ts q h k t ht; rw [R_nil] at h; injection h with h; injection h with h; subst h; simp at ht
  | bl c r hb ih =>
    intro p ts q h k t ht
    rw [R_blank _ _ hb] at h
    have := R_from _ _ _ _ h t (List.mem_of_getElem? ht)
    obtain ⟨q', e⟩ := ih _ _ _ h k t ht
    refine ⟨q', ?_⟩
    rw [show t.pos.toNat - p = (t.pos.toNat - (p + 1)) + 1 by omega, List.take_succ_cons, R_blank _ _ hb, e]
  | cm r ih =>
    intro p ts q h k t ht
    rw [R_dash] at h
    have := R_from _ _ _ _ h t (List.mem_of_getElem? ht)
    obtain ⟨q', e⟩ := ih _ _ _ h k t ht
    refine ⟨q', ?_⟩
    generalize hn : tw (fun c => c != 10) r = n at *
    have hm : tw (fun c => c != 10) (r.take (t.pos.toNat - (p + 2))) = n := by
      have := tw_min (fun c => c != 10) (r.take (t.pos.toNat - (p + 2))) (r.drop (t.pos.toNat - (p + 2)))
      have hle := tw_le (fun c => c != 10) r
      rw [List.take_append_drop, hn, List.length_take] at this
      rw [hn] at hle
      rw [this]; omega
    rw [show t.pos.toNat - p = (t.pos.toNat - (p + 2)) + 1 + 1 by omega, List.take_succ_cons, List.take_succ_cons, R_dash, hm]
    rw [← e]
    congr 1
    rw [List.drop_take]
    congr 1
    omega
  | no c r hs hh => intro p ts q h; rw [R_none _ hs hh] at h; injection h with h; cases h
  | tk c r hs hh ih =>
    intro p ts q h k t ht
    rw [R_head _ hs hh] at h
    rcases hx : R ((c :: r).drop (head (c :: r)).2) (p + (head (c :: r)).2) with ⟨_ | us, q2⟩
    · rw [hx] at h; simp [put] at h
    · rw [hx] at h
      simp only [put, Prod.mk.injEq, Option.some.injEq] at h
      obtain ⟨rfl, rfl⟩ := h
      cases k with
      | zero =>
        simp only [List.getElem?_cons_zero, Option.some.injEq] at ht
        subst ht
        refine ⟨p, ?_⟩
        simp [R_nil]
      | succ k =>
        rw [List.getElem?_cons_succ] at ht
        have hb := R_from _ _ _ _ hx t (List.mem_of_getElem? ht)
        obtain ⟨q', e⟩ := ih _ _ _ hx k t ht
        refine ⟨q', ?_⟩
        have hm : (head (c :: r)).2 ≤ t.pos.toNat - p := by omega
        generalize hM : t.pos.toNat - p = M at *
        have hle := head_le (c :: r)
        have hM0 : 0 < M := by omega
        obtain ⟨M', rfl⟩ : ∃ M', M = M' + 1 := ⟨M - 1, by omega⟩
        have hsplit : (c :: r.take M') ++ r.drop M' = c :: r := by rw [List.cons_append, List.take_append_drop]
        have h1 : head (c :: r.take M') = head (c :: r) := by
          have := head_cut (c :: r.take M') (r.drop M') (by rw [hsplit]; exact hh) (by rw [hsplit]; simp only [List.length_cons, List.length_take] at hle ⊢; omega)
          rw [hsplit] at this
          exact this
        have h2 : silentLen (c :: r.take M') = 0 := silent_cut c _ (r.drop M') (by rw [hsplit]; exact hs)
        rw [List.take_succ_cons, R_head _ h2 (by rw [h1]; exact hh), h1]
        have e2 : (c :: r.take M').drop (head (c :: r)).2 = ((c :: r).drop (head (c :: r)).2).take (t.pos.toNat - (p + (head (c :: r)).2)) := by
          rw [← List.take_succ_cons, List.drop_take]
          congr 1
          omega
        have e3 : (c :: r.take M').take (head (c :: r)).2 = (c :: r).take (head (c :: r)).2 := by
          rw [← List.take_succ_cons, List.take_take]
          congr 1
          omega
        rw [e2, e3, e]
        rfl
end Go.Proofs.YtgenhcanaoejkaaGreatDoor.Tok
