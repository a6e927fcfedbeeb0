/- Plain facts about the tokens of a text: gaps, blanks, words. -/
import Derived.Test.YtgenhcanaoejkaaGreatDoorTokP
namespace Go.Proofs.YtgenhcanaoejkaaGreatDoor.Tok
set_option linter.unusedVariables false
set_option linter.unusedSimpArgs false

/-! ## Tokens with a blank between each two. -/
def Ok (t : T) : Prop := silentLen t.text = 0 ∧ head t.text = (t.kind, t.text.length) ∧ 0 < t.text.length
theorem Ok_head {c : Int} {r : List Int} (p : Nat) (hs : silentLen (c :: r) = 0) (hh : 0 < (head (c :: r)).2) : Ok ⟨(head (c :: r)).1, (c :: r).take (head (c :: r)).2, p⟩ := by
  have hle := head_le (c :: r)
  obtain ⟨n, hn⟩ : ∃ n, (head (c :: r)).2 = n + 1 := ⟨(head (c :: r)).2 - 1, by omega⟩
  have hsplit : (c :: r.take n) ++ r.drop n = c :: r := by rw [List.cons_append, List.take_append_drop]
  have hlen : (c :: r.take n).length = n + 1 := by
    simp only [List.length_cons, List.length_take] at hle ⊢; omega
  have h1 : head (c :: r.take n) = head (c :: r) := by
    have := head_cut (c :: r.take n) (r.drop n) (by rw [hsplit]; exact hh) (by rw [hsplit, hlen]; omega)
    rw [hsplit] at this
    exact this
  have h2 : silentLen (c :: r.take n) = 0 := silent_cut c _ (r.drop n) (by rw [hsplit]; exact hs)
  refine ⟨?_, ?_, ?_⟩
  · show silentLen ((c :: r).take (head (c :: r)).2) = 0
    rw [hn, List.take_succ_cons]; exact h2
  · show head ((c :: r).take (head (c :: r)).2) = ((head (c :: r)).1, ((c :: r).take (head (c :: r)).2).length)
    rw [hn, List.take_succ_cons, h1, hlen, ← hn]
  · show 0 < ((c :: r).take (head (c :: r)).2).length
    rw [hn, List.take_succ_cons, hlen]; omega
theorem R_ok (l : List Int) : ∀ p ts q, R l p = (some ts, q) → ∀ t ∈ ts, Ok t := by
  induction l using R_cases with
  | nil => intro p ts q h t ht; rw [R_nil] at h; injection h with h; injection h with h; subst h; cases ht
  | bl c r hb ih => intro p ts q h t ht; rw [R_blank _ _ hb] at h; exact ih _ _ _ h t ht
  | cm r ih => intro p ts q h t ht; rw [R_dash] at h; exact ih _ _ _ h t ht
  | no c r hs hh => intro p ts q h; rw [R_none _ hs hh] at h; injection h with h; cases h
  | tk c r hs hh ih =>
    intro p ts q h t ht
    rw [R_head _ hs hh] at h
    rcases hx : R ((c :: r).drop (head (c :: r)).2) (p + (head (c :: r)).2) with ⟨_ | us, q2⟩
    · rw [hx] at h; simp [put] at h
    · rw [hx] at h
      simp only [put, Prod.mk.injEq, Option.some.injEq] at h
      obtain ⟨rfl, rfl⟩ := h
      cases ht with
      | head => exact Ok_head p hs hh
      | tail _ ht => exact ih _ _ _ hx t ht

def blanks : List (List Int) := [[32], [9], [10], [13], [32, 45, 45, 32, 120, 10]]
theorem R_bl {bl : List Int} (h : bl ∈ blanks) (l : List Int) (p : Nat) : R (bl ++ l) p = R l (p + bl.length) := by
  simp only [blanks, List.mem_cons, List.not_mem_nil, or_false] at h
  rcases h with rfl | rfl | rfl | rfl | rfl
  · exact R_blank _ _ rfl
  · exact R_blank _ _ rfl
  · exact R_blank _ _ rfl
  · exact R_blank _ _ rfl
  · show R (32 :: 45 :: 45 :: 32 :: 120 :: 10 :: l) p = _
    have e : tw (fun c => c != 10) (32 :: 120 :: 10 :: l) = 2 := by rw [tw_yes _ (by rfl), tw_yes _ (by rfl), tw_no _ (by rfl)]
    rw [R_blank _ _ (by rfl), R_dash, e]
    show R (10 :: l) _ = _
    rw [R_blank _ _ (by rfl)]
    rfl
theorem bl_first {bl : List Int} (h : bl ∈ blanks) : ∃ d r, bl = d :: r ∧ stopper d = true := by
  simp only [blanks, List.mem_cons, List.not_mem_nil, or_false] at h
  rcases h with rfl | rfl | rfl | rfl | rfl <;> exact ⟨_, _, rfl, rfl⟩
theorem R_step {t : T} (ht : Ok t) {bl : List Int} (h : bl ∈ blanks) (l : List Int) (p : Nat) : R (t.text ++ (bl ++ l)) p = put ⟨t.kind, t.text, p⟩ (R l (p + t.text.length + bl.length)) := by
  obtain ⟨h1, h2, h3⟩ := ht
  obtain ⟨c, a, hc⟩ : ∃ c a, t.text = c :: a := by
    cases hx : t.text with
    | nil => rw [hx] at h3; cases h3
    | cons c a => exact ⟨c, a, rfl⟩
  obtain ⟨d, b, hb, hst⟩ := bl_first h
  rw [hc] at h1 h2 ⊢
  have e1 := silent_stop hst c a (b ++ l) h1
  have e2 := head_stop hst c a (b ++ l)
  have e : c :: a ++ (bl ++ l) = c :: (a ++ d :: (b ++ l)) := by rw [hb]; simp
  rw [List.cons_append] at e1 e2
  rw [e, R_head _ e1 (by rw [e2, h2]; simp), e2, h2]
  simp only
  have e3 : (c :: (a ++ d :: (b ++ l))).take (c :: a).length = c :: a := by rw [← List.cons_append, List.take_left]
  have e4 : (c :: (a ++ d :: (b ++ l))).drop (c :: a).length = bl ++ l := by rw [← List.cons_append, List.drop_left, hb]; rfl
  rw [e3, e4, R_bl h]
def flat (bl : List Int) : List T → List Int
  | [] => []
  | t :: ts => t.text ++ (bl ++ flat bl ts)
def place (bl : List Int) : Nat → List T → List T
  | _, [] => []
  | p, t :: ts => ⟨t.kind, t.text, p⟩ :: place bl (p + t.text.length + bl.length) ts
theorem R_flat {bl : List Int} (h : bl ∈ blanks) : ∀ (ts : List T), (∀ t ∈ ts, Ok t) → ∀ p, ∃ q, R (flat bl ts) p = (some (place bl p ts), q)
  | [], _, p => ⟨p, rfl⟩
  | t :: ts, hok, p => by
    obtain ⟨q, e⟩ := R_flat h ts (fun x hx => hok x (List.mem_cons_of_mem _ hx)) (p + t.text.length + bl.length)
    refine ⟨q, ?_⟩
    show R (t.text ++ (bl ++ flat bl ts)) p = _
    rw [R_step (hok t List.mem_cons_self) h, e]
    rfl

/-! ## What stands between. -/
def scan : Nat → List Int → Bool → Bool
  | 0, _, _ => true
  | _ + 1, [], _ => true
  | n + 1, c :: r, cm => if c = 10 then scan n r false else ((cm || (c == 45 && r.head? == some 45)) || (c == 32 || (c == 9 || c == 13))) && scan n r (cm || (c == 45 && r.head? == some 45))
theorem scan_blank {c : Int} (n : Nat) (r : List Int) (h : blank c = true) : scan (n + 1) (c :: r) false = scan n r false := by
  simp only [blank, Bool.or_eq_true, beq_iff_eq] at h
  rcases h with ((rfl | rfl) | rfl) | rfl <;> simp [scan]
theorem scan_end (m : Nat) (r : List Int) : scan m (r.drop (tw (fun c => c != 10) r)) true = scan m (r.drop (tw (fun c => c != 10) r)) false := by
  induction r with
  | nil => cases m <;> rfl
  | cons c r ih =>
    by_cases h : c = 10
    · subst h
      rw [tw_no _ (by rfl), List.drop_zero]
      cases m <;> simp [scan]
    · rw [tw_yes _ (by simp [h]), List.drop_succ_cons]; exact ih
theorem scan_comment (m : Nat) (r : List Int) : scan (m + tw (fun c => c != 10) r) r true = scan m (r.drop (tw (fun c => c != 10) r)) true := by
  induction r with
  | nil => rfl
  | cons c r ih =>
    by_cases h : c = 10
    · subst h
      rw [tw_no _ (by rfl), List.drop_zero]; rfl
    · rw [tw_yes _ (by simp [h]), List.drop_succ_cons, ← ih, ← Nat.add_assoc]
      simp [scan, h]
theorem scan_dash (m : Nat) (r : List Int) : scan (m + (tw (fun c => c != 10) r + 2)) (45 :: 45 :: r) false = scan m (r.drop (tw (fun c => c != 10) r)) false := by
  rw [← scan_end, ← scan_comment, ← Nat.add_assoc]
  simp [scan]
def Gap (l : List Int) (p : Nat) : List T → Prop
  | [] => scan l.length l false = true
  | t :: ts => ∃ k : Nat, t.pos = (p + k : Nat) ∧ 0 < t.text.length ∧ k + t.text.length ≤ l.length ∧ (l.drop k).take t.text.length = t.text ∧ 1 ≤ t.kind ∧ t.kind ≤ 3 ∧ scan k l false = true ∧ Gap (l.drop (k + t.text.length)) (p + k + t.text.length) ts
theorem R_gap (l : List Int) : ∀ p ts q, R l p = (some ts, q) → Gap l p ts := by
  induction l using R_cases with
  | nil => intro p ts q h; rw [R_nil] at h; injection h with h; injection h with h; subst h; rfl
  | bl c r hb ih =>
    intro p ts q h
    rw [R_blank _ _ hb] at h
    have := ih _ _ _ h
    cases ts with
    | nil => show scan _ _ _ = _; rw [List.length_cons, scan_blank _ _ hb]; exact this
    | cons t ts =>
      obtain ⟨k, h1, h2, h3, h4, h5, h6, h7, h8⟩ := this
      refine ⟨k + 1, by rw [h1]; congr 1; omega, h2, by rw [List.length_cons]; omega, by rw [List.drop_succ_cons]; exact h4, h5, h6, by rw [scan_blank _ _ hb]; exact h7, ?_⟩
      rw [show k + 1 + t.text.length = k + t.text.length + 1 by omega, List.drop_succ_cons, show p + (k + 1) + t.text.length = p + 1 + k + t.text.length by omega]
      exact h8
  | cm r ih =>
    intro p ts q h
    rw [R_dash] at h
    have := ih _ _ _ h
    have hle := tw_le (fun c => c != 10) r
    cases ts with
    | nil =>
      show scan _ _ _ = _
      have h9 : scan _ _ _ = _ := this
      rw [← scan_dash, List.length_drop] at h9
      rw [show (45 :: 45 :: r).length = r.length - tw (fun c => c != 10) r + (tw (fun c => c != 10) r + 2) by simp only [List.length_cons]; omega]
      exact h9
    | cons t ts =>
      obtain ⟨k, h1, h2, h3, h4, h5, h6, h7, h8⟩ := this
      rw [List.length_drop] at h3
      have e : ∀ j, (45 :: 45 :: r).drop (j + (tw (fun c => c != 10) r + 2)) = (r.drop (tw (fun c => c != 10) r)).drop j := by
        intro j
        rw [List.drop_drop, show j + (tw (fun c => c != 10) r + 2) = (tw (fun c => c != 10) r + j) + 1 + 1 by omega, List.drop_succ_cons, List.drop_succ_cons]
      refine ⟨k + (tw (fun c => c != 10) r + 2), by rw [h1]; congr 1; omega, h2, by simp only [List.length_cons]; omega, by rw [e]; exact h4, h5, h6, by rw [scan_dash]; exact h7, ?_⟩
      rw [show k + (tw (fun c => c != 10) r + 2) + t.text.length = k + t.text.length + (tw (fun c => c != 10) r + 2) by omega, e,
        show p + (k + (tw (fun c => c != 10) r + 2)) + t.text.length = p + (tw (fun c => c != 10) r + 2) + k + t.text.length by omega]
      exact h8
  | no c r hs hh => intro p ts q h; rw [R_none _ hs hh] at h; injection h with h; cases h
  | tk c r hs hh ih =>
    intro p ts q h
    rw [R_head _ hs hh] at h
    rcases hx : R ((c :: r).drop (head (c :: r)).2) (p + (head (c :: r)).2) with ⟨_ | us, q2⟩
    · rw [hx] at h; simp [put] at h
    · rw [hx] at h
      simp only [put, Prod.mk.injEq, Option.some.injEq] at h
      obtain ⟨rfl, rfl⟩ := h
      have hle := head_le (c :: r)
      have hk := head_kind (c :: r)
      have hl : ((c :: r).take (head (c :: r)).2).length = (head (c :: r)).2 := by rw [List.length_take]; omega
      refine ⟨0, rfl, ?_, ?_, ?_, hk.1, hk.2, rfl, ?_⟩
      · show 0 < ((c :: r).take (head (c :: r)).2).length; omega
      · show 0 + ((c :: r).take (head (c :: r)).2).length ≤ _; omega
      · show ((c :: r).drop 0).take ((c :: r).take (head (c :: r)).2).length = (c :: r).take (head (c :: r)).2
        rw [hl, List.drop_zero]
      · show Gap ((c :: r).drop (0 + ((c :: r).take (head (c :: r)).2).length)) (p + 0 + ((c :: r).take (head (c :: r)).2).length) us
        rw [hl, Nat.zero_add, Nat.add_zero]
        exact ih _ _ _ hx
theorem R_wrong (l : List Int) : ∀ p q, R l p = (none, q) → p ≤ q ∧ q < p + l.length := by
  induction l using R_cases with
  | nil => intro p q h; rw [R_nil] at h; injection h with h; cases h
  | bl c r hb ih => intro p q h; rw [R_blank _ _ hb] at h; have := ih _ _ h; rw [List.length_cons]; omega
  | cm r ih =>
    intro p q h; rw [R_dash] at h
    have := ih _ _ h
    rw [List.length_drop] at this
    simp only [List.length_cons]; omega
  | no c r hs hh => intro p q h; rw [R_none _ hs hh] at h; injection h with _ h; subst h; simp
  | tk c r hs hh ih =>
    intro p q h
    rw [R_head _ hs hh] at h
    rcases hx : R ((c :: r).drop (head (c :: r)).2) (p + (head (c :: r)).2) with ⟨_ | us, q2⟩
    · rw [hx] at h
      simp only [put, Prod.mk.injEq, true_and] at h
      subst h
      have := ih _ _ hx
      rw [List.length_drop] at this
      omega
    · rw [hx] at h; simp [put] at h

/-! ## A word; a number. -/
theorem R_whole {c : Int} {r : List Int} {k : Int} (p : Nat) (hs : silentLen (c :: r) = 0) (hh : head (c :: r) = (k, (c :: r).length)) : R (c :: r) p = (some [⟨k, c :: r, p⟩], p + (c :: r).length) := by
  rw [R_head _ hs (by rw [hh]; simp), hh]
  simp only [List.drop_length, List.take_length, R_nil, put]
theorem word_silent {c : Int} (r : List Int) (h : letter c = true) : silentLen (c :: r) = 0 := by
  have hb : blank c = false := by
    cases hb : blank c with
    | false => rfl
    | true =>
      simp only [blank, Bool.or_eq_true, beq_iff_eq] at hb
      rcases hb with ((rfl | rfl) | rfl) | rfl <;> revert h <;> decide
  refine silent_zero hb ?_
  cases r with
  | nil => rw [dash_one]
  | cons d r =>
    rw [dash_cons]
    by_cases hc : c = 45
    · subst hc; exact absurd h (by decide)
    · simp [hc]
theorem wordLen_pos {l : List Int} (h : 0 < wordLen l) : ∃ c r, l = c :: r ∧ letter c = true := by
  cases l with
  | nil => cases h
  | cons c r =>
    rw [wordLen_cons] at h
    split at h
    · rename_i hc; exact ⟨c, r, rfl, hc⟩
    · cases h
theorem R_word {l : List Int} (p : Nat) (h0 : 0 < l.length) (h : wordLen l = l.length) : R l p = (some [⟨1, l, p⟩], p + l.length) := by
  obtain ⟨c, r, rfl, hc⟩ := wordLen_pos (show 0 < wordLen l by omega)
  exact R_whole p (word_silent r hc) (by unfold head; rw [if_pos (by omega), h])
theorem wordLen_more {l : List Int} (h0 : 0 < l.length) (h : wordLen l = l.length) (c : Int) : wordLen (l ++ [c]) = if inWord c then l.length + 1 else l.length := by
  obtain ⟨d, r, rfl, hd⟩ := wordLen_pos (show 0 < wordLen l by omega)
  rw [wordLen_cons, if_pos hd, List.length_cons] at h
  have hr : tw inWord r = r.length := by omega
  have hx : tw inWord (r ++ [c]) = if inWord c then r.length + 1 else r.length := by
    cases hc : inWord c with
    | true =>
      have := (tw_all inWord (r ++ [c])).2 (by intro x hx; rw [List.mem_append] at hx; rcases hx with hx | hx; exact (tw_all inWord r).1 hr x hx; simp at hx; rw [hx]; exact hc)
      rw [this]; simp
    | false => rw [tw_stop _ hc, hr]; rfl
  rw [List.cons_append, wordLen_cons, if_pos hd, hx, List.length_cons]
  split <;> omega
theorem R_word_more {l : List Int} (p : Nat) (h0 : 0 < l.length) (h : wordLen l = l.length) (c : Int) (hc : inWord c = false) :
    (R (l ++ [c]) p).1 = none ∨ ∃ ts, (R (l ++ [c]) p).1 = some (⟨1, l, p⟩ :: ts) := by
  obtain ⟨d, r, rfl, hd⟩ := wordLen_pos (show 0 < wordLen l by omega)
  have hm := wordLen_more h0 h c
  rw [if_neg (by rw [hc]; simp)] at hm
  have hh : head (d :: r ++ [c]) = (1, (d :: r).length) := by unfold head; rw [if_pos (by rw [hm]; exact h0), hm]
  have hs : silentLen (d :: (r ++ [c])) = 0 := word_silent _ hd
  rw [List.cons_append] at hh ⊢
  rw [R_head _ hs (by rw [hh]; exact h0), hh]
  simp only
  have e3 : (d :: (r ++ [c])).take (d :: r).length = d :: r := by rw [← List.cons_append, List.take_left]
  rw [e3]
  rcases R ((d :: (r ++ [c])).drop (d :: r).length) (p + (d :: r).length) with ⟨_ | us, q2⟩
  · exact .inl rfl
  · exact .inr ⟨us, rfl⟩
theorem digit_not_letter {c : Int} (h : digit c = true) : letter c = false := by
  cases hl : letter c with
  | false => rfl
  | true => rw [letter_not_digit hl] at h; cases h
theorem number_silent {c : Int} (r : List Int) (h : digit c = true) : silentLen (c :: r) = 0 := by
  have hb : blank c = false := by
    cases hb : blank c with
    | false => rfl
    | true =>
      simp only [blank, Bool.or_eq_true, beq_iff_eq] at hb
      rcases hb with ((rfl | rfl) | rfl) | rfl <;> revert h <;> decide
  refine silent_zero hb ?_
  cases r with
  | nil => rw [dash_one]
  | cons d r =>
    rw [dash_cons]
    by_cases hc : c = 45
    · subst hc; exact absurd h (by decide)
    · simp [hc]
theorem R_number {l : List Int} (p : Nat) (h0 : 0 < l.length) (h : numLen l = l.length) : R l p = (some [⟨2, l, p⟩], p + l.length) := by
  cases l with
  | nil => cases h0
  | cons c r =>
    have hd : digit c = true := by
      cases hd : digit c with
      | true => rfl
      | false => rw [numLen_eq, tw_no _ hd] at h; simp at h
    have hw : wordLen (c :: r) = 0 := by rw [wordLen_cons, digit_not_letter hd]; rfl
    exact R_whole p (number_silent r hd) (by unfold head; rw [if_neg (by omega), if_pos (by omega), h])
theorem numLen_nought {l : List Int} (h0 : 0 < l.length) (h : ∀ c ∈ l, digit c = true) : numLen (48 :: l) = 0 := by
  have : tw digit (48 :: l) = l.length + 1 := by rw [tw_yes _ (by rfl), (tw_all digit l).2 h]
  rw [numLen_eq, this, if_pos ⟨by omega, rfl⟩]
theorem R_nought {l : List Int} (p : Nat) (h0 : 0 < l.length) (h : ∀ c ∈ l, digit c = true) : R (32 :: 48 :: l) p = (none, p + 1) := by
  rw [R_blank _ _ (by rfl), R_none _ (number_silent l (by rfl))]
  have hw : wordLen (48 :: l) = 0 := rfl
  have hs : signLen (48 :: l) = 0 := by
    cases hs : signLen (48 :: l) with
    | zero => rfl
    | succ n => have := (sign_first (c := 48) (r := l) (by omega)).2.1; cases this
  unfold head
  rw [if_neg (by omega), if_neg (by rw [numLen_nought h0 h]; omega), hs]
end Go.Proofs.YtgenhcanaoejkaaGreatDoor.Tok
