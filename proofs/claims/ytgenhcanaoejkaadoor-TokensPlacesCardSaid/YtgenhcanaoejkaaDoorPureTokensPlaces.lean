/- TokensPlaces: what its printed function answers, in plain words. -/
import Derived.Test.YtgenhcanaoejkaaDoorSxP
import Derived.Test.YtgenhcanaoejkaaDoorPuT
import Derived.Test.YtgenhcanaoejkaaDoorTokR
namespace Go.Proofs.YtgenhcanaoejkaaDoor.Pure
set_option linter.unusedVariables false
set_option linter.unusedSimpArgs false
open Go.RowKit Go.Proofs.YtgenhcanaoejkaaDoor.S Go.Proofs.YtgenhcanaoejkaaDoorW.PrintWords Go.Proofs.YtgenhcanaoejkaaDoorW.PrintLast
theorem alive_eqP : belfrylaw04_alive.f = some true := rfl
theorem bt_cons (s : ByteArray) (i : Nat) (h : i < s.size) : (bytesOf s).drop i = bt s (i : Int) :: (bytesOf s).drop (i + 1) := by
  rw [drop_bytes s i h]
  congr 1
  unfold bt
  rw [dif_pos (by rw [Int.toNat_natCast]; exact h)]
  rfl
/-- the bytes between two tokens are blanks and comments: the round over them goes through. -/
theorem scan_l1 (s : ByteArray) (hs : s.size ≤ 65536) (l : List S32) (x4 x6 x7 : Int) (te : Nat) (hto : te ≤ s.size) : ∀ (n x k : Nat) (cm : Bool), x + n = te → n < k → Tok.scan n ((bytesOf s).drop x) cm = true →
    (∀ cm' : Bool, belfrylaw04_TokensPlaces.l1 (k - n) s l x4 x6 x7 (te : Int) cm' (te : Int) = some true) → belfrylaw04_TokensPlaces.l1 k s l x4 x6 x7 (te : Int) cm (x : Int) = some true
  | 0, x, k, cm, hx, hk, hsc, hend => by
    obtain rfl : x = te := by omega
    exact hend cm
  | n + 1, x, k, cm, hx, hk, hsc, hend => by
    obtain ⟨k, rfl⟩ : ∃ m, k = m + 1 := ⟨k - 1, by omega⟩
    have hlt : x < s.size := by omega
    have hw : wrap64 ((x : Int) + 1) = ((x + 1 : Nat) : Int) := by unfold wrap64; omega
    have hkk : k + 1 - (n + 1) = k - n := by omega
    rw [hkk] at hend
    have hb := bt_cons s x hlt
    rw [hb] at hsc
    have ih := fun cm' h => scan_l1 s hs l x4 x6 x7 te hto n (x + 1) k cm' (by omega) (by omega) h hend
    simp only [belfrylaw04_TokensPlaces.l1]
    rw [if_pos (by omega), if_pos (by omega), if_pos (by omega), hw]
    simp only [Tok.scan] at hsc
    by_cases h10 : bt s (x : Int) = 10
    · rw [if_pos h10] at hsc ⊢
      exact ih _ hsc
    · rw [if_neg h10] at hsc ⊢
      cases cm with
      | true =>
        rw [if_pos rfl]
        simp only [Bool.true_or, Bool.true_and] at hsc
        exact ih _ hsc
      | false =>
        rw [if_neg (by simp)]
        simp only [Bool.false_or, Bool.and_eq_true, Bool.or_eq_true, beq_iff_eq] at hsc
        obtain ⟨hcond, hsc⟩ := hsc
        by_cases hnx : x + 1 < s.size
        · have hb2 := bt_cons s (x + 1) hnx
          have hhd : ((bytesOf s).drop (x + 1)).head? = some (bt s ((x + 1 : Nat) : Int)) := by rw [hb2]; rfl
          rw [hhd] at hcond hsc
          rw [if_pos (by omega)]
          by_cases h45 : bt s (x : Int) = 45
          · rw [if_pos h45, if_pos (by omega)]
            by_cases h45b : bt s ((x + 1 : Nat) : Int) = 45
            · rw [if_pos h45b, h45b]
              rw [h45, h45b] at hsc
              exact ih _ hsc
            · exfalso
              rcases hcond with ⟨_, q⟩ | q
              · exact h45b (Option.some.inj q)
              · omega
          · rw [if_neg h45]
            have hf : (bt s (x : Int) == 45) = false := beq_eq_false_iff_ne.2 h45
            rw [hf, Bool.false_and] at hsc
            have hc2 : bt s (x : Int) = 32 ∨ bt s (x : Int) = 9 ∨ bt s (x : Int) = 13 := by
              rcases hcond with ⟨q, _⟩ | q
              · exact absurd q h45
              · exact q
            by_cases h32 : bt s (x : Int) = 32
            · rw [if_pos h32]; exact ih _ hsc
            · rw [if_neg h32]
              by_cases h9 : bt s (x : Int) = 9
              · rw [if_pos h9]; exact ih _ hsc
              · rw [if_neg h9, if_pos (by omega)]; exact ih _ hsc
        · have hhd : ((bytesOf s).drop (x + 1)).head? = none := by rw [List.drop_eq_nil_of_le (by rw [bytesOf_length]; omega)]; rfl
          rw [hhd] at hcond hsc
          rw [if_neg (by omega)]
          have hc2 : bt s (x : Int) = 32 ∨ bt s (x : Int) = 9 ∨ bt s (x : Int) = 13 := by
            rcases hcond with ⟨_, q⟩ | q
            · cases q
            · exact q
          have hf : ((bt s (x : Int) == 45) && ((Option.none : Option Int) == some 45)) = false := by simp
          rw [hf] at hsc
          by_cases h32 : bt s (x : Int) = 32
          · rw [if_pos h32]; exact ih _ hsc
          · rw [if_neg h32]
            by_cases h9 : bt s (x : Int) = 9
            · rw [if_pos h9]; exact ih _ hsc
            · rw [if_neg h9, if_pos (by omega)]; exact ih _ hsc
theorem places_l0 (s : ByteArray) (hs : s.size ≤ 65536) (l : List S32) (hl : l.length ≤ 65536) : ∀ (rest : List Tok.T) (pre : List S32) (p k : Nat), l = pre ++ rest.map toS → p ≤ s.size → Tok.Gap ((bytesOf s).drop p) p rest → (s.size - p) + 3 * rest.length + 8 ≤ k →
    belfrylaw04_TokensPlaces.l0 k s l 0 (p : Int) (pre.length : Int) = some true
  | [], pre, p, k, h, hp, hg, hk => by
    rw [List.map_nil, List.append_nil] at h
    subst h
    obtain ⟨k, rfl⟩ : ∃ m, k = m + 3 := ⟨k - 3, by omega⟩
    simp only [List.length_nil, Nat.mul_zero, Nat.add_zero] at hk
    have hg2 : Tok.scan ((bytesOf s).drop p).length ((bytesOf s).drop p) false = true := hg
    rw [List.length_drop, bytesOf_length] at hg2
    rw [show k + 3 = (k + 1 + 1) + 1 from rfl]
    simp only [belfrylaw04_TokensPlaces.l0, belfrylaw04_TokensPlaces.j2]
    rw [if_pos (by omega), if_neg (by omega)]
    refine scan_l1 s hs l 0 p l.length s.size (Nat.le_refl _) (s.size - p) p (k + 1) false (by omega) (by omega) hg2 ?_
    intro cm'
    have hw : wrap64 ((l.length : Int) + 1) = ((l.length + 1 : Nat) : Int) := by unfold wrap64; omega
    obtain ⟨m, hm⟩ : ∃ m, k + 1 - (s.size - p) = (m + 1) + 1 := ⟨k - 1 - (s.size - p), by omega⟩
    rw [hm]
    simp only [belfrylaw04_TokensPlaces.l1]
    rw [if_neg (by omega), if_neg (by omega), hw]
    simp only [belfrylaw04_TokensPlaces.l0]
    rw [if_neg (by omega)]
    rfl
  | t :: rest, pre, p, k, h, hp, hg, hk => by
    obtain ⟨j, g1, g2, g3, g4, g5, g6, g7, g8⟩ := hg
    obtain ⟨k, rfl⟩ : ∃ m, k = m + 3 := ⟨k - 3, by omega⟩
    rw [List.length_cons] at hk
    rw [List.length_drop, bytesOf_length] at g3
    have hlen : l.length = pre.length + (rest.length + 1) := by rw [h, List.length_append, List.length_map, List.length_cons]
    have hrd : rd_T32 l (pre.length : Int) = toS t := by
      unfold rd_T32
      rw [h, List.getD_eq_getElem?_getD, Int.toNat_natCast, List.getElem?_append_right (Nat.le_refl _), Nat.sub_self]
      rfl
    have hf0 : (toS t).f0 = t.kind := rfl
    have hf2 : (toS t).f2 = ((p + j : Nat) : Int) := g1
    have htx : (((bytesOf s).drop (p + j)).take t.text.length) = t.text := by rw [← List.drop_drop]; exact g4
    have hf1 : (toS t).f1 = s.extract (p + j) (p + j + t.text.length) := by
      show ofB t.text = _
      rw [← ofB_take, htx]
    have hsz1 : (s.extract (p + j) (p + j + t.text.length)).size = t.text.length := by
      have : bytesOf (s.extract (p + j) (p + j + t.text.length)) = ((bytesOf s).drop (p + j)).take t.text.length := by
        show ((s.extract (p + j) (p + j + t.text.length)).data.toList).map toI = ((s.data.toList.map toI).drop (p + j)).take _
        rw [Lib.extract_data, List.map_take, List.map_drop]
        congr 1
        omega
      rw [← bytesOf_length, this, htx]
    have hne : ¬ (s.extract (p + j) (p + j + t.text.length)).toList = [] := fun q => by
      rw [ByteArray.toList_eq] at q
      rw [← data_length, q] at hsz1
      simp at hsz1; omega
    have hw1 := Lib.hid (show wrap64 ((s.size : Int) - ((p + j : Nat) : Int)) = ((s.size - (p + j) : Nat) : Int) from by unfold wrap64; omega)
    have hw2 := Lib.hid (show wrap64 (((p + j : Nat) : Int) + (t.text.length : Int)) = ((p + j + t.text.length : Nat) : Int) from by unfold wrap64; omega)
    have hw3 := Lib.hid (show wrap64 ((pre.length : Int) + 1) = (((pre ++ [toS t]).length : Nat) : Int) from by
      rw [List.length_append]; simp only [List.length_cons, List.length_nil]; unfold wrap64; omega)
    rw [show k + 3 = (k + 1 + 1) + 1 from rfl]
    simp only [belfrylaw04_TokensPlaces.l0, belfrylaw04_TokensPlaces.j2]
    rw [if_pos (by omega), if_pos (by omega), if_pos (by omega), hrd, hf0, hf1, hf2, hsz1, hw1.out, hw2.out, if_neg (by omega), if_neg hne, if_neg (by omega), if_pos (by omega), if_pos (by omega), if_pos (by omega),
      Int.toNat_natCast, Int.toNat_natCast, if_pos rfl, if_neg (by omega), if_neg (by omega)]
    refine scan_l1 s hs l 0 p pre.length (p + j) (by omega) j p (k + 1) false rfl (by omega) g7 ?_
    intro cm'
    obtain ⟨m, hm⟩ : ∃ m, k + 1 - j = m + 1 := ⟨k - j, by omega⟩
    rw [hm]
    simp only [belfrylaw04_TokensPlaces.l1]
    rw [if_neg (by omega), if_pos (by omega), if_pos (by omega), hrd, hf1, hsz1, hw2.out, hw3.out]
    refine places_l0 s hs l hl rest (pre ++ [toS t]) (p + j + t.text.length) m (by rw [h]; simp) (by omega) ?_ (by omega)
    have := g8
    rw [List.drop_drop] at this
    rw [show p + j + t.text.length = p + (j + t.text.length) by omega]
    rw [show p + j + t.text.length = p + (j + t.text.length) by omega] at this
    exact this
theorem TokensPlaces : belfrylaw04_TokensPlaces.Pure := by
  intro s hs
  refine ⟨4 * s.size + 20, ?_⟩
  unfold belfrylaw04_TokensPlaces.f
  rw [alive_eqP, Option.bind_some, if_pos rfl]
  simp only [belfrylaw04_TokensPlaces.j0]
  by_cases hg : (s.size : Int) > 65536
  · rw [decide_eq_true hg, if_pos rfl]; rfl
  · rw [decide_eq_false hg, if_neg (by simp)]
    rcases hx : Tok.R (bytesOf s) 0 with ⟨_ | ts, q⟩
    · have hq := Tok.R_wrong _ _ _ hx
      rw [bytesOf_length] at hq
      rw [read_none (by omega) hx, Option.bind_some, if_neg (show ¬ ((5 : Int) = 0) by decide), if_pos rfl, if_pos (show (q : Int) ≥ 0 by omega), if_pos (show (q : Int) < (s.size : Int) by omega)]
      rfl
    · obtain ⟨u1, u2, u3⟩ := Tok.R_upto _ _ _ _ hx
      rw [bytesOf_length] at u1
      rw [read_some (by omega) hx, Option.bind_some, if_pos rfl]
      have hgap := Tok.R_gap _ _ _ _ hx
      exact places_l0 s (by omega) (ts.map toS) (by rw [List.length_map]; omega) ts [] 0 (4 * s.size + 19) rfl (Nat.zero_le _) (by rw [List.drop_zero]; exact hgap) (by omega)
end Go.Proofs.YtgenhcanaoejkaaDoor.Pure
