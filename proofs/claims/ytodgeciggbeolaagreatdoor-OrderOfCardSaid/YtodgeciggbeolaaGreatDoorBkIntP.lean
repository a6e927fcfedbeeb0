/- Book, lists of one kind: lists are kept, one after the other. Printed by bookone.py (ours). -/
import Derived.Test.YtodgeciggbeolaaGreatDoorBkIntW
namespace Go.Proofs.YtodgeciggbeolaaGreatDoor.B
set_option linter.unusedVariables false
set_option linter.unusedSimpArgs false
set_option linter.unusedSectionVars false
open Go.RowKit Go.Proofs.YtodgeciggbeolaaGreatDoorW.PrintWords Go.Proofs.YtodgeciggbeolaaGreatDoorW.PrintLast Go.Proofs.YtodgeciggbeolaaGreatDoorW.PrintMore
open Go.Proofs.YtodgeciggbeolaaGreatDoor.S
/-- lists with their numbers. -/
def numb : Nat → List (Value × Nat) → List Lst
  | _, [] => []
  | k, x :: r => (x.1, x.2, k + 1) :: numb (k + 1) r
theorem numb_len : ∀ (xs : List (Value × Nat)) (k : Nat), (numb k xs).length = xs.length
  | [], _ => rfl
  | x :: r, k => by simp only [numb, List.length_cons]; rw [numb_len r]
theorem numb_snoc : ∀ (xs : List (Value × Nat)) (k : Nat) (x : Value × Nat), numb k (xs ++ [x]) = numb k xs ++ [(x.1, x.2, k + xs.length + 1)]
  | [], k, x => by simp [numb]
  | y :: r, k, x => by
    simp only [numb, List.cons_append, List.length_cons]
    rw [numb_snoc r, show k + 1 + r.length + 1 = k + (r.length + 1) + 1 by omega]
theorem numb_get : ∀ (xs : List (Value × Nat)) (k i : Nat) (y : Lst), (numb k xs)[i]? = some y → ∃ x, xs[i]? = some x ∧ y = (x.1, x.2, k + i + 1)
  | [], k, i, y, h => by simp [numb] at h
  | x :: r, k, 0, y, h => by
    simp only [numb, List.getElem?_cons_zero, Option.some.injEq] at h
    exact ⟨x, rfl, by rw [← h]⟩
  | x :: r, k, i + 1, y, h => by
    simp only [numb, List.getElem?_cons_succ] at h
    obtain ⟨z, h1, h2⟩ := numb_get r (k + 1) i y h
    exact ⟨z, h1, by rw [h2]; congr 2; omega⟩
/-- w: the world when the Book was made; wr: now that the lists xs are kept. -/
structure Kp (w wr : World) (base kb : Nat) (xs : List (Value × Nat)) : Prop where
  bel : Below base w wr
  fr : ∀ q, q < w.heap.size → q ≠ kb → wr.heap[q]? = w.heap[q]?
  bk : ∃ bc tv, Bk wr base kb 49 75 2 bc xs.length tv (rowsOf (numb 0 xs)) ∧ (∀ q, tv.ownBlock = some q → w.heap.size ≤ q) ∧ ∀ j, 1 ≤ j → j < 18 → j ≠ 2 → bc[j]? = some (.slice none 0 0)
def noLists : Array Value := #[.int .i64 0, .slice none 0 0, .slice none 0 0, .slice none 0 0, .slice none 0 0, .slice none 0 0, .slice none 0 0, .slice none 0 0, .slice none 0 0, .slice none 0 0, .slice none 0 0, .slice none 0 0, .slice none 0 0, .slice none 0 0, .slice none 0 0, .slice none 0 0, .slice none 0 0, .slice none 0 0]
theorem noLists_get : ∀ j, 1 ≤ j → j < 18 → noLists[j]? = some (.slice none 0 0) := by
  intro j h1 h2
  match j, h1, h2 with
  | 1, _, _ => rfl | 2, _, _ => rfl | 3, _, _ => rfl | 4, _, _ => rfl | 5, _, _ => rfl | 6, _, _ => rfl | 7, _, _ => rfl | 8, _, _ => rfl | 9, _, _ => rfl
  | 10, _, _ => rfl | 11, _, _ => rfl | 12, _, _ => rfl | 13, _, _ => rfl | 14, _, _ => rfl | 15, _, _ => rfl | 16, _, _ => rfl | 17, _, _ => rfl
  | n + 18, _, h => omega
theorem Kp.start {w : World} {base kb : Nat} (h : w.heap[kb]? = some (.cells noLists 49 (0, 0))) (hb : base ≤ kb) : Kp w w base kb [] :=
  ⟨Below.refl _ _, fun _ _ _ => rfl, noLists, .slice none 0 0, ⟨h, rfl, rfl, hb, ⟨rfl, .inl ⟨rfl, rfl⟩⟩, by simp [Value.ownBlock]⟩, fun q hq => by simp [Value.ownBlock] at hq, fun j h1 h2 _ => noLists_get j h1 h2⟩
theorem Kp.keep {w wr : World} {base kb : Nat} {xs : List (Value × Nat)} (h : Kp w wr base kb xs) (hN : xs.length < 1000) (A : Option Addr) (n c : Nat) :
    Calls Tryz.prog 23 #[.pointer (some ⟨kb, 0, none⟩), .slice A n c] wr (fun e w' => e = .returned (.tuple #[]) ∧ Kp w w' base kb (xs ++ [(.slice A n c, n)])) := by
  obtain ⟨bc, tv, hbk, htv, hnil⟩ := h.bk
  have hrl : (rowsOf (numb 0 xs)).length ≤ 1000000 := by rw [rowsOf_len, numb_len]; omega
  refine (keep_Int base kb xs.length bc tv _ A n c wr hbk (by omega) hrl).mono ?_
  rintro e w' ⟨rfl, hb, tv', hbk', hkept, hat⟩
  have hs := h.bel.size
  refine ⟨rfl, h.bel.trans hb, fun q hq hne => ?_, (bump bc xs.length).setIfInBounds 2 tv', tv', ?_, ?_, ?_⟩
  · rw [hkept.2 q (by omega) hne (fun e => by have := htv q e.symm; omega)]
    exact h.fr q hq hne
  · have e1 : rowsOf (numb 0 xs) ++ [(Value.slice A n c, nilV, xs.length + 1)] = rowsOf (numb 0 (xs ++ [(Value.slice A n c, n)])) := by
      rw [numb_snoc]
      simp [rowsOf]
    rw [← e1, List.length_append, List.length_singleton]
    exact hbk'
  · intro q hq
    rcases hat with e | ⟨b, e, hb⟩
    · rw [e] at hq; exact htv q hq
    · rw [e] at hq; injection hq with hq; omega
  · intro j h1 h2 h3
    rw [Array.getElem?_setIfInBounds_ne (by omega)]
    unfold bump
    rw [Array.getElem?_setIfInBounds_ne (by omega)]
    exact hnil j h1 h2 h3
set_option maxHeartbeats 8000000 in
set_option maxRecDepth 100000 in
theorem Kp.wrap {w wr : World} {base kb : Nat} {xs : List (Value × Nat)} (h : Kp w wr base kb xs) (hN : xs.length < 1000) (A : Option Addr) (n c : Nat) :
    Calls Tryz.prog 11 #[.pointer (some ⟨kb, 0, none⟩), .slice A n c] wr (fun e w' => e = .returned (.tuple #[]) ∧ Kp w w' base kb (xs ++ [(.slice A n c, n)])) := by
  have H := Lib.hid h
  clear h
  go_enter Tryz.func11, Tryz.ntmps11
  go_wp2_with fail
  refine (H.out.keep hN A n c).mono ?_
  rintro e w2 ⟨rfl, hp⟩
  have HP := Lib.hid hp
  clear hp
  go_wp2_with fail
  go_end0
  exact ⟨rfl, HP.out⟩
end Go.Proofs.YtodgeciggbeolaaGreatDoor.B
