/- Book, lists of two kinds: kept one after the other. Printed by mktwo.py (ours). -/
import Derived.Test.YtbdciibbgiphcaaGreatDoorBkExprL
import Derived.Test.YtbdciibbgiphcaaGreatDoorBkRefL
import Derived.Test.YtbdciibbgiphcaaGreatDoorBkE
namespace Go.Proofs.YtbdciibbgiphcaaGreatDoor.B
set_option linter.unusedVariables false
set_option linter.unusedSimpArgs false
set_option linter.unusedSectionVars false
open Go.RowKit Go.Proofs.YtbdciibbgiphcaaGreatDoorW.PrintWords Go.Proofs.YtbdciibbgiphcaaGreatDoorW.PrintLast Go.Proofs.YtbdciibbgiphcaaGreatDoorW.PrintMore
open Go.Proofs.YtbdciibbgiphcaaGreatDoor.V (VarT mk)
def noLists : Array Value := #[.int .i64 0, .slice none 0 0, .slice none 0 0, .slice none 0 0, .slice none 0 0, .slice none 0 0, .slice none 0 0, .slice none 0 0, .slice none 0 0, .slice none 0 0, .slice none 0 0, .slice none 0 0, .slice none 0 0, .slice none 0 0, .slice none 0 0, .slice none 0 0, .slice none 0 0, .slice none 0 0]
theorem noLists_get : ∀ j, 1 ≤ j → j < 18 → noLists[j]? = some (.slice none 0 0) := by
  intro j h1 h2
  match j, h1, h2 with
  | 1, _, _ => rfl | 2, _, _ => rfl | 3, _, _ => rfl | 4, _, _ => rfl | 5, _, _ => rfl | 6, _, _ => rfl | 7, _, _ => rfl | 8, _, _ => rfl | 9, _, _ => rfl | 10, _, _ => rfl | 11, _, _ => rfl | 12, _, _ => rfl | 13, _, _ => rfl | 14, _, _ => rfl | 15, _, _ => rfl | 16, _, _ => rfl | 17, _, _ => rfl
  | n + 18, _, h => omega
/-- other blocks than these of one kind are as they were: the other kind's row too. -/
theorem Bk.other {w wr : World} {base kb T held f N : Nat} {bc bc' : Array Value} {N' : Nat} {tv : Value} {rows : List (Value × Value × Nat)} (h : Bk w base kb T held f bc N tv rows) (hb : wr.heap[kb]? = some (.cells bc' T (0, 0))) (h0 : bc'[0]? = some (.int .i64 N')) (hf : bc'[f]? = bc[f]?) (hk : ∀ q, tv.ownBlock = some q → wr.heap[q]? = w.heap[q]?) : Bk wr base kb T held f bc' N' tv rows :=
  ⟨hb, h0, hf.trans h.nf, h.hkb, own_kept h.tok hk, h.ne⟩
/-- w: the world when the Book was made; wr: now that lists are kept: es of trees' parts, rs of refs. -/
structure Kp (w wr : World) (base kb : Nat) (es rs : List Lst) (N : Nat) : Prop where
  bel : Below base w wr
  fr : ∀ q, q < w.heap.size → q ≠ kb → wr.heap[q]? = w.heap[q]?
  bk : ∃ bc tvE tvR, Bk wr base kb 50 132 14 bc N tvE (rowsOf es) ∧ Bk wr base kb 50 66 7 bc N tvR (rowsOf rs) ∧ (∀ q, tvE.ownBlock = some q → w.heap.size ≤ q) ∧ (∀ q, tvR.ownBlock = some q → w.heap.size ≤ q) ∧ (∀ q, tvE.ownBlock = some q → tvR.ownBlock ≠ some q) ∧ ∀ j, 1 ≤ j → j < 18 → j ≠ 14 → j ≠ 7 → bc[j]? = some (.slice none 0 0)
theorem Kp.start {w : World} {base kb : Nat} (h : w.heap[kb]? = some (.cells noLists 50 (0, 0))) (hb : base ≤ kb) : Kp w w base kb [] [] 0 :=
  ⟨Below.refl _ _, fun _ _ _ => rfl, noLists, .slice none 0 0, .slice none 0 0, ⟨h, rfl, rfl, hb, ⟨rfl, .inl ⟨rfl, rfl⟩⟩, by simp [Value.ownBlock]⟩, ⟨h, rfl, rfl, hb, ⟨rfl, .inl ⟨rfl, rfl⟩⟩, by simp [Value.ownBlock]⟩, fun q hq => by simp [Value.ownBlock] at hq, fun q hq => by simp [Value.ownBlock] at hq, fun q hq => by simp [Value.ownBlock] at hq, fun j h1 h2 _ _ => noLists_get j h1 h2⟩
theorem Kp.keepExpr {w wr : World} {base kb : Nat} {es rs : List Lst} {N : Nat} (h : Kp w wr base kb es rs N) (hN : N < 3000000) (hl : es.length ≤ 3000000) (A : Option Addr) (n c : Nat) :
    Calls Tryz.prog 71 #[.pointer (some ⟨kb, 0, none⟩), .slice A n c] wr (fun e w' => e = .returned (.tuple #[]) ∧ Kp w w' base kb (es ++ [(.slice A n c, n, N + 1)]) rs (N + 1)) := by
  obtain ⟨bc, tvE, tvR, hbE, hbR, htE, htR, hne, hnil⟩ := h.bk
  refine (keep_Expr base kb N bc tvE _ A n c wr hbE hN (by rw [rowsOf_len]; omega)).mono ?_
  rintro e w' ⟨rfl, hb, tv', hbk', hkept, hat⟩
  have hs := h.bel.size
  have h0 : 0 < bc.size := (Array.getElem?_eq_some_iff.1 hbE.n0).1
  have hget : ∀ j, 1 ≤ j → j ≠ 14 → ((bump bc N).setIfInBounds 14 tv')[j]? = bc[j]? := fun j h1 h2 => by
    rw [Array.getElem?_setIfInBounds_ne (by omega)]
    unfold bump
    rw [Array.getElem?_setIfInBounds_ne (by omega)]
  have hoth : ∀ q, tvR.ownBlock = some q → w'.heap[q]? = wr.heap[q]? := fun q hq =>
    hkept.2 q (own_lt hbR.tok q hq) (fun e => hbR.ne (by rw [hq, e])) (fun e => hne q e.symm hq)
  have hbO := hbR.other (bc' := (bump bc N).setIfInBounds 14 tv') (N' := N + 1) hbk'.book hbk'.n0 (hget 7 (by omega) (by omega)) hoth
  have htN : ∀ q, tv'.ownBlock = some q → w.heap.size ≤ q := fun q hq => by
    rcases hat with e | ⟨b, e, hbb⟩
    · exact htE q (by rw [← e]; exact hq)
    · rw [e] at hq; injection hq with hq; omega
  have hneN : ∀ q, tv'.ownBlock = some q → tvR.ownBlock ≠ some q := fun q hq h2 => by
    rcases hat with e | ⟨b, e, hbb⟩
    · exact hne q (by rw [← e]; exact hq) h2
    · rw [e] at hq; injection hq with hq
      have := own_lt hbR.tok q h2
      omega
  refine ⟨rfl, h.bel.trans hb, fun q hq hk => ?_, (bump bc N).setIfInBounds 14 tv', tv', tvR, ?_, hbO, htN, htR, hneN, fun j h1 h2 h3 h4 => (hget j h1 h3).trans (hnil j h1 h2 h3 h4)⟩
  · rw [hkept.2 q (by omega) hk (fun e => by have := htE q e.symm; omega)]
    exact h.fr q hq hk
  · have e1 : rowsOf es ++ [(Value.slice A n c, nilV, N + 1)] = rowsOf (es ++ [(.slice A n c, n, N + 1)]) := by simp [rowsOf]
    rw [← e1]
    exact hbk'
theorem Kp.keepRef {w wr : World} {base kb : Nat} {es rs : List Lst} {N : Nat} (h : Kp w wr base kb es rs N) (hN : N < 3000000) (hl : rs.length ≤ 3000000) (A : Option Addr) (n c : Nat) :
    Calls Tryz.prog 19 #[.pointer (some ⟨kb, 0, none⟩), .slice A n c] wr (fun e w' => e = .returned (.tuple #[]) ∧ Kp w w' base kb es (rs ++ [(.slice A n c, n, N + 1)]) (N + 1)) := by
  obtain ⟨bc, tvE, tvR, hbE, hbR, htE, htR, hne, hnil⟩ := h.bk
  refine (keep_Ref base kb N bc tvR _ A n c wr hbR hN (by rw [rowsOf_len]; omega)).mono ?_
  rintro e w' ⟨rfl, hb, tv', hbk', hkept, hat⟩
  have hs := h.bel.size
  have h0 : 0 < bc.size := (Array.getElem?_eq_some_iff.1 hbR.n0).1
  have hget : ∀ j, 1 ≤ j → j ≠ 7 → ((bump bc N).setIfInBounds 7 tv')[j]? = bc[j]? := fun j h1 h2 => by
    rw [Array.getElem?_setIfInBounds_ne (by omega)]
    unfold bump
    rw [Array.getElem?_setIfInBounds_ne (by omega)]
  have hoth : ∀ q, tvE.ownBlock = some q → w'.heap[q]? = wr.heap[q]? := fun q hq =>
    hkept.2 q (own_lt hbE.tok q hq) (fun e => hbE.ne (by rw [hq, e])) (fun e => hne q hq e.symm)
  have hbO := hbE.other (bc' := (bump bc N).setIfInBounds 7 tv') (N' := N + 1) hbk'.book hbk'.n0 (hget 14 (by omega) (by omega)) hoth
  have htN : ∀ q, tv'.ownBlock = some q → w.heap.size ≤ q := fun q hq => by
    rcases hat with e | ⟨b, e, hbb⟩
    · exact htR q (by rw [← e]; exact hq)
    · rw [e] at hq; injection hq with hq; omega
  have hneN : ∀ q, tv'.ownBlock = some q → tvE.ownBlock ≠ some q := fun q hq h2 => by
    rcases hat with e | ⟨b, e, hbb⟩
    · exact hne q h2 (by rw [← e]; exact hq)
    · rw [e] at hq; injection hq with hq
      have := own_lt hbE.tok q h2
      omega
  refine ⟨rfl, h.bel.trans hb, fun q hq hk => ?_, (bump bc N).setIfInBounds 7 tv', tvE, tv', hbO, ?_, htE, htN, fun q hq h2 => hneN q h2 hq, fun j h1 h2 h3 h4 => (hget j h1 h4).trans (hnil j h1 h2 h3 h4)⟩
  · rw [hkept.2 q (by omega) hk (fun e => by have := htR q e.symm; omega)]
    exact h.fr q hq hk
  · have e1 : rowsOf rs ++ [(Value.slice A n c, nilV, N + 1)] = rowsOf (rs ++ [(.slice A n c, n, N + 1)]) := by simp [rowsOf]
    rw [← e1]
    exact hbk'
end Go.Proofs.YtbdciibbgiphcaaGreatDoor.B
