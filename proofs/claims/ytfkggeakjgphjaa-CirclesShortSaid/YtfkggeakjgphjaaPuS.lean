/- CirclesShort: the plain law. -/
import Derived.Test.YtfkggeakjgphjaaShX
import Derived.Test.YtfkggeakjgphjaaCirP
namespace Go.Proofs.Ytfkggeakjgphjaa.C
set_option linter.unusedVariables false
set_option linter.unusedSimpArgs false
set_option linter.unusedSectionVars false
open Go.RowKit Go.Shelf Go.Proofs.YtfkggeakjgphjaaW.PrintWords Go.Proofs.YtfkggeakjgphjaaW.PrintLast Go.Proofs.YtfkggeakjgphjaaW.PrintMore
open Go.Proofs.RngT Go.Proofs.Circ
theorem u8_range {x : Int} (h : (Lit.int .u8 x).wf = true) : 0 ≤ x ∧ x ≤ 255 := by
  simp [Lit.wf, IntKind.min, IntKind.max, IntKind.signed, IntKind.bits] at h
  omega
def rowS (K a i : Nat) : List Int := if i = a then [1 + (((i + 1) % K : Nat) : Int), 1] else [1 + (((i + 1) % K : Nat) : Int)]
def rowsS (K a i : Nat) (l0 : List Int) : List (List Int) := l0 :: (List.range i).map (rowS K a)
def wantS (a i : Nat) : List ByteArray := ((List.range i).filter (fun j => decide (j ≤ a))).map fun j : Nat => wordB (1 + (j : Int))
theorem wantS_snoc (a i : Nat) : wantS a (i + 1) = if i ≤ a then wantS a i ++ [wordB (1 + (i : Int))] else wantS a i := by
  unfold wantS
  rw [List.range_succ, List.filter_append, List.map_append]
  by_cases h : i ≤ a
  · rw [if_pos h]; simp [h]
  · rw [if_neg h]; simp [h]
theorem wantS_len (a i : Nat) : (wantS a i).length ≤ i := by
  unfold wantS
  rw [List.length_map]
  exact Nat.le_trans (List.length_filter_le _ _) (by simp)
theorem wantS_all {a K : Nat} (h : a < K) : wantS a K = (List.range (a + 1)).map fun j : Nat => wordB (1 + (j : Int)) := by
  unfold wantS
  congr 1
  obtain ⟨d, rfl⟩ : ∃ d, K = (a + 1) + d := ⟨K - (a + 1), by omega⟩
  rw [List.range_add, List.filter_append]
  have h1 : (List.range (a + 1)).filter (fun j => decide (j ≤ a)) = List.range (a + 1) := List.filter_eq_self.2 (fun j hj => by have := List.mem_range.1 hj; simp; omega)
  have h2 : ((List.range d).map (a + 1 + ·)).filter (fun j => decide (j ≤ a)) = [] := List.filter_eq_nil_iff.2 (fun j hj => by
    obtain ⟨x, _, rfl⟩ := List.mem_map.1 hj
    simp; omega)
  rw [h1, h2, List.append_nil]
theorem sh_loop (K a : Nat) (hK : K ≤ 52) (ha : a + 1 < K) (r : Bool) (hend : Ev (fun k => belfrylaw09_CirclesShort.l0 k K a (rowsS K a K []) (wantS a K) K) r) :
    ∀ d i : Nat, i + d = K → Ev (fun k => belfrylaw09_CirclesShort.l0 k K a (rowsS K a i []) (wantS a i) i) r := by
  intro d
  induction d with
  | zero =>
    intro i hi
    have : i = K := by omega
    subst this
    exact hend
  | succ d ih =>
    intro i hi
    have hm : wrap64 (1 + Int.tmod (wrap64 ((i : Int) + 1)) (K : Int)) = 1 + (((i + 1) % K : Nat) : Int) := by
      rw [w64 (n := (i : Int) + 1) (by omega) (by omega), Int.tmod_eq_emod_of_nonneg (by omega)]
      have h1 := Nat.mod_lt (i + 1) (show 0 < K by omega)
      have : ((i : Int) + 1) % (K : Int) = (((i + 1) % K : Nat) : Int) := by push_cast; rfl
      rw [this, w64 (by omega) (by omega)]
    have hi1 : wrap64 ((i : Int) + 1) = ((i + 1 : Nat) : Int) := by rw [w64 (by omega) (by omega)]; rfl
    have hw : belfrylaw09_word.f (wrap64 (1 + (i : Int))) = some (wordB (1 + (i : Int))) := by
      rw [w64 (by omega) (by omega)]; exact word_eq (by omega) (by omega)
    have hr : rowsS K a (i + 1) [] = rowsS K a i [] ++ [rowS K a i] := by
      unfold rowsS
      rw [List.range_succ, List.map_append]; rfl
    have hrl : (rowsS K a i []).length ≤ 100 := by unfold rowsS; simp; omega
    have hwl := wantS_len a i
    refine Ev.step (fun k => ?_) (ih (i + 1) (by omega))
    simp only [belfrylaw09_CirclesShort.l0]
    rw [if_pos (by omega), if_neg (by omega), Option.bind_some, hm, hi1, hw, hr, wantS_snoc]
    unfold rowS
    by_cases hia : i = a
    · rw [if_pos (by omega), if_pos (by simp), if_pos (by omega), Option.bind_some, if_pos (by omega), Option.bind_some, if_pos (by omega), if_pos hia, if_pos (by omega)]
      rfl
    · rw [if_neg (by omega), if_pos (by omega), Option.bind_some, if_neg hia]
      by_cases hle : i ≤ a
      · rw [if_pos (by omega), Option.bind_some, if_pos (by omega), if_pos hle]
      · rw [if_neg (by omega), if_neg hle]
attribute [local irreducible] wordB
theorem getD_map {α : Type} (f : Nat → α) (K i : Nat) (d : α) : ((List.range K).map f).getD i d = if i < K then f i else d := by
  rw [List.getD_eq_getElem?_getD]
  by_cases h : i < K
  · rw [List.getElem?_eq_getElem (by simpa using h), if_pos h]; simp
  · rw [List.getElem?_eq_none (by simp; omega), if_neg h]; rfl
theorem rowsS_at (K a i : Nat) (l : List Int) : (rowsS K a K l).getD i [] = match i with
  | 0 => l
  | i + 1 => if i < K then rowS K a i else [] := by
  cases i with
  | zero => rfl
  | succ i =>
    unfold rowsS
    rw [List.getD_cons_succ, getD_map]
theorem rowS_mem {K a i : Nat} {x : Int} : x ∈ rowS K a i ↔ x = 1 + (((i + 1) % K : Nat) : Int) ∨ (i = a ∧ x = 1) := by
  unfold rowS
  split
  · rename_i h; simp [h]
  · rename_i h; simp [h]
theorem rowsS_in {K a : Nat} (hK : K ≤ 52) (ha : a + 1 < K) : RowsIn (K + 1) (rowsS K a K [1]) := by
  refine rowsIn_of _ _ (by omega) (by unfold rowsS; simp) (fun l hl => ?_)
  unfold rowsS at hl
  rcases List.mem_cons.1 hl with rfl | hl
  · exact ⟨by simp, fun x hx => by rw [List.mem_singleton] at hx; omega⟩
  · obtain ⟨i, hi, rfl⟩ := List.mem_map.1 hl
    have hi := List.mem_range.1 hi
    have h1 := Nat.mod_lt (i + 1) (show 0 < K by omega)
    refine ⟨by unfold rowS; split <;> simp, fun x hx => ?_⟩
    rcases rowS_mem.1 hx with rfl | ⟨_, rfl⟩ <;> omega
theorem circNS {K a : Nat} (hK : K ≤ 52) (ha : a + 1 < K) : circN [] (ofF (rowsS K a K [1]) []) = (List.range (a + 1)).map fun i => 1 + i := by
  have hn : K + 1 = (rowsS K a K [1]).length := by unfold rowsS; simp
  have hin := rowsS_in hK ha
  have hb := riN (K + 1) (by omega)
  have g0 : ∀ x, x ∈ allN (needR [] (ofF (rowsS K a K [1]) [])) 0 ↔ x = 1 := fun x => by
    rw [allOf hin hb hn, rowsS_at]
    simp; omega
  have g1 : ∀ i, i < K → ∀ x, x ∈ allN (needR [] (ofF (rowsS K a K [1]) [])) (1 + i) ↔ x = 1 + (i + 1) % K ∨ (i = a ∧ x = 1) := fun i hi x => by
    rw [allOf hin hb hn, show 1 + i = i + 1 by omega, rowsS_at]
    dsimp only
    rw [if_pos hi, rowS_mem]
    omega
  have g2 : ∀ x, K + 1 ≤ x → allN (needR [] (ofF (rowsS K a K [1]) [])) x = [] := fun x hx => allNil hin hb hn x (by
    rw [rowsS_at]
    obtain ⟨y, rfl⟩ : ∃ y, x = y + 1 := ⟨x - 1, by omega⟩
    dsimp only
    rw [if_neg (by omega)])
  unfold circN
  rw [ofF_len, ← hn]
  exact circ_short ha g0 g1 g2
theorem map_f (f : Int → ByteArray) (n : Nat) : ((List.range n).map fun i => 1 + i).map (fun i : Nat => f (i : Int)) = (List.range n).map fun j : Nat => f (1 + (j : Int)) := by
  rw [List.map_map]
  apply List.map_congr_left
  intro j _
  have e : ((1 + j : Nat) : Int) = 1 + (j : Int) := by omega
  show f ((1 + j : Nat) : Int) = _
  rw [e]
theorem circS1 {K a : Nat} (hK : K ≤ 52) (ha : a + 1 < K) : circT [] (ofF (rowsS K a K [1]) []) = ((List.range (a + 1)).map fun i => 1 + i).map (fun i : Nat => wordB (i : Int)) := by
  unfold circT
  have hn : K + 1 = (rowsS K a K [1]).length := by unfold rowsS; simp
  have hl : ∀ i ∈ (List.range (a + 1)).map (fun i => 1 + i), i < (rowsS K a K [1]).length := fun i hi => by
    obtain ⟨j, hj, rfl⟩ := List.mem_map.1 hi
    have := List.mem_range.1 hj
    omega
  rw [circNS hK ha]
  exact nmsOfF _ _ _ hl
theorem circS {K a : Nat} (hK : K ≤ 52) (ha : a + 1 < K) : circT [] (ofF (rowsS K a K [1]) []) = wantS a K := by
  have h3 := wantS_all (a := a) (K := K) (by omega)
  exact (circS1 hK ha).trans ((map_f wordB (a + 1)).trans h3.symm)
theorem CirclesShort_pure : belfrylaw09_CirclesShort.Pure := by
  intro a0 a1 h0 h1
  have w0 := u8_range h0
  have w1 := u8_range h1
  obtain ⟨p, rfl⟩ : ∃ p : Nat, a0 = p := ⟨a0.toNat, by omega⟩
  obtain ⟨q, rfl⟩ : ∃ q : Nat, a1 = q := ⟨a1.toNat, by omega⟩
  have hp := Nat.mod_lt p (show 0 < 50 by omega)
  have e1 : wrap64 (wrap64 (Int.tmod (p : Int) 50) + 3) = ((p % 50 + 3 : Nat) : Int) := by
    rw [Int.tmod_eq_emod_of_nonneg (by omega)]
    have : (p : Int) % 50 = ((p % 50 : Nat) : Int) := by omega
    rw [this, w64 (n := ((p % 50 : Nat) : Int)) (by omega) (by omega), w64 (by omega) (by omega)]
    omega
  obtain ⟨K, hKe⟩ : ∃ K, K = p % 50 + 3 := ⟨_, rfl⟩
  rw [← hKe] at e1
  have e2 : wrap64 ((K : Int) - 1) = ((K - 1 : Nat) : Int) := by rw [w64 (by omega) (by omega)]; omega
  have e3 : Int.tmod (wrap64 (q : Int)) ((K - 1 : Nat) : Int) = ((q % (K - 1) : Nat) : Int) := by
    rw [w64 (by omega) (by omega), Int.tmod_eq_emod_of_nonneg (by omega)]; exact (Int.natCast_emod _ _).symm
  have hq := Nat.mod_lt q (show 0 < K - 1 by omega)
  obtain ⟨a, hae⟩ : ∃ a, a = q % (K - 1) := ⟨_, rfl⟩
  rw [← hae] at e3 hq
  have hK : K ≤ 52 := by omega
  have ha : a + 1 < K := by omega
  have hin := rowsS_in hK ha
  have hn : K + 1 = (rowsS K a K [1]).length := by unfold rowsS; simp
  have hset : (rowsS K a K []).set (0 : Int).toNat [1] = rowsS K a K [1] := rfl
  have hend : Ev (fun k => belfrylaw09_CirclesShort.l0 k K a (rowsS K a K []) (wantS a K) K) true := by
    have h2 := (of_ev hin.ok (riN 1 (by omega)).ok).bind (f := fun k (bt244 : Int × List S84 × List S51 × List ByteArray) => ((circles_Find.f bt244.1 bt244.2.1 bt244.2.2.1 bt244.2.2.2).bind fun t254 => ((belfrylaw01_SameTexts.f k t254 (wantS a K)).bind fun t257 => (some t257)))) (r := true) (by
      refine Ev.congr (fun k => ?_) ((same_ev (circT [] (ofF (rowsS K a K [1]) [])) (wantS a K) (by rw [circS hK ha]; have := wantS_len a K; omega)).bind (f := fun k t257 => some t257) (r := true) (by rw [circS hK ha, decide_eq_true rfl]; exact Ev.now _))
      dsimp only
      rw [findOf hin (riN (K + 1) (by omega)) hn, Option.bind_some])
    refine Ev.step (fun k => ?_) h2
    simp only [belfrylaw09_CirclesShort.l0]
    rw [if_neg (by omega), if_pos (by unfold rowsS; simp)]
    unfold belfrylaw09_alive.f
    rw [Option.bind_some, if_pos rfl, hset]
  obtain ⟨k, hk⟩ := (sh_loop K a hK ha true hend K 0 (by omega)).rounds
  refine ⟨k, ?_⟩
  unfold belfrylaw09_CirclesShort.f
  rw [e1, e2, if_neg (by omega), e3]
  exact hk
end Go.Proofs.Ytfkggeakjgphjaa.C
