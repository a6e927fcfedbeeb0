/- JF: joined by wip/mkclaim.py (ours) from the texts OfP, PrP, AlA of this seat. -/
import Derived.Test.YtfkggeakjgphjaaJE
import Derived.Test.YtfkggeakjgphjaaCx2
import Derived.Test.YtfkggeakjgphjaaCx3
/- The programs of flows by their numbers, in plain words. -/
namespace Go.Proofs.Ytfkggeakjgphjaa.C
set_option linter.unusedVariables false
set_option linter.unusedSimpArgs false
set_option linter.unusedSectionVars false
open Go.RowKit Go.Shelf Go.Proofs.YtfkggeakjgphjaaW.PrintWords Go.Proofs.YtfkggeakjgphjaaW.PrintLast Go.Proofs.YtfkggeakjgphjaaW.PrintMore
open Go.Proofs.RngT Go.Proofs.Circ
def wordB (i : Int) : ByteArray := (belfrylaw09_word.f i).getD ⟨#[]⟩
theorem words_are : (List.range 64).all (fun i => (belfrylaw09_word.f (i : Int)).isSome) = true := by kernel_rfl
theorem word_eq {i : Int} (h0 : 0 ≤ i) (h1 : i < 64) : belfrylaw09_word.f i = some (wordB i) := by
  have h := List.all_eq_true.1 words_are i.toNat (List.mem_range.2 (by omega))
  rw [Int.toNat_of_nonneg h0] at h
  unfold wordB
  cases hw : belfrylaw09_word.f i with
  | none => rw [hw] at h; cases h
  | some v => rfl
theorem words_nodup : decide (((List.range 64).map fun i : Nat => (wordB (i : Int)).data.toList).Nodup) = true := by kernel_rfl
theorem words_ok : (List.range 64).all (fun i : Nat => nameOk (wordB (i : Int))) = true := by kernel_rfl
theorem words_size : (List.range 64).all (fun i : Nat => decide ((wordB (i : Int)).size ≤ 3)) = true := by kernel_rfl
theorem wordB_inj {i j : Int} (hi0 : 0 ≤ i) (hi : i < 64) (hj0 : 0 ≤ j) (hj : j < 64) (h : wordB i = wordB j) : i = j := by
  have hn := of_decide_eq_true words_nodup
  have hp := List.pairwise_map.1 hn
  have key : ∀ (x y : Nat), x < 64 → y < 64 → x < y → wordB (x : Int) ≠ wordB (y : Int) := by
    intro x y hx hy hxy e
    have h1 := (List.pairwise_iff_getElem.1 hp) x y (by simpa using hx) (by simpa using hy) hxy
    simp only [List.getElem_range] at h1
    exact h1 (by rw [e])
  have e1 := Int.toNat_of_nonneg hi0
  have e2 := Int.toNat_of_nonneg hj0
  rcases Nat.lt_trichotomy i.toNat j.toNat with hlt | he | hlt
  · exact absurd (by rw [e1, e2]; exact h) (key _ _ (by omega) (by omega) hlt)
  · omega
  · exact absurd (by rw [e1, e2]; exact h.symm) (key _ _ (by omega) (by omega) hlt)
theorem wordB_ok {i : Int} (hi0 : 0 ≤ i) (hi : i < 64) : nameOk (wordB i) = true := by
  have h := List.all_eq_true.1 words_ok i.toNat (List.mem_range.2 (by omega))
  rwa [Int.toNat_of_nonneg hi0] at h
theorem wordB_size {i : Int} (hi0 : 0 ≤ i) (hi : i < 64) : (wordB i).size ≤ 3 := by
  have h := of_decide_eq_true (List.all_eq_true.1 words_size i.toNat (List.mem_range.2 (by omega)))
  rwa [Int.toNat_of_nonneg hi0] at h
def addE (x y : S49) : S49 := ⟨6, 0, ⟨#[]⟩, [x, y]⟩
def nmE (i : Int) : S49 := ⟨3, 0, wordB i, []⟩
def preE (y : S49) : S49 := ⟨19, 0, ⟨#[]⟩, [y]⟩
def int0 : S49 := ⟨1, 0, ⟨#[]⟩, []⟩
def bodyN (x : S49) (l : List Int) : S49 := l.foldl (fun x i => addE x (nmE i)) x
def bodyP (x : S49) (l : List Int) : S49 := l.foldl (fun x i => addE x (preE (nmE i))) x
def flowF (a b : List (List Int)) (i : Nat) : S51 := ⟨wordB i, 1, 1, 0, bodyP (bodyN int0 (a.getD i [])) (b.getD i [])⟩
def ofF (a b : List (List Int)) : List S51 := (List.range a.length).map (flowF a b)
/-- rows that may be. -/
structure RowsOk (a : List (List Int)) : Prop where
  len : a.length ≤ 64
  row : ∀ l ∈ a, l.length ≤ 1000 ∧ ∀ x ∈ l, 0 ≤ x ∧ x < 64
theorem RowsOk.at_ {a : List (List Int)} (h : RowsOk a) (i : Nat) : (a.getD i []).length ≤ 1000 ∧ ∀ x ∈ a.getD i [], 0 ≤ x ∧ x < 64 := by
  by_cases hi : i < a.length
  · have : a.getD i [] = a[i] := by rw [List.getD_eq_getElem?_getD, List.getElem?_eq_getElem hi]; rfl
    rw [this]
    exact h.row _ (List.getElem_mem hi)
  · have : a.getD i [] = [] := by rw [List.getD_eq_getElem?_getD, List.getElem?_eq_none (by omega)]; rfl
    rw [this]
    simp
theorem drop_cons {l : List Int} {j : Nat} (h : j < l.length) : l.drop j = rd l (j : Int) :: l.drop (j + 1) := by
  rw [List.drop_eq_getElem_cons h]
  congr 1
  unfold rd
  rw [Int.toNat_natCast, List.getD_eq_getElem?_getD, List.getElem?_eq_getElem h]; rfl
theorem rd_mem {l : List Int} {j : Nat} (h : j < l.length) : rd l (j : Int) ∈ l := by
  unfold rd
  rw [Int.toNat_natCast, List.getD_eq_getElem?_getD, List.getElem?_eq_getElem h]
  exact List.getElem_mem h
theorem of_l1 {a b : List (List Int)} (ha : RowsOk a) (i : Nat) (hi : i < a.length) (fls : List S51) (r : Int × List S84 × List S51 × List ByteArray) : ∀ (d j : Nat) (x : S49), j + d = (a.getD i []).length →
    Ev (fun k => belfrylaw09_of.l2 k a b i 0 1 fls (bodyN x ((a.getD i []).drop j)).f0 (bodyN x ((a.getD i []).drop j)).f1 (bodyN x ((a.getD i []).drop j)).f2 (bodyN x ((a.getD i []).drop j)).f3) r →
    Ev (fun k => belfrylaw09_of.l1 k a b i j 1 fls x.f0 x.f1 x.f2 x.f3) r := by
  have hr := ha.at_ i
  have hrd : rd_L7 a (i : Int) = a.getD i [] := by unfold rd_L7; rw [Int.toNat_natCast]
  have hl := ha.len
  intro d
  induction d with
  | zero =>
    intro j x hj h
    rw [List.drop_eq_nil_of_le (by omega)] at h
    refine Ev.step (fun k => ?_) h
    simp only [belfrylaw09_of.l1]
    rw [hrd, if_pos (by omega), if_pos (by omega), if_neg (by omega)]
    rfl
  | succ d ih =>
    intro j x hj h
    have hlt : j < (a.getD i []).length := by omega
    have hm := hr.2 _ (rd_mem hlt)
    rw [drop_cons hlt] at h
    refine Ev.step (fun k => ?_) (ih (j + 1) (addE x (nmE (rd (a.getD i []) j))) (by omega) h)
    simp only [belfrylaw09_of.l1]
    rw [hrd, if_pos (by omega), if_pos (by omega), if_pos (by omega), if_pos (by omega), word_eq hm.1 hm.2, Option.bind_some, w64 (by omega) (by omega), show ((j : Int) + 1) = ((j + 1 : Nat) : Int) by omega]
    cases x
    rfl
theorem of_l2 {a b : List (List Int)} (ha : RowsOk a) (hb : RowsOk b) (i : Nat) (hi : i < a.length) (fls : List S51) (hf : fls.length ≤ 1000) (r : Int × List S84 × List S51 × List ByteArray) : ∀ (d j : Nat) (x : S49), j + d = (b.getD i []).length →
    Ev (fun k => belfrylaw09_of.l0 k a b ((i + 1 : Nat) : Int) 1 (fls ++ [⟨wordB i, 1, 1, 0, bodyP x ((b.getD i []).drop j)⟩])) r →
    Ev (fun k => belfrylaw09_of.l2 k a b i j 1 fls x.f0 x.f1 x.f2 x.f3) r := by
  have hr := hb.at_ i
  have hrd : rd_L7 b (i : Int) = b.getD i [] := by unfold rd_L7; rw [Int.toNat_natCast]
  have hl := ha.len
  intro d
  induction d with
  | zero =>
    intro j x hj h
    rw [List.drop_eq_nil_of_le (by omega)] at h
    refine Ev.step (fun k => ?_) h
    simp only [belfrylaw09_of.l2]
    rw [hrd]
    have hw : belfrylaw09_word.f (i : Int) = some (wordB i) := word_eq (by omega) (by omega)
    have hi2 : wrap64 ((i : Int) + 1) = ((i + 1 : Nat) : Int) := by rw [w64 (by omega) (by omega)]; omega
    by_cases hib : (i : Int) < b.length
    · rw [if_pos hib, if_pos (by omega), if_neg (by omega), hw, Option.bind_some, if_pos (by omega), hi2]
      cases x
      rfl
    · rw [if_neg hib, hw, Option.bind_some, if_pos (by omega), hi2]
      cases x
      rfl
  | succ d ih =>
    intro j x hj h
    have hlt : j < (b.getD i []).length := by omega
    have hm := hr.2 _ (rd_mem hlt)
    have hib : i < b.length := by
      apply Classical.byContradiction
      intro hn
      rw [List.getD_eq_getElem?_getD, List.getElem?_eq_none (by omega)] at hlt
      simp at hlt
    rw [drop_cons hlt] at h
    refine Ev.step (fun k => ?_) (ih (j + 1) (addE x (preE (nmE (rd (b.getD i []) j)))) (by omega) h)
    simp only [belfrylaw09_of.l2]
    rw [hrd, if_pos (by omega), if_pos (by omega), if_pos (by omega), if_pos (by omega), word_eq hm.1 hm.2, Option.bind_some, w64 (by omega) (by omega), show ((j : Int) + 1) = ((j + 1 : Nat) : Int) by omega]
    cases x
    rfl
theorem of_l0 {a b : List (List Int)} (ha : RowsOk a) (hb : RowsOk b) : ∀ (d i : Nat), i + d = a.length → Ev (fun k => belfrylaw09_of.l0 k a b i 1 ((List.range i).map (flowF a b))) (1, [], ofF a b, []) := by
  have hl := ha.len
  intro d
  induction d with
  | zero =>
    intro i hi
    have : i = a.length := by omega
    subst this
    refine Ev.step (fun k => ?_) (Ev.now _)
    simp only [belfrylaw09_of.l0]
    rw [if_neg (by omega)]
    rfl
  | succ d ih =>
    intro i hi
    have hn := ih (i + 1) (by omega)
    rw [List.range_succ, List.map_append] at hn
    refine Ev.step (fun k => ?_) (of_l1 (b := b) ha i (by omega) ((List.range i).map (flowF a b)) _ (a.getD i []).length 0 int0 (by omega) (of_l2 ha hb i (by omega) _ (by simp; omega) _ (b.getD i []).length 0 _ (by omega) hn))
    simp only [belfrylaw09_of.l0]
    rw [if_pos (by omega)]
    rfl
/-- what 'of' makes. -/
theorem of_ev {a b : List (List Int)} (ha : RowsOk a) (hb : RowsOk b) : Ev (fun k => belfrylaw09_of.f k a b) (1, [], ofF a b, []) := of_l0 ha hb a.length 0 (by omega)
theorem same_l0 (x y : List ByteArray) (he : x.length = y.length) (hl : x.length ≤ 1000000) : ∀ (d i : Nat), i + d = x.length → Ev (fun k => belfrylaw01_SameTexts.l0 k x y i) (decide (x.drop i = y.drop i)) := by
  intro d
  induction d with
  | zero =>
    intro i hi
    refine Ev.step (fun k => ?_) (Ev.now _)
    simp only [belfrylaw01_SameTexts.l0]
    rw [if_neg (by omega), List.drop_eq_nil_of_le (by omega), List.drop_eq_nil_of_le (by omega)]
    simp
  | succ d ih =>
    intro i hi
    have h1 : i < x.length := by omega
    have h2 : i < y.length := by omega
    have e1 : rdOf ByteArray.empty x (i : Int) = x[i] := by unfold rdOf; rw [Int.toNat_natCast, List.getD_eq_getElem?_getD, List.getElem?_eq_getElem h1]; rfl
    have e2 : rdOf ByteArray.empty y (i : Int) = y[i] := by unfold rdOf; rw [Int.toNat_natCast, List.getD_eq_getElem?_getD, List.getElem?_eq_getElem h2]; rfl
    by_cases he2 : x[i] = y[i]
    · have hd : decide (x.drop i = y.drop i) = decide (x.drop (i + 1) = y.drop (i + 1)) := by
        rw [List.drop_eq_getElem_cons (l := x) h1, List.drop_eq_getElem_cons (l := y) h2, he2, decide_eq_decide]
        exact ⟨fun h => (List.cons.inj h).2, fun h => by rw [h]⟩
      rw [hd]
      refine Ev.step (fun k => ?_) (ih (i + 1) (by omega))
      simp only [belfrylaw01_SameTexts.l0]
      rw [if_pos (by omega), if_pos (by omega), if_pos (by omega), e1, e2, if_pos (by rw [he2]), w64 (by omega) (by omega), show ((i : Int) + 1) = ((i + 1 : Nat) : Int) by omega]
    · refine Ev.step (fun k => ?_) (Ev.now _)
      simp only [belfrylaw01_SameTexts.l0]
      rw [if_pos (by omega), if_pos (by omega), if_pos (by omega), e1, e2, if_neg (fun h => he2 (bytes_ext h))]
      rw [List.drop_eq_getElem_cons (l := x) h1, List.drop_eq_getElem_cons (l := y) h2]
      congr 1
      symm
      rw [decide_eq_false_iff_not]
      exact fun h => he2 (List.cons.inj h).1
theorem same_ev (x y : List ByteArray) (hl : x.length ≤ 1000000) : Ev (fun k => belfrylaw01_SameTexts.f k x y) (decide (x = y)) := by
  by_cases he : x.length = y.length
  · refine Ev.congr (fun k => ?_) (same_l0 x y he hl x.length 0 (by omega))
    unfold belfrylaw01_SameTexts.f
    rw [if_pos (by omega)]
    rfl
  · refine Ev.congr (fun k => ?_) (Ev.now _)
    unfold belfrylaw01_SameTexts.f
    rw [if_neg (by omega)]
    congr 1
    symm
    simp only [decide_eq_false_iff_not]
    intro e; exact he (by rw [e])
end Go.Proofs.Ytfkggeakjgphjaa.C

/- The programs of flows by their numbers: they may be; what each flow needs. -/
namespace Go.Proofs.Ytfkggeakjgphjaa.C
set_option linter.unusedVariables false
set_option linter.unusedSimpArgs false
set_option linter.unusedSectionVars false
open Go.RowKit Go.Shelf Go.Proofs.YtfkggeakjgphjaaW.PrintWords Go.Proofs.YtfkggeakjgphjaaW.PrintLast Go.Proofs.YtfkggeakjgphjaaW.PrintMore
open Go.Proofs.RngT Go.Proofs.Circ
/-- passes Check in d levels with k parts. -/
def GoodE (d : Nat) (k : Int) (x : S49) : Prop := 1 ≤ k ∧ ∀ d' l, d ≤ d' → k ≤ l → chk nameOk d' x l = (true, l - k)
theorem emp_nil : emp (⟨#[]⟩ : ByteArray) = true := by unfold emp; rw [ByteArray.toList_eq]; rfl
theorem good_int0 : GoodE 1 1 int0 := by
  refine ⟨by omega, fun d' l hd hl => ?_⟩
  obtain ⟨d, rfl⟩ : ∃ d, d' = d + 1 := ⟨d' - 1, by omega⟩
  unfold chk
  rw [if_neg (by omega), if_neg (by unfold int0; decide), if_pos (by rfl)]
  show (decide ((0 : Int) ≤ 0) && emp ⟨#[]⟩, l - 1) = _
  rw [emp_nil]
  rfl
theorem good_nm {i : Int} (h0 : 0 ≤ i) (h1 : i < 64) : GoodE 1 1 (nmE i) := by
  refine ⟨by omega, fun d' l hd hl => ?_⟩
  obtain ⟨d, rfl⟩ : ∃ d, d' = d + 1 := ⟨d' - 1, by omega⟩
  have e0 : (nmE i).f0 = 3 := rfl
  have e1 : (nmE i).f1 = 0 := rfl
  have e2 : (nmE i).f2 = wordB i := rfl
  have e3 : (nmE i).f3 = [] := rfl
  unfold chk
  rw [e0, e1, e2, e3, if_neg (by omega), if_neg (by decide), if_neg (by decide), if_neg (by decide), if_pos (by rfl), wordB_ok h0 h1]
  rfl
theorem good_add {d e : Nat} {k m : Int} {x y : S49} (hx : GoodE d k x) (hy : GoodE e m y) : GoodE (max d e + 1) (k + m + 1) (addE x y) := by
  obtain ⟨hk, hx⟩ := hx
  obtain ⟨hm, hy⟩ := hy
  refine ⟨by omega, fun d' l hd hl => ?_⟩
  obtain ⟨d', rfl⟩ : ∃ d, d' = d + 1 := ⟨d' - 1, by omega⟩
  have e0 : (addE x y).f0 = 6 := rfl
  have e1 : (addE x y).f1 = 0 := rfl
  have e2 : (addE x y).f2 = ⟨#[]⟩ := rfl
  have e3 : (addE x y).f3 = [x, y] := rfl
  unfold chk
  rw [e0, e1, e2, e3, if_neg (by omega), if_neg (by simp only [List.length_cons, List.length_nil]; decide), if_neg (by decide), if_neg (by decide), if_neg (by decide)]
  have hc : chks (chk nameOk d') [x, y] (l - 1) = (true, l - (k + m + 1)) := by
    simp only [chks]
    rw [hx d' (l - 1) (by omega) (by omega), if_pos rfl]
    dsimp only
    rw [hy d' (l - 1 - k) (by omega) (by omega), if_pos rfl]
    congr 1; omega
  rw [hc, emp_nil]
  rfl
theorem good_pre {d : Nat} {k : Int} {y : S49} (hy : GoodE d k y) : GoodE (d + 1) (k + 1) (preE y) := by
  obtain ⟨hk, hy⟩ := hy
  refine ⟨by omega, fun d' l hd hl => ?_⟩
  obtain ⟨d', rfl⟩ : ∃ d, d' = d + 1 := ⟨d' - 1, by omega⟩
  have e0 : (preE y).f0 = 19 := rfl
  have e1 : (preE y).f1 = 0 := rfl
  have e2 : (preE y).f2 = ⟨#[]⟩ := rfl
  have e3 : (preE y).f3 = [y] := rfl
  unfold chk
  rw [e0, e1, e2, e3, if_neg (by omega), if_neg (by simp only [List.length_cons, List.length_nil]; decide), if_neg (by decide), if_neg (by decide), if_neg (by decide)]
  have hc : chks (chk nameOk d') [y] (l - 1) = (true, l - (k + 1)) := by
    simp only [chks]
    rw [hy d' (l - 1) (by omega) (by omega), if_pos rfl]
    congr 1; omega
  rw [hc, emp_nil]
  rfl
theorem GoodE.le {d e : Nat} {k : Int} {x : S49} (h : GoodE d k x) (hde : d ≤ e) : GoodE e k x := ⟨h.1, fun d' l hd hl => h.2 d' l (by omega) hl⟩
theorem good_bodyN : ∀ (l : List Int) (x : S49) (d : Nat) (k : Int), 1 ≤ d → GoodE d k x → (∀ i ∈ l, 0 ≤ i ∧ i < 64) → GoodE (d + l.length) (k + 2 * l.length) (bodyN x l)
  | [], x, d, k, hd, h, _ => by simpa [bodyN] using h
  | i :: l, x, d, k, hd, h, hl => by
    have h1 := good_add h ((good_nm (hl i (by simp)).1 (hl i (by simp)).2).le hd)
    rw [Nat.max_self] at h1
    have := good_bodyN l _ (d + 1) (k + 1 + 1) (by omega) h1 (fun j hj => hl j (by simp [hj]))
    simp only [List.length_cons]
    rw [show d + (l.length + 1) = d + 1 + l.length by omega, show k + 2 * ((l.length + 1 : Nat) : Int) = k + 1 + 1 + 2 * (l.length : Int) by omega]
    exact this
theorem good_bodyP : ∀ (l : List Int) (x : S49) (d : Nat) (k : Int), 2 ≤ d → GoodE d k x → (∀ i ∈ l, 0 ≤ i ∧ i < 64) → GoodE (d + l.length) (k + 3 * l.length) (bodyP x l)
  | [], x, d, k, hd, h, _ => by simpa [bodyP] using h
  | i :: l, x, d, k, hd, h, hl => by
    have h1 := good_add h ((good_pre (good_nm (hl i (by simp)).1 (hl i (by simp)).2)).le hd)
    rw [Nat.max_self] at h1
    have := good_bodyP l _ (d + 1) (k + (1 + 1) + 1) (by omega) h1 (fun j hj => hl j (by simp [hj]))
    simp only [List.length_cons]
    rw [show d + (l.length + 1) = d + 1 + l.length by omega, show k + 3 * ((l.length + 1 : Nat) : Int) = k + (1 + 1) + 1 + 3 * (l.length : Int) by omega]
    exact this
/-- rows that are short, and within the n flows. -/
structure RowsIn (n : Nat) (a : List (List Int)) : Prop where
  n64 : n ≤ 64
  row : ∀ i, (a.getD i []).length ≤ 10 ∧ ∀ x ∈ a.getD i [], 0 ≤ x ∧ x < (n : Int)
  len : a.length ≤ n
theorem RowsIn.ok {n : Nat} {a : List (List Int)} (h : RowsIn n a) : RowsOk a := by
  have := h.n64; have := h.len
  refine ⟨by omega, fun l hl => ?_⟩
  obtain ⟨i, hi, rfl⟩ := List.mem_iff_getElem.1 hl
  have h2 := h.row i
  rw [List.getD_eq_getElem?_getD, List.getElem?_eq_getElem hi] at h2
  dsimp only [Option.getD_some] at h2
  exact ⟨by omega, fun x hx => by have := h2.2 x hx; omega⟩
theorem ofF_at (a b : List (List Int)) (i : Nat) (h : i < (ofF a b).length) : (ofF a b)[i] = flowF a b i := by simp [ofF]
theorem ofF_len (a b : List (List Int)) : (ofF a b).length = a.length := by simp [ofF]
theorem body_ok {n : Nat} {a b : List (List Int)} (ha : RowsIn n a) (hb : RowsIn n b) (i : Nat) : okE nameOk (flowF a b i).f4 = true := by
  have h1 := ha.row i; have h2 := hb.row i; have hn := ha.n64
  have hg := good_bodyP (b.getD i []) _ _ _ (by omega) ((good_bodyN (a.getD i []) int0 1 1 (by omega) good_int0 (fun x hx => by have := h1.2 x hx; omega)).le (show 1 + (a.getD i []).length ≤ 11 by omega)) (fun x hx => by have := h2.2 x hx; omega)
  have := hg.2 32 200 (by omega) (by omega)
  unfold okE
  show (chk nameOk 32 (bodyP (bodyN int0 (a.getD i [])) (b.getD i [])) 200).1 = true
  rw [this]
/-- what refs there are. -/
theorem inR_iff (r : Rf) (l : List Rf) : inR r l = true ↔ r ∈ l := by
  unfold inR
  rw [List.any_eq_true]
  exact ⟨fun ⟨y, hy, e⟩ => by rw [← of_decide_eq_true e]; exact hy, fun h => ⟨r, h, by simp⟩⟩
theorem addR_mem (r x : Rf) (l : List Rf) : r ∈ addR x l ↔ r ∈ l ∨ r = x := by
  unfold addR
  split
  · rename_i h
    have := (inR_iff x l).1 h
    constructor
    · exact .inl
    · rintro (h1 | rfl)
      · exact h1
      · exact this
  · simp
theorem addR_nodup (x : Rf) (l : List Rf) (h : l.Nodup) : (addR x l).Nodup := by
  unfold addR
  split
  · exact h
  · rename_i hn
    rw [inR_iff] at hn
    rw [List.nodup_append]
    exact ⟨h, by simp, fun a ha b hb e => by rw [List.mem_singleton] at hb; subst hb; subst e; exact hn ha⟩
theorem go1_nm (i : Int) (ago : Int) (l : List Rf) : go1 (nmE i) ago l = addR (wordB i, ago) l := by
  show go1 ⟨3, 0, wordB i, []⟩ ago l = _
  simp [go1, goL]
theorem go1_add (x y : S49) (l : List Rf) : go1 (addE x y) 0 l = go1 y 0 (go1 x 0 l) := by
  show go1 ⟨6, 0, ⟨#[]⟩, [x, y]⟩ 0 l = _
  simp [go1, goL]
theorem go1_pre (y : S49) (l : List Rf) : go1 (preE y) 0 l = go1 y 1 l := by
  show go1 ⟨19, 0, ⟨#[]⟩, [y]⟩ 0 l = _
  have : wrap64 1 = 1 := w64 (by omega) (by omega)
  simp [go1, goL, this]
theorem go1_bodyN : ∀ (l : List Int) (x : S49) (r : List Rf), go1 (bodyN x l) 0 r = l.foldl (fun r i => addR (wordB i, 0) r) (go1 x 0 r)
  | [], x, r => rfl
  | i :: l, x, r => by
    show go1 (bodyN (addE x (nmE i)) l) 0 r = _
    rw [go1_bodyN l, go1_add, go1_nm]
    rfl
theorem go1_bodyP : ∀ (l : List Int) (x : S49) (r : List Rf), go1 (bodyP x l) 0 r = l.foldl (fun r i => addR (wordB i, 1) r) (go1 x 0 r)
  | [], x, r => rfl
  | i :: l, x, r => by
    show go1 (bodyP (addE x (preE (nmE i))) l) 0 r = _
    rw [go1_bodyP l, go1_add, go1_pre, go1_nm]
    rfl
theorem fold_mem (f : Int → Rf) : ∀ (l : List Int) (r : List Rf) (x : Rf), x ∈ l.foldl (fun r i => addR (f i) r) r ↔ x ∈ r ∨ ∃ i ∈ l, x = f i
  | [], r, x => by simp
  | i :: l, r, x => by
    rw [List.foldl_cons, fold_mem f l, addR_mem]
    simp only [List.mem_cons, exists_eq_or_imp, or_assoc]
theorem fold_nodup (f : Int → Rf) : ∀ (l : List Int) (r : List Rf), r.Nodup → (l.foldl (fun r i => addR (f i) r) r).Nodup
  | [], r, h => h
  | i :: l, r, h => fold_nodup f l _ (addR_nodup _ _ h)
theorem refL_flow (a b : List (List Int)) (i : Nat) : refL (flowF a b i).f4 = (b.getD i []).foldl (fun r i => addR (wordB i, 1) r) ((a.getD i []).foldl (fun r i => addR (wordB i, 0) r) []) := by
  show go1 (bodyP (bodyN int0 (a.getD i [])) (b.getD i [])) 0 [] = _
  rw [go1_bodyP, go1_bodyN]
  have : go1 int0 0 [] = [] := by
    show go1 ⟨1, 0, ⟨#[]⟩, []⟩ 0 [] = []
    simp [go1, goL]
  rw [this]
theorem refL_mem (a b : List (List Int)) (i : Nat) (r : Rf) : r ∈ refL (flowF a b i).f4 ↔ (∃ x ∈ a.getD i [], r = (wordB x, 0)) ∨ (∃ x ∈ b.getD i [], r = (wordB x, 1)) := by
  rw [refL_flow, fold_mem (fun i => (wordB i, 1)), fold_mem (fun i => (wordB i, 0))]
  simp
theorem refL_nodup (a b : List (List Int)) (i : Nat) : (refL (flowF a b i).f4).Nodup := by
  rw [refL_flow]
  exact fold_nodup (fun i => (wordB i, 1)) _ _ (fold_nodup (fun i => (wordB i, 0)) _ _ List.nodup_nil)
/-- a name means its flow. -/
theorem fnd_word {n : Nat} {a b : List (List Int)} (hn : a.length ≤ 64) (x : Int) (h0 : 0 ≤ x) (hx : x < (a.length : Int)) : fnd [] (ofF a b) (wordB x) = some (wordB x, 1, 1, x) := by
  unfold fnd
  have hl : (things [] (ofF a b)).length = a.length := by rw [things_len, ofF_len]; simp
  have hg : ∀ j (hj : j < (things [] (ofF a b)).length), (things [] (ofF a b))[j] = (wordB j, 1, 1, (j : Int)) := fun j hj => by
    simp [things, thF, ofF, flowF]
  have hk : x.toNat < (things [] (ofF a b)).length := by omega
  have := find_first (l := things [] (ofF a b)) (f := fun y => decide (y.1 = wordB x)) (k := x.toNat) hk (by rw [hg]; simp [Int.toNat_of_nonneg h0]) (fun j hj hjk => by
    rw [hg]
    simp only [decide_eq_false_iff_not]
    intro e
    have := wordB_inj (by omega) (by omega) h0 (by omega) e
    omega)
  rw [this, hg, Int.toNat_of_nonneg h0]
/-- what each needs. -/
theorem ndOf {n : Nat} {a b : List (List Int)} (ha : RowsIn n a) (hb : RowsIn n b) (hn : n = a.length) (i : Nat) (x : Int) : x ∈ ndL [] (ofF a b) (refL (flowF a b i).f4) ↔ x ∈ a.getD i [] := by
  have h64 := ha.n64
  unfold ndL
  rw [List.mem_filterMap]
  constructor
  · rintro ⟨r, hr, h⟩
    rcases (refL_mem a b i r).1 hr with ⟨y, hy, rfl⟩ | ⟨y, hy, rfl⟩
    · have hy2 := (ha.row i).2 y hy
      unfold ndOne at h
      rw [fnd_word (n := n) (by omega) y hy2.1 (by omega)] at h
      dsimp only at h
      rw [if_pos ⟨hy2.1, rfl⟩] at h
      injection h with h
      rw [← h]; exact hy
    · have hy2 := (hb.row i).2 y hy
      unfold ndOne at h
      rw [fnd_word (n := n) (by omega) y hy2.1 (by omega)] at h
      dsimp only at h
      rw [if_neg (by omega)] at h
      cases h
  · intro hx
    have hy2 := (ha.row i).2 x hx
    refine ⟨(wordB x, 0), (refL_mem a b i _).2 (.inl ⟨x, hx, rfl⟩), ?_⟩
    unfold ndOne
    rw [fnd_word (n := n) (by omega) x hy2.1 (by omega)]
    dsimp only
    rw [if_pos ⟨hy2.1, rfl⟩]
theorem needOf {n : Nat} {a b : List (List Int)} (ha : RowsIn n a) (hb : RowsIn n b) (hn : n = a.length) (i : Nat) (x : Int) : x ∈ needR [] (ofF a b) (i : Int) ↔ x ∈ a.getD i [] := by
  unfold needR needK
  rw [ofF_len]
  by_cases hi : i < a.length
  · rw [if_pos (by omega)]
    unfold srt
    rw [List.mem_mergeSort]
    unfold ndRow bodyAt
    rw [Int.toNat_natCast, List.getD_eq_getElem?_getD, List.getElem?_eq_getElem (by rw [ofF_len]; exact hi), Option.getD_some, ofF_at]
    exact ndOf ha hb hn i x
  · rw [if_neg (by omega)]
    rw [List.getD_eq_getElem?_getD, List.getElem?_eq_none (by omega)]
    simp
theorem allOf {n : Nat} {a b : List (List Int)} (ha : RowsIn n a) (hb : RowsIn n b) (hn : n = a.length) (i x : Nat) : x ∈ allN (needR [] (ofF a b)) i ↔ (x : Int) ∈ a.getD i [] := by
  unfold allN
  rw [List.mem_map, ← needOf ha hb hn]
  constructor
  · rintro ⟨y, hy, rfl⟩
    have := (ha.row i).2 y ((needOf ha hb hn i y).1 hy)
    rwa [Int.toNat_of_nonneg this.1]
  · intro h
    exact ⟨_, h, by simp⟩
/-- the program may be; its names mean one thing each. -/
theorem nmOf {n : Nat} {a b : List (List Int)} (ha : RowsIn n a) (hb : RowsIn n b) (hn : n = a.length) : nmCheck 1 [] (ofF a b) [] = 0 := by
  have h64 := ha.n64
  have hpr : prOk 1 [] (ofF a b) [] = true := by
    unfold prOk
    simp only [Bool.and_eq_true, decide_eq_true_eq, Bool.not_eq_true', List.any_eq_false]
    refine ⟨⟨⟨⟨⟨⟨⟨by omega, by omega⟩, by simp⟩, by rw [ofF_len]; omega⟩, by simp⟩, by simp⟩, fun y hy => ?_⟩, by simp⟩
    unfold ofF at hy
    obtain ⟨i, hi, rfl⟩ := List.mem_map.1 hy
    have hi2 := List.mem_range.1 hi
    unfold badF
    rw [body_ok ha hb]
    have : mayB 1 (flowF a b i).f0 (flowF a b i).f1 (flowF a b i).f2 = true := by
      show mayB 1 (wordB i) 1 1 = true
      unfold mayB
      rw [wordB_ok (by omega) (by omega)]
      rfl
    rw [this]
    simp [flowF]
  have hnm : names [] (ofF a b) = (List.range a.length).map fun i : Nat => wordB (i : Int) := by
    rw [names_eq]
    simp [ofF, flowF, Function.comp_def]
  unfold nmCheck
  rw [if_neg (by rw [hpr]; simp), if_neg, if_neg, if_neg (by simp)]
  · rw [Bool.not_eq_false, List.all_eq_true]
    intro s hs
    rw [isIn_iff, hnm]
    unfold asked at hs
    rw [List.append_nil] at hs
    unfold askF at hs
    obtain ⟨f, hf, hs⟩ := List.mem_flatMap.1 hs
    unfold ofF at hf
    obtain ⟨i, hi, rfl⟩ := List.mem_map.1 hf
    obtain ⟨r, hr, rfl⟩ := List.mem_map.1 hs
    rcases (refL_mem a b i r).1 hr with ⟨y, hy, rfl⟩ | ⟨y, hy, rfl⟩
    · have hy2 := (ha.row i).2 y hy
      exact List.mem_map.2 ⟨y.toNat, List.mem_range.2 (by omega), by rw [Int.toNat_of_nonneg hy2.1]⟩
    · have hy2 := (hb.row i).2 y hy
      exact List.mem_map.2 ⟨y.toNat, List.mem_range.2 (by omega), by rw [Int.toNat_of_nonneg hy2.1]⟩
  · rw [Classical.not_not, hnm]
    rw [List.Nodup, List.pairwise_map]
    exact (List.nodup_range (n := a.length)).imp_of_mem (fun {x y} hx hy hne e => hne (by
      have hx := List.mem_range.1 hx; have hy := List.mem_range.1 hy
      have := wordB_inj (by omega) (by omega) (by omega) (by omega) e
      omega))
theorem wf_nm {i : Int} (h0 : 0 ≤ i) (h1 : i < 64) : WfE (nmE i) := .mk 3 0 (wordB i) [] (by omega) (by omega) (by omega) (by omega) (by have := wordB_size h0 h1; omega) (by simp) (by simp)
theorem wf_add {x y : S49} (hx : WfE x) (hy : WfE y) : WfE (addE x y) := .mk 6 0 ⟨#[]⟩ [x, y] (by omega) (by omega) (by omega) (by omega) (by decide) (by simp) (fun z hz => by
  rcases List.mem_cons.1 hz with rfl | hz
  · exact hx
  · rw [List.mem_singleton] at hz; rw [hz]; exact hy)
theorem wf_pre {y : S49} (hy : WfE y) : WfE (preE y) := .mk 19 0 ⟨#[]⟩ [y] (by omega) (by omega) (by omega) (by omega) (by decide) (by simp) (fun z hz => by rw [List.mem_singleton] at hz; rw [hz]; exact hy)
theorem wf_bodyN : ∀ (l : List Int) (x : S49), WfE x → (∀ i ∈ l, 0 ≤ i ∧ i < 64) → WfE (bodyN x l)
  | [], x, h, _ => h
  | i :: l, x, h, hl => wf_bodyN l _ (wf_add h (wf_nm (hl i (by simp)).1 (hl i (by simp)).2)) (fun j hj => hl j (by simp [hj]))
theorem wf_bodyP : ∀ (l : List Int) (x : S49), WfE x → (∀ i ∈ l, 0 ≤ i ∧ i < 64) → WfE (bodyP x l)
  | [], x, h, _ => h
  | i :: l, x, h, hl => wf_bodyP l _ (wf_add h (wf_pre (wf_nm (hl i (by simp)).1 (hl i (by simp)).2))) (fun j hj => hl j (by simp [hj]))
theorem wfOf {n : Nat} {a b : List (List Int)} (ha : RowsIn n a) (hb : RowsIn n b) : WfP [] (ofF a b) [] := by
  have h64 := ha.n64; have hlen := ha.len
  have hl := ofF_len a b
  refine ⟨by simp, by omega, by simp, by simp, fun y hy => ?_, by simp, fun y hy => ?_⟩
  · unfold ofF at hy
    obtain ⟨i, hi, rfl⟩ := List.mem_map.1 hy
    have hi2 := List.mem_range.1 hi
    have : (wordB (i : Int)).size ≤ 3 := wordB_size (by omega) (by omega)
    show (wordB (i : Int)).size ≤ _
    omega
  · unfold ofF at hy
    obtain ⟨i, hi, rfl⟩ := List.mem_map.1 hy
    exact wf_bodyP _ _ (wf_bodyN _ _ (.mk 1 0 ⟨#[]⟩ [] (by omega) (by omega) (by omega) (by omega) (by decide) (by simp) (by simp)) (fun x hx => by have := (ha.row i).2 x hx; omega)) (fun x hx => by have := (hb.row i).2 x hx; omega)
theorem findOf {n : Nat} {a b : List (List Int)} (ha : RowsIn n a) (hb : RowsIn n b) (hn : n = a.length) : circles_Find.f 1 [] (ofF a b) [] = some (circT [] (ofF a b)) := by
  unfold circles_Find.f
  have h64 := ha.n64
  rw [if_pos ⟨by simp, by rw [ofF_len]; omega, prOk_sm (nmCheck_pr (nmOf ha hb hn)) (wfOf ha hb)⟩]
theorem checkOf {n : Nat} {a b : List (List Int)} (ha : RowsIn n a) (hb : RowsIn n b) (hn : n = a.length) : circles_Check.f 1 [] (ofF a b) [] = some (if circN [] (ofF a b) ≠ [] then 8 else 0) := by
  unfold circles_Check.f
  rw [if_pos (wfOf ha hb)]
  unfold ccCheck
  rw [nmOf ha hb hn, if_neg (by simp)]
theorem nmsOfF (a b : List (List Int)) (l : List Nat) (h : ∀ i ∈ l, i < a.length) : nmsOf (ofF a b) l = l.map fun i : Nat => wordB (i : Int) := by
  unfold nmsOf
  apply List.map_congr_left
  intro i hi
  rw [List.getD_eq_getElem?_getD, List.getElem?_eq_getElem (by rw [ofF_len]; exact h i hi), Option.getD_some, ofF_at]
  rfl
/-- a row of one alone; an empty one. -/
theorem allOne {n : Nat} {a b : List (List Int)} (ha : RowsIn n a) (hn : n = a.length) (i : Nat) (x : Int) (hx : a.getD i [] = [x]) (hb : b.getD i [] = []) : allN (needR [] (ofF a b)) i = [x.toNat] := by
  have hi : i < a.length := by
    apply Classical.byContradiction
    intro h
    rw [List.getD_eq_getElem?_getD, List.getElem?_eq_none (by omega)] at hx
    cases hx
  have h1 := (ha.row i).2 x (by rw [hx]; simp)
  unfold allN needR needK
  rw [ofF_len, if_pos (by omega)]
  unfold ndRow bodyAt
  rw [Int.toNat_natCast, List.getD_eq_getElem?_getD, List.getElem?_eq_getElem (by rw [ofF_len]; exact hi), Option.getD_some, ofF_at, refL_flow, hx, hb]
  have h64 := ha.n64
  have : ndOne [] (ofF a b) (wordB x, 0) = some x := by
    unfold ndOne
    rw [fnd_word (n := n) (by omega) x h1.1 (by omega)]
    dsimp only
    rw [if_pos ⟨h1.1, rfl⟩]
  have e : ([].foldl (fun r i => addR (wordB i, 1) r) ([x].foldl (fun r i => addR (wordB i, 0) r) []) : List Rf) = [(wordB x, 0)] := rfl
  rw [e]
  unfold ndL
  rw [List.filterMap_cons, this]
  simp [srt]
theorem allNil {n : Nat} {a b : List (List Int)} (ha : RowsIn n a) (hb : RowsIn n b) (hn : n = a.length) (i : Nat) (hx : a.getD i [] = []) : allN (needR [] (ofF a b)) i = [] := by
  apply List.eq_nil_iff_forall_not_mem.2
  intro x hx2
  rw [allOf ha hb hn, hx] at hx2
  simp at hx2
end Go.Proofs.Ytfkggeakjgphjaa.C

/- Contracts over programs of flows by their numbers. -/
namespace Go.Proofs.Ytfkggeakjgphjaa.C
set_option linter.unusedVariables false
set_option linter.unusedSimpArgs false
set_option linter.unusedSectionVars false
open Go.RowKit Go.Shelf Go.Proofs.YtfkggeakjgphjaaW.PrintWords Go.Proofs.YtfkggeakjgphjaaW.PrintLast Go.Proofs.YtfkggeakjgphjaaW.PrintMore
open Go.Proofs.RngT Go.Proofs.Circ
abbrev kL : Kd (List Int) := Kd.slice 3 (Kd.int .i64)
theorem row_lit {w : World} {b : Nat} {xs : List Int} (hb : w.heap[b]? = some (.cells (nums .i64 xs).toArray 3 (0, 0))) (hl : xs.length ≤ 100000) : Kd.C (Kd.int .i64) w (some ⟨b, 0, none⟩) xs.length xs := by
  have h : w.ownsRow b 3 1 (.slice (some ⟨b, 0, none⟩) xs.length xs.length) xs.length (nums .i64 xs) :=
    ⟨by rw [nums_length]; simp, .inr ⟨b, xs.length, (nums .i64 xs).toArray, rfl, Nat.le_refl _, hb, Nat.le_refl _, by unfold maxLen; omega, by simp [nums_length], by simp [List.take_of_length_le, nums_length]⟩⟩
  exact own_C h rfl
theorem row_K {w : World} {b : Nat} {xs : List Int} (hb : w.heap[b]? = some (.cells (nums .i64 xs).toArray 3 (0, 0))) (hl : xs.length ≤ 100000) : kL.K w xs [.slice (some ⟨b, 0, none⟩) xs.length xs.length] := ⟨_, _, rfl, Nat.le_refl _, row_lit hb hl⟩
theorem rows_lit {w : World} {b : Nat} {vs : List Value} {l : List (List Int)} (hb : w.heap[b]? = some (.cells vs.toArray 35 (0, 0))) (hl : l.length ≤ 100000) (h : Reps (kL.K w) 1 l vs) (hv : vs.length = l.length) : Kd.C kL w (some ⟨b, 0, none⟩) l.length l := by
  have h2 : w.ownsRow b 35 1 (.slice (some ⟨b, 0, none⟩) l.length l.length) l.length vs :=
    ⟨by rw [hv]; simp, .inr ⟨b, l.length, vs.toArray, rfl, Nat.le_refl _, hb, Nat.le_refl _, by unfold maxLen; omega, by simp [hv], by simp [← hv]⟩⟩
  obtain ⟨A', c', he, hr⟩ := own_reads_row h2 h rfl
  injection he with e1 _ _
  subst e1
  exact hr
/-- a program's box. -/
structure Bx (b : Nat) (B1 : Option Addr) (d1 : Nat) (B2 : Option Addr) (d2 : Nat) (B3 : Option Addr) (d3 : Nat) (n : Nat) (a bb : List (List Int)) (w : World) : Prop where
  box : w.heap[b]? = some (.cells #[.int .i64 1, .slice B1 0 d1, .slice B2 n d2, .slice B3 0 d3] 26 (0, 0))
  fl : Kd.C k51 w B2 n (ofF a bb)
  c1 : Kd.C k84 w B1 0 []
  c3 : Kd.C Kd.string w B3 0 []
  le : n ≤ d2
section
variable {b : Nat} {B1 : Option Addr} {d1 : Nat} {B2 : Option Addr} {d2 : Nat} {B3 : Option Addr} {d3 : Nat} {n : Nat} {a bb : List (List Int)} {w w' : World}
theorem Bx.stay (h : Bx b B1 d1 B2 d2 B3 d3 n a bb w) (hb : Below w.heap.size w w') : Bx b B1 d1 B2 d2 B3 d3 n a bb w' :=
  ⟨(hb.block _ (Array.getElem?_eq_some_iff.1 h.box).1).trans h.box, Kd.C_below h.fl hb, Kd.C_below h.c1 hb, Kd.C_below h.c3 hb, h.le⟩
theorem Bx.lt (h : Bx b B1 d1 B2 d2 B3 d3 n a bb w) : b < w.heap.size := (Array.getElem?_eq_some_iff.1 h.box).1
theorem Bx.alloc (hle : n ≤ d2) (h2 : Kd.C k51 w B2 n (ofF a bb)) (h1 : Kd.C k84 w B1 0 []) (h3 : Kd.C Kd.string w B3 0 []) :
    Bx w.heap.size B1 d1 B2 d2 B3 d3 n a bb (w.alloc (.cells #[.int .i64 1, .slice B1 0 d1, .slice B2 n d2, .slice B3 0 d3] 26)) :=
  ⟨World.alloc_heap_new _ _, Kd.C_alloc h2 _, Kd.C_alloc h1 _, Kd.C_alloc h3 _, hle⟩
/-- what 'of' answers. -/
def OfPost (n : Nat) (a b : List (List Int)) (w : World) (e : Ending) (w' : World) : Prop :=
  ∃ B1 d1 B2 d2 B3 d3, e = .returned (.agg #[.int .i64 1, .slice B1 0 d1, .slice B2 n d2, .slice B3 0 d3]) ∧ Bx w'.heap.size B1 d1 B2 d2 B3 d3 n a b (w'.alloc (.cells #[.int .i64 1, .slice B1 0 d1, .slice B2 n d2, .slice B3 0 d3] 26)) ∧ Below w.heap.size w w'
theorem of_any {m : Nat} {b : List (List Int)} (hn : n = a.length) (hm : m = b.length) (ha : RowsOk a) (hb : RowsOk b) (A0 : Option Addr) (c0 : Nat) (A1 : Option Addr) (c1 : Nat) (w : World) (hr0 : Kd.C kL w A0 n a) (hc0 : n ≤ c0) (hr1 : Kd.C kL w A1 m b) (hc1 : m ≤ c1) :
    Calls Try.prog 14 #[.slice A0 n c0, .slice A1 m c1] w (OfPost n a b w) := by
  subst hn; subst hm
  obtain ⟨k, hk⟩ := (of_ev ha hb).rounds
  refine (belfrylaw09_of.calls k A0 c0 a A1 c1 b 1 [] (ofF a b) [] w hr0 hc0 hr1 hc1 hk).mono ?_
  rintro e w' ⟨v1, v2, v3, rfl, h1, h2, h3, hb⟩
  obtain ⟨B1, d1, rfl, _, g1⟩ := Kd.R_reads h1
  obtain ⟨B2, d2, rfl, g4, g2⟩ := Kd.N_reads h2
  obtain ⟨B3, d3, rfl, _, g3⟩ := Kd.R_reads h3
  rw [ofF_len] at g2 g4
  exact ⟨B1, d1, B2, d2, B3, d3, by rw [ofF_len]; rfl, Bx.alloc g4 g2 g1 g3, hb⟩
def ckOf (a b : List (List Int)) : Int := if circN [] (ofF a b) ≠ [] then 8 else 0
theorem check_of (ha : RowsIn n a) (hb : RowsIn n bb) (hn : n = a.length) (h : Bx b B1 d1 B2 d2 B3 d3 n a bb w) :
    Calls Try.prog 12 #[.agg #[.int .i64 1, .slice B1 0 d1, .slice B2 n d2, .slice B3 0 d3]] w fun e w' => e = .returned (.int .i64 (ckOf a bb)) ∧ Below w.heap.size w w' := by
  have e : (ofF a bb).length = n := by rw [ofF_len, hn]
  have := circles_Check.calls 1 B1 d1 [] B2 d2 (ofF a bb) B3 d3 [] (ckOf a bb) w h.c1 (by simp) (by rw [e]; exact h.fl) (by rw [e]; exact h.le) h.c3 (by simp) (checkOf ha hb hn)
  rw [e] at this
  exact this
def FdPost (l : List ByteArray) (w : World) (e : Ending) (w' : World) : Prop := ∃ A c, e = .returned (.slice A l.length c) ∧ l.length ≤ c ∧ Kd.C Kd.string w' A l.length l ∧ Below w.heap.size w w'
theorem find_of (ha : RowsIn n a) (hb : RowsIn n bb) (hn : n = a.length) (h : Bx b B1 d1 B2 d2 B3 d3 n a bb w) :
    Calls Try.prog 11 #[.agg #[.int .i64 1, .slice B1 0 d1, .slice B2 n d2, .slice B3 0 d3]] w (FdPost (circT [] (ofF a bb)) w) := by
  have e : (ofF a bb).length = n := by rw [ofF_len, hn]
  have := circles_Find.calls 1 B1 d1 [] B2 d2 (ofF a bb) B3 d3 [] (circT [] (ofF a bb)) w h.c1 (by simp) (by rw [e]; exact h.fl) (by rw [e]; exact h.le) h.c3 (by simp) (findOf ha hb hn)
  rw [e] at this
  refine this.mono ?_
  rintro e w' ⟨v, rfl, h1, h2⟩
  obtain ⟨A, c, rfl, h3, h4⟩ := Kd.R_reads h1
  exact ⟨A, c, rfl, h3, h4, h2⟩
end
theorem same_any (A0 : Option Addr) (c0 : Nat) (l0 : List ByteArray) (A1 : Option Addr) (c1 : Nat) (l1 : List ByteArray) (w : World) (hr0 : Kd.C Kd.string w A0 l0.length l0) (hc0 : l0.length ≤ c0) (hr1 : Kd.C Kd.string w A1 l1.length l1) (hc1 : l1.length ≤ c1) (hl : l0.length ≤ 1000000) :
    Calls Try.prog 17 #[.slice A0 l0.length c0, .slice A1 l1.length c1] w fun e w' => e = .returned (.bool (decide (l0 = l1))) ∧ Drawn0 w w' := by
  obtain ⟨k, hk⟩ := (same_ev l0 l1 hl).rounds
  exact belfrylaw01_SameTexts.calls k A0 c0 l0 A1 c1 l1 _ w hr0 hc0 hr1 hc1 hk
theorem word_any (i : Int) (h0 : 0 ≤ i) (h1 : i < 64) (w : World) : Calls Try.prog 16 #[.int .i64 i] w fun e w' => e = .returned (.string (wordB i)) ∧ Drawn0 w w' := belfrylaw09_word.calls i _ w (word_eq h0 h1)
end Go.Proofs.Ytfkggeakjgphjaa.C
