/- What parts ask for, within pre and together: the plain law. -/
import Derived.Test.YtbdciibbgiphcaaDoorNG
namespace Go.Proofs.YtbdciibbgiphcaaDoor.V
set_option linter.unusedVariables false
set_option linter.unusedSimpArgs false
set_option linter.unusedSectionVars false
open Go.RowKit Go.Proofs.YtbdciibbgiphcaaDoorW.PrintWords Go.Proofs.YtbdciibbgiphcaaDoorW.PrintLast Go.Proofs.YtbdciibbgiphcaaDoorW.PrintMore
mutual
/-- all that is asked for, in its order, however often. -/
def raw1 : S25 → Int → List Rf
  | ⟨o, n, s, xs⟩, ago => (if o = 3 then [(s, ago)] else []) ++ rawL xs (if o = 19 then wrap64 (ago + 1) else ago)
def rawL : List S25 → Int → List Rf
  | [], _ => []
  | x :: r, ago => raw1 x ago ++ rawL r ago
end
def addAll (L : List Rf) (l : List Rf) : List Rf := l.foldl (fun acc r => addR r acc) L
theorem addAll_append (L a b : List Rf) : addAll L (a ++ b) = addAll (addAll L a) b := by unfold addAll; rw [List.foldl_append]
mutual
theorem go1_raw : ∀ (x : S25) (ago : Int) (L : List Rf), go1 x ago L = addAll L (raw1 x ago)
  | ⟨o, n, s, xs⟩, ago, L => by
    simp only [go1, raw1]
    rw [goL_raw xs, addAll_append]
    congr 1
    split <;> rfl
theorem goL_raw : ∀ (xs : List S25) (ago : Int) (L : List Rf), goL xs ago L = addAll L (rawL xs ago)
  | [], _, L => by simp [goL, rawL, addAll]
  | x :: r, ago, L => by
    simp only [goL, rawL]
    rw [goL_raw r, go1_raw x, addAll_append]
end
def lag (m : Int) (r : Rf) : Rf := (r.1, r.2 + m)
theorem lag_inj {m : Int} {a b : Rf} : lag m a = lag m b ↔ a = b := by
  constructor
  · intro h
    unfold lag at h
    injection h with h1 h2
    exact Prod.ext h1 (by omega)
  · intro h; rw [h]
theorem lag_mem {m : Int} {r : Rf} {L : List Rf} : lag m r ∈ L.map (lag m) ↔ r ∈ L := by
  rw [List.mem_map]
  constructor
  · rintro ⟨a, h1, h2⟩
    rw [← lag_inj.1 h2]; exact h1
  · intro h; exact ⟨r, h, rfl⟩
theorem inR_iff2 {r : Rf} {l : List Rf} : inR r l = true ↔ r ∈ l := by simp [inR]
theorem addR_old {r : Rf} {L : List Rf} (h : r ∈ L) : addR r L = L := by unfold addR; rw [if_pos (inR_iff2.2 h)]
theorem addR_new {r : Rf} {L : List Rf} (h : ¬ r ∈ L) : addR r L = L ++ [r] := by unfold addR; rw [if_neg (fun h2 => h (inR_iff2.1 h2))]
theorem addR_lag (m : Int) (r : Rf) (L : List Rf) : addR (lag m r) (L.map (lag m)) = (addR r L).map (lag m) := by
  by_cases h : r ∈ L
  · rw [addR_old h, addR_old (lag_mem.2 h)]
  · rw [addR_new h, addR_new (fun h2 => h (lag_mem.1 h2)), List.map_append]; rfl
theorem addAll_lag (m : Int) : ∀ (l L : List Rf), addAll (L.map (lag m)) (l.map (lag m)) = (addAll L l).map (lag m)
  | [], L => rfl
  | r :: t, L => by
    have h1 : addAll L (r :: t) = addAll (addR r L) t := rfl
    have h2 : addAll (L.map (lag m)) ((r :: t).map (lag m)) = addAll (addR (lag m r) (L.map (lag m))) (t.map (lag m)) := rfl
    rw [h1, h2, addR_lag, addAll_lag m t]
theorem mem_addR {a r : Rf} {L : List Rf} : a ∈ addR r L ↔ a ∈ L ∨ a = r := by
  by_cases h : r ∈ L
  · rw [addR_old h]
    constructor
    · exact .inl
    · rintro (h1 | rfl)
      · exact h1
      · exact h
  · rw [addR_new h, List.mem_append, List.mem_singleton]
theorem mem_addAll {a : Rf} : ∀ {l L : List Rf}, a ∈ addAll L l ↔ a ∈ L ∨ a ∈ l
  | [], L => by simp [addAll]
  | r :: t, L => by
    have h1 : addAll L (r :: t) = addAll (addR r L) t := rfl
    rw [h1, mem_addAll, mem_addR, List.mem_cons]
    constructor
    · rintro ((h | h) | h)
      · exact .inl h
      · exact .inr (.inl h)
      · exact .inr (.inr h)
    · rintro (h | h | h)
      · exact .inl (.inl h)
      · exact .inl (.inr h)
      · exact .inr h
theorem addAll_addR (r : Rf) (L M : List Rf) : addAll L (addR r M) = addR r (addAll L M) := by
  by_cases h : r ∈ M
  · rw [addR_old h, addR_old (mem_addAll.2 (.inr h))]
  · rw [addR_new h, addAll_append]; rfl
theorem addAll_all : ∀ (l L M : List Rf), addAll L (addAll M l) = addAll (addAll L M) l
  | [], L, M => rfl
  | r :: t, L, M => by
    have h1 : addAll M (r :: t) = addAll (addR r M) t := rfl
    have h2 : addAll (addAll L M) (r :: t) = addAll (addR r (addAll L M)) t := rfl
    rw [h1, h2, addAll_all t, addAll_addR]
theorem addAll_nil (l L : List Rf) : addAll L (addAll [] l) = addAll L l := addAll_all l L []
theorem addAll_len : ∀ (l L : List Rf), (addAll L l).length ≤ L.length + l.length
  | [], L => Nat.le_refl _
  | r :: t, L => by
    have h1 : addAll L (r :: t) = addAll (addR r L) t := rfl
    have h2 := addAll_len t (addR r L)
    have h3 : (addR r L).length ≤ L.length + 1 := by
      by_cases h : r ∈ L
      · rw [addR_old h]; omega
      · rw [addR_new h]; simp
    rw [h1, List.length_cons]
    omega
mutual
theorem raw_lag : ∀ (x : S25) (ago m : Int), 0 ≤ ago → 0 ≤ m → ago + m + (cntE x : Int) ≤ 4611686018427387904 → raw1 x (ago + m) = (raw1 x ago).map (lag m) ∧ (∀ r ∈ raw1 x ago, ago ≤ r.2 ∧ r.2 ≤ ago + cntE x) ∧ (raw1 x ago).length ≤ cntE x
  | ⟨o, n, s, xs⟩, ago, m, h0, h1, h2 => by
    have hc : cntE ⟨o, n, s, xs⟩ = 1 + (cntL xs).sum := by simp [cntE]
    rw [hc] at h2 ⊢
    have hw : wrap64 (ago + 1) = ago + 1 := w64 (by omega) (by omega)
    have hw2 : wrap64 (ago + m + 1) = (ago + 1) + m := by rw [w64 (by omega) (by omega)]; omega
    have key : rawL xs (if o = 19 then wrap64 (ago + m + 1) else ago + m) = (rawL xs (if o = 19 then wrap64 (ago + 1) else ago)).map (lag m) ∧ (∀ r ∈ rawL xs (if o = 19 then wrap64 (ago + 1) else ago), ago ≤ r.2 ∧ r.2 ≤ ago + (1 + (cntL xs).sum : Nat)) ∧ (rawL xs (if o = 19 then wrap64 (ago + 1) else ago)).length ≤ (cntL xs).sum := by
      by_cases ho : o = 19
      · rw [if_pos ho, if_pos ho, hw, hw2]
        obtain ⟨k1, k2, k3⟩ := rawL_lag xs (ago + 1) m (by omega) h1 (by omega)
        exact ⟨k1, fun r hr => by have := k2 r hr; omega, k3⟩
      · rw [if_neg ho, if_neg ho]
        obtain ⟨k1, k2, k3⟩ := rawL_lag xs ago m h0 h1 (by omega)
        exact ⟨k1, fun r hr => by have := k2 r hr; omega, k3⟩
    simp only [raw1]
    obtain ⟨k1, k2, k3⟩ := key
    refine ⟨?_, ?_, ?_⟩
    · rw [List.map_append, k1]
      congr 1
      split <;> rfl
    · intro r hr
      rcases List.mem_append.1 hr with hr | hr
      · split at hr
        · rw [List.mem_singleton] at hr
          subst hr
          dsimp only
          omega
        · simp at hr
      · exact k2 r hr
    · rw [List.length_append]
      split
      · simp only [List.length_singleton]; omega
      · simp only [List.length_nil]; omega
theorem rawL_lag : ∀ (xs : List S25) (ago m : Int), 0 ≤ ago → 0 ≤ m → ago + m + ((cntL xs).sum : Int) ≤ 4611686018427387904 → rawL xs (ago + m) = (rawL xs ago).map (lag m) ∧ (∀ r ∈ rawL xs ago, ago ≤ r.2 ∧ r.2 ≤ ago + (cntL xs).sum) ∧ (rawL xs ago).length ≤ (cntL xs).sum
  | [], ago, m, h0, h1, h2 => by simp [rawL, cntL]
  | x :: t, ago, m, h0, h1, h2 => by
    have hc : (cntL (x :: t)).sum = cntE x + (cntL t).sum := by simp [cntL]
    rw [hc] at h2 ⊢
    obtain ⟨a1, a2, a3⟩ := raw_lag x ago m h0 h1 (by omega)
    obtain ⟨b1, b2, b3⟩ := rawL_lag t ago m h0 h1 (by omega)
    simp only [rawL]
    refine ⟨by rw [a1, b1, List.map_append], fun r hr => ?_, by rw [List.length_append]; omega⟩
    rcases List.mem_append.1 hr with hr | hr
    · have := a2 r hr; omega
    · have := b2 r hr; omega
end
/-- what is asked for. -/
def refsP (x : S25) : List Rf := go1 x 0 []
theorem refsP_raw (x : S25) : refsP x = addAll [] (raw1 x 0) := go1_raw x 0 []
theorem refsP_len {x : S25} (h : cntE x ≤ 2000000) : (refsP x).length ≤ cntE x := by
  rw [refsP_raw]
  have h1 := addAll_len (raw1 x 0) []
  have h2 := (raw_lag x 0 0 (by omega) (by omega) (by omega)).2.2
  simp only [List.length_nil] at h1
  omega
theorem refsP_ago {x : S25} (h : cntE x ≤ 2000000) : ∀ r ∈ refsP x, 0 ≤ r.2 ∧ r.2 ≤ 2000000 := by
  intro r hr
  rw [refsP_raw, mem_addAll] at hr
  have h2 := (raw_lag x 0 0 (by omega) (by omega) (by omega)).2.1 r (by simpa using hr)
  omega
/-- within pre: an instant longer ago, each. -/
theorem refs_pre {x : S25} (h : cntE x ≤ 2000000) : refsP ⟨19, 0, ⟨#[]⟩, [x]⟩ = (refsP x).map (lag 1) := by
  have h1 : refsP ⟨19, 0, ⟨#[]⟩, [x]⟩ = go1 x 1 [] := by
    unfold refsP
    simp only [go1, goL]
    rw [if_pos trivial, if_neg (by omega), w64 (by omega) (by omega)]
    rfl
  have h2 : raw1 x 1 = (raw1 x 0).map (lag 1) := by
    have := (raw_lag x 0 1 (by omega) (by omega) (by omega)).1
    simpa using this
  rw [h1, go1_raw, h2, refsP_raw, ← addAll_lag]
  rfl
/-- of two parts: the first one's first. -/
theorem refs_two {x y : S25} (hx : cntE x ≤ 2000000) (hy : cntE y ≤ 2000000) (o m : Int) (ho : o ≠ 3) (hm : m = if o = 19 then 1 else 0) :
    refsP ⟨o, 0, ⟨#[]⟩, [x, y]⟩ = addAll [] ((refsP x ++ refsP y).map (lag m)) := by
  have hm0 : 0 ≤ m ∧ m ≤ 1 := by subst hm; split <;> omega
  have h1 : refsP ⟨o, 0, ⟨#[]⟩, [x, y]⟩ = go1 y m (go1 x m []) := by
    unfold refsP
    simp only [go1, goL]
    rw [if_neg ho]
    have : (if o = 19 then wrap64 (0 + 1) else 0) = m := by
      rw [hm]; split
      · rw [w64 (by omega) (by omega)]; rfl
      · rfl
    rw [this]
  have e : ∀ z : S25, cntE z ≤ 2000000 → raw1 z m = (raw1 z 0).map (lag m) := fun z hz => by
    have := (raw_lag z 0 m (by omega) hm0.1 (by omega)).1
    rwa [Int.zero_add] at this
  have k : ∀ z : S25, (refsP z).map (lag m) = addAll [] ((raw1 z 0).map (lag m)) := fun z => by
    rw [refsP_raw, ← addAll_lag]; rfl
  rw [h1, go1_raw, go1_raw, e x hx, e y hy, List.map_append, k, k, addAll_append, addAll_nil, addAll_nil]
theorem sameR_l0 (l : List S51) (hl : l.length ≤ 4611686018427387904) : ∀ (m i : Nat), i + m = l.length → belfrylaw01_SameRefs.l0 (m + 1) l l i = some true
  | 0, i, h => by
    rw [belfrylaw01_SameRefs.l0]
    rw [if_neg (by omega)]
  | m + 1, i, h => by
    have hw : wrap64 ((i : Int) + 1) = ((i + 1 : Nat) : Int) := by rw [w64 (by omega) (by omega)]; omega
    have := sameR_l0 l hl m (i + 1) (by omega)
    rw [belfrylaw01_SameRefs.l0]
    rw [if_pos (by omega), if_pos (by omega), if_pos (by omega), if_neg (by simp), hw]
    exact this
/-- what is asked for is as it is. -/
theorem sameRefs_self (l : List S51) (hl : l.length ≤ 4611686018427387904) : belfrylaw01_SameRefs.f (l.length + 1) l l = some true := by
  unfold belfrylaw01_SameRefs.f
  rw [if_pos rfl]
  exact sameR_l0 l hl l.length 0 (by omega)
end Go.Proofs.YtbdciibbgiphcaaDoor.V
