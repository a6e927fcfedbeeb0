/- The order that the chapter tells, and plain facts on how it is found by counting. -/
import Derived.Lib.SlicesCompact
namespace Go.Proofs.Ord
set_option linter.unusedVariables false
set_option linter.unusedSimpArgs false
set_option linter.unusedSectionVars false

/-- a list's numbers, each once, rising. -/
def nb (l : List Int) : List Int := Lib.compact (l.mergeSort fun x y => decide (x ≤ y))
def at_ (l : List (List Int)) (k : Nat) : List Int := l.getD k []
def bad (l : List (List Int)) : Bool := l.any fun x => x.any fun y => decide (y < 0) || decide ((l.length : Int) ≤ y)
def rdy (l : List (List Int)) (out : List Int) (k : Nat) : Bool := !out.contains (k : Int) && (at_ l k).all fun y => out.contains y
def next (l : List (List Int)) (out : List Int) : Option Nat := (List.range l.length).find? (rdy l out)
def run (l : List (List Int)) : Nat → List Int → List Int
  | 0, out => out
  | f + 1, out => match next l out with
    | none => out
    | some k => run l f (out ++ [(k : Int)])
/-- P13.1. -/
def of (l : List (List Int)) : List Int × Int :=
  if bad l then ([], 1) else if (run l l.length []).length < l.length then ([], 8) else (run l l.length [], 0)

/-! ### sorted, each once -/
theorem sorted_ms (l : List Int) : (l.mergeSort fun x y => decide (x ≤ y)).Pairwise (· ≤ ·) := by
  have := List.pairwise_mergeSort (le := fun (x y : Int) => decide (x ≤ y)) (fun a b c h1 h2 => by simp at *; omega) (fun a b => by simp; omega) l
  simpa using this

theorem mem_compact {zs : List Int} (x : Int) : x ∈ Lib.compact zs ↔ x ∈ zs := by
  constructor
  · intro h
    simp only [Lib.compact, Lib.compactUpTo, List.mem_map, List.mem_filter, List.mem_range] at h
    obtain ⟨j, ⟨hj, _⟩, rfl⟩ := h
    simp [hj]
  · intro h
    obtain ⟨j, hj, rfl⟩ := List.getElem_of_mem h
    induction j with
    | zero =>
      simp only [Lib.compact, Lib.compactUpTo, List.mem_map, List.mem_filter, List.mem_range]
      exact ⟨0, ⟨hj, Lib.keeps_lt_one _ 0 (by omega)⟩, by simp [hj]⟩
    | succ j ih =>
      by_cases e : zs[j + 1] = zs[j]
      · rw [e]; exact ih (by omega) (by simp)
      · simp only [Lib.compact, Lib.compactUpTo, List.mem_map, List.mem_filter, List.mem_range]
        exact ⟨j + 1, ⟨hj, Lib.keeps_pos (by simp [hj, show j < zs.length by omega]; exact e)⟩, by simp [hj]⟩

theorem lt_compact {zs : List Int} (hs : zs.Pairwise (· ≤ ·)) : (Lib.compact zs).Pairwise (· < ·) := by
  simp only [Lib.compact, Lib.compactUpTo, List.pairwise_map]
  refine List.Pairwise.imp_of_mem ?_ (List.Pairwise.filter _ (List.pairwise_lt_range))
  intro a b ha hb hab
  simp only [List.mem_filter, List.mem_range] at ha hb
  obtain ⟨hb1, hb2⟩ := hb
  rw [List.pairwise_iff_getElem] at hs
  have hkeep : zs[b]'hb1 ≠ zs[b - 1]'(by omega) := by
    intro e
    have : Lib.keeps zs.toArray b = false := Lib.keeps_neg (by omega) (by simp [hb1, show b - 1 < zs.length by omega]; exact e)
    rw [this] at hb2; cases hb2
  have h1 : zs[a]'ha.1 ≤ zs[b - 1]'(by omega) := by
    by_cases e : a = b - 1
    · subst e; exact Int.le_refl _
    · exact hs a (b - 1) ha.1 (by omega) (by omega)
  have h2 := hs (b - 1) b (by omega) hb1 (by omega)
  simp [hb1, ha.1]
  omega

theorem mem_nb (l : List Int) (x : Int) : x ∈ nb l ↔ x ∈ l := by
  unfold nb; rw [mem_compact]; simp
theorem nodup_nb (l : List Int) : (nb l).Nodup := (lt_compact (sorted_ms l)).imp (fun h => by omega)
theorem nb_nil (l : List Int) : nb l = [] ↔ l = [] := by
  constructor
  · intro h
    cases l with
    | nil => rfl
    | cons x t => exact absurd ((mem_nb (x :: t) x).2 (by simp)) (by rw [h]; simp)
  · rintro rfl
    exact List.eq_nil_iff_forall_not_mem.2 (fun x hx => by simpa using (mem_nb [] x).1 hx)
theorem nb_length_le (l : List Int) : (nb l).length ≤ l.length := by
  have h : (nb l).length ≤ (l.mergeSort fun x y => decide (x ≤ y)).length := by
    simp only [nb, Lib.compact, Lib.compactUpTo, List.length_map]
    exact Nat.le_trans (List.length_filter_le _ _) (by simp)
  simpa using h

theorem nodup_inj {l : List Int} (h : l.Nodup) {i j : Nat} (hi : i < l.length) (hj : j < l.length) (e : l[i] = l[j]) : i = j := by
  rw [List.nodup_iff_pairwise_ne, List.pairwise_iff_getElem] at h
  rcases Nat.lt_trichotomy i j with h1 | h1 | h1
  · exact absurd e (h i j hi hj h1)
  · exact h1
  · exact absurd e.symm (h j i hj hi h1)

/-! ### who waits -/
/-- of the first i lists: whose list tells m. -/
def W (l : List (List Int)) (i : Nat) (m : Int) : List Int := ((List.range i).filter fun k => (nb (at_ l k)).contains m).map fun (k : Nat) => (k : Int)
/-- .. and of list i the first j numbers. -/
def W1 (l : List (List Int)) (i j : Nat) (m : Int) : List Int := W l i m ++ if ((nb (at_ l i)).take j).contains m then [(i : Int)] else []

theorem W1_zero (l : List (List Int)) (i : Nat) : W1 l i 0 = W l i := by funext m; simp [W1]
theorem W1_all (l : List (List Int)) (i : Nat) : W1 l i (nb (at_ l i)).length = W l (i + 1) := by
  funext m
  simp only [W1, W, List.take_length, List.range_succ, List.filter_append, List.map_append]
  congr 1
  by_cases h : m ∈ nb (at_ l i) <;> simp [List.filter_cons, h]
theorem W1_step (l : List (List Int)) (i j : Nat) (hj : j < (nb (at_ l i)).length) (x : Int) (hx : x = (nb (at_ l i))[j]) : ∀ k, W1 l i (j + 1) k = if k = x then W1 l i j x ++ [(i : Int)] else W1 l i j k := by
  intro k
  have hnd := nodup_nb (at_ l i)
  have hx' : x ∉ (nb (at_ l i)).take j := by
    intro hm
    obtain ⟨t, ht, e⟩ := List.getElem_of_mem hm
    have ht' : t < j := by simp at ht; omega
    rw [List.getElem_take, hx] at e
    have := nodup_inj hnd _ _ e
    omega
  have ht : (nb (at_ l i)).take (j + 1) = (nb (at_ l i)).take j ++ [x] := by rw [List.take_succ_eq_append_getElem hj, hx]
  unfold W1
  rw [ht]
  by_cases e : k = x
  · subst e
    simp [hx']
  · rw [if_neg e]
    congr 1
    simp [e]
theorem mem_W (l : List (List Int)) (i : Nat) (m x : Int) : x ∈ W l i m ↔ ∃ k : Nat, k < i ∧ x = k ∧ m ∈ at_ l k := by
  simp only [W, List.mem_map, List.mem_filter, List.mem_range, List.contains_iff_mem, mem_nb]
  constructor
  · rintro ⟨k, ⟨h1, h2⟩, rfl⟩; exact ⟨k, h1, rfl, h2⟩
  · rintro ⟨k, h1, rfl, h2⟩; exact ⟨k, ⟨h1, h2⟩, rfl⟩
theorem nodup_W (l : List (List Int)) (i : Nat) (m : Int) : (W l i m).Nodup := by
  unfold W
  rw [List.nodup_iff_pairwise_ne, List.pairwise_map]
  exact (List.Pairwise.filter _ (List.nodup_iff_pairwise_ne.1 List.nodup_range)).imp (fun h e => h (by omega))
theorem W_length_le (l : List (List Int)) (i : Nat) (m : Int) : (W l i m).length ≤ i := by
  simp only [W, List.length_map]
  exact Nat.le_trans (List.length_filter_le _ _) (by simp)

/-! ### how many are left -/
def leftAt (l : List (List Int)) (i : Nat) : List Int := (List.range l.length).map fun k => if k < i then ((nb (at_ l k)).length : Int) else 0
theorem leftAt_length (l : List (List Int)) (i : Nat) : (leftAt l i).length = l.length := by simp [leftAt]
theorem leftAt_zero (l : List (List Int)) : leftAt l 0 = List.replicate l.length 0 := by
  simp only [leftAt, Nat.not_lt_zero, if_false]
  rw [List.eq_replicate_iff]
  simp
theorem leftAt_succ (l : List (List Int)) (i : Nat) (_hi : i < l.length) : (leftAt l i).set i ((nb (at_ l i)).length : Int) = leftAt l (i + 1) := by
  apply List.ext_getElem?
  intro k
  simp only [leftAt, List.getElem?_set, List.getElem?_map, List.length_map, List.length_range]
  by_cases hk : k < l.length
  · rw [List.getElem?_range hk]
    by_cases e : i = k
    · subst e; simp [hk]
    · rw [if_neg e]; simp only [Option.map_some]; congr 1
      by_cases h : k < i
      · rw [if_pos h, if_pos (by omega)]
      · rw [if_neg h, if_neg (by omega)]
  · rw [List.getElem?_eq_none (by simpa using hk)]
    by_cases e : i = k
    · subst e; simp [hk]
    · rw [if_neg e]; rfl

/-- how many of list k's numbers were not told. -/
def cnt (l : List (List Int)) (out : List Int) (k : Nat) : Nat := ((nb (at_ l k)).filter fun y => !out.contains y).length
/-- what is left, with out told, m told now to those that wait at the first t places. -/
def left3 (l : List (List Int)) (out : List Int) (m : Int) (t : Nat) : List Int :=
  (List.range l.length).map fun k => (cnt l out k : Int) - if ((W l l.length m).take t).contains (k : Int) then 1 else 0
def left2 (l : List (List Int)) (out : List Int) : List Int := (List.range l.length).map fun k => (cnt l out k : Int)
theorem left2_nil (l : List (List Int)) : leftAt l l.length = left2 l [] := by
  apply List.map_congr_left
  intro k hk
  rw [if_pos (List.mem_range.1 hk)]
  have : cnt l [] k = (nb (at_ l k)).length := by simp [cnt]
  rw [this]
theorem left3_zero (l : List (List Int)) (out : List Int) (m : Int) : left3 l out m 0 = left2 l out := by simp [left3, left2]

theorem cnt_snoc (l : List (List Int)) (out : List Int) (m : Int) (k : Nat) (hm : m ∉ out) : cnt l out k = cnt l (out ++ [m]) k + if m ∈ at_ l k then 1 else 0 := by
  unfold cnt
  have hnd := nodup_nb (at_ l k)
  have hmem := mem_nb (at_ l k) m
  have hif : (if m ∈ at_ l k then 1 else 0) = (if m ∈ nb (at_ l k) then 1 else 0) := by
    by_cases h : m ∈ at_ l k
    · rw [if_pos h, if_pos (hmem.2 h)]
    · rw [if_neg h, if_neg (fun h2 => h (hmem.1 h2))]
  rw [hif]
  generalize nb (at_ l k) = d at *
  clear hmem hif
  induction d with
  | nil => simp
  | cons y d ih =>
    have hnd' := List.nodup_cons.1 hnd
    have ih := ih hnd'.2
    by_cases e : y = m
    · subst e
      have hd : y ∉ d := hnd'.1
      simp only [List.mem_cons, true_or, if_true, List.filter_cons]
      have h1 : out.contains y = false := by simpa using hm
      have h2 : (out ++ [y]).contains y = true := by simp
      rw [h1, h2]
      rw [if_neg hd] at ih
      simp only [Bool.not_false, if_true, Bool.not_true, List.length_cons]
      simp
      simpa using ih
    · have hc : (out ++ [m]).contains y = out.contains y := by simp [List.contains_eq_mem, e]
      simp only [List.filter_cons, hc, List.mem_cons]
      have hiff : (m = y ∨ m ∈ d) ↔ m ∈ d := ⟨fun h => h.elim (fun h => absurd h.symm e) id, .inr⟩
      simp only [hiff]
      cases out.contains y
      · simp only [Bool.not_false, if_true, List.length_cons]; omega
      · simp only [Bool.not_true]; simpa using ih
theorem left3_all (l : List (List Int)) (out : List Int) (m : Int) (hm : m ∉ out) : left3 l out m (W l l.length m).length = left2 l (out ++ [m]) := by
  apply List.map_congr_left
  intro k hk
  have hk := List.mem_range.1 hk
  rw [List.take_length, cnt_snoc l out m k hm]
  have : (W l l.length m).contains (k : Int) = decide (m ∈ at_ l k) := by
    rw [List.contains_eq_mem, decide_eq_decide, mem_W]
    exact ⟨fun ⟨k', _, e, h⟩ => by have : k' = k := by omega
                                   subst this; exact h, fun h => ⟨k, hk, rfl, h⟩⟩
  rw [this]
  by_cases h : m ∈ at_ l k <;> simp [h]
theorem left3_get (l : List (List Int)) (out : List Int) (m : Int) (t : Nat) (ht : t < (W l l.length m).length) : ∃ k : Nat, k < l.length ∧ (W l l.length m)[t] = k ∧ m ∈ at_ l k ∧ (left3 l out m t).getD k 0 = cnt l out k ∧ (left3 l out m t).set k ((cnt l out k : Int) - 1) = left3 l out m (t + 1) := by
  obtain ⟨k, h1, h2, h3⟩ := (mem_W l l.length m _).1 (List.getElem_mem ht)
  have hnd := nodup_W l l.length m
  have hnot : ((k : Int)) ∉ (W l l.length m).take t := by
    intro hm
    obtain ⟨s, hs, e⟩ := List.getElem_of_mem hm
    have hs' : s < t := by simp at hs; omega
    rw [List.getElem_take, ← h2] at e
    have := nodup_inj hnd _ _ e
    omega
  have htk : (W l l.length m).take (t + 1) = (W l l.length m).take t ++ [(k : Int)] := by rw [List.take_succ_eq_append_getElem ht, h2]
  refine ⟨k, h1, h2, h3, ?_, ?_⟩
  · simp [left3, h1, List.getD_eq_getElem?_getD, List.getElem?_range h1, hnot]
  · apply List.ext_getElem?
    intro j
    simp only [left3, List.getElem?_set, List.getElem?_map, List.length_map, List.length_range]
    by_cases hj : j < l.length
    · rw [List.getElem?_range hj, htk]
      by_cases e : k = j
      · subst e; simp [hj]
      · rw [if_neg e]; simp only [Option.map_some]; congr 2
        have : ((W l l.length m).take t ++ [(k : Int)]).contains (j : Int) = ((W l l.length m).take t).contains (j : Int) := by
          have hne : (j : Int) ≠ k := by omega
          simp [hne]
        rw [this]
    · rw [List.getElem?_eq_none (by simpa using hj)]
      by_cases e : k = j
      · subst e; exact absurd h1 hj
      · rw [if_neg e]; rfl
theorem cnt_one (l : List (List Int)) (out : List Int) (m : Int) (k : Nat) (hm : m ∉ out) (hk : m ∈ at_ l k) : 1 ≤ cnt l out k ∧ (cnt l out k = 1 ↔ ∀ y ∈ at_ l k, y ∈ out ∨ y = m) := by
  have h := cnt_snoc l out m k hm
  rw [if_pos hk] at h
  refine ⟨by omega, ?_⟩
  have h0 : cnt l out k = 1 ↔ cnt l (out ++ [m]) k = 0 := by omega
  rw [h0]
  simp only [cnt, List.length_eq_zero_iff, List.filter_eq_nil_iff, mem_nb]
  constructor
  · intro h y hy
    have := h y hy
    by_cases e : y ∈ out
    · exact .inl e
    · exact .inr (by simpa [e] using this)
  · intro h y hy
    have := h y hy
    by_cases e : y ∈ out
    · simp [e]
    · simpa [e] using this

/-! ### the two phases, told in what was done -/
theorem bad_iff (l : List (List Int)) : bad l = true ↔ ∃ k, k < l.length ∧ ∃ y ∈ at_ l k, y < 0 ∨ (l.length : Int) ≤ y := by
  simp only [bad, List.any_eq_true, Bool.or_eq_true, decide_eq_true_eq]
  constructor
  · rintro ⟨x, hx, y, hy, h⟩
    obtain ⟨k, hk, rfl⟩ := List.getElem_of_mem hx
    exact ⟨k, hk, y, by simpa [at_, List.getD_eq_getElem?_getD, List.getElem?_eq_getElem hk] using hy, h⟩
  · rintro ⟨k, hk, y, hy, h⟩
    refine ⟨l[k], List.getElem_mem hk, y, ?_, h⟩
    simpa [at_, List.getD_eq_getElem?_getD, List.getElem?_eq_getElem hk] using hy

/-- the numbers that are told: each once, each a place. -/
structure Told (l : List (List Int)) (out hs : List Int) : Prop where
  nodup : out.Nodup
  range : ∀ x ∈ out, 0 ≤ x ∧ x < l.length
  closed : ∀ k : Nat, (k : Int) ∈ out → ∀ y ∈ at_ l k, y ∈ out
  hnodup : hs.Nodup
  ready : ∀ x : Int, x ∈ hs ↔ ∃ k : Nat, k < l.length ∧ x = k ∧ rdy l out k = true
  runs : run l (l.length - out.length) out = run l l.length []
  short : out.length ≤ l.length

theorem rdy_iff (l : List (List Int)) (out : List Int) (k : Nat) : rdy l out k = true ↔ (k : Int) ∉ out ∧ ∀ y ∈ at_ l k, y ∈ out := by
  simp [rdy]

theorem nodup_length_le (n : Nat) (out : List Int) (h : out.Nodup) (hr : ∀ x ∈ out, 0 ≤ x ∧ x < n) : out.length ≤ n := by
  have h1 : (out.map Int.toNat).Nodup := by
    rw [List.nodup_iff_pairwise_ne, List.pairwise_map]
    refine List.Pairwise.imp_of_mem (R := (· ≠ ·)) ?_ (List.nodup_iff_pairwise_ne.1 h)
    intro a b ha hb hne e
    have := hr a ha; have := hr b hb
    omega
  have h2 : (out.map Int.toNat) ⊆ List.range n := by
    intro x hx
    obtain ⟨y, hy, rfl⟩ := List.mem_map.1 hx
    have := hr y hy
    simp; omega
  have := h1.length_le_of_subset h2
  simpa using this

/-- the least one that is ready goes next. -/
theorem next_least (l : List (List Int)) (out hs : List Int) (h : Told l out hs) (k : Nat) (hk : (k : Int) ∈ hs) (hmin : ∀ y ∈ hs, (k : Int) ≤ y) : next l out = some k := by
  obtain ⟨k', hk', e, hr⟩ := (h.ready k).1 hk
  have : k' = k := by omega
  subst this
  unfold next
  rw [List.find?_eq_some_iff_append]
  refine ⟨hr, List.range k', (List.range (l.length - k' - 1)).map (k' + 1 + ·), ?_, ?_⟩
  · have e1 : l.length = k' + (l.length - k' - 1 + 1) := by omega
    conv => lhs; rw [e1, List.range_add]
    rw [List.range_succ_eq_map]
    simp [Nat.add_assoc, Function.comp_def, Nat.add_comm 1]
  · intro j hj
    have hj := List.mem_range.1 hj
    cases hrd : rdy l out j with
    | false => rfl
    | true =>
      have := hmin j ((h.ready j).2 ⟨j, by omega, rfl, hrd⟩)
      omega
theorem next_none (l : List (List Int)) (out : List Int) (h : Told l out []) : next l out = none := by
  unfold next
  rw [List.find?_eq_none]
  intro j hj
  have hj := List.mem_range.1 hj
  intro hrd
  have := (h.ready j).2 ⟨j, hj, rfl, hrd⟩
  simp at this
theorem run_none (l : List (List Int)) (out : List Int) (h : next l out = none) (f : Nat) : run l f out = out := by
  cases f with
  | zero => rfl
  | succ f => simp [run, h]

/-- the heap while those that wait for m are gone through. -/
def Mid (l : List (List Int)) (out : List Int) (m : Int) (t : Nat) (hs : List Int) : Prop :=
  hs.Nodup ∧ ∀ x : Int, x ∈ hs ↔ ∃ k : Nat, k < l.length ∧ x = k ∧ x ∉ out ∧ x ≠ m ∧ ((∀ y ∈ at_ l k, y ∈ out) ∨ (x ∈ (W l l.length m).take t ∧ ∀ y ∈ at_ l k, y ∈ out ∨ y = m))

theorem mid_zero (l : List (List Int)) (out hs ys : List Int) (h : Told l out hs) (m : Int) (hp : (m :: ys).Perm hs) : Mid l out m 0 ys := by
  have hnd := List.nodup_cons.1 (hp.symm.nodup h.hnodup)
  refine ⟨hnd.2, fun x => ?_⟩
  have hx : x ∈ ys ↔ x ∈ hs ∧ x ≠ m := by
    rw [← hp.mem_iff, List.mem_cons]
    constructor
    · intro hx; exact ⟨.inr hx, fun e => hnd.1 (e ▸ hx)⟩
    · rintro ⟨h | h, hne⟩
      · exact absurd h hne
      · exact h
  rw [hx, h.ready]
  constructor
  · rintro ⟨⟨k, hk, rfl, hr⟩, hne⟩
    obtain ⟨h1, h2⟩ := (rdy_iff l out k).1 hr
    exact ⟨k, hk, rfl, h1, hne, .inl h2⟩
  · rintro ⟨k, hk, rfl, h1, hne, h2 | h2⟩
    · exact ⟨⟨k, hk, rfl, (rdy_iff l out k).2 ⟨h1, h2⟩⟩, hne⟩
    · simp at h2

theorem mid_skip (l : List (List Int)) (out : List Int) (m : Int) (t : Nat) (hs : List Int) (ht : t < (W l l.length m).length) (h : Mid l out m t hs) (k : Nat) (hk : (W l l.length m)[t] = k) (hn : ¬ ∀ y ∈ at_ l k, y ∈ out ∨ y = m) : Mid l out m (t + 1) hs := by
  refine ⟨h.1, fun x => ?_⟩
  rw [h.2]
  have htk : (W l l.length m).take (t + 1) = (W l l.length m).take t ++ [(k : Int)] := by rw [List.take_succ_eq_append_getElem ht, hk]
  rw [htk]
  constructor
  · rintro ⟨j, h1, rfl, h2, h3, h4 | ⟨h4, h5⟩⟩
    · exact ⟨j, h1, rfl, h2, h3, .inl h4⟩
    · exact ⟨j, h1, rfl, h2, h3, .inr ⟨List.mem_append_left _ h4, h5⟩⟩
  · rintro ⟨j, h1, rfl, h2, h3, h4 | ⟨h4, h5⟩⟩
    · exact ⟨j, h1, rfl, h2, h3, .inl h4⟩
    · rcases List.mem_append.1 h4 with h4 | h4
      · exact ⟨j, h1, rfl, h2, h3, .inr ⟨h4, h5⟩⟩
      · have : j = k := by simp at h4; omega
        subst this
        exact absurd h5 hn

theorem mid_push (l : List (List Int)) (out hs0 : List Int) (hT : Told l out hs0) (m : Int) (hm : m ∉ out) (hmr : ∀ k : Nat, m = k → ∀ y ∈ at_ l k, y ∈ out) (t : Nat) (hs ys : List Int) (ht : t < (W l l.length m).length) (h : Mid l out m t hs) (k : Nat) (hkl : k < l.length) (hk : (W l l.length m)[t] = k) (hmk : m ∈ at_ l k)
    (hn : ∀ y ∈ at_ l k, y ∈ out ∨ y = m) (hp : ys.Perm (hs ++ [(k : Int)])) : Mid l out m (t + 1) ys := by
  have htk : (W l l.length m).take (t + 1) = (W l l.length m).take t ++ [(k : Int)] := by rw [List.take_succ_eq_append_getElem ht, hk]
  have hkt : (k : Int) ∉ (W l l.length m).take t := by
    intro hm
    obtain ⟨s, hs, e⟩ := List.getElem_of_mem hm
    have hs' : s < t := by simp at hs; omega
    rw [List.getElem_take, ← hk] at e
    have := nodup_inj (nodup_W l l.length m) _ _ e
    omega
  have hko : (k : Int) ∉ out := fun e => hm (hT.closed k e m hmk)
  have hkm : (k : Int) ≠ m := fun e => hm (hmr k e.symm m hmk)
  have hkh : (k : Int) ∉ hs := by
    rw [h.2]
    rintro ⟨j, _, e, _, _, h4 | ⟨h4, _⟩⟩
    · have : j = k := by omega
      subst this
      exact hm (h4 m hmk)
    · exact hkt h4
  refine ⟨hp.symm.nodup ?_, fun x => ?_⟩
  · rw [List.nodup_append]
    exact ⟨h.1, by simp, fun a ha b hb e => by simp at hb; subst hb; subst e; exact hkh ha⟩
  · rw [hp.mem_iff, List.mem_append, List.mem_singleton, h.2, htk]
    constructor
    · rintro (⟨j, h1, rfl, h2, h3, h4 | ⟨h4, h5⟩⟩ | rfl)
      · exact ⟨j, h1, rfl, h2, h3, .inl h4⟩
      · exact ⟨j, h1, rfl, h2, h3, .inr ⟨List.mem_append_left _ h4, h5⟩⟩
      · exact ⟨k, hkl, rfl, hko, hkm, .inr ⟨by simp, hn⟩⟩
    · rintro ⟨j, h1, rfl, h2, h3, h4 | ⟨h4, h5⟩⟩
      · exact .inl ⟨j, h1, rfl, h2, h3, .inl h4⟩
      · rcases List.mem_append.1 h4 with h4 | h4
        · exact .inl ⟨j, h1, rfl, h2, h3, .inr ⟨h4, h5⟩⟩
        · exact .inr (by simpa using h4)

theorem told_step (l : List (List Int)) (out hs ys : List Int) (h : Told l out hs) (k : Nat) (hk : (k : Int) ∈ hs) (hmin : ∀ y ∈ hs, (k : Int) ≤ y) (hy : Mid l out k (W l l.length k).length ys) : Told l (out ++ [(k : Int)]) ys := by
  obtain ⟨k', hk', e, hr⟩ := (h.ready k).1 hk
  have : k' = k := by omega
  subst this
  obtain ⟨h1, h2⟩ := (rdy_iff l out k').1 hr
  have hnd : (out ++ [(k' : Int)]).Nodup := by
    rw [List.nodup_append]
    exact ⟨h.nodup, by simp, fun a ha b hb e => by simp at hb; subst hb; subst e; exact h1 ha⟩
  have hrg : ∀ x ∈ out ++ [(k' : Int)], 0 ≤ x ∧ x < l.length := by
    intro x hx
    rcases List.mem_append.1 hx with hx | hx
    · exact h.range x hx
    · simp at hx; subst hx; omega
  have hle := nodup_length_le l.length _ hnd hrg
  refine ⟨hnd, hrg, ?_, hy.1, ?_, ?_, hle⟩
  · intro j hj y hyy
    rcases List.mem_append.1 hj with hj | hj
    · exact List.mem_append_left _ (h.closed j hj y hyy)
    · have : j = k' := by simp at hj; omega
      subst this
      exact List.mem_append_left _ (h2 y hyy)
  · intro x
    rw [hy.2, List.take_length]
    constructor
    · rintro ⟨j, q1, rfl, q2, q3, q4⟩
      refine ⟨j, q1, rfl, (rdy_iff _ _ _).2 ⟨by simp [q2]; omega, fun y hy => ?_⟩⟩
      rcases q4 with q4 | ⟨_, q4⟩
      · exact List.mem_append_left _ (q4 y hy)
      · rcases q4 y hy with q | q
        · exact List.mem_append_left _ q
        · exact List.mem_append_right _ (by simp [q])
    · rintro ⟨j, q1, rfl, q2⟩
      obtain ⟨q3, q4⟩ := (rdy_iff _ _ _).1 q2
      have q5 : (j : Int) ∉ out := fun e => q3 (List.mem_append_left _ e)
      have q6 : (j : Int) ≠ k' := fun e => q3 (List.mem_append_right _ (by simp [e]))
      refine ⟨j, q1, rfl, q5, q6, ?_⟩
      by_cases hm : (k' : Int) ∈ at_ l j
      · refine .inr ⟨(mem_W l l.length k' j).2 ⟨j, q1, rfl, hm⟩, fun y hy => ?_⟩
        rcases List.mem_append.1 (q4 y hy) with q | q
        · exact .inl q
        · exact .inr (by simpa using q)
      · refine .inl (fun y hy => ?_)
        rcases List.mem_append.1 (q4 y hy) with q | q
        · exact q
        · simp at q; subst q; exact absurd hy hm
  · rw [← h.runs]
    have hl : (out ++ [(k' : Int)]).length = out.length + 1 := by simp
    rw [hl] at hle ⊢
    have e1 : l.length - out.length = (l.length - (out.length + 1)) + 1 := by omega
    rw [e1, run, next_least l out hs h k' hk hmin]

theorem told_start (l : List (List Int)) (hs : List Int) (hnd : hs.Nodup) (hh : ∀ x : Int, x ∈ hs ↔ ∃ k : Nat, k < l.length ∧ x = k ∧ nb (at_ l k) = []) : Told l [] hs := by
  refine ⟨by simp, by simp, by simp, hnd, fun x => ?_, by simp, by simp⟩
  rw [hh]
  constructor
  · rintro ⟨k, h1, rfl, h2⟩
    exact ⟨k, h1, rfl, (rdy_iff _ _ _).2 ⟨by simp, fun y hy => by rw [(nb_nil _).1 h2] at hy; simp at hy⟩⟩
  · rintro ⟨k, h1, rfl, h2⟩
    obtain ⟨_, h3⟩ := (rdy_iff _ _ _).1 h2
    refine ⟨k, h1, rfl, (nb_nil _).2 (List.eq_nil_iff_forall_not_mem.2 (fun y hy => by simpa using h3 y hy))⟩
end Go.Proofs.Ord
