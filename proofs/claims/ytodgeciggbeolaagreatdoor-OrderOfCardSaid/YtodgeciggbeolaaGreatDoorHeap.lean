/- Plain facts on binary heaps kept in lists of numbers. -/
namespace Go.Proofs.BinHeap
set_option linter.unusedVariables false
set_option linter.unusedSimpArgs false
set_option linter.unusedSectionVars false

def swp (xs : List Int) (i j : Nat) : List Int := (xs.set i (xs.getD j 0)).set j (xs.getD i 0)

theorem swp_length (xs : List Int) (i j : Nat) : (swp xs i j).length = xs.length := by simp [swp]

theorem getD_swp (xs : List Int) (i j k : Nat) (hi : i < xs.length) (hj : j < xs.length) :
    (swp xs i j).getD k 0 = if k = j then xs.getD i 0 else if k = i then xs.getD j 0 else xs.getD k 0 := by
  simp only [swp, List.getD_eq_getElem?_getD, List.getElem?_set, List.length_set]
  by_cases h1 : k = j
  · subst h1; simp [hj]
  · rw [if_neg (fun e => h1 e.symm), if_neg h1]
    by_cases h2 : k = i
    · subst h2; simp [hi]
    · rw [if_neg (fun e => h2 e.symm), if_neg h2]

theorem perm_swp (xs : List Int) (i j : Nat) (hi : i < xs.length) (hj : j < xs.length) : (swp xs i j).Perm xs := by
  rw [List.perm_iff_count]
  intro a
  simp only [swp]
  have e1 : xs.getD j 0 = xs[j] := by simp [hj]
  have e2 : xs.getD i 0 = xs[i] := by simp [hi]
  rw [e1, e2]
  have hj' : j < (xs.set i xs[j]).length := by simpa using hj
  rw [List.count_set (h := hj'), List.count_set (h := hi)]
  have hpos : 0 < List.count xs[i] xs := List.count_pos_iff.2 (List.getElem_mem hi)
  have hposj : 0 < List.count xs[j] xs := List.count_pos_iff.2 (List.getElem_mem hj)
  have e3 : (xs.set i xs[j])[j] = xs[j] := by
    by_cases h : i = j
    · subst h; simp
    · simp [h]
  rw [e3]
  by_cases h1 : xs[i] = a <;> by_cases h2 : xs[j] = a
  · simp [h1, h2]; rw [h1] at hpos; omega
  · simp [h1, h2]; rw [h1] at hpos; omega
  · simp [h1, h2]
  · simp [h1, h2]

def par (j : Nat) : Nat := (j - 1) / 2

/-- the first n are a heap. -/
def IsHeap (n : Nat) (xs : List Int) : Prop := ∀ j, 0 < j → j < n → xs.getD (par j) 0 ≤ xs.getD j 0

/-- a heap, but perhaps at j and its parent. -/
def HeapUp (n j : Nat) (xs : List Int) : Prop :=
  (∀ k, 0 < k → k < n → k ≠ j → xs.getD (par k) 0 ≤ xs.getD k 0) ∧ (∀ k, 0 < j → 0 < k → k < n → par k = j → xs.getD (par j) 0 ≤ xs.getD k 0)

theorem HeapUp.done {n j : Nat} {xs : List Int} (h : HeapUp n j xs) (hj : j = 0 ∨ xs.getD (par j) 0 ≤ xs.getD j 0) : IsHeap n xs := by
  intro k h0 hk
  by_cases e : k = j
  · subst e
    rcases hj with hj | hj
    · omega
    · exact hj
  · exact h.1 k h0 hk e

theorem HeapUp.step {n j : Nat} {xs : List Int} (h : HeapUp n j xs) (hn : n ≤ xs.length) (h0 : 0 < j) (hj : j < n) (hlt : xs.getD j 0 < xs.getD (par j) 0) :
    HeapUp n (par j) (swp xs (par j) j) := by
  have hp : par j < j := by unfold par; omega
  have hpl : par j < xs.length := by omega
  have hjl : j < xs.length := by omega
  refine ⟨fun k hk0 hk hne => ?_, fun k hp0 hk0 hk he => ?_⟩
  · rw [getD_swp _ _ _ _ hpl hjl, getD_swp _ _ _ _ hpl hjl]
    by_cases e1 : k = j
    · subst e1; simp only [if_true]
      rw [if_neg (by omega)]
      omega
    · rw [if_neg e1, if_neg hne]
      by_cases e2 : par k = j
      · rw [if_pos e2]; exact h.2 k h0 hk0 hk e2
      · rw [if_neg e2]
        by_cases e3 : par k = par j
        · rw [if_pos e3]
          have := h.1 k hk0 hk e1
          rw [e3] at this
          omega
        · rw [if_neg e3]; exact h.1 k hk0 hk e1
  · have hpp : par (par j) < par j := by unfold par at hp0 ⊢; omega
    rw [getD_swp _ _ _ _ hpl hjl, getD_swp _ _ _ _ hpl hjl, if_neg (by omega), if_neg (by omega)]
    have hup := h.1 (par j) hp0 (by omega) (by omega)
    by_cases e1 : k = j
    · subst e1; rw [if_pos rfl]; exact hup
    · have hkp : k ≠ par j := by
        intro e; unfold par at *; omega
      rw [if_neg e1, if_neg hkp]
      have := h.1 k hk0 hk e1
      rw [he] at this
      omega

/-- a heap, but perhaps at i and its children. -/
def HeapDown (n i : Nat) (xs : List Int) : Prop :=
  (∀ k, 0 < k → k < n → par k ≠ i → xs.getD (par k) 0 ≤ xs.getD k 0) ∧ (∀ k, 0 < i → 0 < k → k < n → par k = i → xs.getD (par i) 0 ≤ xs.getD k 0)

theorem HeapDown.done {n i : Nat} {xs : List Int} (h : HeapDown n i xs) (hc : ∀ k, 0 < k → k < n → par k = i → xs.getD i 0 ≤ xs.getD k 0) : IsHeap n xs := by
  intro k h0 hk
  by_cases e : par k = i
  · rw [e]; exact hc k h0 hk e
  · exact h.1 k h0 hk e

theorem HeapDown.step {n i c : Nat} {xs : List Int} (h : HeapDown n i xs) (hn : n ≤ xs.length) (hc0 : 0 < c) (hc : c < n) (hpc : par c = i) (hlt : xs.getD c 0 < xs.getD i 0)
    (hmin : ∀ k, 0 < k → k < n → par k = i → xs.getD c 0 ≤ xs.getD k 0) : HeapDown n c (swp xs i c) := by
  have hic : i < c := by unfold par at hpc; omega
  have hil : i < xs.length := by omega
  have hcl : c < xs.length := by omega
  refine ⟨fun k hk0 hk hne => ?_, fun k _ hk0 hk he => ?_⟩
  · rw [getD_swp _ _ _ _ hil hcl, getD_swp _ _ _ _ hil hcl, if_neg hne]
    by_cases e0 : par k = i
    · rw [if_pos e0]
      by_cases e1 : k = c
      · subst e1; rw [if_pos rfl]; omega
      · have : k ≠ i := by intro e; subst e; unfold par at e0; omega
        rw [if_neg e1, if_neg this]; exact hmin k hk0 hk e0
    · rw [if_neg e0]
      by_cases e1 : k = c
      · subst e1; omega
      · rw [if_neg e1]
        by_cases e2 : k = i
        · subst e2; rw [if_pos rfl]
          exact h.2 c hk0 hc0 hc hpc
        · rw [if_neg e2]; exact h.1 k hk0 hk e0
  · rw [getD_swp _ _ _ _ hil hcl, getD_swp _ _ _ _ hil hcl, hpc]
    have e1 : k ≠ c := by intro e; subst e; unfold par at he; omega
    have e2 : k ≠ i := by intro e; subst e; unfold par at he hpc; omega
    rw [if_neg (by omega), if_pos rfl, if_neg e1, if_neg e2]
    have := h.1 k hk0 hk (by rw [he]; omega)
    rw [he] at this
    exact this

theorem IsHeap.least {n : Nat} {xs : List Int} (h : IsHeap n xs) : ∀ j, j < n → xs.getD 0 0 ≤ xs.getD j 0 := by
  intro j
  induction j using Nat.strongRecOn with
  | _ j ih =>
    intro hj
    by_cases e : j = 0
    · subst e; omega
    · have hp : par j < j := by unfold par; omega
      have := ih (par j) hp (by omega)
      have := h j (by omega) hj
      omega

theorem IsHeap.down {n : Nat} {xs : List Int} (h : IsHeap (n + 1) xs) (hn : n + 1 ≤ xs.length) : HeapDown n 0 (swp xs 0 n) := by
  refine ⟨fun k hk0 hk hne => ?_, fun k h0 => absurd h0 (by omega)⟩
  have hp : par k < k := by unfold par; omega
  rw [getD_swp _ _ _ _ (by omega) (by omega), getD_swp _ _ _ _ (by omega) (by omega), if_neg (by omega), if_neg hne, if_neg (by omega), if_neg (by omega)]
  exact h k hk0 (by omega)

theorem IsHeap.push {xs : List Int} (h : IsHeap xs.length xs) (x : Int) : HeapUp (xs.length + 1) xs.length (xs ++ [x]) := by
  refine ⟨fun k hk0 hk hne => ?_, fun k _ hk0 hk he => ?_⟩
  · have hp : par k < k := by unfold par; omega
    have := h k hk0 (by omega)
    rw [List.getD_eq_getElem?_getD, List.getD_eq_getElem?_getD, List.getElem?_append_left (by omega), List.getElem?_append_left (by omega), ← List.getD_eq_getElem?_getD, ← List.getD_eq_getElem?_getD]
    exact this
  · exfalso; unfold par at he; omega

theorem isHeap_nil : IsHeap 0 [] := fun _ _ h => absurd h (by omega)

theorem IsHeap.take {n : Nat} {xs : List Int} (h : IsHeap n xs) (_hn : n ≤ xs.length) : IsHeap (xs.take n).length (xs.take n) := by
  intro j h0 hj
  have hj' : j < n := by simp at hj; omega
  have hp : par j < j := by unfold par; omega
  have := h j h0 hj'
  simp only [List.getD_eq_getElem?_getD, List.getElem?_take] at this ⊢
  rw [if_pos (by omega), if_pos hj']
  exact this

end Go.Proofs.BinHeap
