/- Circles of some shapes, in plain words. No program. -/
import Derived.Test.YtfkggeakjgphjaaJD
namespace Go.Proofs.Ytfkggeakjgphjaa.C
set_option linter.unusedVariables false
set_option linter.unusedSimpArgs false
open Go.Proofs.Circ
theorem find_one {l : List Nat} {p : Nat → Bool} {y : Nat} (h : ∀ z, z ∈ l ↔ z = y) (hp : p y = true) : l.find? p = some y := by
  cases hf : l.find? p with
  | none => exact absurd hp (by have := List.find?_eq_none.1 hf y ((h y).2 rfl); simpa using this)
  | some z => rw [(h z).1 (List.mem_of_find?_eq_some hf)]
theorem path_chain {all : Nat → List Nat} {f : Nat → Nat} : ∀ (n : Nat) (s : Nat → Nat), (∀ j, j < n → (∀ z, z ∈ all (s j) ↔ z = s (j + 1)) ∧ f (s (j + 1)) = n - j) → path all f n (s 0) = (List.range n).map fun j => s (j + 1)
  | 0, s, h => by simp [path]
  | n + 1, s, h => by
    have h0 := h 0 (by omega)
    rw [path, find_one h0.1 (by rw [h0.2]; simp)]
    dsimp only
    rw [path_chain n (fun j => s (j + 1)) (fun j hj => by
      have := h (j + 1) (by omega)
      exact ⟨this.1, by rw [this.2]; omega⟩)]
    rw [List.range_succ_eq_map, List.map_cons, List.map_map]
    rfl
/-- the shapes. -/
theorem circ_short {all : Nat → List Nat} {K a : Nat} (ha : a + 1 < K) (h0 : ∀ x, x ∈ all 0 ↔ x = 1) (h1 : ∀ i, i < K → ∀ x, x ∈ all (1 + i) ↔ x = 1 + (i + 1) % K ∨ (i = a ∧ x = 1)) (hout : ∀ x, K + 1 ≤ x → all x = []) :
    circ all (K + 1) = (List.range (a + 1)).map fun i => 1 + i := by
  have hin : ∀ x y, y ∈ all x → y < K + 1 := by
    intro x y hy
    rcases Nat.eq_zero_or_pos x with rfl | hx
    · rw [h0] at hy; omega
    · rcases Nat.lt_or_ge x (K + 1) with hlt | hge
      · rw [show x = 1 + (x - 1) by omega] at hy
        rcases (h1 _ (by omega) y).1 hy with rfl | ⟨_, rfl⟩
        · have := Nat.mod_lt (x - 1 + 1) (show 0 < K by omega); omega
        · omega
      · rw [hout x hge] at hy; simp at hy
  have hno : ∀ n x, ¬ Wk all 0 (n + 1) x := by
    intro n
    induction n with
    | zero =>
      rintro x ⟨y, hy, rfl⟩
      rcases Nat.eq_zero_or_pos x with rfl | hx
      · rw [h0] at hy; omega
      · rcases Nat.lt_or_ge x (K + 1) with hlt | hge
        · rw [show x = 1 + (x - 1) by omega] at hy
          rcases (h1 _ (by omega) _).1 hy with e | ⟨_, e⟩ <;> omega
        · rw [hout x hge] at hy; simp at hy
    | succ n ih =>
      rintro x ⟨y, hy, hw⟩
      exact ih y hw
  have hf0 : far all (K + 1) 0 0 = 0 := (far_zero hin 0 (by omega)).2 (fun n hn hw => by
    obtain ⟨m, rfl⟩ : ∃ m, n = m + 1 := ⟨n - 1, by omega⟩
    exact hno m 0 hw)
  -- how far from the first of the circle
  have hup : ∀ n x, x + n = a → Wk all 1 (n + 1) (1 + x) := by
    intro n
    induction n with
    | zero => intro x hx; exact ⟨1, (h1 x (by omega) 1).2 (.inr ⟨by omega, rfl⟩), rfl⟩
    | succ n ih =>
      intro x hx
      refine ⟨1 + (x + 1), (h1 x (by omega) _).2 (.inl (by rw [Nat.mod_eq_of_lt (by omega)])), ih (x + 1) (by omega)⟩
  have hlo : ∀ m x, x < K → Wk all 1 (m + 1) (1 + x) → (if x ≤ a then a + 1 - x else K - x) ≤ m + 1 := by
    intro m
    induction m with
    | zero =>
      rintro x hx ⟨y, hy, rfl⟩
      rcases (h1 x hx 1).1 hy with e | ⟨rfl, _⟩
      · have : (x + 1) % K = 0 := by omega
        have : x + 1 = K := by
          rcases Nat.lt_or_ge (x + 1) K with h | h
          · rw [Nat.mod_eq_of_lt h] at this; omega
          · omega
        split <;> omega
      · split <;> omega
    | succ m ih =>
      rintro x hx ⟨y, hy, hw⟩
      rcases (h1 x hx y).1 hy with rfl | ⟨rfl, rfl⟩
      · have hlt := Nat.mod_lt (x + 1) (show 0 < K by omega)
        have h2 := ih _ hlt hw
        rcases Nat.lt_or_ge (x + 1) K with h | h
        · rw [Nat.mod_eq_of_lt h] at h2
          split <;> (split at h2 <;> omega)
        · split <;> omega
      · split <;> omega
  have hfar : ∀ x, x ≤ a → far all (K + 1) 1 (1 + x) = a + 1 - x := by
    intro x hx
    rw [far_pos hin _ _ (by omega)]
    refine ⟨by omega, ?_, fun m hm1 hm2 hw => ?_⟩
    · have := hup (a - x) x (by omega)
      rwa [show a - x + 1 = a + 1 - x by omega] at this
    · obtain ⟨k, rfl⟩ : ∃ k, m = k + 1 := ⟨m - 1, by omega⟩
      have := hlo k x (by omega) hw
      rw [if_pos hx] at this
      omega
  have hf1 : far all (K + 1) 1 1 = a + 1 := hfar 0 (by omega)
  rw [circ_some (f := 1) (by omega) (fun g hg => by rw [show g = 0 by omega]; exact hf0) (by rw [hf1]; omega), hf1]
  rw [show a + 1 - 1 = a by omega]
  have := path_chain (all := all) (f := far all (K + 1) 1) a (fun j => 1 + j) (fun j hj => by
    refine ⟨fun z => ?_, ?_⟩
    · rw [h1 j (by omega)]
      rw [Nat.mod_eq_of_lt (by omega)]
      constructor
      · rintro (h | ⟨h, _⟩)
        · exact h
        · omega
      · exact .inl
    · rw [hfar (j + 1) (by omega)]; omega)
  rw [show (1 : Nat) = 1 + 0 from rfl, this, List.range_succ_eq_map, List.map_cons, List.map_map]
  rfl
theorem circ_ring {all : Nat → List Nat} {n : Nat} (hn : 0 < n) (h1 : ∀ i, i < n → ∀ x, x ∈ all i ↔ x = (i + 1) % n) (hout : ∀ x, n ≤ x → all x = []) : circ all n = List.range n := by
  have hin : ∀ x y, y ∈ all x → y < n := by
    intro x y hy
    rcases Nat.lt_or_ge x n with hlt | hge
    · rw [h1 x hlt] at hy; rw [hy]; exact Nat.mod_lt _ hn
    · rw [hout x hge] at hy; simp at hy
  have hup : ∀ m x, x + m = n - 1 → Wk all 0 (m + 1) x := by
    intro m
    induction m with
    | zero => intro x hx; exact ⟨0, (h1 x (by omega) 0).2 (by rw [show x + 1 = n by omega, Nat.mod_self]), rfl⟩
    | succ m ih => intro x hx; exact ⟨x + 1, (h1 x (by omega) _).2 (by rw [Nat.mod_eq_of_lt (by omega)]), ih (x + 1) (by omega)⟩
  have hlo : ∀ m x, x < n → Wk all 0 (m + 1) x → n - x ≤ m + 1 := by
    intro m
    induction m with
    | zero =>
      rintro x hx ⟨y, hy, rfl⟩
      rw [h1 x hx] at hy
      rcases Nat.lt_or_ge (x + 1) n with h | h
      · rw [Nat.mod_eq_of_lt h] at hy; omega
      · omega
    | succ m ih =>
      rintro x hx ⟨y, hy, hw⟩
      rw [h1 x hx] at hy
      rcases Nat.lt_or_ge (x + 1) n with h | h
      · rw [Nat.mod_eq_of_lt h] at hy
        subst hy
        have := ih (x + 1) h hw
        omega
      · omega
  have hfar : ∀ x, x < n → far all n 0 x = n - x := by
    intro x hx
    rw [far_pos hin _ _ (by omega)]
    refine ⟨hx, ?_, fun m hm1 hm2 hw => ?_⟩
    · have := hup (n - 1 - x) x (by omega)
      rwa [show n - 1 - x + 1 = n - x by omega] at this
    · obtain ⟨k, rfl⟩ : ∃ k, m = k + 1 := ⟨m - 1, by omega⟩
      have := hlo k x hx hw
      omega
  have hf0 : far all n 0 0 = n := by rw [hfar 0 hn]; rfl
  rw [circ_some (f := 0) hn (fun g hg => by omega) (by rw [hf0]; omega), hf0]
  have := path_chain (all := all) (f := far all n 0) (n - 1) (fun j => j) (fun j hj => by
    refine ⟨fun z => ?_, ?_⟩
    · rw [h1 j (by omega), Nat.mod_eq_of_lt (by omega)]
    · rw [hfar (j + 1) (by omega)]; omega)
  rw [this]
  obtain ⟨m, rfl⟩ : ∃ m, n = m + 1 := ⟨n - 1, by omega⟩
  rw [List.range_succ_eq_map]
  rfl
/-- no circle where nothing comes back to itself; and the other way. -/
theorem circ_nil_iff {all : Nat → List Nat} {n : Nat} (hin : ∀ x y, y ∈ all x → y < n) : circ all n = [] ↔ ∀ f, f < n → ∀ m, 1 ≤ m → ¬ Wk all f m f := by
  constructor
  · intro h f hf m hm hw
    have hz : ∀ g, g < n → far all n g g = 0 := by
      apply Classical.byContradiction
      intro hc
      unfold circ at h
      cases hfi : (List.range n).find? (fun f => far all n f f != 0) with
      | none =>
        refine hc (fun g hg => ?_)
        have := List.find?_eq_none.1 hfi g (List.mem_range.2 hg)
        simpa using this
      | some g => rw [hfi] at h; simp at h
    exact (far_zero hin f hf).1 (hz f hf) m hm hw
  · intro h
    exact circ_none (fun f hf => (far_zero hin f hf).2 (h f hf))
end Go.Proofs.Ytfkggeakjgphjaa.C
