/- Clone, Sort and Compact of a slice of numbers, each in one form for all shapes of slices. -/
import Derived.Test.YtodgeciggbeolaaGreatDoorHeapV
import Derived.Test.YtodgeciggbeolaaGreatDoorShelf
namespace Go.Proofs.YtodgeciggbeolaaGreatDoor
set_option maxRecDepth 100000
set_option linter.unusedVariables false
set_option linter.unusedSimpArgs false
set_option linter.unusedSectionVars false
open Go.RowKit Go.Proofs.YtodgeciggbeolaaGreatDoorW.PrintWords Go.Proofs.YtodgeciggbeolaaGreatDoorW.PrintLast Go.Proofs.YtodgeciggbeolaaGreatDoorW.PrintMore
open Go.Sort (putRow Holds mapBlock putCells onCells grow)

theorem holds_of_own {W : World} {base g n cap : Nat} {xs : List Int} (h : W.ownsRow base 3 1 (.slice (some ⟨g, 0, none⟩) n cap) n (nums .i64 xs)) : Holds (Value.int .i64) W g 0 xs.toArray := by
  have hl : xs.length = n := by have := h.1; simp [nums] at this; exact this
  intro j hj
  have hj' : j < n := by simp at hj; omega
  have := own_at h (j : Int) (by omega) (by omega)
  simp only [Int.toNat_natCast, rd, Nat.zero_add] at this ⊢
  refine ⟨?_, this.2⟩
  rw [this.1]
  simp [List.getD, show j < xs.length by omega]

theorem own_putRow {W : World} {base g n cap : Nat} {xs ys : List Int} (h : W.ownsRow base 3 1 (.slice (some ⟨g, 0, none⟩) n cap) n (nums .i64 xs)) (hy : ys.length = n) (q : Nat) :
    (putRow (Value.int .i64) (Sort.ahead W q) g 0 ys.toArray).ownsRow base 3 1 (.slice (some ⟨g, 0, none⟩) n cap) n (nums .i64 ys) ∧ Fr (fun k => k = g) W (putRow (Value.int .i64) (Sort.ahead W q) g 0 ys.toArray) := by
  have hl : xs.length = n := by have := h.1; simp [nums] at this; exact this
  rcases h.2 with ⟨h', _⟩ | ⟨g', cap', cur, h', hb, hh, hn, hc, hs, ht⟩
  · cases h'
  · injection h' with h1 h2 h3
    injection h1 with h1
    injection h1 with h1
    subst h1; subst h3
    have hlt : g < W.heap.size := blk_lt hh
    constructor
    · refine ⟨by simp [nums, hy], .inr ⟨g, cap, putCells (Value.int .i64) 0 ys.toArray cur, rfl, hb, ?_, hn, hc, ?_, ?_⟩⟩
      · show ((W.heap.modify g (onCells (putCells (Value.int .i64) 0 ys.toArray)))[g]?) = _
        rw [Array.getElem?_modify, if_pos rfl, hh]
        rfl
      · simp [putCells, hs]
      · apply List.ext_getElem?
        intro j
        rw [List.getElem?_take]
        by_cases hj : j < n
        · rw [if_pos (by omega)]
          have hjc : j < cur.size := by omega
          simp [putCells, hjc, nums, hy, hj]
        · rw [if_neg (by omega), List.getElem?_eq_none (by simp [nums]; omega)]
    · refine ⟨rfl, rfl, rfl, by show _ ≤ (W.heap.modify g _).size; simp, fun k hk hne => ?_⟩
      show ((W.heap.modify g (onCells (putCells (Value.int .i64) 0 ys.toArray)))[k]?) = _
      rw [Array.getElem?_modify, if_neg (fun e => hne e.symm)]

theorem fr_grow {S : Nat → Prop} {w w1 : World} (h : Fr S w w1) (os : Array Obj) : Fr S w (grow w1 os) :=
  h.trans (S2 := fun _ => False) ⟨rfl, rfl, rfl, by simp [grow], fun k hk _ => by simp [grow, Array.getElem?_append, hk]⟩ (fun _ h => h.elim)

theorem nums_map (k : IntKind) (xs : List Int) : xs.map (Value.int k) = nums k xs := rfl

theorem clone_any (A : Option Addr) (c : Nat) (xs : List Int) (w : World) (hr : Kd.C (Kd.int .i64) w A xs.length xs) (hbig : xs.length * 8 ≤ 140737488355328) :
    Calls Tryz.prog 15 #[.slice A xs.length c] w fun e w' => ∃ v', e = .returned v' ∧ w'.ownsRow w.heap.size 3 1 v' xs.length (nums .i64 xs) ∧ Below w.heap.size w w' := by
  cases A with
  | none =>
    have h0 : xs = [] := by
      cases xs with
      | nil => rfl
      | cons x xs => obtain ⟨ad, e, _⟩ := hr.2.2 (by simp); cases e
    subst h0
    refine (Tryz.slices_Clone_int_nil 0 c w).mono ?_
    rintro e w' ⟨rfl, rfl⟩
    exact ⟨_, rfl, World.ownsRow_nil _ _ _ _, Below.refl _ _⟩
  | some ad =>
    by_cases h0 : xs.length = 0
    · have : xs = [] := List.eq_nil_of_length_eq_zero h0
      subst this
      refine (Tryz.slices_Clone_int_zero ad c w).mono ?_
      rintro e w' ⟨v', rfl, ho, _, hb⟩
      exact ⟨v', rfl, ho, hb⟩
    · obtain ⟨b, off, spot⟩ := ad
      obtain ⟨ad, e, hc⟩ := hr.2.2 (by omega)
      injection e with e
      subst e
      have hcell : ∀ j, j < xs.length → w.cell? ((⟨b, off, spot⟩ : Addr).add j) = some (.int .i64 (xs.getD j 0)) := by
        intro j hj
        obtain ⟨cs, hs, hk, hcc⟩ := hc j _ (List.getElem?_eq_getElem hj)
        obtain rfl : cs = [.int .i64 xs[j]] := hk
        have := hcc 0 _ rfl
        have e1 : (Kd.int .i64).sz = 1 := rfl
        rw [e1, Nat.mul_one, Nat.add_zero] at this
        simpa [List.getD, hj] using this
      have hspot : spot = none := by
        have := hcell 0 (by omega)
        cases spot with
        | none => rfl
        | some s =>
          simp only [Addr.add, if_true, World.cell?] at this
          split at this <;> simp at this
      subst hspot
      refine (Tryz.slices_Clone_int b off xs.length c xs w (Nat.le_refl _) hbig ?_).mono ?_
      · intro j hj
        have := hcell j hj
        rwa [Addr.add_lit] at this
      · rintro e w' ⟨v', rfl, ho, _, hb⟩
        exact ⟨v', rfl, by rw [List.take_of_length_le (Nat.le_refl _)] at ho; exact ho, hb⟩

theorem sort_any (base : Nat) (v : Value) (xs : List Int) (w : World) (h : w.ownsRow base 3 1 v xs.length (nums .i64 xs)) (hbig : xs.length * 8 ≤ 140737488355328) :
    Calls Tryz.prog 16 #[v] w fun e w' => e = .returned (.tuple #[]) ∧ w'.ownsRow base 3 1 v xs.length (nums .i64 (xs.mergeSort fun x y => decide (x ≤ y))) ∧ Fr (fun k => v.ownBlock = some k) w w' := by
  obtain ⟨A, c, rfl⟩ := own_slice h
  by_cases h0 : xs.length = 0
  · have : xs = [] := List.eq_nil_of_length_eq_zero h0
    subst this
    refine (Tryz.slices_Sort_int_none A c w).mono ?_
    rintro e w' ⟨rfl, rfl⟩
    exact ⟨rfl, by simpa using h, Fr.refl _ _⟩
  · obtain ⟨g, rfl⟩ : ∃ g, A = some ⟨g, 0, none⟩ := by
      rcases h.2 with ⟨_, h1⟩ | ⟨g, cap, cur, h', _⟩
      · omega
      · injection h' with h1; exact ⟨g, h1⟩
    refine (Tryz.slices_Sort_int g 0 c xs w (holds_of_own h) (own_lt h g rfl) (by omega)).mono ?_
    rintro e w' ⟨rfl, q, os, rfl⟩
    have := own_putRow h (ys := xs.mergeSort fun x y => decide (x ≤ y)) (by simp) q
    have hF : Fr (fun k => (Value.slice (some ⟨g, 0, none⟩) xs.length c).ownBlock = some k) w (putRow (Value.int .i64) (Sort.ahead w q) g 0 (xs.mergeSort fun x y => decide (x ≤ y)).toArray) := this.2.mono (fun j e => by rw [e]; rfl)
    refine ⟨rfl, own_move this.1 (fun k hk => ?_), fr_grow hF os⟩
    exact (fr_grow (Fr.refl (fun _ => False) _) os).block k (own_lt this.1 k hk) (fun h => h)

theorem compact_any (base : Nat) (v : Value) (xs : List Int) (w : World) (h : w.ownsRow base 3 1 v xs.length (nums .i64 xs)) (hbig : xs.length * 8 ≤ 140737488355328) :
    Calls Tryz.prog 17 #[v] w fun e w' => ∃ v', e = .returned v' ∧ w'.ownsRow base 3 1 v' (Lib.compact xs).length (nums .i64 (Lib.compact xs)) ∧ v'.ownBlock = v.ownBlock ∧ Fr (fun k => v.ownBlock = some k) w w' := by
  obtain ⟨A, c, rfl⟩ := own_slice h
  by_cases h0 : xs.length = 0
  · have : xs = [] := List.eq_nil_of_length_eq_zero h0
    subst this
    refine (Tryz.slices_Compact_int_empty A c w).mono ?_
    rintro e w' ⟨rfl, rfl⟩
    exact ⟨_, rfl, by simpa [Lib.compact, Lib.compactUpTo] using h, rfl, Fr.refl _ _⟩
  · obtain ⟨g, rfl⟩ : ∃ g, A = some ⟨g, 0, none⟩ := by
      rcases h.2 with ⟨_, h1⟩ | ⟨g, cap, cur, h', _⟩
      · omega
      · injection h' with h1; exact ⟨g, h1⟩
    refine (Tryz.slices_Compact_int g 0 c xs w (holds_of_own h) (by omega) (own_le h)).mono ?_
    rintro e w' ⟨rfl, q, rfl⟩
    have hle := Lib.compact_length_le xs
    have := own_putRow h (ys := Lib.compact xs ++ List.replicate (xs.length - (Lib.compact xs).length) 0) (by simp; omega) q
    refine ⟨_, rfl, ?_, rfl, this.2.mono (fun j e => by rw [e]; rfl)⟩
    have hs := own_shorter this.1 hle
    rwa [List.take_left] at hs

end Go.Proofs.YtodgeciggbeolaaGreatDoor
