/- slices.Sort of rows of numbers; rows in a map. -/
import Derived.Test.YtfkggeakjgphjaaMpA
import Derived.Test.YtfkggeakjgphjaaShelfS
namespace Go.Proofs.Ytfkggeakjgphjaa.C
set_option linter.unusedVariables false
set_option linter.unusedSimpArgs false
set_option linter.unusedSectionVars false
open Go.RowKit Go.Shelf Go.Proofs.YtfkggeakjgphjaaW.PrintWords Go.Proofs.YtfkggeakjgphjaaW.PrintLast Go.Proofs.YtfkggeakjgphjaaW.PrintMore
open Go.Proofs.RngT
open Go.Sort (putRow Holds mapBlock putCells onCells grow)

theorem holds_of_own {W : World} {base g n cap : Nat} {xs : List Int} (h : W.ownsRow base 3 1 (.slice (some ⟨g, 0, none⟩) n cap) n (nums .i64 xs)) : Holds (Value.int .i64) W g 0 xs.toArray := by
  have hl : xs.length = n := by have := h.1; simp [nums] at this; exact this
  intro j hj
  have hj' : j < n := by simp at hj; omega
  have := own_at h (j : Int) (by omega) (by omega)
  simp only [Int.toNat_natCast, rd, Nat.zero_add] at this ⊢
  refine ⟨?_, this.2⟩
  rw [this.1]
  simp [List.getD, show j < xs.length by omega]
theorem own_putRow {W : World} {base g n cap : Nat} {xs ys : List Int} (h : W.ownsRow base 3 1 (.slice (some ⟨g, 0, none⟩) n cap) n (nums .i64 xs)) (hy : ys.length = n) (q : Nat) :
    (putRow (Value.int .i64) (Sort.ahead W q) g 0 ys.toArray).ownsRow base 3 1 (.slice (some ⟨g, 0, none⟩) n cap) n (nums .i64 ys) ∧ Fr (fun k => k = g) W (putRow (Value.int .i64) (Sort.ahead W q) g 0 ys.toArray) := by
  have hl : xs.length = n := by have := h.1; simp [nums] at this; exact this
  rcases h.2 with ⟨h', _⟩ | ⟨g', cap', cur, h', hb, hh, hn, hc, hs, ht⟩
  · cases h'
  · injection h' with h1 h2 h3
    injection h1 with h1
    injection h1 with h1
    subst h1; subst h3
    have hlt : g < W.heap.size := blk_lt hh
    constructor
    · refine ⟨by simp [nums, hy], .inr ⟨g, cap, putCells (Value.int .i64) 0 ys.toArray cur, rfl, hb, ?_, hn, hc, ?_, ?_⟩⟩
      · show ((W.heap.modify g (onCells (putCells (Value.int .i64) 0 ys.toArray)))[g]?) = _
        rw [Array.getElem?_modify, if_pos rfl, hh]
        rfl
      · simp [putCells, hs]
      · apply List.ext_getElem?
        intro j
        rw [List.getElem?_take]
        by_cases hj : j < n
        · rw [if_pos (by omega)]
          have hjc : j < cur.size := by omega
          simp [putCells, hjc, nums, hy, hj]
        · rw [if_neg (by omega), List.getElem?_eq_none (by simp [nums]; omega)]
    · refine ⟨rfl, rfl, rfl, by show _ ≤ (W.heap.modify g _).size; simp, fun k hk hne => ?_⟩
      show ((W.heap.modify g (onCells (putCells (Value.int .i64) 0 ys.toArray)))[k]?) = _
      rw [Array.getElem?_modify, if_neg (fun e => hne e.symm)]
theorem fr_grow {S : Nat → Prop} {w w1 : World} (h : Fr S w w1) (os : Array Obj) : Fr S w (grow w1 os) :=
  h.trans (S2 := fun _ => False) ⟨rfl, rfl, rfl, by simp [grow], fun k hk _ => by simp [grow, Array.getElem?_append, hk]⟩ (fun _ h => h.elim)
def srt (xs : List Int) : List Int := xs.mergeSort fun x y => decide (x ≤ y)
theorem srt_len (xs : List Int) : (srt xs).length = xs.length := by simp [srt]
theorem sort_any (base : Nat) (v : Value) (xs : List Int) (w : World) (h : w.ownsRow base 3 1 v xs.length (nums .i64 xs)) (hbig : xs.length * 8 ≤ 140737488355328) :
    Calls Try.prog 46 #[v] w fun e w' => e = .returned (.tuple #[]) ∧ w'.ownsRow base 3 1 v xs.length (nums .i64 (srt xs)) ∧ Fr (fun k => v.ownBlock = some k) w w' := by
  obtain ⟨A, c, rfl⟩ := own_slice h
  by_cases h0 : xs.length = 0
  · have : xs = [] := List.eq_nil_of_length_eq_zero h0
    subst this
    refine (Try.slices_Sort_int_none A c w).mono ?_
    rintro e w' ⟨rfl, rfl⟩
    exact ⟨rfl, by simpa [srt] using h, Fr.refl _ _⟩
  · obtain ⟨g, rfl⟩ : ∃ g, A = some ⟨g, 0, none⟩ := by
      rcases h.2 with ⟨_, h1⟩ | ⟨g, cap, cur, h', _⟩
      · omega
      · injection h' with h1; exact ⟨g, h1⟩
    refine (Try.slices_Sort_int g 0 c xs w (holds_of_own h) (own_lt h g rfl) (by omega)).mono ?_
    rintro e w' ⟨rfl, q, os, rfl⟩
    have := own_putRow h (ys := srt xs) (by simp [srt]) q
    have hF : Fr (fun k => (Value.slice (some ⟨g, 0, none⟩) xs.length c).ownBlock = some k) w (putRow (Value.int .i64) (Sort.ahead w q) g 0 (srt xs).toArray) := this.2.mono (fun j e => by rw [e]; rfl)
    refine ⟨rfl, own_move this.1 (fun k hk => ?_), fr_grow hF os⟩
    exact (fr_grow (Fr.refl (fun _ => False) _) os).block k (own_lt this.1 k hk) (fun h => h)

/-- the rows: each where its key says, no two in one block. -/
structure RowsAt (b0 : Nat) (w : World) (f : Int → Option Value) (R : Int → List Int) : Prop where
  no : ∀ m, f m = none → R m = []
  row : ∀ m v, f m = some v → w.ownsRow b0 3 1 v (R m).length (nums .i64 (R m)) ∧ R m ≠ []
  two : ∀ m m' v v', m ≠ m' → f m = some v → f m' = some v' → v.ownBlock ≠ v'.ownBlock
/-- block M is a map of rows R; the rows lie from b0 on. -/
def Rows (b0 M : Nat) (w : World) (R : Int → List Int) : Prop := M < b0 ∧ ∃ f, MapG.MapE encI okI w M f ∧ RowsAt b0 w f R
theorem Rows.lt {b0 M : Nat} {w : World} {R : Int → List Int} (h : Rows b0 M w R) : M < w.heap.size := by obtain ⟨_, f, h1, _⟩ := h; exact h1.lt
theorem Rows.kept {b0 M : Nat} {w w' : World} {R : Int → List Int} {S : Nat → Prop} (h : Rows b0 M w R) (hf : Fr S w w') (hM : ¬ S M) (hS : ∀ j, S j → j < b0 ∨ w.heap.size ≤ j) : Rows b0 M w' R := by
  obtain ⟨h0, f, h1, h2⟩ := h
  refine ⟨h0, f, h1.move (hf.block M h1.lt hM), h2.no, fun m v hv => ?_, h2.two⟩
  obtain ⟨h3, h4⟩ := h2.row m v hv
  refine ⟨own_move h3 (fun k hk => hf.block k (own_lt h3 k hk) (fun hs => ?_)), h4⟩
  rcases hS k hs with h5 | h5
  · have := own_base h3 k hk; omega
  · have := own_lt h3 k hk; omega
theorem Rows.stay {b0 M b : Nat} {w w' : World} {R : Int → List Int} (h : Rows b0 M w R) (hb : Below b w w') (hbb : w.heap.size ≤ b) : Rows b0 M w' R :=
  h.kept (S := fun _ => False) (Fr.of_below (hb.mono hbb)) (fun h => h) (fun _ h => h.elim)
theorem Rows.made (w : World) : Rows (w.heap.size + 1) w.heap.size (w.alloc (.map #[] 0)) (fun _ => []) :=
  ⟨Nat.lt_succ_self _, fun _ => none, MapG.MapE.made w, fun _ _ => rfl, fun m v h => (by cases h), fun m m' v v' _ h => (by cases h)⟩
theorem Rows.same {b0 M : Nat} {w : World} {R R' : Int → List Int} (h : Rows b0 M w R) (e : ∀ m, R' m = R m) : Rows b0 M w R' := by
  have : R' = R := funext e
  rw [this]; exact h
/-- one more behind the row of m. -/
theorem Rows.put {b0 M : Nat} {w w1 w2 : World} {R R' : Int → List Int} {f : Int → Option Value} {m x : Int} {v v1 : Value} (hb0 : M < b0) (h : MapG.MapE encI okI w M f) (hr : RowsAt b0 w f R) (hv : (f m).getD (.slice none 0 0) = v)
    (ho : w1.ownsRow b0 3 1 v1 (R m ++ [x]).length (nums .i64 (R m ++ [x]))) (hg : w.grownBy w1 v.ownBlock) (hat : v1.ownBlock = v.ownBlock ∨ ∃ k, v1.ownBlock = some k ∧ w.heap.size ≤ k)
    (hm : MapG.MapE encI okI w2 M (fun k => if k = m then some v1 else f k)) (hg2 : w1.grownBy w2 (some M)) (hR : ∀ k, R' k = if k = m then R m ++ [x] else R k) : Rows b0 M w2 R' := by
  have hvb : ∀ k, v.ownBlock = some k → ∀ m' v', m' ≠ m → f m' = some v' → v'.ownBlock ≠ some k := by
    intro k hk m' v' hne hf' e
    cases hf : f m with
    | none => rw [hf] at hv; rw [← hv] at hk; simp [Value.ownBlock] at hk
    | some u =>
      rw [hf] at hv
      have : u = v := hv
      subst this
      exact hr.two m m' u v' (Ne.symm hne) hf hf' (hk.trans e.symm)
  have hM1 : M < w1.heap.size := Nat.lt_of_lt_of_le h.lt hg.size
  refine ⟨hb0, _, hm, ?_, ?_, ?_⟩
  · intro k hk
    try dsimp only at hk
    by_cases e : k = m
    · rw [if_pos e] at hk; cases hk
    · rw [if_neg e] at hk; rw [hR, if_neg e]; exact hr.no k hk
  · intro k u hk
    try dsimp only at hk
    by_cases e : k = m
    · rw [if_pos e] at hk; injection hk with hk; subst hk
      rw [hR, if_pos e]
      exact ⟨own_move ho (fun j hj => hg2.block j (own_lt ho j hj) (fun e => by have := own_base ho j hj; injection e with e; omega)), by simp⟩
    · rw [if_neg e] at hk
      obtain ⟨q1, q2⟩ := hr.row k u hk
      rw [hR, if_neg e]
      refine ⟨own_move q1 (fun j hj => ?_), q2⟩
      have hj1 := own_lt q1 j hj
      have hj2 := own_base q1 j hj
      rw [hg2.block j (Nat.lt_of_lt_of_le hj1 hg.size) (fun e => by injection e with e; omega)]
      exact hg.block j hj1 (fun e2 => hvb j e2.symm k u e hk hj)
  · intro k k' u u' hne hk hk' e2
    try dsimp only at hk hk'
    have hnew : ∀ g, v1.ownBlock = some g → ∀ m' v', m' ≠ m → f m' = some v' → v'.ownBlock ≠ some g := by
      intro g hg1 m' v' hne' hf' e3
      rcases hat with e | ⟨j, e, hj⟩
      · exact hvb g (e ▸ hg1) m' v' hne' hf' e3
      · rw [hg1] at e; injection e with e
        have := own_lt (hr.row m' v' hf').1 g e3; omega
    have hblk : ∃ g, v1.ownBlock = some g := by
      rcases ho.2 with ⟨_, h0⟩ | ⟨g, cap, cur, hg0, _⟩
      · simp at h0
      · exact ⟨g, by rw [hg0]; rfl⟩
    obtain ⟨g, hg1⟩ := hblk
    by_cases e : k = m
    · rw [if_pos e] at hk; injection hk with hk; subst hk
      rw [if_neg (fun e3 => hne (e.trans e3.symm))] at hk'
      exact hnew g hg1 k' u' (fun e3 => hne (e.trans e3.symm)) hk' (e2.symm.trans hg1)
    · rw [if_neg e] at hk
      by_cases e' : k' = m
      · rw [if_pos e'] at hk'; injection hk' with hk'; subst hk'
        exact hnew g hg1 k u e hk (e2.trans hg1)
      · rw [if_neg e'] at hk'
        exact hr.two k k' u u' hne hk hk' e2
/-- the row of m, sorted in its place. -/
theorem Rows.sorted {b0 M : Nat} {w w1 : World} {R R' : Int → List Int} {f : Int → Option Value} {m : Int} {v : Value} (hb0 : M < b0) (h : MapG.MapE encI okI w M f) (hr : RowsAt b0 w f R) (hv : (f m).getD (.slice none 0 0) = v)
    (ho : w1.ownsRow b0 3 1 v (R m).length (nums .i64 (srt (R m)))) (hF : Fr (fun k => v.ownBlock = some k) w w1) (hR : ∀ k, R' k = if k = m then srt (R m) else R k) : Rows b0 M w1 R' := by
  have hb : ∀ k, v.ownBlock = some k → b0 ≤ k := fun k hk => own_base ho k hk
  refine ⟨hb0, f, h.move (hF.block M h.lt (fun e => by have := hb M e; omega)), ?_, ?_, hr.two⟩
  · intro k hk
    rw [hR]
    by_cases e : k = m
    · rw [if_pos e, ← e, hr.no k hk]; simp [srt]
    · rw [if_neg e]; exact hr.no k hk
  · intro k u hk
    obtain ⟨q1, q2⟩ := hr.row k u hk
    rw [hR]
    by_cases e : k = m
    · subst e
      rw [if_pos rfl]
      rw [hk] at hv
      have : u = v := hv
      subst this
      refine ⟨by rw [srt_len]; exact ho, fun e => q2 ?_⟩
      have := srt_len (R k)
      rw [e] at this
      exact List.eq_nil_of_length_eq_zero this.symm
    · rw [if_neg e]
      refine ⟨own_move q1 (fun j hj => hF.block j (own_lt q1 j hj) (fun e2 => ?_)), q2⟩
      cases hf : f m with
      | none => rw [hf] at hv; rw [← hv] at e2; simp [Value.ownBlock] at e2
      | some u' =>
        rw [hf] at hv
        have : u' = v := hv
        subst this
        exact hr.two k m u u' e hk hf (hj.trans e2.symm)
/-- the row at a key. -/
theorem RowsAt.get {b0 : Nat} {w : World} {f : Int → Option Value} {R : Int → List Int} (h : RowsAt b0 w f R) (m : Int) : ∃ v, (f m).getD (.slice none 0 0) = v ∧ w.ownsRow b0 3 1 v (R m).length (nums .i64 (R m)) := by
  cases hf : f m with
  | none => exact ⟨_, rfl, by rw [h.no m hf]; exact World.ownsRow_nil _ _ _ _⟩
  | some v => exact ⟨v, rfl, (h.row m v hf).1⟩
end Go.Proofs.Ytfkggeakjgphjaa.C
