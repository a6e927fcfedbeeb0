/- OrderRing's walk. -/
import Derived.Test.YtodgeciggbeolaaExtA
namespace Go.Proofs.Ytodgeciggbeolaa.S
set_option linter.unusedVariables false
set_option linter.unusedSimpArgs false
set_option linter.unusedSectionVars false
open Go.RowKit Go.Proofs.YtodgeciggbeolaaW.PrintWords Go.Proofs.YtodgeciggbeolaaW.PrintLast Go.Proofs.YtodgeciggbeolaaW.PrintMore
open Go.Proofs.Ord hiding W

theorem own_cap' {w : World} {base n c e sz : Nat} {A : Option Addr} {xs : List Value} (h : w.ownsRow base e sz (.slice A n c) n xs) : n ≤ c := by
  rcases h.2 with ⟨h', h2⟩ | ⟨g', cap', cur, h', hb, hh, hn, hc, hs, ht⟩
  · injection h' with h1 h2 h3; omega
  · injection h' with h1 h2 h3; omega
/-- a row that holds what goes behind j. -/
def RCell (k : Nat) (wr : World) (v9 : Value) (j : Nat) (v : Value) : Prop := ∃ b, v = .slice (some ⟨b, 0, none⟩) 1 1 ∧ wr.heap[b]? = some (.cells #[.int .i64 (nx_ k j : Int)] 3 (0, 0)) ∧ v9.ownBlock ≠ some b
def wantL (k a i : Nat) : List Int := (List.range i).map fun j => (rw_ a k j : Int)

structure RingI (w : World) (k a i7 i8 i9 : Nat) (v7 v8 v9 : Value) (rs ss : List Value) (wr : World) : Prop where
  r7 : wr.ownsRow w.heap.size 25 1 v7 i7 rs
  r8 : wr.ownsRow w.heap.size 25 1 v8 i8 ss
  r9 : wr.ownsRow w.heap.size 3 1 v9 i9 (nums .i64 (wantL k a i9))
  ne : ∀ b, v7.ownBlock = some b → v8.ownBlock ≠ some b
  b7 : ∀ j v, rs[j]? = some v → RCell k wr v9 j v
  b8 : ∀ j v, ss[j]? = some v → (j = a ∧ v = .slice none 0 0) ∨ (j ≠ a ∧ RCell k wr v9 j v)
  below : Below w.heap.size w wr

section
variable {w wr w2 : World} {k a i7 i8 i9 : Nat} {v7 v8 v9 v' c : Value} {rs ss : List Value}
theorem ring_start (w : World) : RingI w k a 0 0 0 (.slice none 0 0) (.slice none 0 0) (.slice none 0 0) [] [] w :=
  ⟨World.ownsRow_nil _ _ _ _, World.ownsRow_nil _ _ _ _, World.ownsRow_nil _ _ _ _, by simp [Value.ownBlock], by simp, by simp, Below.refl _ _⟩
theorem RCell.alloc {j : Nat} {v : Value} (h : RCell k wr v9 j v) (o : Obj) : RCell k (wr.alloc o) v9 j v := by
  obtain ⟨b, h1, h2, h3⟩ := h
  exact ⟨b, h1, od_ h2, h3⟩
theorem RingI.alloc (h : RingI w k a i7 i8 i9 v7 v8 v9 rs ss wr) (o : Obj) : RingI w k a i7 i8 i9 v7 v8 v9 rs ss (wr.alloc o) :=
  ⟨h.r7.alloc o, h.r8.alloc o, h.r9.alloc o, h.ne, fun j v hv => (h.b7 j v hv).alloc o, fun j v hv => (h.b8 j v hv).imp id (fun ⟨q, r⟩ => ⟨q, r.alloc o⟩), h.below.alloc h.below.size o⟩
theorem RingI.cell (h : RingI w k a i7 i8 i9 v7 v8 v9 rs ss wr) (j : Nat) (y : Int) (hy : y = (nx_ k j : Int)) : RCell k (wr.alloc (.cells #[.int .i64 y] 3)) v9 j (.slice (some ⟨wr.heap.size, 0, none⟩) 1 1) :=
  ⟨_, rfl, by subst hy; exact nw_ _ _ rfl, fun e => by have := own_lt h.r9 _ e; omega⟩
theorem RCell.grown {j : Nat} {v u : Value} (h : RCell k wr v9 j v) (hg : wr.grownBy w2 u.ownBlock) {n : Nat} {xs : List Value} {base : Nat} (ho : wr.ownsRow base 25 1 u n xs) : RCell k w2 v9 j v := by
  obtain ⟨b, h1, h2, h3⟩ := h
  have hb : b < wr.heap.size := blk_lt h2
  exact ⟨b, h1, by rw [hg.block b hb (own_ne ho h2 (by decide))]; exact h2, h3⟩
theorem RingI.step7 (h : RingI w k a i7 i8 i9 v7 v8 v9 rs ss wr) (hc : RCell k wr v9 i7 c) (ho : w2.ownsRow w.heap.size 25 1 v' (rs ++ [c]).length (rs ++ [c])) (hB : Below w.heap.size w w2) (hg : wr.grownBy w2 v7.ownBlock)
    (hat : v'.ownBlock = v7.ownBlock ∨ ∃ b, v'.ownBlock = some b ∧ wr.heap.size ≤ b) : RingI w k a (i7 + 1) i8 i9 v' v8 v9 (rs ++ [c]) ss w2 := by
  have hl : rs.length = i7 := by simpa using h.r7.1
  have hl2 : (rs ++ [c]).length = i7 + 1 := by simp [hl]
  rw [hl2] at ho
  have hne8 : v8.ownBlock ≠ v7.ownBlock ∨ v8.ownBlock = none := by
    cases e : v8.ownBlock with
    | none => exact .inr rfl
    | some b => exact .inl (fun e2 => h.ne b e2.symm e)
  refine ⟨ho, own_other h.r8 hg (hne8.symm), own_other h.r9 hg ?_, fun b e1 e2 => ?_, fun j v hv => ?_, fun j v hv => (h.b8 j v hv).imp id (fun ⟨q, r⟩ => ⟨q, r.grown hg h.r7⟩), hB⟩
  · cases e : v9.ownBlock with
    | none => exact .inl rfl
    | some b =>
      refine .inr (fun e2 => ?_)
      rcases h.r9.2 with ⟨h', _⟩ | ⟨g', cap', cur, h', _, hh, _⟩
      · rw [h'] at e; simp [Value.ownBlock] at e
      · rw [h'] at e
        simp only [Value.ownBlock, Option.some.injEq] at e
        subst e
        exact own_ne h.r7 hh (by decide) e2
  · rcases hat with q | ⟨b', q, hb'⟩
    · rw [q] at e1; exact h.ne b e1 e2
    · rw [q] at e1
      injection e1 with e1
      have := own_lt h.r8 b e2
      omega
  · by_cases hj : j < rs.length
    · rw [List.getElem?_append_left hj] at hv
      exact (h.b7 j v hv).grown hg h.r7
    · have hj2 : j = i7 := by
        have := (List.getElem?_eq_some_iff.1 hv).1
        simp at this; omega
      subst hj2
      rw [List.getElem?_append_right (by omega), hl] at hv
      simp at hv
      subst hv
      exact hc.grown hg h.r7
theorem RingI.step8 (h : RingI w k a i7 i8 i9 v7 v8 v9 rs ss wr) (hc : (i8 = a ∧ c = .slice none 0 0) ∨ (i8 ≠ a ∧ RCell k wr v9 i8 c)) (ho : w2.ownsRow w.heap.size 25 1 v' (ss ++ [c]).length (ss ++ [c])) (hB : Below w.heap.size w w2) (hg : wr.grownBy w2 v8.ownBlock)
    (hat : v'.ownBlock = v8.ownBlock ∨ ∃ b, v'.ownBlock = some b ∧ wr.heap.size ≤ b) : RingI w k a i7 (i8 + 1) i9 v7 v' v9 rs (ss ++ [c]) w2 := by
  have hl : ss.length = i8 := by simpa using h.r8.1
  have hl2 : (ss ++ [c]).length = i8 + 1 := by simp [hl]
  rw [hl2] at ho
  have hne8 : v7.ownBlock ≠ v8.ownBlock ∨ v7.ownBlock = none := by
    cases e : v7.ownBlock with
    | none => exact .inr rfl
    | some b => exact .inl (fun e2 => h.ne b e e2.symm)
  refine ⟨own_other h.r7 hg (hne8.symm), ho, own_other h.r9 hg ?_, fun b e1 e2 => ?_, fun j v hv => (h.b7 j v hv).grown hg h.r8, fun j v hv => ?_, hB⟩
  · cases e : v9.ownBlock with
    | none => exact .inl rfl
    | some b =>
      refine .inr (fun e2 => ?_)
      rcases h.r9.2 with ⟨h', _⟩ | ⟨g', cap', cur, h', _, hh, _⟩
      · rw [h'] at e; simp [Value.ownBlock] at e
      · rw [h'] at e
        simp only [Value.ownBlock, Option.some.injEq] at e
        subst e
        exact own_ne h.r8 hh (by decide) e2
  · rcases hat with q | ⟨b', q, hb'⟩
    · rw [q] at e2; exact h.ne b e1 e2
    · rw [q] at e2
      injection e2 with e2
      have := own_lt h.r7 b e1
      omega
  · by_cases hj : j < ss.length
    · rw [List.getElem?_append_left hj] at hv
      exact (h.b8 j v hv).imp id (fun ⟨q, r⟩ => ⟨q, r.grown hg h.r8⟩)
    · have hj2 : j = i8 := by
        have := (List.getElem?_eq_some_iff.1 hv).1
        simp at this; omega
      subst hj2
      rw [List.getElem?_append_right (by omega), hl] at hv
      simp at hv
      subst hv
      exact hc.imp id (fun ⟨q, r⟩ => ⟨q, r.grown hg h.r8⟩)
theorem RCell.grown9 {j : Nat} {v : Value} (h : RCell k wr v9 j v) (hg : wr.grownBy w2 v9.ownBlock) (hat : v'.ownBlock = v9.ownBlock ∨ ∃ b, v'.ownBlock = some b ∧ wr.heap.size ≤ b) : RCell k w2 v' j v := by
  obtain ⟨b, h1, h2, h3⟩ := h
  have hb : b < wr.heap.size := blk_lt h2
  refine ⟨b, h1, by rw [hg.block b hb (fun e => h3 e.symm)]; exact h2, ?_⟩
  rcases hat with q | ⟨b', q, hb'⟩
  · rw [q]; exact h3
  · rw [q]; intro e; injection e with e; omega
theorem RingI.step9 (h : RingI w k a i7 i8 i9 v7 v8 v9 rs ss wr) {x : Int} (hx : x = (rw_ a k i9 : Int)) (ho : w2.ownsRow w.heap.size 3 1 v' (wantL k a i9 ++ [x]).length (nums .i64 (wantL k a i9 ++ [x]))) (hB : Below w.heap.size w w2) (hg : wr.grownBy w2 v9.ownBlock)
    (hat : v'.ownBlock = v9.ownBlock ∨ ∃ b, v'.ownBlock = some b ∧ wr.heap.size ≤ b) : RingI w k a i7 i8 (i9 + 1) v7 v8 v' rs ss w2 := by
  have hw : wantL k a i9 ++ [x] = wantL k a (i9 + 1) := by subst hx; simp [wantL, List.range_succ]
  rw [hw] at ho
  have hl : (wantL k a (i9 + 1)).length = i9 + 1 := by simp [wantL]
  rw [hl] at ho
  have key : ∀ {n : Nat} {u : Value} {xs : List Value}, wr.ownsRow w.heap.size 25 1 u n xs → u.ownBlock = none ∨ u.ownBlock ≠ v9.ownBlock := by
    intro n u xs hu
    cases e : u.ownBlock with
    | none => exact .inl rfl
    | some b =>
      refine .inr (fun e2 => ?_)
      rcases h.r9.2 with ⟨h', _⟩ | ⟨g', cap', cur, h', _, hh, _⟩
      · rw [h'] at e2; simp [Value.ownBlock] at e2
      · rw [h'] at e2
        simp only [Value.ownBlock, Option.some.injEq] at e2
        subst e2
        exact own_ne hu hh (by decide) e.symm
  exact ⟨own_other h.r7 hg (key h.r7), own_other h.r8 hg (key h.r8), ho, h.ne, fun j v hv => (h.b7 j v hv).grown9 hg hat, fun j v hv => (h.b8 j v hv).imp id (fun ⟨q, r⟩ => ⟨q, r.grown9 hg hat⟩), hB⟩
end

theorem ring_nx {i k : Nat} (h : i < k) : ((i : Int) + 1) % (k : Int) = (nx_ k i : Int) := by
  unfold nx_
  by_cases e : i + 1 = k
  · rw [if_pos e, ← e]; simp
  · rw [if_neg e, Int.emod_eq_of_lt (by omega) (by omega)]; rfl
theorem ring_rw {a i k : Nat} (h : i < k) (ha : a < k) : ((a : Int) + k - i) % (k : Int) = (rw_ a k i : Int) := by
  unfold rw_
  by_cases e : i ≤ a
  · rw [if_pos e, show (a : Int) + k - i = ((a - i : Nat) : Int) + k by omega, Int.add_emod_right, Int.emod_eq_of_lt (by omega) (by omega)]
  · rw [if_neg e, Int.emod_eq_of_lt (by omega) (by omega)]; omega
theorem own_C {w : World} {base n c : Nat} {A : Option Addr} {vs : List Value} {l : List (List Int)} (h : w.ownsRow base 25 1 (.slice A n c) n vs) (hl : l.length = n) (hm : n ≤ 9223372036854775807)
    (hel : ∀ j v, vs[j]? = some v → ∃ A' c', v = .slice A' (at_ l j).length c' ∧ (at_ l j).length ≤ c' ∧ Kd.C (Kd.int .i64) w A' (at_ l j).length (at_ l j)) : Kd.C (Kd.slice 3 (Kd.int .i64)) w A n l := by
  have hvl : vs.length = n := by simpa using h.1
  rcases h.2 with ⟨h', h2⟩ | ⟨g, cap, cur, h', hb, hh, hn, hc, hs, ht⟩
  · injection h' with h3 h4 h5
    subst h4
    exact ⟨hl, hm, fun h0 => absurd h0 (by omega)⟩
  · injection h' with h3 h4 h5
    subst h3
    refine ⟨hl, hm, fun _ => ⟨_, rfl, fun j p hj => ?_⟩⟩
    have hjl : j < l.length := (List.getElem?_eq_some_iff.1 hj).1
    have hat : at_ l j = p := by unfold at_; rw [List.getD_eq_getElem?_getD, hj]; rfl
    have hv : vs[j]? = some (vs[j]'(by omega)) := List.getElem?_eq_getElem _
    obtain ⟨A', c', e, h1, h2⟩ := hel j _ hv
    rw [hat] at e h1 h2
    refine ⟨[.slice A' p.length c'], rfl, ⟨A', c', rfl, h1, h2⟩, fun i u hu => ?_⟩
    cases i with
    | succ i => simp at hu
    | zero =>
      simp at hu
      have e1 : (Kd.slice 3 (Kd.int .i64)).sz = 1 := rfl
      rw [e1, Nat.mul_one, Nat.add_zero, add_plain]
      simp only [World.cell?, hh]
      have hcur : cur[j]? = some (vs[j]'(by omega)) := by
        have : (cur.toList.take (n * 1))[j]? = some (vs[j]'(by omega)) := by rw [ht]; exact hv
        rw [List.getElem?_take, if_pos (by omega)] at this
        simpa using this
      simp [hcur, e, hu]

theorem own_reads {w : World} {base n c : Nat} {A : Option Addr} {l : List Int} (h : w.ownsRow base 3 1 (.slice A n c) n (nums .i64 l)) (hl : l.length = n) : Kd.C (Kd.int .i64) w A n l ∧ n ≤ c := by
  have hc := own_cap' h
  subst hl
  obtain ⟨X3, d3, e3, _, cy⟩ := Kd.R_reads (Kd.R_of_own h (ok := fun _ => True) (fun _ _ => trivial))
  injection e3 with e31 e32 e33
  subst e31
  exact ⟨cy, hc⟩
def ringL (k : Nat) : List (List Int) := (List.range k).map fun j => [(nx_ k j : Int)]
def rowL (k a : Nat) : List (List Int) := (List.range k).map fun j => if j = a then [] else [(nx_ k j : Int)]
theorem at_ringL {k j : Nat} (h : j < k) : at_ (ringL k) j = [(nx_ k j : Int)] := by unfold at_ ringL; rw [List.getD_eq_getElem?_getD]; simp [h]
theorem at_rowL {k a j : Nat} (h : j < k) : at_ (rowL k a) j = if j = a then [] else [(nx_ k j : Int)] := by unfold at_ rowL; rw [List.getD_eq_getElem?_getD]; simp [h]
theorem RCell.reads {k j : Nat} {wr : World} {v9 v : Value} (h : RCell k wr v9 j v) : ∃ A' c', v = .slice A' ([(nx_ k j : Int)]).length c' ∧ ([(nx_ k j : Int)]).length ≤ c' ∧ Kd.C (Kd.int .i64) wr A' ([(nx_ k j : Int)]).length [(nx_ k j : Int)] := by
  obtain ⟨b, rfl, h2, _⟩ := h
  exact ⟨_, _, rfl, Nat.le_refl _, C_blk1 h2⟩
theorem RingI.read7 {w wr : World} {k a i8 i9 : Nat} {A7 : Option Addr} {c7 : Nat} {v8 v9 : Value} {rs ss : List Value} (h : RingI w k a k i8 i9 (.slice A7 k c7) v8 v9 rs ss wr) (hk : k ≤ 60 := by omega) : Kd.C (Kd.slice 3 (Kd.int .i64)) wr A7 k (ringL k) := by
  have hl : rs.length = k := by simpa using h.r7.1
  refine own_C h.r7 (by simp [ringL]) (by omega) (fun j v hv => ?_)
  have hj : j < k := by rw [← hl]; exact (List.getElem?_eq_some_iff.1 hv).1
  rw [at_ringL hj]
  exact (h.b7 j v hv).reads
theorem RingI.read8 {w wr : World} {k a i7 i9 : Nat} {A8 : Option Addr} {c8 : Nat} {v7 v9 : Value} {rs ss : List Value} (h : RingI w k a i7 k i9 v7 (.slice A8 k c8) v9 rs ss wr) (hk : k ≤ 60 := by omega) : Kd.C (Kd.slice 3 (Kd.int .i64)) wr A8 k (rowL k a) := by
  have hl : ss.length = k := by simpa using h.r8.1
  refine own_C h.r8 (by simp [rowL]) (by omega) (fun j v hv => ?_)
  have hj : j < k := by rw [← hl]; exact (List.getElem?_eq_some_iff.1 hv).1
  rw [at_rowL hj]
  rcases h.b8 j v hv with ⟨e, rfl⟩ | ⟨e, hc⟩
  · rw [if_pos e]; exact none_
  · rw [if_neg e]; exact hc.reads
theorem RingI.read9 {w wr : World} {k a i7 i8 i9 : Nat} {A9 : Option Addr} {c9 : Nat} {v7 v8 : Value} {rs ss : List Value} (h : RingI w k a i7 i8 i9 v7 v8 (.slice A9 i9 c9) rs ss wr) : Kd.C (Kd.int .i64) wr A9 i9 (wantL k a i9) ∧ i9 ≤ c9 := by
  have hl : (wantL k a i9).length = i9 := by simp [wantL]
  have h9 := h.r9
  have hc := own_cap' h9
  have h9' : wr.ownsRow w.heap.size 3 1 (.slice A9 i9 c9) (wantL k a i9).length (nums .i64 (wantL k a i9)) := by rw [hl]; exact h9
  obtain ⟨X3, d3, e3, _, cy⟩ := Kd.R_reads (Kd.R_of_own h9' (ok := fun _ => True) (fun _ _ => trivial))
  injection e3 with e31 e32 e33
  subst e31
  rw [hl] at cy
  exact ⟨cy, hc⟩
theorem small_ring (k : Nat) : ∀ j, (at_ (ringL k) j).length ≤ 20000 := by
  intro j
  by_cases h : j < k
  · rw [at_ringL h]; simp
  · rw [at_beyond (by simp [ringL]; omega)]; simp
theorem small_row (k a : Nat) : ∀ j, (at_ (rowL k a) j).length ≤ 20000 := by
  intro j
  by_cases h : j < k
  · rw [at_rowL h]; split <;> simp
  · rw [at_beyond (by simp [rowL]; omega)]; simp
theorem ring_of {k : Nat} (hk : 1 ≤ k) : Ord.of (ringL k) = ([], 8) := by
  have hl : (ringL k).length = k := by simp [ringL]
  refine of_ring (by omega) (fun j hj => ?_)
  rw [hl] at hj
  refine ⟨_, at_ringL hj, ?_⟩
  rw [hl]
  unfold nx_
  split <;> omega
theorem row_of {k a : Nat} (ha : a < k) : Ord.of (rowL k a) = (wantL k a k, 0) := by
  have hl : (rowL k a).length = k := by simp [rowL]
  have := of_row (l := rowL k a) (at0 := a) (by omega) (by rw [at_rowL ha, if_pos rfl]) (fun j hj hne => by rw [hl] at hj; rw [at_rowL hj, if_neg hne, hl])
  rw [this, hl]
  rfl
theorem same_of (q : Nat) (A : Option Addr) (c : Nat) (A' : Option Addr) (c' n : Nat) (l : List Int) (w : World) (hl : l.length = n) (h1 : Kd.C (Kd.int .i64) w A n l) (h2 : n ≤ c) (h3 : Kd.C (Kd.int .i64) w A' n l) (h4 : n ≤ c') (hq : belfrylaw01_SameInts.f q l l = some true) :
    Calls Try.prog 12 #[.slice A n c, .slice A' n c'] w fun e w' => e = .returned (.bool true) ∧ Below w.heap.size w w' := by
  subst hl
  refine (belfrylaw01_SameInts.calls q A c l A' c' l true w h1 h2 h3 h4 hq).mono ?_
  rintro e w' ⟨rfl, hd⟩
  exact ⟨rfl, hd.below⟩

def RingPost (w : World) (e : Ending) (w' : World) : Prop := e = .returned (.bool true) ∧ Below w.heap.size w w'

set_option maxHeartbeats 4000000 in
set_option maxRecDepth 100000 in
theorem ring_walk (x y : Int) (hx : 0 ≤ x ∧ x ≤ 255) (hy : 0 ≤ y ∧ y ≤ 255) (w : World) : Calls Try.prog 6 #[.int .u8 x, .int .u8 y] w (RingPost w) := by
  go_enter Try.func6, Try.ntmps6
  go_wp2_with fail
  obtain ⟨k, hk⟩ : ∃ k : Nat, (k : Int) = x % 60 + 1 := ⟨(x % 60 + 1).toNat, by omega⟩
  have hk1 : 1 ≤ k := by omega
  have hk2 : k ≤ 60 := by omega
  rw [← hk]
  obtain ⟨a, ha⟩ : ∃ a : Nat, (a : Int) = y % (k : Int) := ⟨(y % (k : Int)).toNat, by have := Int.emod_nonneg y (b := (k : Int)) (by omega); omega⟩
  have ha1 : a < k := by have := Int.emod_lt_of_pos y (b := (k : Int)) (by omega); omega
  rw [← ha]
  clear hk ha hx hy
  go_loopw [7, 8, 9, 10] (fun t7 t8 t9 iv wr => ∃ (i : Nat) (A7 A8 A9 : Option Addr) (c7 c8 c9 : Nat) (rs ss : List Value), t7 = .slice A7 i c7 ∧ t8 = .slice A8 i c8 ∧ t9 = .slice A9 i c9 ∧ iv = .int .i64 i ∧ i ≤ k ∧ Hid (RingI w k a i i i (.slice A7 i c7) (.slice A8 i c8) (.slice A9 i c9) rs ss wr)) (fun _ _ _ iv _ => k - (intOf iv).toNat)
  case atStart => exact ⟨0, none, none, none, 0, 0, 0, [], [], rfl, rfl, rfl, rfl, Nat.zero_le _, Lib.hid (ring_start w)⟩
  case round =>
    obtain ⟨i, A7, A8, A9, c7, c8, c9, rs, ss, rfl, rfl, rfl, rfl, hi, HI⟩ := hrel
    by_cases hlt : i < k
    · have hnx := ring_nx hlt
      have hrw := ring_rw hlt ha1
      obtain ⟨nx, hnxe⟩ : ∃ nx : Int, nx = ((i : Int) + 1) % (k : Int) := ⟨_, rfl⟩
      obtain ⟨rx, hrxe⟩ : ∃ rx : Int, rx = ((a : Int) + k - i) % (k : Int) := ⟨_, rfl⟩
      rw [← hnxe] at hnx
      rw [← hrxe] at hrw
      have HI1 := Lib.hid (HI.out.alloc (.cells #[.int .i64 nx] 3))
      have HC1 := Lib.hid (HI.out.cell i nx hnx)
      have hrl : rs.length = i := by simpa using HI.out.r7.1
      have hsl : ss.length = i := by simpa using HI.out.r8.1
      have hwl : (wantL k a i).length = i := by simp [wantL]
      have HO7 : Hid ((wr.alloc (.cells #[.int .i64 nx] 3)).ownsRow w.heap.size 25 1 (.slice A7 i c7) rs.length rs) := Lib.hid (by rw [hrl]; exact HI1.out.r7)
      have HB7 := Lib.hid HI1.out.below
      have hs7 := HB7.out.size
      have hb7 : (rs.length + 1) * 24 ≤ 140737488355328 := by omega
      have hb8 : (ss.length + 1) * 24 ≤ 140737488355328 := by omega
      have hb9 : ((wantL k a i).length + 1) * 8 ≤ 140737488355328 := by omega
      have HNX := Lib.hid hnxe
      have HRX := Lib.hid hrxe
      have HRW := Lib.hid hrw
      clear hnx hrw hnxe hrxe
      by_cases hia : i = a
      · subst hia
        go_wp2_with (first | (at_builtin; rw [← HNX.out]; refine print_append (w0 := w) (W := wr.alloc (.cells #[.int .i64 nx] 3)) w.heap.size rfl _ _ 22 25 (.slice none 0 0) 24 rfl Try.underlying22 info25 rfl (by decide) (.slice A7 i c7) rs (.slice (some ⟨wr.heap.size, 0, none⟩) 1 1) rfl (by rw [sz_]; rfl) rfl HO7.out HB7.out hs7 hb7 ?_; intro v1 w2 hown hB2 hg hat; have HI7 := Lib.hid (HI1.out.step7 HC1.out hown hB2 hg hat); obtain ⟨A1, c1, hv1⟩ := own_slice HI7.out.r7; subst hv1; clear hown hB2 hg hat HI1 HC1 HO7 HB7 hs7) | (at_builtin; have HO8 : Hid (w2.ownsRow w.heap.size 25 1 (.slice A8 i c8) ss.length ss) := Lib.hid (by rw [hsl]; exact HI7.out.r8); refine print_append (w0 := w) (W := w2) w.heap.size rfl _ _ 22 25 (.slice none 0 0) 24 rfl Try.underlying22 info25 rfl (by decide) (.slice A8 i c8) ss (.slice none 0 0) rfl rfl rfl HO8.out HI7.out.below HI7.out.below.size hb8 ?_; intro v2 w3 hown hB3 hg hat; have HI8 := Lib.hid (HI7.out.step8 (.inl ⟨rfl, rfl⟩) hown hB3 hg hat); obtain ⟨A2, c2, hv2⟩ := own_slice HI8.out.r8; subst hv2; clear hown hB3 hg hat HI7 HO8) | (at_builtin; rw [← HRX.out]; have HO9 : Hid (w3.ownsRow w.heap.size 3 1 (.slice A9 i c9) (wantL k i i).length (nums .i64 (wantL k i i))) := Lib.hid (by rw [hwl]; exact HI8.out.r9); refine print_append_num (w0 := w) (W := w3) w.heap.size rfl _ _ 25 3 .i64 8 rfl Try.underlying25 info3 (by decide) (.slice A9 i c9) (wantL k i i) rx rfl rfl HO9.out HI8.out.below HI8.out.below.size hb9 ?_; intro v3 w4 hown hB4 hg hat; have HI9 := Lib.hid (HI8.out.step9 HRW.out hown hB4 hg hat); obtain ⟨A3, c3, hv3⟩ := own_slice HI9.out.r9; subst hv3; clear hown hB4 hg hat HI8 HO9))
        exact ⟨⟨i + 1, A1, A2, A3, c1, c2, c3, _, _, rfl, rfl, rfl, by go_num, by omega, HI9⟩, by simp [intOf]; omega⟩
      · have hia2 : ((i : Int) == (a : Int)) = false := by simp; omega
        go_wp2_with (first | (at_builtin; rw [← HNX.out]; refine print_append (w0 := w) (W := wr.alloc (.cells #[.int .i64 nx] 3)) w.heap.size rfl _ _ 22 25 (.slice none 0 0) 24 rfl Try.underlying22 info25 rfl (by decide) (.slice A7 i c7) rs (.slice (some ⟨wr.heap.size, 0, none⟩) 1 1) rfl (by rw [sz_]; rfl) rfl HO7.out HB7.out hs7 hb7 ?_; intro v1 w2 hown hB2 hg hat; have HI7 := Lib.hid (HI1.out.step7 HC1.out hown hB2 hg hat); obtain ⟨A1, c1, hv1⟩ := own_slice HI7.out.r7; subst hv1; clear hown hB2 hg hat HI1 HC1 HO7 HB7 hs7) | (at_builtin; have HO8 : Hid (w2.ownsRow w.heap.size 25 1 (.slice A8 i c8) ss.length ss) := Lib.hid (by rw [hsl]; exact HI7.out.r8); refine print_append (w0 := w) (W := w2) w.heap.size rfl _ _ 22 25 (.slice none 0 0) 24 rfl Try.underlying22 info25 rfl (by decide) (.slice A8 i c8) ss (.slice (some ⟨wr.heap.size, 0, none⟩) 1 1) rfl rfl rfl HO8.out HI7.out.below HI7.out.below.size hb8 ?_; intro v2 w3 hown hB3 hg hat; have HI8 := Lib.hid (HI7.out.step8 (.inr ⟨hia, HI7.out.b7 i _ (by rw [List.getElem?_append_right (by omega), hrl]; simp)⟩) hown hB3 hg hat); obtain ⟨A2, c2, hv2⟩ := own_slice HI8.out.r8; subst hv2; clear hown hB3 hg hat HI7 HO8) | (at_builtin; rw [← HRX.out]; have HO9 : Hid (w3.ownsRow w.heap.size 3 1 (.slice A9 i c9) (wantL k a i).length (nums .i64 (wantL k a i))) := Lib.hid (by rw [hwl]; exact HI8.out.r9); refine print_append_num (w0 := w) (W := w3) w.heap.size rfl _ _ 25 3 .i64 8 rfl Try.underlying25 info3 (by decide) (.slice A9 i c9) (wantL k a i) rx rfl rfl HO9.out HI8.out.below HI8.out.below.size hb9 ?_; intro v3 w4 hown hB4 hg hat; have HI9 := Lib.hid (HI8.out.step9 HRW.out hown hB4 hg hat); obtain ⟨A3, c3, hv3⟩ := own_slice HI9.out.r9; subst hv3; clear hown hB4 hg hat HI8 HO9))
        exact ⟨⟨i + 1, A1, A2, A3, c1, c2, c3, _, _, rfl, rfl, rfl, by go_num, by omega, HI9⟩, by simp [intOf]; omega⟩
    · obtain rfl : i = k := by omega
      have CR := Lib.hid (HI.out.read7)
      have CS := Lib.hid (HI.out.read8)
      have CW := Lib.hid (HI.out.read9)
      have G0 := Lib.hid HI.out.below
      clear HI
      have hlr : (ringL i).length = i := by simp [ringL]
      have hls : (rowL i a).length = i := by simp [rowL]
      have hlw : (wantL i a i).length = i := by simp [wantL]
      go_wp2_with fail
      refine (of_lit A7 c7 i (ringL i) wr [] 8 hlr (by rw [hlr]; exact CR.out) (by omega) (small_ring i) (ring_of hk1)).mono ?_
      rintro _ w1 ⟨v1, rfl, o1, b1⟩
      have CS1 := Lib.hid (Kd.C_below CS.out b1)
      have CW1 := Lib.hid (Kd.C_below CW.out.1 b1)
      have G1 := Lib.hid (cut_ _ _ G0.out b1)
      obtain ⟨X1, d1, hv1⟩ := own_slice o1
      simp only [List.length_nil] at hv1
      subst hv1
      clear o1 b1 CS G0 CR
      go_wp2_with fail
      refine (of_lit A8 c8 i (rowL i a) w1 (wantL i a i) 0 hls (by rw [hls]; exact CS1.out) (by omega) (small_row i a) (row_of ha1)).mono ?_
      rintro _ w2 ⟨v2, rfl, o2, b2⟩
      have CW2 := Lib.hid (Kd.C_below CW1.out b2)
      have G2 := Lib.hid (cut_ _ _ G1.out b2)
      obtain ⟨X2, d2, hv2⟩ := own_slice o2
      subst hv2
      rw [hlw] at o2 ⊢
      have CY := Lib.hid (own_reads o2 hlw).1
      have hd2 := (own_reads o2 hlw).2
      clear o2 b2 CS1 G1 CW1
      go_wp2_with fail
      refine (belfrylaw13_alive.calls true w2 rfl).mono ?_
      rintro _ w3 ⟨rfl, b3⟩
      have CW3 := Lib.hid (Kd.C_below CW2.out b3)
      have CY3 := Lib.hid (Kd.C_below CY.out b3)
      have G3 := Lib.hid (cut_ _ _ G2.out b3)
      clear b3 CW2 CY G2
      obtain ⟨q, hq⟩ := (same_ev (wantL i a i) (wantL i a i) (by omega)).rounds
      rw [decide_eq_true rfl] at hq
      have HQ := Lib.hid hq
      clear hq
      go_wp2_with fail
      refine (same_of q X2 d2 A9 c9 i (wantL i a i) w3 hlw CY3.out hd2 CW3.out CW.out.2 HQ.out).mono ?_
      rintro _ w4 ⟨rfl, b4⟩
      have G4 := Lib.hid (cut_ _ _ G3.out b4)
      clear b4 G3
      go_wp2_with fail
      go_ret
      exact ⟨rfl, G4.out⟩
end Go.Proofs.Ytodgeciggbeolaa.S
