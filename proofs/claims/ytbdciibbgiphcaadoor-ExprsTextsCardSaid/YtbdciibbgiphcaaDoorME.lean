/- What exprs computes; exprs.Check walked. Joined by wip/merge.py (ours) from several texts of this seat. -/
import Derived.Test.YtbdciibbgiphcaaDoorMA
import Derived.Deep.RegionHeld3
import Derived.LoopTactic
import Derived.Lib.Hide
import Derived.Test.YtbdciibbgiphcaaDoorMB
/- What is worked out: may it be, and how it is written: plain Lean. -/
namespace Go.Proofs.YtbdciibbgiphcaaDoor.V
set_option linter.unusedVariables false
set_option linter.unusedSimpArgs false
set_option linter.unusedSectionVars false
open Go.RowKit Go.Proofs.YtbdciibbgiphcaaDoorW.PrintWords Go.Proofs.YtbdciibbgiphcaaDoorW.PrintLast Go.Proofs.YtbdciibbgiphcaaDoorW.PrintMore
theorem w64 {n : Int} (h0 : -9223372036854775808 ≤ n) (h1 : n ≤ 9223372036854775807) : wrap64 n = n := by unfold wrap64; omega
/-- operators of two: the operator, its rank, the kind of its token, its text. -/
def pairsL : List S83 := [⟨18, 0, 3, ⟨#[45, 62]⟩⟩, ⟨16, 1, 1, ⟨#[111, 114]⟩⟩, ⟨15, 2, 1, ⟨#[97, 110, 100]⟩⟩, ⟨11, 3, 3, ⟨#[61, 61]⟩⟩, ⟨12, 3, 3, ⟨#[33, 61]⟩⟩, ⟨13, 3, 3, ⟨#[60]⟩⟩, ⟨14, 3, 3, ⟨#[60, 61]⟩⟩, ⟨6, 4, 3, ⟨#[43]⟩⟩, ⟨7, 4, 3, ⟨#[45]⟩⟩, ⟨8, 5, 3, ⟨#[42]⟩⟩, ⟨9, 5, 3, ⟨#[47]⟩⟩, ⟨10, 5, 3, ⟨#[37]⟩⟩]
def prefL : List S83 := [⟨4, 6, 3, ⟨#[45]⟩⟩, ⟨5, 6, 1, ⟨#[110, 111, 116]⟩⟩, ⟨19, 6, 1, ⟨#[112, 114, 101]⟩⟩]
def findL (l : List S83) (o : Int) : Option S83 := l.find? fun x => decide (x.f0 = o)
def parts (o : Int) : Int := if o = 1 ∨ o = 2 ∨ o = 3 then 0 else if o = 17 then 3 else if (findL pairsL o).isSome then 2 else if (findL prefL o).isSome then 1 else -1
def rankOf (o : Int) : Int := if o = 17 then 0 else match findL pairsL o with
 | some f => f.f1
 | none => match findL prefL o with
  | some f => f.f1
  | none => 7
def emp (s : ByteArray) : Bool := s.toList.isEmpty
def chks (f : S25 → Int → Bool × Int) : List S25 → Int → Bool × Int
 | [], l => (true, l)
 | y :: r, l => if (f y l).1 = true then chks f r (f y l).2 else (false, (f y l).2)
def chk (nm : ByteArray → Bool) : Nat → S25 → Int → Bool × Int
 | 0, _, l => (false, l - 1)
 | d + 1, x, l =>
  if l - 1 < 0 then (false, l - 1) else if parts x.f0 ≠ (x.f3.length : Int) then (false, l - 1)
  else if x.f0 = 1 then (decide (0 ≤ x.f1) && emp x.f2, l - 1)
  else if x.f0 = 2 then ((decide (x.f1 = 0) || decide (x.f1 = 1)) && emp x.f2, l - 1)
  else if x.f0 = 3 then (decide (x.f1 = 0) && nm x.f2, l - 1)
  else ((chks (chk nm d) x.f3 (l - 1)).1 && (decide (x.f1 = 0) && emp x.f2), (chks (chk nm d) x.f3 (l - 1)).2)
theorem chks_le {f : S25 → Int → Bool × Int} (hf : ∀ y l, 0 ≤ l → -1 ≤ (f y l).2 ∧ (f y l).2 ≤ l ∧ ((f y l).1 = true → 0 ≤ (f y l).2)) : ∀ (r : List S25) (l : Int), 0 ≤ l → -1 ≤ (chks f r l).2 ∧ (chks f r l).2 ≤ l ∧ ((chks f r l).1 = true → 0 ≤ (chks f r l).2)
 | [], l, h => by simp only [chks]; omega
 | y :: r, l, h => by
  have h1 := hf y l h
  simp only [chks]
  by_cases hb : (f y l).1 = true
  ·rw [if_pos hb]
   have h2 := chks_le hf r (f y l).2 (h1.2.2 hb)
   exact ⟨h2.1, by omega, h2.2.2⟩
  ·rw [if_neg hb]
   exact ⟨h1.1, h1.2.1, fun h => by simp at h⟩
theorem chk_le (nm : ByteArray → Bool) : ∀ (d : Nat) (x : S25) (l : Int), 0 ≤ l → -1 ≤ (chk nm d x l).2 ∧ (chk nm d x l).2 ≤ l ∧ ((chk nm d x l).1 = true → 0 ≤ (chk nm d x l).2)
 | 0, x, l, h => by simp only [chk]; exact ⟨by omega, by omega, fun h => by simp at h⟩
 | d + 1, x, l, h => by
  have h1 : 0 ≤ l - 1 → _ := chks_le (chk_le nm d) x.f3 (l - 1)
  unfold chk
  by_cases h2 : l - 1 < 0
  ·rw [if_pos h2]; exact ⟨by omega, by omega, fun h => by simp at h⟩
  ·rw [if_neg h2]
   have h1 := h1 (by omega)
   split
   ·exact ⟨by omega, by omega, fun h => by simp at h⟩
   ·split
    ·exact ⟨by omega, by omega, fun _ => by omega⟩
    ·split
     ·exact ⟨by omega, by omega, fun _ => by omega⟩
     ·split
      ·exact ⟨by omega, by omega, fun _ => by omega⟩
      ·refine ⟨h1.1, by omega, fun h => h1.2.2 ?_⟩
       simp only [Bool.and_eq_true] at h
       exact h.1
theorem chks_take (f : S25 → Int → Bool × Int) (xs : List S25) (l : Int) (i : Nat) (hi : i < xs.length) (h : (chks f (xs.take i) l).1 = true) : chks f (xs.take (i + 1)) l = f xs[i] (chks f (xs.take i) l).2 := by
 rw [List.take_succ_eq_append_getElem hi]
 generalize xs.take i = ys at h
 induction ys generalizing l with
 | nil =>
  simp only [List.nil_append, chks]
  by_cases hb : (f xs[i] l).1 = true
  ·rw [if_pos hb]; exact Prod.ext hb.symm rfl
  ·rw [if_neg hb]; exact Prod.ext (by simpa using hb) rfl
 | cons y ys ih =>
  simp only [List.cons_append, chks] at h ⊢
  by_cases hb : (f y l).1 = true
  ·rw [if_pos hb] at h ⊢; rw [if_pos hb]; exact ih _ h
  ·rw [if_neg hb] at h; simp at h
theorem chks_stop (f : S25 → Int → Bool × Int) (xs : List S25) (l : Int) (i : Nat) (h : (chks f (xs.take i) l).1 = false) : chks f xs l = chks f (xs.take i) l := by
 induction xs generalizing l i with
 | nil => simp
 | cons y ys ih =>
  cases i with
  | zero => simp [chks] at h
  | succ i =>
   simp only [List.take_succ_cons, chks] at h ⊢
   by_cases hb : (f y l).1 = true
   ·rw [if_pos hb] at h ⊢; rw [if_pos hb]; exact ih _ _ h
   ·rw [if_neg hb, if_neg hb]
/-- P5.3. -/
def okE (nm : ByteArray → Bool) (x : S25) : Bool := (chk nm 32 x 200).1
end Go.Proofs.YtbdciibbgiphcaaDoor.V

-- Written for this claim by wip/myprint.py (a program of this session over the kit's printer).
namespace Go.Proofs.YtbdciibbgiphcaaDoor.V
open Go.RowKit Go.Proofs.YtbdciibbgiphcaaDoorW.PrintWords Go.Proofs.YtbdciibbgiphcaaDoorW.PrintLast Go.Proofs.YtbdciibbgiphcaaDoorW.PrintMore
attribute [local go_sem] max2_int min2_int max_two min_two max_three min_three max_four min_four   -- for this text's walks alone
set_option linter.unusedVariables false
set_option linter.unusedSimpArgs false

-- in a group: function 29 (belfrylaw01_ExprsSize)

/-! ### a group: belfrylaw01_ExprsSize, belfrylaw01_ExprSize -/
mutual
def belfrylaw01_ExprsSize.l0 : Nat → List (S25) → Int → Int → Option (Int)
 | 0, _, _, _ => none
 | k + 1, x0, x3, x4 => if x4 < (x0.length : Int) then (if x3 ≤ 1048576 then (if 0 ≤ x4 then ((belfrylaw01_ExprSize.f k ((rd_T25 x0 x4).f0) ((rd_T25 x0 x4).f1) ((rd_T25 x0 x4).f2) ((rd_T25 x0 x4).f3)).bind fun t106 => (belfrylaw01_ExprsSize.l0 k x0 (wrap64 (x3 + t106)) (wrap64 (x4 + 1)))) else (none)) else (some x3)) else (some x3)
def belfrylaw01_ExprsSize.f : Nat → List (S25) → Option (Int)
 | 0, _ => none
 | k + 1, l0 => belfrylaw01_ExprsSize.l0 k l0 (l0.length : Int) 0
def belfrylaw01_ExprSize.f : Nat → Int → Int → ByteArray → List (S25) → Option (Int)
 | 0, _, _, _, _ => none
 | k + 1, a0_0, a0_1, a0_2, l0_3 => if (wrap64 (1 + (a0_2.size : Int))) ≤ 1048576 then ((belfrylaw01_ExprsSize.f k l0_3).bind fun t108 => (some (wrap64 ((wrap64 (1 + (a0_2.size : Int))) + t108)))) else (some (wrap64 (1 + (a0_2.size : Int))))
end
theorem belfrylaw01_ExprsSize.mono_g : ∀ k, (∀ y0, LeO (belfrylaw01_ExprsSize.f k y0) (belfrylaw01_ExprsSize.f (k + 1) y0)) ∧ (∀ y0 y1 y2, LeO (belfrylaw01_ExprsSize.l0 k y0 y1 y2) (belfrylaw01_ExprsSize.l0 (k + 1) y0 y1 y2)) ∧ (∀ y0 y1 y2 y3, LeO (belfrylaw01_ExprSize.f k y0 y1 y2 y3) (belfrylaw01_ExprSize.f (k + 1) y0 y1 y2 y3))
 | 0 => ⟨fun _ r h => by simp [belfrylaw01_ExprsSize.f] at h, fun _ _ _ r h => by simp [belfrylaw01_ExprsSize.l0] at h, fun _ _ _ _ r h => by simp [belfrylaw01_ExprSize.f] at h⟩
 | k + 1 => by
  obtain ⟨ih0, ih1, ih2⟩ := belfrylaw01_ExprsSize.mono_g k
  refine ⟨?_, ?_, ?_⟩
  ·intro y0
   unfold belfrylaw01_ExprsSize.f
   repeat' first
   | (with_reducible exact ih0 _)
   | (with_reducible exact ih1 _ _ _)
   | (with_reducible exact ih2 _ _ _ _)
   | (with_reducible exact LeO.refl _)
   | (with_reducible exact LeO.none _)
   | (with_reducible refine LeO.ite ?_ ?_)
   | (with_reducible refine LeO.bind ?_ (fun _ => ?_))
   | exact ih0 _
   | exact ih1 _ _ _
   | exact ih2 _ _ _ _
   | exact LeO.none _
   | refine LeO.ite ?_ ?_
   | refine LeO.bind ?_ (fun _ => ?_)
  ·intro y0 y1 y2
   unfold belfrylaw01_ExprsSize.l0
   repeat' first
   | (with_reducible exact ih0 _)
   | (with_reducible exact ih1 _ _ _)
   | (with_reducible exact ih2 _ _ _ _)
   | (with_reducible exact LeO.refl _)
   | (with_reducible exact LeO.none _)
   | (with_reducible refine LeO.ite ?_ ?_)
   | (with_reducible refine LeO.bind ?_ (fun _ => ?_))
   | exact ih0 _
   | exact ih1 _ _ _
   | exact ih2 _ _ _ _
   | exact LeO.none _
   | refine LeO.ite ?_ ?_
   | refine LeO.bind ?_ (fun _ => ?_)
  ·intro y0 y1 y2 y3
   unfold belfrylaw01_ExprSize.f
   repeat' first
   | (with_reducible exact ih0 _)
   | (with_reducible exact ih1 _ _ _)
   | (with_reducible exact ih2 _ _ _ _)
   | (with_reducible exact LeO.refl _)
   | (with_reducible exact LeO.none _)
   | (with_reducible refine LeO.ite ?_ ?_)
   | (with_reducible refine LeO.bind ?_ (fun _ => ?_))
   | exact ih0 _
   | exact ih1 _ _ _
   | exact ih2 _ _ _ _
   | exact LeO.none _
   | refine LeO.ite ?_ ?_
   | refine LeO.bind ?_ (fun _ => ?_)
theorem belfrylaw01_ExprsSize.mono : ∀ a0 k, LeO (belfrylaw01_ExprsSize.f k a0) (belfrylaw01_ExprsSize.f (k + 1) a0) := by
 intro a0 k
 obtain ⟨ih0, ih1, ih2⟩ := belfrylaw01_ExprsSize.mono_g k
 exact ih0 a0
theorem belfrylaw01_ExprSize.mono : ∀ a0 a1 a2 a3 k, LeO (belfrylaw01_ExprSize.f k a0 a1 a2 a3) (belfrylaw01_ExprSize.f (k + 1) a0 a1 a2 a3) := by
 intro a0 a1 a2 a3 k
 obtain ⟨ih0, ih1, ih2⟩ := belfrylaw01_ExprsSize.mono_g k
 exact ih2 a0 a1 a2 a3
/-! ### belfrylaw01_ExprsSize: function 29 -/
set_option maxHeartbeats 8000000 in
set_option maxRecDepth 100000 in
theorem belfrylaw01_ExprsSize.step (k : Nat) (ih29 : ∀ k', k' < k → ∀ (A0 : Option Addr) (c0 : Nat) (l0 : List (S25)) (r : Int) (w : World) (hr0 : Kd.C k25 w A0 l0.length l0) (hc0 : l0.length ≤ c0) (h : belfrylaw01_ExprsSize.f k' l0 = some r), Calls Tryd.prog 29 #[.slice A0 l0.length c0] w fun e w' => e = .returned (.int .i64 r) ∧ Below w.heap.size w w') (ih10 : ∀ k', k' < k → ∀ (a0_0 : Int) (a0_1 : Int) (a0_2 : ByteArray) (A0_3 : Option Addr) (c0_3 : Nat) (l0_3 : List (S25)) (r : Int) (w : World) (hr0_3 : Kd.C k25 w A0_3 l0_3.length l0_3) (hc0_3 : l0_3.length ≤ c0_3) (h : belfrylaw01_ExprSize.f k' a0_0 a0_1 a0_2 l0_3 = some r), Calls Tryd.prog 10 #[.agg #[.int .u8 a0_0, .int .i64 a0_1, .string a0_2, .slice A0_3 l0_3.length c0_3]] w fun e w' => e = .returned (.int .i64 r) ∧ Below w.heap.size w w') : ∀ (A0 : Option Addr) (c0 : Nat) (l0 : List (S25)) (r : Int) (w : World) (hr0 : Kd.C k25 w A0 l0.length l0) (hc0 : l0.length ≤ c0) (h : belfrylaw01_ExprsSize.f k l0 = some r),
  Calls Tryd.prog 29 #[.slice A0 l0.length c0] w fun e w' => e = .returned (.int .i64 r) ∧ Below w.heap.size w w' := by
 intro A0 c0 l0 r w hr0 hc0 h
 cases k with
 | zero => exact absurd h (by simp [belfrylaw01_ExprsSize.f])
 | succ k =>
 simp only [belfrylaw01_ExprsSize.f] at h
 have hu25 := Tryd.underlying25
 have HR0 := Aside0.mk hr0
 have HC0 := Aside0.mk hc0
 clear hr0 hc0
 have HB := Aside0.mk (Below.refl w.heap.size w)
 have H : (belfrylaw01_ExprsSize.l0 k l0 (l0.length : Int) 0) = some r := h
 clear h
 have H' := Aside0.mk H
 clear H
 go_enter Tryd.func29, Tryd.ntmps29
 go_wp2
 go_loopg [3, 4] k (fun kq v3 v4 w' => ∃ (x3_1 : Int) (x4_1 : Int), v3 = .int .i64 x3_1 ∧ v4 = .int .i64 x4_1 ∧ Aside0 (belfrylaw01_ExprsSize.l0 kq l0 x3_1 x4_1 = some r) ∧ Aside0 (kq ≤ k) ∧ Aside0 (Below w.heap.size w w'))
 case atStart => exact ⟨((l0.length : Int)), (0), (by first | rfl | (simp; done) | (simp [*]; done)), (by first | rfl | (simp; done) | (simp [*]; done)), H', ⟨Nat.le_refl _⟩, ⟨by repeat (first | (with_reducible first | exact HB.out | apply below_alloc | apply pw_below_drewN | apply below_drew1) | exact HB.out)⟩⟩
 case round =>
  clear H'
  obtain ⟨x3_1, x4_1, rfl, rfl, HA, HK1, HB⟩ := hrel
  cases gk with
  | zero => exact absurd HA.out (by simp [belfrylaw01_ExprsSize.l0])
  | succ k1 =>
   have H := HA.out
   clear HA
   simp only [belfrylaw01_ExprsSize.l0] at H
   by_cases c2 : x4_1 < (l0.length : Int)
   ·rw [if_pos c2] at H
    have c2b0 : decide (x4_1 < (l0.length : Int)) = true := decide_eq_true c2
    clear c2
    by_cases c3 : x3_1 ≤ 1048576
    ·rw [if_pos c3] at H
     have c3b0 : decide (x3_1 ≤ 1048576) = true := decide_eq_true c3
     clear c3
     by_cases c4 : 0 ≤ x4_1
     ·rw [if_pos c4] at H
      have c4b0 : decide (0 ≤ x4_1) = true := decide_eq_true c4
      clear c4
      replace H := Option.bind_eq_some_iff.mp H
      obtain ⟨t106, A50, H⟩ := H
      replace H : (belfrylaw01_ExprsSize.l0 k1 l0 (wrap64 (x3_1 + t106)) (wrap64 (x4_1 + 1))) = some r := H
      have A5 := Aside0.mk A50
      clear A50
      have H' := Aside0.mk H
      clear H
      have p105 : 0 ≤ (x4_1 : Int) := of_decide_eq_true (by first | (with_reducible assumption) | assumption)
      have q105 : x4_1 < (l0.length : Int) := of_decide_eq_true (by first | (with_reducible assumption) | assumption)
      obtain ⟨ad105, A105_3, c105_3, e105, hx105_0, hx105_1, hx105_2, hx105_3, hl105_3, hi105_3⟩ := at_T25 HR0.out x4_1 p105 q105
      cases e105
      replace hx105_0 := (HB.out.cell (World.block_lt_of_cell? w _ hx105_0)).trans hx105_0
      replace hx105_1 := (HB.out.cell (World.block_lt_of_cell? w _ hx105_1)).trans hx105_1
      replace hx105_2 := (HB.out.cell (World.block_lt_of_cell? w _ hx105_2)).trans hx105_2
      replace hx105_3 := (HB.out.cell (World.block_lt_of_cell? w _ hx105_3)).trans hx105_3
      have HR105_3 := Aside0.mk hi105_3
      have HC105_3 := Aside0.mk hl105_3
      clear hi105_3 hl105_3
      replace p105 := eq_true p105
      replace q105 := eq_true q105
      go_wp2_with (first | ((with_reducible refine gate_callee (f := 10) rfl ?_); refine goesL_ (some 22) rfl rfl Tryd.func10 (by kernel_rfl) rfl #[.agg #[.int .u8 ((rd_T25 l0 x4_1).f0), .int .i64 ((rd_T25 l0 x4_1).f1), .string ((rd_T25 l0 x4_1).f2), .slice A105_3 ((rd_T25 l0 x4_1).f3).length c105_3]] rfl (by (try simp only [List.map_toArray, List.map_cons, List.map_nil]); first | done | rfl | (simp only [List.length_drop, List.length_take]; rfl)) ?_; (with_reducible refine (ih10 k1 (by have := HK1.out; omega) ((rd_T25 l0 x4_1).f0) ((rd_T25 l0 x4_1).f1) ((rd_T25 l0 x4_1).f2) _ _ ((rd_T25 l0 x4_1).f3) t106 _ ?side1 ?side2 A5.out).mono ?_); (case side1 => repeat (first | exact (Kd.C_below HR105_3.out HB.out) | (with_reducible refine Kd.C_alloc ?_ _) | (with_reducible refine Kd.C_drewN ?_ _) | (with_reducible refine Kd.C_drew ?_))); (case side2 => exact HC105_3.out); rintro e w6 ⟨rfl, hb⟩; refine ⟨_, rfl, ?_⟩; have n0_ := Aside0.mk (below_step (by repeat (first | (with_reducible first | exact HB.out | apply below_alloc | apply pw_below_drewN | apply below_drew1) | exact HB.out)) hb); clear HB; have HB := n0_; clear n0_; (try clear hb); (try clear hb2); (try clear hk); (try clear hi)))
      go_roundg k1
      case measure => have := HK1.out; omega
      case rel => exact ⟨(wrap64 (x3_1 + t106)), (wrap64 (x4_1 + 1)), (by first | rfl | (simp; done) | (simp [*]; done)), (by first | rfl | (simp; done) | (simp [*]; done)), H', ⟨by have := HK1.out; omega⟩, ⟨by repeat (first | (with_reducible first | exact HB.out | apply below_alloc | apply pw_below_drewN | apply below_drew1) | exact HB.out)⟩⟩
     ·rw [if_neg c4] at H
      exact absurd H (by simp)
    ·rw [if_neg c3] at H
     have c3b0 : decide (x3_1 ≤ 1048576) = false := decide_eq_false c3
     clear c3
     obtain rfl := Option.some.inj H
     go_wp2
     go_ret
     exact ⟨by first | rfl | (simp [errW_none, errW_some] <;> rfl) | (simp [*, errW_none, errW_some] <;> rfl), by repeat (first | (with_reducible first | exact HB.out | apply below_alloc | apply pw_below_drewN | apply below_drew1) | exact HB.out)⟩
   ·rw [if_neg c2] at H
    have c2b0 : decide (x4_1 < (l0.length : Int)) = false := decide_eq_false c2
    clear c2
    obtain rfl := Option.some.inj H
    go_wp2
    go_ret
    exact ⟨by first | rfl | (simp [errW_none, errW_some] <;> rfl) | (simp [*, errW_none, errW_some] <;> rfl), by repeat (first | (with_reducible first | exact HB.out | apply below_alloc | apply pw_below_drewN | apply below_drew1) | exact HB.out)⟩

/-! ### belfrylaw01_ExprSize: function 10 -/
set_option maxHeartbeats 8000000 in
set_option maxRecDepth 100000 in
theorem belfrylaw01_ExprSize.step (k : Nat) (ih29 : ∀ k', k' < k → ∀ (A0 : Option Addr) (c0 : Nat) (l0 : List (S25)) (r : Int) (w : World) (hr0 : Kd.C k25 w A0 l0.length l0) (hc0 : l0.length ≤ c0) (h : belfrylaw01_ExprsSize.f k' l0 = some r), Calls Tryd.prog 29 #[.slice A0 l0.length c0] w fun e w' => e = .returned (.int .i64 r) ∧ Below w.heap.size w w') (ih10 : ∀ k', k' < k → ∀ (a0_0 : Int) (a0_1 : Int) (a0_2 : ByteArray) (A0_3 : Option Addr) (c0_3 : Nat) (l0_3 : List (S25)) (r : Int) (w : World) (hr0_3 : Kd.C k25 w A0_3 l0_3.length l0_3) (hc0_3 : l0_3.length ≤ c0_3) (h : belfrylaw01_ExprSize.f k' a0_0 a0_1 a0_2 l0_3 = some r), Calls Tryd.prog 10 #[.agg #[.int .u8 a0_0, .int .i64 a0_1, .string a0_2, .slice A0_3 l0_3.length c0_3]] w fun e w' => e = .returned (.int .i64 r) ∧ Below w.heap.size w w') : ∀ (a0_0 : Int) (a0_1 : Int) (a0_2 : ByteArray) (A0_3 : Option Addr) (c0_3 : Nat) (l0_3 : List (S25)) (r : Int) (w : World) (hr0_3 : Kd.C k25 w A0_3 l0_3.length l0_3) (hc0_3 : l0_3.length ≤ c0_3) (h : belfrylaw01_ExprSize.f k a0_0 a0_1 a0_2 l0_3 = some r),
  Calls Tryd.prog 10 #[.agg #[.int .u8 a0_0, .int .i64 a0_1, .string a0_2, .slice A0_3 l0_3.length c0_3]] w fun e w' => e = .returned (.int .i64 r) ∧ Below w.heap.size w w' := by
 intro a0_0 a0_1 a0_2 A0_3 c0_3 l0_3 r w hr0_3 hc0_3 h
 cases k with
 | zero => exact absurd h (by simp [belfrylaw01_ExprSize.f])
 | succ k =>
 simp only [belfrylaw01_ExprSize.f] at h
 have hu25 := Tryd.underlying25
 have HR0_3 := Aside0.mk hr0_3
 have HC0_3 := Aside0.mk hc0_3
 clear hr0_3 hc0_3
 have HB := Aside0.mk (Below.refl w.heap.size w)
 have H : (if (wrap64 (1 + (a0_2.size : Int))) ≤ 1048576 then ((belfrylaw01_ExprsSize.f k l0_3).bind fun t108 => (some (wrap64 ((wrap64 (1 + (a0_2.size : Int))) + t108)))) else (some (wrap64 (1 + (a0_2.size : Int))))) = some r := h
 clear h
 by_cases c2 : (wrap64 (1 + (a0_2.size : Int))) ≤ 1048576
 ·rw [if_pos c2] at H
  have c2b0 : decide ((wrap64 (1 + (a0_2.size : Int))) ≤ 1048576) = true := decide_eq_true c2
  clear c2
  replace H := Option.bind_eq_some_iff.mp H
  obtain ⟨t108, A30, H⟩ := H
  replace H : (some (wrap64 ((wrap64 (1 + (a0_2.size : Int))) + t108))) = some r := H
  have A3 := Aside0.mk A30
  clear A30
  obtain rfl := Option.some.inj H
  go_enter Tryd.func10, Tryd.ntmps10
  go_wp2_with (first | ((with_reducible refine gate_dst (N := 1) rfl ?_); refine box_event ?hg (N := 1) ?hd (cs := #[.int .u8 a0_0, .int .i64 a0_1, .string a0_2, .slice A0_3 l0_3.length c0_3]) (t := 25) ?hr ?_; (case hd => rfl); (case hg => rfl); (case hr => first | (go_simp; done) | (go_simp; rfl)); intro gb107 hg w4 hbox hb; have n0_ := Aside0.mk (below_step (by repeat (first | (with_reducible first | exact HB.out | apply below_alloc | apply pw_below_drewN | apply below_drew1) | exact HB.out)) hb); have n1_ := Aside0.mk (hbox); have n2_ := Aside0.mk ((by rw [hg]; exact (below_size (by repeat (first | (with_reducible first | exact HB.out | apply below_alloc | apply pw_below_drewN | apply below_drew1) | exact HB.out))) : w.heap.size ≤ gb107)); have n3_ := Aside0.mk ((by rw [hg]; exact (below_size (by repeat (first | (with_reducible first | exact HB.out | apply below_alloc | apply pw_below_drewN | apply below_drew1) | exact HB.out))) : w.heap.size ≤ gb107)); clear HB; have HB := n0_; have BK107 := n1_; have GW107 := n2_; have GE107 := n3_; clear n0_ n1_ n2_ n3_; clear hb hbox hg; have hcz5_0 : w4.cell? ⟨gb107, 0, none⟩ = some (.int .u8 a0_0) := (blk_cell BK107.out 0).trans rfl; have hcz5_1 : w4.cell? ⟨gb107, 1, none⟩ = some (.int .i64 a0_1) := (blk_cell BK107.out 1).trans rfl; have hcz5_2 : w4.cell? ⟨gb107, 2, none⟩ = some (.string a0_2) := (blk_cell BK107.out 2).trans rfl; have hcz5_3 : w4.cell? ⟨gb107, 3, none⟩ = some (.slice A0_3 l0_3.length c0_3) := (blk_cell BK107.out 3).trans rfl; have hfz5_0 := blk_frozen BK107.out 0; have hfz5_1 := blk_frozen BK107.out 1; have hfz5_2 := blk_frozen BK107.out 2; have hfz5_3 := blk_frozen BK107.out 3) | ((with_reducible refine gate_callee (f := 29) rfl ?_); refine goesL_ (some 13) rfl rfl Tryd.func29 (by kernel_rfl) rfl #[.slice A0_3 l0_3.length c0_3] rfl (by (try simp only [List.map_toArray, List.map_cons, List.map_nil]); first | done | rfl | (simp only [List.length_drop, List.length_take]; rfl)) ?_; (with_reducible refine (ih29 k (by omega) _ _ l0_3 t108 _ ?side1 ?side2 A3.out).mono ?_); (case side1 => repeat (first | exact (Kd.C_below HR0_3.out HB.out) | (with_reducible refine Kd.C_alloc ?_ _) | (with_reducible refine Kd.C_drewN ?_ _) | (with_reducible refine Kd.C_drew ?_))); (case side2 => exact HC0_3.out); rintro e w6 ⟨rfl, hb⟩; refine ⟨_, rfl, ?_⟩; have n0_ := Aside0.mk (blk_below (g := gb107) (o := .cells #[.int .u8 a0_0, .int .i64 a0_1, .string a0_2, .slice A0_3 l0_3.length c0_3] 25 (0, 0)) (by (with_reducible repeat (first | refine blk_drewN ?_ _ | refine blk_drew ?_ | refine blk_alloc ?_ _)); exact BK107.out) hb); have n1_ := Aside0.mk (below_step (by repeat (first | (with_reducible first | exact HB.out | apply below_alloc | apply pw_below_drewN | apply below_drew1 | refine below_set ?_ GE107.out) | exact HB.out)) hb); clear BK107; clear HB; have BK107 := n0_; have HB := n1_; clear n0_ n1_; (try clear hb); (try clear hb2); (try clear hk); (try clear hi)))
  go_ret
  exact ⟨by first | rfl | (simp [errW_none, errW_some] <;> rfl) | (simp [*, errW_none, errW_some] <;> rfl), by repeat (first | (with_reducible first | exact HB.out | apply below_alloc | apply pw_below_drewN | apply below_drew1 | refine below_set ?_ GE107.out) | exact HB.out)⟩
 ·rw [if_neg c2] at H
  have c2b0 : decide ((wrap64 (1 + (a0_2.size : Int))) ≤ 1048576) = false := decide_eq_false c2
  clear c2
  obtain rfl := Option.some.inj H
  go_enter Tryd.func10, Tryd.ntmps10
  go_wp2_with (first | ((with_reducible refine gate_dst (N := 1) rfl ?_); refine box_event ?hg (N := 1) ?hd (cs := #[.int .u8 a0_0, .int .i64 a0_1, .string a0_2, .slice A0_3 l0_3.length c0_3]) (t := 25) ?hr ?_; (case hd => rfl); (case hg => rfl); (case hr => first | (go_simp; done) | (go_simp; rfl)); intro gb107 hg w7 hbox hb; have n0_ := Aside0.mk (below_step (by repeat (first | (with_reducible first | exact HB.out | apply below_alloc | apply pw_below_drewN | apply below_drew1) | exact HB.out)) hb); have n1_ := Aside0.mk (hbox); have n2_ := Aside0.mk ((by rw [hg]; exact (below_size (by repeat (first | (with_reducible first | exact HB.out | apply below_alloc | apply pw_below_drewN | apply below_drew1) | exact HB.out))) : w.heap.size ≤ gb107)); have n3_ := Aside0.mk ((by rw [hg]; exact (below_size (by repeat (first | (with_reducible first | exact HB.out | apply below_alloc | apply pw_below_drewN | apply below_drew1) | exact HB.out))) : w.heap.size ≤ gb107)); clear HB; have HB := n0_; have BK107 := n1_; have GW107 := n2_; have GE107 := n3_; clear n0_ n1_ n2_ n3_; clear hb hbox hg; have hcz8_0 : w7.cell? ⟨gb107, 0, none⟩ = some (.int .u8 a0_0) := (blk_cell BK107.out 0).trans rfl; have hcz8_1 : w7.cell? ⟨gb107, 1, none⟩ = some (.int .i64 a0_1) := (blk_cell BK107.out 1).trans rfl; have hcz8_2 : w7.cell? ⟨gb107, 2, none⟩ = some (.string a0_2) := (blk_cell BK107.out 2).trans rfl; have hcz8_3 : w7.cell? ⟨gb107, 3, none⟩ = some (.slice A0_3 l0_3.length c0_3) := (blk_cell BK107.out 3).trans rfl; have hfz8_0 := blk_frozen BK107.out 0; have hfz8_1 := blk_frozen BK107.out 1; have hfz8_2 := blk_frozen BK107.out 2; have hfz8_3 := blk_frozen BK107.out 3))
  go_ret
  exact ⟨by first | rfl | (simp [errW_none, errW_some] <;> rfl) | (simp [*, errW_none, errW_some] <;> rfl), by repeat (first | (with_reducible first | exact HB.out | apply below_alloc | apply pw_below_drewN | apply below_drew1 | refine below_set ?_ GE107.out) | exact HB.out)⟩

theorem belfrylaw01_ExprsSize.calls_g (k : Nat) : (∀ (A0 : Option Addr) (c0 : Nat) (l0 : List (S25)) (r : Int) (w : World) (hr0 : Kd.C k25 w A0 l0.length l0) (hc0 : l0.length ≤ c0) (h : belfrylaw01_ExprsSize.f k l0 = some r), Calls Tryd.prog 29 #[.slice A0 l0.length c0] w fun e w' => e = .returned (.int .i64 r) ∧ Below w.heap.size w w') ∧ (∀ (a0_0 : Int) (a0_1 : Int) (a0_2 : ByteArray) (A0_3 : Option Addr) (c0_3 : Nat) (l0_3 : List (S25)) (r : Int) (w : World) (hr0_3 : Kd.C k25 w A0_3 l0_3.length l0_3) (hc0_3 : l0_3.length ≤ c0_3) (h : belfrylaw01_ExprSize.f k a0_0 a0_1 a0_2 l0_3 = some r), Calls Tryd.prog 10 #[.agg #[.int .u8 a0_0, .int .i64 a0_1, .string a0_2, .slice A0_3 l0_3.length c0_3]] w fun e w' => e = .returned (.int .i64 r) ∧ Below w.heap.size w w') := by
 induction k using Nat.strongRecOn with
 | _ k ih =>
 exact ⟨belfrylaw01_ExprsSize.step k (fun m hm => (ih m hm).1) (fun m hm => (ih m hm).2), belfrylaw01_ExprSize.step k (fun m hm => (ih m hm).1) (fun m hm => (ih m hm).2)⟩
theorem belfrylaw01_ExprsSize.calls (k : Nat) : ∀ (A0 : Option Addr) (c0 : Nat) (l0 : List (S25)) (r : Int) (w : World) (hr0 : Kd.C k25 w A0 l0.length l0) (hc0 : l0.length ≤ c0) (h : belfrylaw01_ExprsSize.f k l0 = some r),
  Calls Tryd.prog 29 #[.slice A0 l0.length c0] w fun e w' => e = .returned (.int .i64 r) ∧ Below w.heap.size w w' := (belfrylaw01_ExprsSize.calls_g k).1
theorem belfrylaw01_ExprSize.calls (k : Nat) : ∀ (a0_0 : Int) (a0_1 : Int) (a0_2 : ByteArray) (A0_3 : Option Addr) (c0_3 : Nat) (l0_3 : List (S25)) (r : Int) (w : World) (hr0_3 : Kd.C k25 w A0_3 l0_3.length l0_3) (hc0_3 : l0_3.length ≤ c0_3) (h : belfrylaw01_ExprSize.f k a0_0 a0_1 a0_2 l0_3 = some r),
  Calls Tryd.prog 10 #[.agg #[.int .u8 a0_0, .int .i64 a0_1, .string a0_2, .slice A0_3 l0_3.length c0_3]] w fun e w' => e = .returned (.int .i64 r) ∧ Below w.heap.size w w' := (belfrylaw01_ExprsSize.calls_g k).2

/-! ### belfrylaw01_TwinExpr: function 11 -/
-- BY HAND: function 11 (belfrylaw01_TwinExpr)

/-! ### exprs_find: function 44 -/
def exprs_find.l0 : Nat → Int → List (S83) → Int → Int → Option (Int × Int × Int × ByteArray × Bool)
 | 0, _, _, _, _ => none
 | k + 1, x1, x8, x9, x10 => if x10 < x9 then (if 0 ≤ x10 then (if x10 < (x8.length : Int) then (if ((rd_T83 x8 x10).f0) = x1 then (some ((rd_T83 x8 x10).f0, (rd_T83 x8 x10).f1, (rd_T83 x8 x10).f2, (rd_T83 x8 x10).f3, true)) else (exprs_find.l0 k x1 x8 x9 (wrap64 (x10 + 1)))) else (none)) else (none)) else (some (0, 7, 0, (⟨#[]⟩ : ByteArray), false))
def exprs_find.f (k : Nat) (l0 : List (S83)) (a1 : Int) : Option (Int × Int × Int × ByteArray × Bool) := exprs_find.l0 k a1 l0 (l0.length : Int) 0
theorem exprs_find.mono_l : ∀ k, (∀ y0 y1 y2 y3, LeO (exprs_find.l0 k y0 y1 y2 y3) (exprs_find.l0 (k + 1) y0 y1 y2 y3))
 | 0 => fun _ _ _ _ r h => by simp [exprs_find.l0] at h
 | k + 1 => by
  have ih0 := exprs_find.mono_l k
  ·intro y0 y1 y2 y3
   unfold exprs_find.l0
   repeat' first
   | (with_reducible exact ih0 _ _ _ _)
   | (with_reducible exact LeO.refl _)
   | (with_reducible exact LeO.none _)
   | (with_reducible refine LeO.ite ?_ ?_)
   | (with_reducible refine LeO.bind ?_ (fun _ => ?_))
   | exact ih0 _ _ _ _
   | exact LeO.none _
   | refine LeO.ite ?_ ?_
   | refine LeO.bind ?_ (fun _ => ?_)
theorem exprs_find.mono : ∀ a0 a1 k, LeO (exprs_find.f k a0 a1) (exprs_find.f (k + 1) a0 a1) := by
 intro a0 a1 k
 have ih0 := exprs_find.mono_l k
 unfold exprs_find.f
 repeat' first
   | (with_reducible exact ih0 _ _ _ _)
   | (with_reducible exact LeO.refl _)
   | (with_reducible exact LeO.none _)
   | (with_reducible refine LeO.ite ?_ ?_)
   | (with_reducible refine LeO.bind ?_ (fun _ => ?_))
   | exact ih0 _ _ _ _
   | exact LeO.none _
   | refine LeO.ite ?_ ?_
   | refine LeO.bind ?_ (fun _ => ?_)
set_option maxHeartbeats 8000000 in
set_option maxRecDepth 100000 in
theorem exprs_find.calls (k : Nat) (A0 : Option Addr) (c0 : Nat) (l0 : List (S83)) (a1 : Int) (r1 : Int) (r2 : Int) (r3 : Int) (r4 : ByteArray) (r5 : Bool) (w : World) (hr0 : Kd.C k83 w A0 l0.length l0) (hc0 : l0.length ≤ c0) (h : exprs_find.f k l0 a1 = some (r1, r2, r3, r4, r5)) :
  Calls Tryd.prog 44 #[.slice A0 l0.length c0, .int .u8 a1] w fun e w' => e = .returned (.tuple #[.agg #[.int .u8 r1, .int .i64 r2, .int .u8 r3, .string r4], .bool r5]) ∧ Below w.heap.size w w' := by
 have hu83 := Tryd.underlying83
 have HR0 := Aside0.mk hr0
 have HC0 := Aside0.mk hc0
 clear hr0 hc0
 have HB := Aside0.mk (Below.refl w.heap.size w)
 have H : (exprs_find.l0 k a1 l0 (l0.length : Int) 0) = some (r1, r2, r3, r4, r5) := h
 clear h
 have H' := Aside0.mk H
 clear H
 go_enter Tryd.func44, Tryd.ntmps44
 go_wp2_with (first | ((with_reducible refine gate_dst (N := 4) rfl ?_); refine box_event ?hg (N := 4) ?hd (cs := #[.int .u8 0, .int .i64 0, .int .u8 0, .string (⟨#[]⟩ : ByteArray)]) (t := 83) ?hr ?_; (case hd => rfl); (case hg => rfl); (case hr => first | (go_simp; done) | (go_simp; rfl)); intro gb109 hg w3 hbox hb; have n0_ := Aside0.mk (below_step (by repeat (first | (with_reducible first | exact HB.out | apply below_alloc | apply pw_below_drewN | apply below_drew1) | exact HB.out)) hb); have n1_ := Aside0.mk (hbox); have n2_ := Aside0.mk ((by rw [hg]; exact (below_size (by repeat (first | (with_reducible first | exact HB.out | apply below_alloc | apply pw_below_drewN | apply below_drew1) | exact HB.out))) : w.heap.size ≤ gb109)); have n3_ := Aside0.mk ((by rw [hg]; exact (below_size (by repeat (first | (with_reducible first | exact HB.out | apply below_alloc | apply pw_below_drewN | apply below_drew1) | exact HB.out))) : w.heap.size ≤ gb109)); clear HB; have HB := n0_; have BK109 := n1_; have GW109 := n2_; have GE109 := n3_; clear n0_ n1_ n2_ n3_; clear hb hbox hg))
 go_loopg [10] k (fun kq v10 w' => ∃ (x10_1 : Int) (x110000_1 : Int) (x110001_1 : Int) (x110002_1 : Int) (x110003_1 : ByteArray), v10 = .int .i64 x10_1 ∧ Aside0 (exprs_find.l0 kq a1 l0 (l0.length : Int) x10_1 = some (r1, r2, r3, r4, r5)) ∧ Aside0 (kq ≤ k) ∧ Aside0 (w'.heap[gb109]? = some (.cells #[.int .u8 x110000_1, .int .i64 x110001_1, .int .u8 x110002_1, .string x110003_1] 83 (0, 0))) ∧ Aside0 (Below w.heap.size w w'))
 case atStart => exact ⟨(0), (0), (0), (0), ((⟨#[]⟩ : ByteArray)), (by first | rfl | (simp; done) | (simp [*]; done)), H', ⟨Nat.le_refl _⟩, ⟨by (with_reducible repeat (first | refine blk_drewN ?_ _ | refine blk_drew ?_ | refine blk_alloc ?_ _)); exact BK109.out⟩, ⟨by repeat (first | (with_reducible first | exact HB.out | apply below_alloc | apply pw_below_drewN | apply below_drew1 | refine below_set ?_ GE109.out) | exact HB.out)⟩⟩
 case round =>
  clear H'
  try clear p2
  obtain ⟨x10_1, x110000_1, x110001_1, x110002_1, x110003_1, rfl, HA, HK1, BK109, HB⟩ := hrel
  cases gk with
  | zero => exact absurd HA.out (by simp [exprs_find.l0])
  | succ k1 =>
   have H := HA.out
   clear HA
   simp only [exprs_find.l0] at H
   by_cases c4 : x10_1 < (l0.length : Int)
   ·rw [if_pos c4] at H
    have c4b0 : decide (x10_1 < (l0.length : Int)) = true := decide_eq_true c4
    clear c4
    by_cases c5 : 0 ≤ x10_1
    ·rw [if_pos c5] at H
     have c5b0 : decide (0 ≤ x10_1) = true := decide_eq_true c5
     clear c5
     by_cases c6 : x10_1 < (l0.length : Int)
     ·rw [if_pos c6] at H
      have c6b0 : decide (x10_1 < (l0.length : Int)) = true := decide_eq_true c6
      clear c6
      by_cases c7 : ((rd_T83 l0 x10_1).f0) = a1
      ·rw [if_pos c7] at H
       have c7b0 : (((rd_T83 l0 x10_1).f0) == a1) = true := beq_iff_eq.mpr c7
       have c7b1 : (((rd_T83 l0 x10_1).f0) != a1) = false := bne_eq_false_iff_eq.mpr c7
       clear c7
       simp only [Option.some.injEq, Prod.mk.injEq] at H
       obtain ⟨rfl, rfl, rfl, rfl, rfl⟩ := H
       have p110 : 0 ≤ (x10_1 : Int) := of_decide_eq_true (by first | (with_reducible assumption) | assumption)
       have q110 : x10_1 < (l0.length : Int) := of_decide_eq_true (by first | (with_reducible assumption) | assumption)
       obtain ⟨ad110, e110, hx110_0, hx110_1, hx110_2, hx110_3⟩ := at_T83 HR0.out x10_1 p110 q110
       cases e110
       replace hx110_0 := (HB.out.cell (World.block_lt_of_cell? w _ hx110_0)).trans hx110_0
       replace hx110_1 := (HB.out.cell (World.block_lt_of_cell? w _ hx110_1)).trans hx110_1
       replace hx110_2 := (HB.out.cell (World.block_lt_of_cell? w _ hx110_2)).trans hx110_2
       replace hx110_3 := (HB.out.cell (World.block_lt_of_cell? w _ hx110_3)).trans hx110_3
       replace p110 := eq_true p110
       replace q110 := eq_true q110
       go_wp2_with (first | ((with_reducible refine gate_dst (N := 7) rfl ?_); refine box_event ?hg (N := 7) ?hd (cs := #[.int .u8 0, .int .i64 0, .int .u8 0, .string (⟨#[]⟩ : ByteArray)]) (t := 83) ?hr ?_; (case hd => rfl); (case hg => rfl); (case hr => first | (go_simp; done) | (go_simp; rfl)); intro gb111 hg w8 hbox hb; have n0_ := Aside0.mk (blk_below (g := gb109) (o := .cells #[.int .u8 x110000_1, .int .i64 x110001_1, .int .u8 x110002_1, .string x110003_1] 83 (0, 0)) (by (with_reducible repeat (first | refine blk_drewN ?_ _ | refine blk_drew ?_ | refine blk_alloc ?_ _)); exact BK109.out) hb); have n1_ := Aside0.mk (below_step (by repeat (first | (with_reducible first | exact HB.out | apply below_alloc | apply pw_below_drewN | apply below_drew1 | refine below_set ?_ GE109.out) | exact HB.out)) hb); have n2_ := Aside0.mk (hbox); have n3_ := Aside0.mk ((by rw [hg]; exact (below_size (by repeat (first | (with_reducible first | exact HB.out | apply below_alloc | apply pw_below_drewN | apply below_drew1 | refine below_set ?_ GE109.out) | exact HB.out))) : w.heap.size ≤ gb111)); have n4_ := Aside0.mk ((by rw [hg]; exact (below_size (by repeat (first | (with_reducible first | exact HB.out | apply below_alloc | apply pw_below_drewN | apply below_drew1 | refine below_set ?_ GE109.out) | exact HB.out))) : w.heap.size ≤ gb111)); have n5_ := Aside0.mk ((by rw [hg]; exact Nat.ne_of_lt (blk_lt (g := gb109) (o := .cells #[.int .u8 x110000_1, .int .i64 x110001_1, .int .u8 x110002_1, .string x110003_1] 83 (0, 0)) (by (with_reducible repeat (first | refine blk_drewN ?_ _ | refine blk_drew ?_ | refine blk_alloc ?_ _)); exact BK109.out)) : gb109 ≠ gb111)); have n6_ := Aside0.mk ((by rw [hg]; exact Nat.ne_of_gt (blk_lt (g := gb109) (o := .cells #[.int .u8 x110000_1, .int .i64 x110001_1, .int .u8 x110002_1, .string x110003_1] 83 (0, 0)) (by (with_reducible repeat (first | refine blk_drewN ?_ _ | refine blk_drew ?_ | refine blk_alloc ?_ _)); exact BK109.out)) : gb111 ≠ gb109)); clear BK109; clear HB; have BK109 := n0_; have HB := n1_; have BK111 := n2_; have GW111 := n3_; have GE111 := n4_; have NB109_111 := n5_; have NB111_109 := n6_; clear n0_ n1_ n2_ n3_ n4_ n5_ n6_; clear hb hbox hg; have hnb9 := NB111_109.out; have hnc9 := NB109_111.out; have hcz10_0 : w8.cell? ⟨gb111, 0, none⟩ = some (.int .u8 0) := (blk_cell BK111.out 0).trans rfl; have hcz10_1 : w8.cell? ⟨gb111, 1, none⟩ = some (.int .i64 0) := (blk_cell BK111.out 1).trans rfl; have hcz10_2 : w8.cell? ⟨gb111, 2, none⟩ = some (.int .u8 0) := (blk_cell BK111.out 2).trans rfl; have hcz10_3 : w8.cell? ⟨gb111, 3, none⟩ = some (.string (⟨#[]⟩ : ByteArray)) := (blk_cell BK111.out 3).trans rfl; have hfz10_0 := blk_frozen BK111.out 0; have hfz10_1 := blk_frozen BK111.out 1; have hfz10_2 := blk_frozen BK111.out 2; have hfz10_3 := blk_frozen BK111.out 3; have hcz11_0 : w8.cell? ⟨gb109, 0, none⟩ = some (.int .u8 x110000_1) := (blk_cell BK109.out 0).trans rfl; have hcz11_1 : w8.cell? ⟨gb109, 1, none⟩ = some (.int .i64 x110001_1) := (blk_cell BK109.out 1).trans rfl; have hcz11_2 : w8.cell? ⟨gb109, 2, none⟩ = some (.int .u8 x110002_1) := (blk_cell BK109.out 2).trans rfl; have hcz11_3 : w8.cell? ⟨gb109, 3, none⟩ = some (.string x110003_1) := (blk_cell BK109.out 3).trans rfl; have hfz11_0 := blk_frozen BK109.out 0; have hfz11_1 := blk_frozen BK109.out 1; have hfz11_2 := blk_frozen BK109.out 2; have hfz11_3 := blk_frozen BK109.out 3))
       refine bodyPost_ret (results_ct rfl _ _ gb109 83 #[.int .u8 ((rd_T83 l0 x10_1).f0), .int .i64 ((rd_T83 l0 x10_1).f1), .int .u8 ((rd_T83 l0 x10_1).f2), .string ((rd_T83 l0 x10_1).f3)] (0, 0) _ rfl (by (with_reducible repeat (first | refine blk_drewN ?_ _ | refine blk_drew ?_ | refine blk_alloc ?_ _)); refine blk_put (cs := #[.int .u8 ((rd_T83 l0 x10_1).f0), .int .i64 ((rd_T83 l0 x10_1).f1), .int .u8 ((rd_T83 l0 x10_1).f2), .string x110003_1]) ?_ 3 _ rfl; (with_reducible repeat (first | refine blk_drewN ?_ _ | refine blk_drew ?_ | refine blk_alloc ?_ _)); refine blk_put (cs := #[.int .u8 ((rd_T83 l0 x10_1).f0), .int .i64 ((rd_T83 l0 x10_1).f1), .int .u8 x110002_1, .string x110003_1]) ?_ 2 _ rfl; (with_reducible repeat (first | refine blk_drewN ?_ _ | refine blk_drew ?_ | refine blk_alloc ?_ _)); refine blk_put (cs := #[.int .u8 ((rd_T83 l0 x10_1).f0), .int .i64 x110001_1, .int .u8 x110002_1, .string x110003_1]) ?_ 1 _ rfl; (with_reducible repeat (first | refine blk_drewN ?_ _ | refine blk_drew ?_ | refine blk_alloc ?_ _)); refine blk_put (cs := #[.int .u8 x110000_1, .int .i64 x110001_1, .int .u8 x110002_1, .string x110003_1]) ?_ 0 _ rfl; (with_reducible repeat (first | refine blk_drewN ?_ _ | refine blk_drew ?_ | refine blk_alloc ?_ _)); refine blk_far ?_ NB109_111.out _; (with_reducible repeat (first | refine blk_drewN ?_ _ | refine blk_drew ?_ | refine blk_alloc ?_ _)); refine blk_far ?_ NB109_111.out _; (with_reducible repeat (first | refine blk_drewN ?_ _ | refine blk_drew ?_ | refine blk_alloc ?_ _)); refine blk_far ?_ NB109_111.out _; (with_reducible repeat (first | refine blk_drewN ?_ _ | refine blk_drew ?_ | refine blk_alloc ?_ _)); refine blk_far ?_ NB109_111.out _; (with_reducible repeat (first | refine blk_drewN ?_ _ | refine blk_drew ?_ | refine blk_alloc ?_ _)); exact BK109.out) Tryd.underlying83 rfl (by kernel_rfl)) rfl ?_
       exact ⟨by first | rfl | (simp [errW_none, errW_some] <;> rfl) | (simp [*, errW_none, errW_some] <;> rfl), by repeat (first | (with_reducible first | exact HB.out | apply below_alloc | apply pw_below_drewN | apply below_drew1 | refine below_set ?_ GE109.out | refine below_set ?_ GE111.out) | exact HB.out)⟩
      ·rw [if_neg c7] at H
       have c7b0 : (((rd_T83 l0 x10_1).f0) == a1) = false := beq_eq_false_iff_ne.mpr c7
       have c7b1 : (((rd_T83 l0 x10_1).f0) != a1) = true := bne_iff_ne.mpr c7
       have H' := Aside0.mk H
       clear H
       have p110 : 0 ≤ (x10_1 : Int) := of_decide_eq_true (by first | (with_reducible assumption) | assumption)
       have q110 : x10_1 < (l0.length : Int) := of_decide_eq_true (by first | (with_reducible assumption) | assumption)
       obtain ⟨ad110, e110, hx110_0, hx110_1, hx110_2, hx110_3⟩ := at_T83 HR0.out x10_1 p110 q110
       cases e110
       replace hx110_0 := (HB.out.cell (World.block_lt_of_cell? w _ hx110_0)).trans hx110_0
       replace hx110_1 := (HB.out.cell (World.block_lt_of_cell? w _ hx110_1)).trans hx110_1
       replace hx110_2 := (HB.out.cell (World.block_lt_of_cell? w _ hx110_2)).trans hx110_2
       replace hx110_3 := (HB.out.cell (World.block_lt_of_cell? w _ hx110_3)).trans hx110_3
       replace p110 := eq_true p110
       replace q110 := eq_true q110
       go_wp2_with (first | ((with_reducible refine gate_dst (N := 7) rfl ?_); refine box_event ?hg (N := 7) ?hd (cs := #[.int .u8 0, .int .i64 0, .int .u8 0, .string (⟨#[]⟩ : ByteArray)]) (t := 83) ?hr ?_; (case hd => rfl); (case hg => rfl); (case hr => first | (go_simp; done) | (go_simp; rfl)); intro gb111 hg w12 hbox hb; have n0_ := Aside0.mk (blk_below (g := gb109) (o := .cells #[.int .u8 x110000_1, .int .i64 x110001_1, .int .u8 x110002_1, .string x110003_1] 83 (0, 0)) (by (with_reducible repeat (first | refine blk_drewN ?_ _ | refine blk_drew ?_ | refine blk_alloc ?_ _)); exact BK109.out) hb); have n1_ := Aside0.mk (below_step (by repeat (first | (with_reducible first | exact HB.out | apply below_alloc | apply pw_below_drewN | apply below_drew1 | refine below_set ?_ GE109.out) | exact HB.out)) hb); have n2_ := Aside0.mk (hbox); have n3_ := Aside0.mk ((by rw [hg]; exact (below_size (by repeat (first | (with_reducible first | exact HB.out | apply below_alloc | apply pw_below_drewN | apply below_drew1 | refine below_set ?_ GE109.out) | exact HB.out))) : w.heap.size ≤ gb111)); have n4_ := Aside0.mk ((by rw [hg]; exact (below_size (by repeat (first | (with_reducible first | exact HB.out | apply below_alloc | apply pw_below_drewN | apply below_drew1 | refine below_set ?_ GE109.out) | exact HB.out))) : w.heap.size ≤ gb111)); have n5_ := Aside0.mk ((by rw [hg]; exact Nat.ne_of_lt (blk_lt (g := gb109) (o := .cells #[.int .u8 x110000_1, .int .i64 x110001_1, .int .u8 x110002_1, .string x110003_1] 83 (0, 0)) (by (with_reducible repeat (first | refine blk_drewN ?_ _ | refine blk_drew ?_ | refine blk_alloc ?_ _)); exact BK109.out)) : gb109 ≠ gb111)); have n6_ := Aside0.mk ((by rw [hg]; exact Nat.ne_of_gt (blk_lt (g := gb109) (o := .cells #[.int .u8 x110000_1, .int .i64 x110001_1, .int .u8 x110002_1, .string x110003_1] 83 (0, 0)) (by (with_reducible repeat (first | refine blk_drewN ?_ _ | refine blk_drew ?_ | refine blk_alloc ?_ _)); exact BK109.out)) : gb111 ≠ gb109)); clear BK109; clear HB; have BK109 := n0_; have HB := n1_; have BK111 := n2_; have GW111 := n3_; have GE111 := n4_; have NB109_111 := n5_; have NB111_109 := n6_; clear n0_ n1_ n2_ n3_ n4_ n5_ n6_; clear hb hbox hg; have hnb13 := NB111_109.out; have hnc13 := NB109_111.out; have hcz14_0 : w12.cell? ⟨gb111, 0, none⟩ = some (.int .u8 0) := (blk_cell BK111.out 0).trans rfl; have hcz14_1 : w12.cell? ⟨gb111, 1, none⟩ = some (.int .i64 0) := (blk_cell BK111.out 1).trans rfl; have hcz14_2 : w12.cell? ⟨gb111, 2, none⟩ = some (.int .u8 0) := (blk_cell BK111.out 2).trans rfl; have hcz14_3 : w12.cell? ⟨gb111, 3, none⟩ = some (.string (⟨#[]⟩ : ByteArray)) := (blk_cell BK111.out 3).trans rfl; have hfz14_0 := blk_frozen BK111.out 0; have hfz14_1 := blk_frozen BK111.out 1; have hfz14_2 := blk_frozen BK111.out 2; have hfz14_3 := blk_frozen BK111.out 3))
       go_roundg k1
       case measure => have := HK1.out; omega
       case rel => exact ⟨(wrap64 (x10_1 + 1)), (x110000_1), (x110001_1), (x110002_1), (x110003_1), (by first | rfl | (simp; done) | (simp [*]; done)), H', ⟨by have := HK1.out; omega⟩, ⟨by (with_reducible repeat (first | refine blk_drewN ?_ _ | refine blk_drew ?_ | refine blk_alloc ?_ _)); refine blk_far ?_ NB109_111.out _; (with_reducible repeat (first | refine blk_drewN ?_ _ | refine blk_drew ?_ | refine blk_alloc ?_ _)); refine blk_far ?_ NB109_111.out _; (with_reducible repeat (first | refine blk_drewN ?_ _ | refine blk_drew ?_ | refine blk_alloc ?_ _)); refine blk_far ?_ NB109_111.out _; (with_reducible repeat (first | refine blk_drewN ?_ _ | refine blk_drew ?_ | refine blk_alloc ?_ _)); refine blk_far ?_ NB109_111.out _; (with_reducible repeat (first | refine blk_drewN ?_ _ | refine blk_drew ?_ | refine blk_alloc ?_ _)); exact BK109.out⟩, ⟨by repeat (first | (with_reducible first | exact HB.out | apply below_alloc | apply pw_below_drewN | apply below_drew1 | refine below_set ?_ GE109.out | refine below_set ?_ GE111.out) | exact HB.out)⟩⟩
     ·rw [if_neg c6] at H
      exact absurd H (by simp)
    ·rw [if_neg c5] at H
     exact absurd H (by simp)
   ·rw [if_neg c4] at H
    have c4b0 : decide (x10_1 < (l0.length : Int)) = false := decide_eq_false c4
    clear c4
    simp only [Option.some.injEq, Prod.mk.injEq] at H
    obtain ⟨rfl, rfl, rfl, rfl, rfl⟩ := H
    have hcz15_0 : wr.cell? ⟨gb109, 0, none⟩ = some (.int .u8 x110000_1) := (blk_cell BK109.out 0).trans rfl
    have hcz15_1 : wr.cell? ⟨gb109, 1, none⟩ = some (.int .i64 x110001_1) := (blk_cell BK109.out 1).trans rfl
    have hcz15_2 : wr.cell? ⟨gb109, 2, none⟩ = some (.int .u8 x110002_1) := (blk_cell BK109.out 2).trans rfl
    have hcz15_3 : wr.cell? ⟨gb109, 3, none⟩ = some (.string x110003_1) := (blk_cell BK109.out 3).trans rfl
    have hfz15_0 := blk_frozen BK109.out 0
    have hfz15_1 := blk_frozen BK109.out 1
    have hfz15_2 := blk_frozen BK109.out 2
    have hfz15_3 := blk_frozen BK109.out 3
    go_wp2
    refine bodyPost_ret (results_ct rfl _ _ gb109 83 #[.int .u8 0, .int .i64 7, .int .u8 0, .string (⟨#[]⟩ : ByteArray)] (0, 0) _ rfl (by (with_reducible repeat (first | refine blk_drewN ?_ _ | refine blk_drew ?_ | refine blk_alloc ?_ _)); refine blk_put (cs := #[.int .u8 0, .int .i64 7, .int .u8 0, .string x110003_1]) ?_ 3 _ rfl; (with_reducible repeat (first | refine blk_drewN ?_ _ | refine blk_drew ?_ | refine blk_alloc ?_ _)); refine blk_put (cs := #[.int .u8 0, .int .i64 7, .int .u8 x110002_1, .string x110003_1]) ?_ 2 _ rfl; (with_reducible repeat (first | refine blk_drewN ?_ _ | refine blk_drew ?_ | refine blk_alloc ?_ _)); refine blk_put (cs := #[.int .u8 0, .int .i64 x110001_1, .int .u8 x110002_1, .string x110003_1]) ?_ 1 _ rfl; (with_reducible repeat (first | refine blk_drewN ?_ _ | refine blk_drew ?_ | refine blk_alloc ?_ _)); refine blk_put (cs := #[.int .u8 x110000_1, .int .i64 x110001_1, .int .u8 x110002_1, .string x110003_1]) ?_ 0 _ rfl; (with_reducible repeat (first | refine blk_drewN ?_ _ | refine blk_drew ?_ | refine blk_alloc ?_ _)); exact BK109.out) Tryd.underlying83 rfl (by kernel_rfl)) rfl ?_
    exact ⟨by first | rfl | (simp [errW_none, errW_some] <;> rfl) | (simp [*, errW_none, errW_some] <;> rfl), by repeat (first | (with_reducible first | exact HB.out | apply below_alloc | apply pw_below_drewN | apply below_drew1 | refine below_set ?_ GE109.out) | exact HB.out)⟩

/-! ### exprs_pairs: function 45 -/
def exprs_pairs.f  : Option ((List (S83))) := some (([(⟨18, 0, 3, (⟨#[45, 62]⟩ : ByteArray)⟩ : S83), (⟨16, 1, 1, (⟨#[111, 114]⟩ : ByteArray)⟩ : S83), (⟨15, 2, 1, (⟨#[97, 110, 100]⟩ : ByteArray)⟩ : S83), (⟨11, 3, 3, (⟨#[61, 61]⟩ : ByteArray)⟩ : S83), (⟨12, 3, 3, (⟨#[33, 61]⟩ : ByteArray)⟩ : S83), (⟨13, 3, 3, (⟨#[60]⟩ : ByteArray)⟩ : S83), (⟨14, 3, 3, (⟨#[60, 61]⟩ : ByteArray)⟩ : S83), (⟨6, 4, 3, (⟨#[43]⟩ : ByteArray)⟩ : S83), (⟨7, 4, 3, (⟨#[45]⟩ : ByteArray)⟩ : S83), (⟨8, 5, 3, (⟨#[42]⟩ : ByteArray)⟩ : S83), (⟨9, 5, 3, (⟨#[47]⟩ : ByteArray)⟩ : S83), (⟨10, 5, 3, (⟨#[37]⟩ : ByteArray)⟩ : S83)] : List (S83)))
set_option maxHeartbeats 8000000 in
set_option maxRecDepth 100000 in
theorem exprs_pairs.calls  (r : List (S83)) (w : World) (h : exprs_pairs.f  = some r) :
  Calls Tryd.prog 45 #[] w fun e w' => ∃ v0_ : Value, e = .returned (v0_) ∧ Kd.R k83 83 w' w.heap.size (fun _ => True) v0_ r ∧ Below w.heap.size w w' := by
 have hu83 := Tryd.underlying83
 have HB := Aside0.mk (Below.refl w.heap.size w)
 have H : (some (([(⟨18, 0, 3, (⟨#[45, 62]⟩ : ByteArray)⟩ : S83), (⟨16, 1, 1, (⟨#[111, 114]⟩ : ByteArray)⟩ : S83), (⟨15, 2, 1, (⟨#[97, 110, 100]⟩ : ByteArray)⟩ : S83), (⟨11, 3, 3, (⟨#[61, 61]⟩ : ByteArray)⟩ : S83), (⟨12, 3, 3, (⟨#[33, 61]⟩ : ByteArray)⟩ : S83), (⟨13, 3, 3, (⟨#[60]⟩ : ByteArray)⟩ : S83), (⟨14, 3, 3, (⟨#[60, 61]⟩ : ByteArray)⟩ : S83), (⟨6, 4, 3, (⟨#[43]⟩ : ByteArray)⟩ : S83), (⟨7, 4, 3, (⟨#[45]⟩ : ByteArray)⟩ : S83), (⟨8, 5, 3, (⟨#[42]⟩ : ByteArray)⟩ : S83), (⟨9, 5, 3, (⟨#[47]⟩ : ByteArray)⟩ : S83), (⟨10, 5, 3, (⟨#[37]⟩ : ByteArray)⟩ : S83)] : List (S83)))) = some r := h
 clear h
 obtain ⟨y112, hy112⟩ : ∃ y_ : List (S83), y_ = (([(⟨18, 0, 3, (⟨#[45, 62]⟩ : ByteArray)⟩ : S83), (⟨16, 1, 1, (⟨#[111, 114]⟩ : ByteArray)⟩ : S83), (⟨15, 2, 1, (⟨#[97, 110, 100]⟩ : ByteArray)⟩ : S83), (⟨11, 3, 3, (⟨#[61, 61]⟩ : ByteArray)⟩ : S83), (⟨12, 3, 3, (⟨#[33, 61]⟩ : ByteArray)⟩ : S83), (⟨13, 3, 3, (⟨#[60]⟩ : ByteArray)⟩ : S83), (⟨14, 3, 3, (⟨#[60, 61]⟩ : ByteArray)⟩ : S83), (⟨6, 4, 3, (⟨#[43]⟩ : ByteArray)⟩ : S83), (⟨7, 4, 3, (⟨#[45]⟩ : ByteArray)⟩ : S83), (⟨8, 5, 3, (⟨#[42]⟩ : ByteArray)⟩ : S83), (⟨9, 5, 3, (⟨#[47]⟩ : ByteArray)⟩ : S83), (⟨10, 5, 3, (⟨#[37]⟩ : ByteArray)⟩ : S83)] : List (S83))) := ⟨_, rfl⟩
 replace H : (some y112) = some r := by first | (rw [hy112]; with_reducible exact H) | (have H2_ := (Option.bind_some _ _).symm.trans H; rw [hy112]; with_reducible exact H2_) | (have H2_ := (Option.bind_some _ _).symm.trans H; with_reducible exact H2_) | with_reducible exact H | (rw [hy112]; exact H) | exact H
 have Ny112 := Aside0.mk hy112
 clear hy112
 obtain rfl := Option.some.inj H
 go_enter Tryd.func45, Tryd.ntmps45
 go_wp2_with (first | ((with_reducible refine gate_dst (N := 13) rfl ?_); refine Kd.R_lit k83 _ 83 ?hg (N := 13) ?hd (xs := ([(⟨18, 0, 3, (⟨#[45, 62]⟩ : ByteArray)⟩ : S83), (⟨16, 1, 1, (⟨#[111, 114]⟩ : ByteArray)⟩ : S83), (⟨15, 2, 1, (⟨#[97, 110, 100]⟩ : ByteArray)⟩ : S83), (⟨11, 3, 3, (⟨#[61, 61]⟩ : ByteArray)⟩ : S83), (⟨12, 3, 3, (⟨#[33, 61]⟩ : ByteArray)⟩ : S83), (⟨13, 3, 3, (⟨#[60]⟩ : ByteArray)⟩ : S83), (⟨14, 3, 3, (⟨#[60, 61]⟩ : ByteArray)⟩ : S83), (⟨6, 4, 3, (⟨#[43]⟩ : ByteArray)⟩ : S83), (⟨7, 4, 3, (⟨#[45]⟩ : ByteArray)⟩ : S83), (⟨8, 5, 3, (⟨#[42]⟩ : ByteArray)⟩ : S83), (⟨9, 5, 3, (⟨#[47]⟩ : ByteArray)⟩ : S83), (⟨10, 5, 3, (⟨#[37]⟩ : ByteArray)⟩ : S83)] : List (S83))) (inner := [.int .u8 18, .int .i64 0, .int .u8 3, .string (⟨#[45, 62]⟩ : ByteArray), .int .u8 16, .int .i64 1, .int .u8 1, .string (⟨#[111, 114]⟩ : ByteArray), .int .u8 15, .int .i64 2, .int .u8 1, .string (⟨#[97, 110, 100]⟩ : ByteArray), .int .u8 11, .int .i64 3, .int .u8 3, .string (⟨#[61, 61]⟩ : ByteArray), .int .u8 12, .int .i64 3, .int .u8 3, .string (⟨#[33, 61]⟩ : ByteArray), .int .u8 13, .int .i64 3, .int .u8 3, .string (⟨#[60]⟩ : ByteArray), .int .u8 14, .int .i64 3, .int .u8 3, .string (⟨#[60, 61]⟩ : ByteArray), .int .u8 6, .int .i64 4, .int .u8 3, .string (⟨#[43]⟩ : ByteArray), .int .u8 7, .int .i64 4, .int .u8 3, .string (⟨#[45]⟩ : ByteArray), .int .u8 8, .int .i64 5, .int .u8 3, .string (⟨#[42]⟩ : ByteArray), .int .u8 9, .int .i64 5, .int .u8 3, .string (⟨#[47]⟩ : ByteArray), .int .u8 10, .int .i64 5, .int .u8 3, .string (⟨#[37]⟩ : ByteArray)]) (ok := fun _ => True) (okp := fun _ => True) ?hr ?hp (fun _ hk => hk) trivial (Below.refl _ _) (Nat.le_refl _) (by simp) ?_; (case hd => rfl); (case hg => rfl); (case hr => first | (go_simp; done) | (go_simp; rfl)); (case hp => exact (Reps.c4 (show Kd.M k83 _ _ _ (⟨18, 0, 3, (⟨#[45, 62]⟩ : ByteArray)⟩ : S83) [.int .u8 18, .int .i64 0, .int .u8 3, .string (⟨#[45, 62]⟩ : ByteArray)] from (k83_mkM _ _ _ (⟨18, 0, 3, (⟨#[45, 62]⟩ : ByteArray)⟩ : S83) )) (Reps.c4 (show Kd.M k83 _ _ _ (⟨16, 1, 1, (⟨#[111, 114]⟩ : ByteArray)⟩ : S83) [.int .u8 16, .int .i64 1, .int .u8 1, .string (⟨#[111, 114]⟩ : ByteArray)] from (k83_mkM _ _ _ (⟨16, 1, 1, (⟨#[111, 114]⟩ : ByteArray)⟩ : S83) )) (Reps.c4 (show Kd.M k83 _ _ _ (⟨15, 2, 1, (⟨#[97, 110, 100]⟩ : ByteArray)⟩ : S83) [.int .u8 15, .int .i64 2, .int .u8 1, .string (⟨#[97, 110, 100]⟩ : ByteArray)] from (k83_mkM _ _ _ (⟨15, 2, 1, (⟨#[97, 110, 100]⟩ : ByteArray)⟩ : S83) )) (Reps.c4 (show Kd.M k83 _ _ _ (⟨11, 3, 3, (⟨#[61, 61]⟩ : ByteArray)⟩ : S83) [.int .u8 11, .int .i64 3, .int .u8 3, .string (⟨#[61, 61]⟩ : ByteArray)] from (k83_mkM _ _ _ (⟨11, 3, 3, (⟨#[61, 61]⟩ : ByteArray)⟩ : S83) )) (Reps.c4 (show Kd.M k83 _ _ _ (⟨12, 3, 3, (⟨#[33, 61]⟩ : ByteArray)⟩ : S83) [.int .u8 12, .int .i64 3, .int .u8 3, .string (⟨#[33, 61]⟩ : ByteArray)] from (k83_mkM _ _ _ (⟨12, 3, 3, (⟨#[33, 61]⟩ : ByteArray)⟩ : S83) )) (Reps.c4 (show Kd.M k83 _ _ _ (⟨13, 3, 3, (⟨#[60]⟩ : ByteArray)⟩ : S83) [.int .u8 13, .int .i64 3, .int .u8 3, .string (⟨#[60]⟩ : ByteArray)] from (k83_mkM _ _ _ (⟨13, 3, 3, (⟨#[60]⟩ : ByteArray)⟩ : S83) )) (Reps.c4 (show Kd.M k83 _ _ _ (⟨14, 3, 3, (⟨#[60, 61]⟩ : ByteArray)⟩ : S83) [.int .u8 14, .int .i64 3, .int .u8 3, .string (⟨#[60, 61]⟩ : ByteArray)] from (k83_mkM _ _ _ (⟨14, 3, 3, (⟨#[60, 61]⟩ : ByteArray)⟩ : S83) )) (Reps.c4 (show Kd.M k83 _ _ _ (⟨6, 4, 3, (⟨#[43]⟩ : ByteArray)⟩ : S83) [.int .u8 6, .int .i64 4, .int .u8 3, .string (⟨#[43]⟩ : ByteArray)] from (k83_mkM _ _ _ (⟨6, 4, 3, (⟨#[43]⟩ : ByteArray)⟩ : S83) )) (Reps.c4 (show Kd.M k83 _ _ _ (⟨7, 4, 3, (⟨#[45]⟩ : ByteArray)⟩ : S83) [.int .u8 7, .int .i64 4, .int .u8 3, .string (⟨#[45]⟩ : ByteArray)] from (k83_mkM _ _ _ (⟨7, 4, 3, (⟨#[45]⟩ : ByteArray)⟩ : S83) )) (Reps.c4 (show Kd.M k83 _ _ _ (⟨8, 5, 3, (⟨#[42]⟩ : ByteArray)⟩ : S83) [.int .u8 8, .int .i64 5, .int .u8 3, .string (⟨#[42]⟩ : ByteArray)] from (k83_mkM _ _ _ (⟨8, 5, 3, (⟨#[42]⟩ : ByteArray)⟩ : S83) )) (Reps.c4 (show Kd.M k83 _ _ _ (⟨9, 5, 3, (⟨#[47]⟩ : ByteArray)⟩ : S83) [.int .u8 9, .int .i64 5, .int .u8 3, .string (⟨#[47]⟩ : ByteArray)] from (k83_mkM _ _ _ (⟨9, 5, 3, (⟨#[47]⟩ : ByteArray)⟩ : S83) )) (Reps.c4 (show Kd.M k83 _ _ _ (⟨10, 5, 3, (⟨#[37]⟩ : ByteArray)⟩ : S83) [.int .u8 10, .int .i64 5, .int .u8 3, .string (⟨#[37]⟩ : ByteArray)] from (k83_mkM _ _ _ (⟨10, 5, 3, (⟨#[37]⟩ : ByteArray)⟩ : S83) )) (Reps.none _ _)))))))))))))); intro v113 w1 ho2 hb hg_ hnew_; clear hg_ hnew_; (first | rw [← Ny112.out] at ho2 | (simp only [Int.reduceToNat] at ho2; rw [← Ny112.out] at ho2)); have n0_ := Aside0.mk (Kd.R_lower ho2 (below_size (by repeat (first | (with_reducible first | exact HB.out | apply below_alloc | apply pw_below_drewN | apply below_drew1) | exact HB.out)))); have n1_ := Aside0.mk (below_step (by repeat (first | (with_reducible first | exact HB.out | apply below_alloc | apply pw_below_drewN | apply below_drew1) | exact HB.out)) hb); clear HB; have HO114 := n0_; have HB := n1_; clear n0_ n1_; clear hb ho2))
 go_ret
 exact ⟨_, by first | rfl | (simp [errW_none, errW_some] <;> rfl) | (simp [*, errW_none, errW_some] <;> rfl), by (with_reducible repeat (first | apply Kd.R_alloc | apply Kd.R_drewN | apply Kd.R_drew)); exact HO114.out, by repeat (first | (with_reducible first | exact HB.out | apply below_alloc | apply pw_below_drewN | apply below_drew1) | exact HB.out)⟩

/-! ### exprs_prefixes: function 48 -/
def exprs_prefixes.f  : Option ((List (S83))) := some (([(⟨4, 6, 3, (⟨#[45]⟩ : ByteArray)⟩ : S83), (⟨5, 6, 1, (⟨#[110, 111, 116]⟩ : ByteArray)⟩ : S83), (⟨19, 6, 1, (⟨#[112, 114, 101]⟩ : ByteArray)⟩ : S83)] : List (S83)))
set_option maxHeartbeats 8000000 in
set_option maxRecDepth 100000 in
theorem exprs_prefixes.calls  (r : List (S83)) (w : World) (h : exprs_prefixes.f  = some r) :
  Calls Tryd.prog 48 #[] w fun e w' => ∃ v0_ : Value, e = .returned (v0_) ∧ Kd.R k83 83 w' w.heap.size (fun _ => True) v0_ r ∧ Below w.heap.size w w' := by
 have hu83 := Tryd.underlying83
 have HB := Aside0.mk (Below.refl w.heap.size w)
 have H : (some (([(⟨4, 6, 3, (⟨#[45]⟩ : ByteArray)⟩ : S83), (⟨5, 6, 1, (⟨#[110, 111, 116]⟩ : ByteArray)⟩ : S83), (⟨19, 6, 1, (⟨#[112, 114, 101]⟩ : ByteArray)⟩ : S83)] : List (S83)))) = some r := h
 clear h
 obtain ⟨y115, hy115⟩ : ∃ y_ : List (S83), y_ = (([(⟨4, 6, 3, (⟨#[45]⟩ : ByteArray)⟩ : S83), (⟨5, 6, 1, (⟨#[110, 111, 116]⟩ : ByteArray)⟩ : S83), (⟨19, 6, 1, (⟨#[112, 114, 101]⟩ : ByteArray)⟩ : S83)] : List (S83))) := ⟨_, rfl⟩
 replace H : (some y115) = some r := by first | (rw [hy115]; with_reducible exact H) | (have H2_ := (Option.bind_some _ _).symm.trans H; rw [hy115]; with_reducible exact H2_) | (have H2_ := (Option.bind_some _ _).symm.trans H; with_reducible exact H2_) | with_reducible exact H | (rw [hy115]; exact H) | exact H
 have Ny115 := Aside0.mk hy115
 clear hy115
 obtain rfl := Option.some.inj H
 go_enter Tryd.func48, Tryd.ntmps48
 go_wp2_with (first | ((with_reducible refine gate_dst (N := 4) rfl ?_); refine Kd.R_lit k83 _ 83 ?hg (N := 4) ?hd (xs := ([(⟨4, 6, 3, (⟨#[45]⟩ : ByteArray)⟩ : S83), (⟨5, 6, 1, (⟨#[110, 111, 116]⟩ : ByteArray)⟩ : S83), (⟨19, 6, 1, (⟨#[112, 114, 101]⟩ : ByteArray)⟩ : S83)] : List (S83))) (inner := [.int .u8 4, .int .i64 6, .int .u8 3, .string (⟨#[45]⟩ : ByteArray), .int .u8 5, .int .i64 6, .int .u8 1, .string (⟨#[110, 111, 116]⟩ : ByteArray), .int .u8 19, .int .i64 6, .int .u8 1, .string (⟨#[112, 114, 101]⟩ : ByteArray)]) (ok := fun _ => True) (okp := fun _ => True) ?hr ?hp (fun _ hk => hk) trivial (Below.refl _ _) (Nat.le_refl _) (by simp) ?_; (case hd => rfl); (case hg => rfl); (case hr => first | (go_simp; done) | (go_simp; rfl)); (case hp => exact (Reps.c4 (show Kd.M k83 _ _ _ (⟨4, 6, 3, (⟨#[45]⟩ : ByteArray)⟩ : S83) [.int .u8 4, .int .i64 6, .int .u8 3, .string (⟨#[45]⟩ : ByteArray)] from (k83_mkM _ _ _ (⟨4, 6, 3, (⟨#[45]⟩ : ByteArray)⟩ : S83) )) (Reps.c4 (show Kd.M k83 _ _ _ (⟨5, 6, 1, (⟨#[110, 111, 116]⟩ : ByteArray)⟩ : S83) [.int .u8 5, .int .i64 6, .int .u8 1, .string (⟨#[110, 111, 116]⟩ : ByteArray)] from (k83_mkM _ _ _ (⟨5, 6, 1, (⟨#[110, 111, 116]⟩ : ByteArray)⟩ : S83) )) (Reps.c4 (show Kd.M k83 _ _ _ (⟨19, 6, 1, (⟨#[112, 114, 101]⟩ : ByteArray)⟩ : S83) [.int .u8 19, .int .i64 6, .int .u8 1, .string (⟨#[112, 114, 101]⟩ : ByteArray)] from (k83_mkM _ _ _ (⟨19, 6, 1, (⟨#[112, 114, 101]⟩ : ByteArray)⟩ : S83) )) (Reps.none _ _))))); intro v116 w1 ho2 hb hg_ hnew_; clear hg_ hnew_; (first | rw [← Ny115.out] at ho2 | (simp only [Int.reduceToNat] at ho2; rw [← Ny115.out] at ho2)); have n0_ := Aside0.mk (Kd.R_lower ho2 (below_size (by repeat (first | (with_reducible first | exact HB.out | apply below_alloc | apply pw_below_drewN | apply below_drew1) | exact HB.out)))); have n1_ := Aside0.mk (below_step (by repeat (first | (with_reducible first | exact HB.out | apply below_alloc | apply pw_below_drewN | apply below_drew1) | exact HB.out)) hb); clear HB; have HO117 := n0_; have HB := n1_; clear n0_ n1_; clear hb ho2))
 go_ret
 exact ⟨_, by first | rfl | (simp [errW_none, errW_some] <;> rfl) | (simp [*, errW_none, errW_some] <;> rfl), by (with_reducible repeat (first | apply Kd.R_alloc | apply Kd.R_drewN | apply Kd.R_drew)); exact HO117.out, by repeat (first | (with_reducible first | exact HB.out | apply below_alloc | apply pw_below_drewN | apply below_drew1) | exact HB.out)⟩

/-! ### exprs_parts: function 56 -/
def exprs_parts.j0 : Nat → Int → Bool → Option (Int)
 | 0, _, _ => none
 | k + 1, x0, x7 => if x7 = true then (some 0) else (if x0 = 17 then (some 3) else ((exprs_pairs.f).bind fun t118 => ((exprs_find.f k t118 x0).bind fun bt121 => (if bt121.2.2.2.2 = true then (some 2) else ((exprs_prefixes.f).bind fun t127 => ((exprs_find.f k t127 x0).bind fun bt130 => (if bt130.2.2.2.2 = true then (some 1) else (some (-1)))))))))
def exprs_parts.f (k : Nat) (a0 : Int) : Option (Int) := if a0 = 1 then (exprs_parts.j0 k a0 true) else (if a0 = 2 then (exprs_parts.j0 k a0 true) else (exprs_parts.j0 k a0 (a0 == 3)))
theorem exprs_parts.mono_l : ∀ k, (∀ y0 y1, LeO (exprs_parts.j0 k y0 y1) (exprs_parts.j0 (k + 1) y0 y1))
 | 0 => fun _ _ r h => by simp [exprs_parts.j0] at h
 | k + 1 => by
  have ih0 := exprs_parts.mono_l k
  ·intro y0 y1
   unfold exprs_parts.j0
   repeat' first
   | (with_reducible exact ih0 _ _)
   | (with_reducible exact exprs_find.mono _ _ _)
   | (with_reducible exact LeO.refl _)
   | (with_reducible exact LeO.none _)
   | (with_reducible refine LeO.ite ?_ ?_)
   | (with_reducible refine LeO.bind ?_ (fun _ => ?_))
   | exact ih0 _ _
   | exact exprs_find.mono _ _ _
   | exact LeO.none _
   | refine LeO.ite ?_ ?_
   | refine LeO.bind ?_ (fun _ => ?_)
theorem exprs_parts.mono : ∀ a0 k, LeO (exprs_parts.f k a0) (exprs_parts.f (k + 1) a0) := by
 intro a0 k
 have ih0 := exprs_parts.mono_l k
 unfold exprs_parts.f
 repeat' first
   | (with_reducible exact ih0 _ _)
   | (with_reducible exact exprs_find.mono _ _ _)
   | (with_reducible exact LeO.refl _)
   | (with_reducible exact LeO.none _)
   | (with_reducible refine LeO.ite ?_ ?_)
   | (with_reducible refine LeO.bind ?_ (fun _ => ?_))
   | exact ih0 _ _
   | exact exprs_find.mono _ _ _
   | exact LeO.none _
   | refine LeO.ite ?_ ?_
   | refine LeO.bind ?_ (fun _ => ?_)
set_option maxHeartbeats 8000000 in
set_option maxRecDepth 100000 in
theorem exprs_parts.calls (k : Nat) (a0 : Int) (r : Int) (w : World) (h : exprs_parts.f k a0 = some r) :
  Calls Tryd.prog 56 #[.int .u8 a0] w fun e w' => e = .returned (.int .i64 r) ∧ Below w.heap.size w w' := by
 have hu83 := Tryd.underlying83
 have HB := Aside0.mk (Below.refl w.heap.size w)
 have H : (if a0 = 1 then (exprs_parts.j0 k a0 true) else (if a0 = 2 then (exprs_parts.j0 k a0 true) else (exprs_parts.j0 k a0 (a0 == 3)))) = some r := h
 clear h
 have HC2 := Aside0.mk H
 clear H
 go_enter Tryd.func56, Tryd.ntmps56
 go_upto_region 1 with (fail)
 go_cut [7] (fun v7 wc => ∃ (kq : Nat) (x7_1 : Bool), v7 = .bool x7_1 ∧ Aside0 (exprs_parts.j0 kq a0 x7_1 = some r) ∧ Aside0 (kq ≤ k) ∧ Aside0 (Below w.heap.size w wc))
 case first =>
  have H := HC2.out
  clear HC2
  by_cases c3 : a0 = 1
  ·rw [if_pos c3] at H
   have c3b0 : (a0 == 1) = true := beq_iff_eq.mpr c3
   have c3b1 : (a0 != 1) = false := bne_eq_false_iff_eq.mpr c3
   clear c3
   (first | rw [c3b0] | (simp only [i64_w, i32_w]; rw [c3b0]) | skip)
   have H' := Aside0.mk H
   clear H
   go_wp2
   go_meet
   case rel => exact ⟨_, (true), (by first | rfl | (simp; done) | (simp [*]; done)), H', ⟨by first | omega | exact Nat.le_refl _⟩, ⟨by repeat (first | (with_reducible first | exact HB.out | apply below_alloc | apply pw_below_drewN | apply below_drew1) | exact HB.out)⟩⟩
  ·rw [if_neg c3] at H
   have c3b0 : (a0 == 1) = false := beq_eq_false_iff_ne.mpr c3
   have c3b1 : (a0 != 1) = true := bne_iff_ne.mpr c3
   (first | rw [c3b0] | (simp only [i64_w, i32_w]; rw [c3b0]) | skip)
   by_cases c4 : a0 = 2
   ·rw [if_pos c4] at H
    have c4b0 : (a0 == 2) = true := beq_iff_eq.mpr c4
    have c4b1 : (a0 != 2) = false := bne_eq_false_iff_eq.mpr c4
    clear c4
    have H' := Aside0.mk H
    clear H
    go_wp2
    go_meet
    case rel => exact ⟨_, (true), (by first | rfl | (simp; done) | (simp [*]; done)), H', ⟨by first | omega | exact Nat.le_refl _⟩, ⟨by repeat (first | (with_reducible first | exact HB.out | apply below_alloc | apply pw_below_drewN | apply below_drew1) | exact HB.out)⟩⟩
   ·rw [if_neg c4] at H
    have c4b0 : (a0 == 2) = false := beq_eq_false_iff_ne.mpr c4
    have c4b1 : (a0 != 2) = true := bne_iff_ne.mpr c4
    have H' := Aside0.mk H
    clear H
    go_wp2
    go_meet
    case rel => exact ⟨_, ((a0 == 3)), (by first | rfl | (simp; done) | (simp [*]; done)), H', ⟨by first | omega | exact Nat.le_refl _⟩, ⟨by repeat (first | (with_reducible first | exact HB.out | apply below_alloc | apply pw_below_drewN | apply below_drew1) | exact HB.out)⟩⟩
 case rest =>
  clear HC2
  try clear p2
  try clear c3
  try clear c3b0
  try clear c3b1
  try clear c4
  try clear c4b0
  try clear c4b1
  obtain ⟨kq, x7_1, rfl, HA, HJ1, HB⟩ := hcut
  cases kq with
  | zero => exact absurd HA.out (by simp [exprs_parts.j0])
  | succ kj1 =>
   have H := HA.out
   clear HA
   simp only [exprs_parts.j0] at H
   by_cases c5 : x7_1 = true
   ·subst c5
    have H1 : (some 0) = some r := by rw [if_pos rfl] at H; exact H
    clear H
    have H := H1
    clear H1
    obtain rfl := Option.some.inj H
    go_wp2
    go_ret
    exact ⟨by first | rfl | (simp [errW_none, errW_some] <;> rfl) | (simp [*, errW_none, errW_some] <;> rfl), by repeat (first | (with_reducible first | exact HB.out | apply below_alloc | apply pw_below_drewN | apply below_drew1) | exact HB.out)⟩
   ·replace c5 := Bool.eq_false_iff.mpr c5
    subst c5
    have H1 : (if a0 = 17 then (some 3) else ((exprs_pairs.f).bind fun t118 => ((exprs_find.f kj1 t118 a0).bind fun bt121 => (if bt121.2.2.2.2 = true then (some 2) else ((exprs_prefixes.f).bind fun t127 => ((exprs_find.f kj1 t127 a0).bind fun bt130 => (if bt130.2.2.2.2 = true then (some 1) else (some (-1))))))))) = some r := by rw [if_neg (show ¬ (false = true) by decide)] at H; exact H
    clear H
    have H := H1
    clear H1
    by_cases c6 : a0 = 17
    ·rw [if_pos c6] at H
     have c6b0 : (a0 == 17) = true := beq_iff_eq.mpr c6
     have c6b1 : (a0 != 17) = false := bne_eq_false_iff_eq.mpr c6
     clear c6
     obtain rfl := Option.some.inj H
     go_wp2
     go_ret
     exact ⟨by first | rfl | (simp [errW_none, errW_some] <;> rfl) | (simp [*, errW_none, errW_some] <;> rfl), by repeat (first | (with_reducible first | exact HB.out | apply below_alloc | apply pw_below_drewN | apply below_drew1) | exact HB.out)⟩
    ·rw [if_neg c6] at H
     have c6b0 : (a0 == 17) = false := beq_eq_false_iff_ne.mpr c6
     have c6b1 : (a0 != 17) = true := bne_iff_ne.mpr c6
     replace H := Option.bind_eq_some_iff.mp H
     obtain ⟨t118, A70, H⟩ := H
     replace H : ((exprs_find.f kj1 t118 a0).bind fun bt121 => (if bt121.2.2.2.2 = true then (some 2) else ((exprs_prefixes.f).bind fun t127 => ((exprs_find.f kj1 t127 a0).bind fun bt130 => (if bt130.2.2.2.2 = true then (some 1) else (some (-1))))))) = some r := H
     have A7 := Aside0.mk A70
     clear A70
     replace H := Option.bind_eq_some_iff.mp H
     obtain ⟨⟨t121, t122, t123, t124, t125⟩, A80, H⟩ := H
     replace H : (if t125 = true then (some 2) else ((exprs_prefixes.f).bind fun t127 => ((exprs_find.f kj1 t127 a0).bind fun bt130 => (if bt130.2.2.2.2 = true then (some 1) else (some (-1)))))) = some r := H
     have A8 := Aside0.mk A80
     clear A80
     by_cases c9 : t125 = true
     ·subst c9
      have H1 : (some 2) = some r := by rw [if_pos rfl] at H; exact H
      clear H
      have H := H1
      clear H1
      obtain rfl := Option.some.inj H
      go_wp2_with (first | ((with_reducible refine gate_callee (f := 45) rfl ?_); refine goesL_ (some 22) rfl rfl Tryd.func45 (by kernel_rfl) rfl #[] rfl (by (try simp only [List.map_toArray, List.map_cons, List.map_nil]); first | done | rfl | (simp only [List.length_drop, List.length_take]; rfl)) ?_; (with_reducible refine (exprs_pairs.calls  t118 _ A7.out).mono ?_); rintro e w10 ⟨v119, rfl, ho0, hb⟩; refine ⟨_, rfl, ?_⟩; have n0_ := Aside0.mk (Kd.R_lower ho0 (below_size (by repeat (first | (with_reducible first | exact HB.out | apply below_alloc | apply pw_below_drewN | apply below_drew1) | exact HB.out)))); have n1_ := Aside0.mk (below_step (by repeat (first | (with_reducible first | exact HB.out | apply below_alloc | apply pw_below_drewN | apply below_drew1) | exact HB.out)) hb); clear HB; have HO120 := n0_; have HB := n1_; clear n0_ n1_; (try clear hb); (try clear hb2); (try clear hk); (try clear hi); (try clear ho0); obtain ⟨Ao11, co11, eo11⟩ := Kd.R_slice HO120.out; subst eo11) | ((with_reducible refine gate_callee (f := 44) rfl ?_); refine goesL_ (some 24) rfl rfl Tryd.func44 (by kernel_rfl) rfl #[.slice Ao11 t118.length co11, .int .u8 a0] rfl (by (try simp only [List.map_toArray, List.map_cons, List.map_nil]); first | done | rfl | (simp only [List.length_drop, List.length_take]; rfl)) ?_; (with_reducible refine (exprs_find.calls kj1 _ _ t118 a0 t121 t122 t123 t124 true _ ?side1 ?side2 A8.out).mono ?_); (case side1 => repeat (first | exact (Kd.R_reads' HO120.out).2.2 | (with_reducible refine Kd.C_alloc ?_ _) | (with_reducible refine Kd.C_drewN ?_ _) | (with_reducible refine Kd.C_drew ?_))); (case side2 => exact (Kd.R_reads' HO120.out).2.1); rintro e w12 ⟨rfl, hb⟩; refine ⟨_, rfl, ?_⟩; have n0_ := Aside0.mk (Kd.R_below (by (with_reducible repeat (first | apply Kd.R_alloc | apply Kd.R_drewN | apply Kd.R_drew)); exact HO120.out) hb); have n1_ := Aside0.mk (below_step (by repeat (first | (with_reducible first | exact HB.out | apply below_alloc | apply pw_below_drewN | apply below_drew1) | exact HB.out)) hb); clear HO120; clear HB; have HO120 := n0_; have HB := n1_; clear n0_ n1_; (try clear hb); (try clear hb2); (try clear hk); (try clear hi)) | ((with_reducible refine gate_dst (N := 3) rfl ?_); refine box_event ?hg (N := 3) ?hd (cs := #[.int .u8 0, .int .i64 0, .int .u8 0, .string (⟨#[]⟩ : ByteArray)]) (t := 83) ?hr ?_; (case hd => rfl); (case hg => rfl); (case hr => first | (go_simp; done) | (go_simp; rfl)); intro gb126 hg w13 hbox hb; have n0_ := Aside0.mk (Kd.R_below (Kd.R_elderB (by (with_reducible repeat (first | apply Kd.R_alloc | apply Kd.R_drewN | apply Kd.R_drew)); exact HO120.out) gb126 (Nat.le_of_eq hg.symm)) hb); have n1_ := Aside0.mk (below_step (by repeat (first | (with_reducible first | exact HB.out | apply below_alloc | apply pw_below_drewN | apply below_drew1) | exact HB.out)) hb); have n2_ := Aside0.mk (hbox); have n3_ := Aside0.mk ((by rw [hg]; exact (below_size (by repeat (first | (with_reducible first | exact HB.out | apply below_alloc | apply pw_below_drewN | apply below_drew1) | exact HB.out))) : w.heap.size ≤ gb126)); have n4_ := Aside0.mk ((by rw [hg]; exact (below_size (by repeat (first | (with_reducible first | exact HB.out | apply below_alloc | apply pw_below_drewN | apply below_drew1) | exact HB.out))) : w.heap.size ≤ gb126)); clear HO120; clear HB; have HO120 := n0_; have HB := n1_; have BK126 := n2_; have GW126 := n3_; have GE126 := n4_; clear n0_ n1_ n2_ n3_ n4_; clear hb hbox hg; have hcz14_0 : w13.cell? ⟨gb126, 0, none⟩ = some (.int .u8 0) := (blk_cell BK126.out 0).trans rfl; have hcz14_1 : w13.cell? ⟨gb126, 1, none⟩ = some (.int .i64 0) := (blk_cell BK126.out 1).trans rfl; have hcz14_2 : w13.cell? ⟨gb126, 2, none⟩ = some (.int .u8 0) := (blk_cell BK126.out 2).trans rfl; have hcz14_3 : w13.cell? ⟨gb126, 3, none⟩ = some (.string (⟨#[]⟩ : ByteArray)) := (blk_cell BK126.out 3).trans rfl; have hfz14_0 := blk_frozen BK126.out 0; have hfz14_1 := blk_frozen BK126.out 1; have hfz14_2 := blk_frozen BK126.out 2; have hfz14_3 := blk_frozen BK126.out 3))
      go_ret
      exact ⟨by first | rfl | (simp [errW_none, errW_some] <;> rfl) | (simp [*, errW_none, errW_some] <;> rfl), by repeat (first | (with_reducible first | exact HB.out | apply below_alloc | apply pw_below_drewN | apply below_drew1 | refine below_set ?_ GE126.out) | exact HB.out)⟩
     ·replace c9 := Bool.eq_false_iff.mpr c9
      subst c9
      have H1 : ((exprs_prefixes.f).bind fun t127 => ((exprs_find.f kj1 t127 a0).bind fun bt130 => (if bt130.2.2.2.2 = true then (some 1) else (some (-1))))) = some r := by rw [if_neg (show ¬ (false = true) by decide)] at H; exact H
      clear H
      have H := H1
      clear H1
      replace H := Option.bind_eq_some_iff.mp H
      obtain ⟨t127, A150, H⟩ := H
      replace H : ((exprs_find.f kj1 t127 a0).bind fun bt130 => (if bt130.2.2.2.2 = true then (some 1) else (some (-1)))) = some r := H
      have A15 := Aside0.mk A150
      clear A150
      replace H := Option.bind_eq_some_iff.mp H
      obtain ⟨⟨t130, t131, t132, t133, t134⟩, A160, H⟩ := H
      replace H : (if t134 = true then (some 1) else (some (-1))) = some r := H
      have A16 := Aside0.mk A160
      clear A160
      by_cases c17 : t134 = true
      ·subst c17
       have H1 : (some 1) = some r := by rw [if_pos rfl] at H; exact H
       clear H
       have H := H1
       clear H1
       obtain rfl := Option.some.inj H
       go_wp2_with (first | ((with_reducible refine gate_callee (f := 45) rfl ?_); refine goesL_ (some 22) rfl rfl Tryd.func45 (by kernel_rfl) rfl #[] rfl (by (try simp only [List.map_toArray, List.map_cons, List.map_nil]); first | done | rfl | (simp only [List.length_drop, List.length_take]; rfl)) ?_; (with_reducible refine (exprs_pairs.calls  t118 _ A7.out).mono ?_); rintro e w18 ⟨v119, rfl, ho0, hb⟩; refine ⟨_, rfl, ?_⟩; have n0_ := Aside0.mk (Kd.R_lower ho0 (below_size (by repeat (first | (with_reducible first | exact HB.out | apply below_alloc | apply pw_below_drewN | apply below_drew1) | exact HB.out)))); have n1_ := Aside0.mk (below_step (by repeat (first | (with_reducible first | exact HB.out | apply below_alloc | apply pw_below_drewN | apply below_drew1) | exact HB.out)) hb); clear HB; have HO120 := n0_; have HB := n1_; clear n0_ n1_; (try clear hb); (try clear hb2); (try clear hk); (try clear hi); (try clear ho0); obtain ⟨Ao19, co19, eo19⟩ := Kd.R_slice HO120.out; subst eo19) | ((with_reducible refine gate_callee (f := 44) rfl ?_); refine goesL_ (some 24) rfl rfl Tryd.func44 (by kernel_rfl) rfl #[.slice Ao19 t118.length co19, .int .u8 a0] rfl (by (try simp only [List.map_toArray, List.map_cons, List.map_nil]); first | done | rfl | (simp only [List.length_drop, List.length_take]; rfl)) ?_; (with_reducible refine (exprs_find.calls kj1 _ _ t118 a0 t121 t122 t123 t124 false _ ?side1 ?side2 A8.out).mono ?_); (case side1 => repeat (first | exact (Kd.R_reads' HO120.out).2.2 | (with_reducible refine Kd.C_alloc ?_ _) | (with_reducible refine Kd.C_drewN ?_ _) | (with_reducible refine Kd.C_drew ?_))); (case side2 => exact (Kd.R_reads' HO120.out).2.1); rintro e w20 ⟨rfl, hb⟩; refine ⟨_, rfl, ?_⟩; have n0_ := Aside0.mk (Kd.R_below (by (with_reducible repeat (first | apply Kd.R_alloc | apply Kd.R_drewN | apply Kd.R_drew)); exact HO120.out) hb); have n1_ := Aside0.mk (below_step (by repeat (first | (with_reducible first | exact HB.out | apply below_alloc | apply pw_below_drewN | apply below_drew1) | exact HB.out)) hb); clear HO120; clear HB; have HO120 := n0_; have HB := n1_; clear n0_ n1_; (try clear hb); (try clear hb2); (try clear hk); (try clear hi)) | ((with_reducible refine gate_dst (N := 3) rfl ?_); refine box_event ?hg (N := 3) ?hd (cs := #[.int .u8 0, .int .i64 0, .int .u8 0, .string (⟨#[]⟩ : ByteArray)]) (t := 83) ?hr ?_; (case hd => rfl); (case hg => rfl); (case hr => first | (go_simp; done) | (go_simp; rfl)); intro gb126 hg w21 hbox hb; have n0_ := Aside0.mk (Kd.R_below (Kd.R_elderB (by (with_reducible repeat (first | apply Kd.R_alloc | apply Kd.R_drewN | apply Kd.R_drew)); exact HO120.out) gb126 (Nat.le_of_eq hg.symm)) hb); have n1_ := Aside0.mk (below_step (by repeat (first | (with_reducible first | exact HB.out | apply below_alloc | apply pw_below_drewN | apply below_drew1) | exact HB.out)) hb); have n2_ := Aside0.mk (hbox); have n3_ := Aside0.mk ((by rw [hg]; exact (below_size (by repeat (first | (with_reducible first | exact HB.out | apply below_alloc | apply pw_below_drewN | apply below_drew1) | exact HB.out))) : w.heap.size ≤ gb126)); have n4_ := Aside0.mk ((by rw [hg]; exact (below_size (by repeat (first | (with_reducible first | exact HB.out | apply below_alloc | apply pw_below_drewN | apply below_drew1) | exact HB.out))) : w.heap.size ≤ gb126)); clear HO120; clear HB; have HO120 := n0_; have HB := n1_; have BK126 := n2_; have GW126 := n3_; have GE126 := n4_; clear n0_ n1_ n2_ n3_ n4_; clear hb hbox hg; have hcz22_0 : w21.cell? ⟨gb126, 0, none⟩ = some (.int .u8 0) := (blk_cell BK126.out 0).trans rfl; have hcz22_1 : w21.cell? ⟨gb126, 1, none⟩ = some (.int .i64 0) := (blk_cell BK126.out 1).trans rfl; have hcz22_2 : w21.cell? ⟨gb126, 2, none⟩ = some (.int .u8 0) := (blk_cell BK126.out 2).trans rfl; have hcz22_3 : w21.cell? ⟨gb126, 3, none⟩ = some (.string (⟨#[]⟩ : ByteArray)) := (blk_cell BK126.out 3).trans rfl; have hfz22_0 := blk_frozen BK126.out 0; have hfz22_1 := blk_frozen BK126.out 1; have hfz22_2 := blk_frozen BK126.out 2; have hfz22_3 := blk_frozen BK126.out 3) | ((with_reducible refine gate_callee (f := 48) rfl ?_); refine goesL_ (some 29) rfl rfl Tryd.func48 (by kernel_rfl) rfl #[] rfl (by (try simp only [List.map_toArray, List.map_cons, List.map_nil]); first | done | rfl | (simp only [List.length_drop, List.length_take]; rfl)) ?_; (with_reducible refine (exprs_prefixes.calls  t127 _ A15.out).mono ?_); rintro e w23 ⟨v128, rfl, ho0, hb⟩; refine ⟨_, rfl, ?_⟩; have n0_ := Aside0.mk (Kd.R_elder' (by (with_reducible repeat (first | apply Kd.R_alloc | apply Kd.R_drewN | apply Kd.R_drew)); exact (Kd.R_mono (Kd.R_far (p := ⟨gb126, 3, none⟩) (Kd.R_far (p := ⟨gb126, 2, none⟩) (Kd.R_far (p := ⟨gb126, 1, none⟩) (Kd.R_far (p := ⟨gb126, 0, none⟩) (Kd.R_mono HO120.out (fun k_ hk => (⟨hk, hk.2⟩ : _ ∧ k_ ≠ gb126))) (fun _ hk => hk.2) (.int .u8 t121)) (fun _ hk => hk.2) (.int .i64 t122)) (fun _ hk => hk.2) (.int .u8 t123)) (fun _ hk => hk.2) (.string t124)) (fun _ h_ => h_.1))) (Kd.R_base ho0) hb); have n1_ := Aside0.mk (Kd.R_lower (Kd.R_newB (Kd.R_new' ho0 (Kd.R_lt (by (with_reducible repeat (first | apply Kd.R_alloc | apply Kd.R_drewN | apply Kd.R_drew)); exact (Kd.R_mono (Kd.R_far (p := ⟨gb126, 3, none⟩) (Kd.R_far (p := ⟨gb126, 2, none⟩) (Kd.R_far (p := ⟨gb126, 1, none⟩) (Kd.R_far (p := ⟨gb126, 0, none⟩) (Kd.R_mono HO120.out (fun k_ hk => (⟨hk, hk.2⟩ : _ ∧ k_ ≠ gb126))) (fun _ hk => hk.2) (.int .u8 t121)) (fun _ hk => hk.2) (.int .i64 t122)) (fun _ hk => hk.2) (.int .u8 t123)) (fun _ hk => hk.2) (.string t124)) (fun _ h_ => h_.1))))) (g := gb126) (o := .cells #[.int .u8 t121, .int .i64 t122, .int .u8 t123, .string t124] 83 (0, 0)) (by (with_reducible repeat (first | refine blk_drewN ?_ _ | refine blk_drew ?_ | refine blk_alloc ?_ _)); refine blk_put (cs := #[.int .u8 t121, .int .i64 t122, .int .u8 t123, .string (⟨#[]⟩ : ByteArray)]) ?_ 3 _ rfl; (with_reducible repeat (first | refine blk_drewN ?_ _ | refine blk_drew ?_ | refine blk_alloc ?_ _)); refine blk_put (cs := #[.int .u8 t121, .int .i64 t122, .int .u8 0, .string (⟨#[]⟩ : ByteArray)]) ?_ 2 _ rfl; (with_reducible repeat (first | refine blk_drewN ?_ _ | refine blk_drew ?_ | refine blk_alloc ?_ _)); refine blk_put (cs := #[.int .u8 t121, .int .i64 0, .int .u8 0, .string (⟨#[]⟩ : ByteArray)]) ?_ 1 _ rfl; (with_reducible repeat (first | refine blk_drewN ?_ _ | refine blk_drew ?_ | refine blk_alloc ?_ _)); refine blk_put (cs := #[.int .u8 0, .int .i64 0, .int .u8 0, .string (⟨#[]⟩ : ByteArray)]) ?_ 0 _ rfl; (with_reducible repeat (first | refine blk_drewN ?_ _ | refine blk_drew ?_ | refine blk_alloc ?_ _)); exact BK126.out)) (below_size (by repeat (first | (with_reducible first | exact HB.out | apply below_alloc | apply pw_below_drewN | apply below_drew1 | refine below_set ?_ GE126.out) | exact HB.out)))); have n2_ := Aside0.mk (blk_below (g := gb126) (o := .cells #[.int .u8 t121, .int .i64 t122, .int .u8 t123, .string t124] 83 (0, 0)) (by (with_reducible repeat (first | refine blk_drewN ?_ _ | refine blk_drew ?_ | refine blk_alloc ?_ _)); refine blk_put (cs := #[.int .u8 t121, .int .i64 t122, .int .u8 t123, .string (⟨#[]⟩ : ByteArray)]) ?_ 3 _ rfl; (with_reducible repeat (first | refine blk_drewN ?_ _ | refine blk_drew ?_ | refine blk_alloc ?_ _)); refine blk_put (cs := #[.int .u8 t121, .int .i64 t122, .int .u8 0, .string (⟨#[]⟩ : ByteArray)]) ?_ 2 _ rfl; (with_reducible repeat (first | refine blk_drewN ?_ _ | refine blk_drew ?_ | refine blk_alloc ?_ _)); refine blk_put (cs := #[.int .u8 t121, .int .i64 0, .int .u8 0, .string (⟨#[]⟩ : ByteArray)]) ?_ 1 _ rfl; (with_reducible repeat (first | refine blk_drewN ?_ _ | refine blk_drew ?_ | refine blk_alloc ?_ _)); refine blk_put (cs := #[.int .u8 0, .int .i64 0, .int .u8 0, .string (⟨#[]⟩ : ByteArray)]) ?_ 0 _ rfl; (with_reducible repeat (first | refine blk_drewN ?_ _ | refine blk_drew ?_ | refine blk_alloc ?_ _)); exact BK126.out) hb); have n3_ := Aside0.mk (below_step (by repeat (first | (with_reducible first | exact HB.out | apply below_alloc | apply pw_below_drewN | apply below_drew1 | refine below_set ?_ GE126.out) | exact HB.out)) hb); clear HO120; clear BK126; clear HB; have HO120 := n0_; have HO129 := n1_; have BK126 := n2_; have HB := n3_; clear n0_ n1_ n2_ n3_; (try clear hb); (try clear hb2); (try clear hk); (try clear hi); (try clear ho0); obtain ⟨Ao24, co24, eo24⟩ := Kd.R_slice HO129.out; subst eo24) | ((with_reducible refine gate_callee (f := 44) rfl ?_); refine goesL_ (some 31) rfl rfl Tryd.func44 (by kernel_rfl) rfl #[.slice Ao24 t127.length co24, .int .u8 a0] rfl (by (try simp only [List.map_toArray, List.map_cons, List.map_nil]); first | done | rfl | (simp only [List.length_drop, List.length_take]; rfl)) ?_; (with_reducible refine (exprs_find.calls kj1 _ _ t127 a0 t130 t131 t132 t133 true _ ?side1 ?side2 A16.out).mono ?_); (case side1 => repeat (first | exact (Kd.R_reads' HO129.out).2.2 | (with_reducible refine Kd.C_alloc ?_ _) | (with_reducible refine Kd.C_drewN ?_ _) | (with_reducible refine Kd.C_drew ?_))); (case side2 => exact (Kd.R_reads' HO129.out).2.1); rintro e w25 ⟨rfl, hb⟩; refine ⟨_, rfl, ?_⟩; have n0_ := Aside0.mk (Kd.R_below (by (with_reducible repeat (first | apply Kd.R_alloc | apply Kd.R_drewN | apply Kd.R_drew)); exact HO120.out) hb); have n1_ := Aside0.mk (Kd.R_below (by (with_reducible repeat (first | apply Kd.R_alloc | apply Kd.R_drewN | apply Kd.R_drew)); exact HO129.out) hb); have n2_ := Aside0.mk (blk_below (g := gb126) (o := .cells #[.int .u8 t121, .int .i64 t122, .int .u8 t123, .string t124] 83 (0, 0)) (by (with_reducible repeat (first | refine blk_drewN ?_ _ | refine blk_drew ?_ | refine blk_alloc ?_ _)); exact BK126.out) hb); have n3_ := Aside0.mk (below_step (by repeat (first | (with_reducible first | exact HB.out | apply below_alloc | apply pw_below_drewN | apply below_drew1 | refine below_set ?_ GE126.out) | exact HB.out)) hb); clear HO120; clear HO129; clear BK126; clear HB; have HO120 := n0_; have HO129 := n1_; have BK126 := n2_; have HB := n3_; clear n0_ n1_ n2_ n3_; (try clear hb); (try clear hb2); (try clear hk); (try clear hi)) | ((with_reducible refine gate_dst (N := 5) rfl ?_); refine box_event ?hg (N := 5) ?hd (cs := #[.int .u8 0, .int .i64 0, .int .u8 0, .string (⟨#[]⟩ : ByteArray)]) (t := 83) ?hr ?_; (case hd => rfl); (case hg => rfl); (case hr => first | (go_simp; done) | (go_simp; rfl)); intro gb135 hg w26 hbox hb; have n0_ := Aside0.mk (Kd.R_below (Kd.R_elderB (by (with_reducible repeat (first | apply Kd.R_alloc | apply Kd.R_drewN | apply Kd.R_drew)); exact HO120.out) gb135 (Nat.le_of_eq hg.symm)) hb); have n1_ := Aside0.mk (Kd.R_below (Kd.R_elderB (by (with_reducible repeat (first | apply Kd.R_alloc | apply Kd.R_drewN | apply Kd.R_drew)); exact HO129.out) gb135 (Nat.le_of_eq hg.symm)) hb); have n2_ := Aside0.mk (blk_below (g := gb126) (o := .cells #[.int .u8 t121, .int .i64 t122, .int .u8 t123, .string t124] 83 (0, 0)) (by (with_reducible repeat (first | refine blk_drewN ?_ _ | refine blk_drew ?_ | refine blk_alloc ?_ _)); exact BK126.out) hb); have n3_ := Aside0.mk (below_step (by repeat (first | (with_reducible first | exact HB.out | apply below_alloc | apply pw_below_drewN | apply below_drew1 | refine below_set ?_ GE126.out) | exact HB.out)) hb); have n4_ := Aside0.mk (hbox); have n5_ := Aside0.mk ((by rw [hg]; exact (below_size (by repeat (first | (with_reducible first | exact HB.out | apply below_alloc | apply pw_below_drewN | apply below_drew1 | refine below_set ?_ GE126.out) | exact HB.out))) : w.heap.size ≤ gb135)); have n6_ := Aside0.mk ((by rw [hg]; exact (below_size (by repeat (first | (with_reducible first | exact HB.out | apply below_alloc | apply pw_below_drewN | apply below_drew1 | refine below_set ?_ GE126.out) | exact HB.out))) : w.heap.size ≤ gb135)); have n7_ := Aside0.mk ((by rw [hg]; exact Nat.ne_of_lt (blk_lt (g := gb126) (o := .cells #[.int .u8 t121, .int .i64 t122, .int .u8 t123, .string t124] 83 (0, 0)) (by (with_reducible repeat (first | refine blk_drewN ?_ _ | refine blk_drew ?_ | refine blk_alloc ?_ _)); exact BK126.out)) : gb126 ≠ gb135)); have n8_ := Aside0.mk ((by rw [hg]; exact Nat.ne_of_gt (blk_lt (g := gb126) (o := .cells #[.int .u8 t121, .int .i64 t122, .int .u8 t123, .string t124] 83 (0, 0)) (by (with_reducible repeat (first | refine blk_drewN ?_ _ | refine blk_drew ?_ | refine blk_alloc ?_ _)); exact BK126.out)) : gb135 ≠ gb126)); clear HO120; clear HO129; clear BK126; clear HB; have HO120 := n0_; have HO129 := n1_; have BK126 := n2_; have HB := n3_; have BK135 := n4_; have GW135 := n5_; have GE135 := n6_; have NB126_135 := n7_; have NB135_126 := n8_; clear n0_ n1_ n2_ n3_ n4_ n5_ n6_ n7_ n8_; clear hb hbox hg; have hnb27 := NB135_126.out; have hnc27 := NB126_135.out; have hcz28_0 : w26.cell? ⟨gb135, 0, none⟩ = some (.int .u8 0) := (blk_cell BK135.out 0).trans rfl; have hcz28_1 : w26.cell? ⟨gb135, 1, none⟩ = some (.int .i64 0) := (blk_cell BK135.out 1).trans rfl; have hcz28_2 : w26.cell? ⟨gb135, 2, none⟩ = some (.int .u8 0) := (blk_cell BK135.out 2).trans rfl; have hcz28_3 : w26.cell? ⟨gb135, 3, none⟩ = some (.string (⟨#[]⟩ : ByteArray)) := (blk_cell BK135.out 3).trans rfl; have hfz28_0 := blk_frozen BK135.out 0; have hfz28_1 := blk_frozen BK135.out 1; have hfz28_2 := blk_frozen BK135.out 2; have hfz28_3 := blk_frozen BK135.out 3))
       go_ret
       exact ⟨by first | rfl | (simp [errW_none, errW_some] <;> rfl) | (simp [*, errW_none, errW_some] <;> rfl), by repeat (first | (with_reducible first | exact HB.out | apply below_alloc | apply pw_below_drewN | apply below_drew1 | refine below_set ?_ GE126.out | refine below_set ?_ GE135.out) | exact HB.out)⟩
      ·replace c17 := Bool.eq_false_iff.mpr c17
       subst c17
       have H1 : (some (-1)) = some r := by rw [if_neg (show ¬ (false = true) by decide)] at H; exact H
       clear H
       have H := H1
       clear H1
       obtain rfl := Option.some.inj H
       go_wp2_with (first | ((with_reducible refine gate_callee (f := 45) rfl ?_); refine goesL_ (some 22) rfl rfl Tryd.func45 (by kernel_rfl) rfl #[] rfl (by (try simp only [List.map_toArray, List.map_cons, List.map_nil]); first | done | rfl | (simp only [List.length_drop, List.length_take]; rfl)) ?_; (with_reducible refine (exprs_pairs.calls  t118 _ A7.out).mono ?_); rintro e w29 ⟨v119, rfl, ho0, hb⟩; refine ⟨_, rfl, ?_⟩; have n0_ := Aside0.mk (Kd.R_lower ho0 (below_size (by repeat (first | (with_reducible first | exact HB.out | apply below_alloc | apply pw_below_drewN | apply below_drew1) | exact HB.out)))); have n1_ := Aside0.mk (below_step (by repeat (first | (with_reducible first | exact HB.out | apply below_alloc | apply pw_below_drewN | apply below_drew1) | exact HB.out)) hb); clear HB; have HO120 := n0_; have HB := n1_; clear n0_ n1_; (try clear hb); (try clear hb2); (try clear hk); (try clear hi); (try clear ho0); obtain ⟨Ao30, co30, eo30⟩ := Kd.R_slice HO120.out; subst eo30) | ((with_reducible refine gate_callee (f := 44) rfl ?_); refine goesL_ (some 24) rfl rfl Tryd.func44 (by kernel_rfl) rfl #[.slice Ao30 t118.length co30, .int .u8 a0] rfl (by (try simp only [List.map_toArray, List.map_cons, List.map_nil]); first | done | rfl | (simp only [List.length_drop, List.length_take]; rfl)) ?_; (with_reducible refine (exprs_find.calls kj1 _ _ t118 a0 t121 t122 t123 t124 false _ ?side1 ?side2 A8.out).mono ?_); (case side1 => repeat (first | exact (Kd.R_reads' HO120.out).2.2 | (with_reducible refine Kd.C_alloc ?_ _) | (with_reducible refine Kd.C_drewN ?_ _) | (with_reducible refine Kd.C_drew ?_))); (case side2 => exact (Kd.R_reads' HO120.out).2.1); rintro e w31 ⟨rfl, hb⟩; refine ⟨_, rfl, ?_⟩; have n0_ := Aside0.mk (Kd.R_below (by (with_reducible repeat (first | apply Kd.R_alloc | apply Kd.R_drewN | apply Kd.R_drew)); exact HO120.out) hb); have n1_ := Aside0.mk (below_step (by repeat (first | (with_reducible first | exact HB.out | apply below_alloc | apply pw_below_drewN | apply below_drew1) | exact HB.out)) hb); clear HO120; clear HB; have HO120 := n0_; have HB := n1_; clear n0_ n1_; (try clear hb); (try clear hb2); (try clear hk); (try clear hi)) | ((with_reducible refine gate_dst (N := 3) rfl ?_); refine box_event ?hg (N := 3) ?hd (cs := #[.int .u8 0, .int .i64 0, .int .u8 0, .string (⟨#[]⟩ : ByteArray)]) (t := 83) ?hr ?_; (case hd => rfl); (case hg => rfl); (case hr => first | (go_simp; done) | (go_simp; rfl)); intro gb126 hg w32 hbox hb; have n0_ := Aside0.mk (Kd.R_below (Kd.R_elderB (by (with_reducible repeat (first | apply Kd.R_alloc | apply Kd.R_drewN | apply Kd.R_drew)); exact HO120.out) gb126 (Nat.le_of_eq hg.symm)) hb); have n1_ := Aside0.mk (below_step (by repeat (first | (with_reducible first | exact HB.out | apply below_alloc | apply pw_below_drewN | apply below_drew1) | exact HB.out)) hb); have n2_ := Aside0.mk (hbox); have n3_ := Aside0.mk ((by rw [hg]; exact (below_size (by repeat (first | (with_reducible first | exact HB.out | apply below_alloc | apply pw_below_drewN | apply below_drew1) | exact HB.out))) : w.heap.size ≤ gb126)); have n4_ := Aside0.mk ((by rw [hg]; exact (below_size (by repeat (first | (with_reducible first | exact HB.out | apply below_alloc | apply pw_below_drewN | apply below_drew1) | exact HB.out))) : w.heap.size ≤ gb126)); clear HO120; clear HB; have HO120 := n0_; have HB := n1_; have BK126 := n2_; have GW126 := n3_; have GE126 := n4_; clear n0_ n1_ n2_ n3_ n4_; clear hb hbox hg; have hcz33_0 : w32.cell? ⟨gb126, 0, none⟩ = some (.int .u8 0) := (blk_cell BK126.out 0).trans rfl; have hcz33_1 : w32.cell? ⟨gb126, 1, none⟩ = some (.int .i64 0) := (blk_cell BK126.out 1).trans rfl; have hcz33_2 : w32.cell? ⟨gb126, 2, none⟩ = some (.int .u8 0) := (blk_cell BK126.out 2).trans rfl; have hcz33_3 : w32.cell? ⟨gb126, 3, none⟩ = some (.string (⟨#[]⟩ : ByteArray)) := (blk_cell BK126.out 3).trans rfl; have hfz33_0 := blk_frozen BK126.out 0; have hfz33_1 := blk_frozen BK126.out 1; have hfz33_2 := blk_frozen BK126.out 2; have hfz33_3 := blk_frozen BK126.out 3) | ((with_reducible refine gate_callee (f := 48) rfl ?_); refine goesL_ (some 29) rfl rfl Tryd.func48 (by kernel_rfl) rfl #[] rfl (by (try simp only [List.map_toArray, List.map_cons, List.map_nil]); first | done | rfl | (simp only [List.length_drop, List.length_take]; rfl)) ?_; (with_reducible refine (exprs_prefixes.calls  t127 _ A15.out).mono ?_); rintro e w34 ⟨v128, rfl, ho0, hb⟩; refine ⟨_, rfl, ?_⟩; have n0_ := Aside0.mk (Kd.R_elder' (by (with_reducible repeat (first | apply Kd.R_alloc | apply Kd.R_drewN | apply Kd.R_drew)); exact (Kd.R_mono (Kd.R_far (p := ⟨gb126, 3, none⟩) (Kd.R_far (p := ⟨gb126, 2, none⟩) (Kd.R_far (p := ⟨gb126, 1, none⟩) (Kd.R_far (p := ⟨gb126, 0, none⟩) (Kd.R_mono HO120.out (fun k_ hk => (⟨hk, hk.2⟩ : _ ∧ k_ ≠ gb126))) (fun _ hk => hk.2) (.int .u8 t121)) (fun _ hk => hk.2) (.int .i64 t122)) (fun _ hk => hk.2) (.int .u8 t123)) (fun _ hk => hk.2) (.string t124)) (fun _ h_ => h_.1))) (Kd.R_base ho0) hb); have n1_ := Aside0.mk (Kd.R_lower (Kd.R_newB (Kd.R_new' ho0 (Kd.R_lt (by (with_reducible repeat (first | apply Kd.R_alloc | apply Kd.R_drewN | apply Kd.R_drew)); exact (Kd.R_mono (Kd.R_far (p := ⟨gb126, 3, none⟩) (Kd.R_far (p := ⟨gb126, 2, none⟩) (Kd.R_far (p := ⟨gb126, 1, none⟩) (Kd.R_far (p := ⟨gb126, 0, none⟩) (Kd.R_mono HO120.out (fun k_ hk => (⟨hk, hk.2⟩ : _ ∧ k_ ≠ gb126))) (fun _ hk => hk.2) (.int .u8 t121)) (fun _ hk => hk.2) (.int .i64 t122)) (fun _ hk => hk.2) (.int .u8 t123)) (fun _ hk => hk.2) (.string t124)) (fun _ h_ => h_.1))))) (g := gb126) (o := .cells #[.int .u8 t121, .int .i64 t122, .int .u8 t123, .string t124] 83 (0, 0)) (by (with_reducible repeat (first | refine blk_drewN ?_ _ | refine blk_drew ?_ | refine blk_alloc ?_ _)); refine blk_put (cs := #[.int .u8 t121, .int .i64 t122, .int .u8 t123, .string (⟨#[]⟩ : ByteArray)]) ?_ 3 _ rfl; (with_reducible repeat (first | refine blk_drewN ?_ _ | refine blk_drew ?_ | refine blk_alloc ?_ _)); refine blk_put (cs := #[.int .u8 t121, .int .i64 t122, .int .u8 0, .string (⟨#[]⟩ : ByteArray)]) ?_ 2 _ rfl; (with_reducible repeat (first | refine blk_drewN ?_ _ | refine blk_drew ?_ | refine blk_alloc ?_ _)); refine blk_put (cs := #[.int .u8 t121, .int .i64 0, .int .u8 0, .string (⟨#[]⟩ : ByteArray)]) ?_ 1 _ rfl; (with_reducible repeat (first | refine blk_drewN ?_ _ | refine blk_drew ?_ | refine blk_alloc ?_ _)); refine blk_put (cs := #[.int .u8 0, .int .i64 0, .int .u8 0, .string (⟨#[]⟩ : ByteArray)]) ?_ 0 _ rfl; (with_reducible repeat (first | refine blk_drewN ?_ _ | refine blk_drew ?_ | refine blk_alloc ?_ _)); exact BK126.out)) (below_size (by repeat (first | (with_reducible first | exact HB.out | apply below_alloc | apply pw_below_drewN | apply below_drew1 | refine below_set ?_ GE126.out) | exact HB.out)))); have n2_ := Aside0.mk (blk_below (g := gb126) (o := .cells #[.int .u8 t121, .int .i64 t122, .int .u8 t123, .string t124] 83 (0, 0)) (by (with_reducible repeat (first | refine blk_drewN ?_ _ | refine blk_drew ?_ | refine blk_alloc ?_ _)); refine blk_put (cs := #[.int .u8 t121, .int .i64 t122, .int .u8 t123, .string (⟨#[]⟩ : ByteArray)]) ?_ 3 _ rfl; (with_reducible repeat (first | refine blk_drewN ?_ _ | refine blk_drew ?_ | refine blk_alloc ?_ _)); refine blk_put (cs := #[.int .u8 t121, .int .i64 t122, .int .u8 0, .string (⟨#[]⟩ : ByteArray)]) ?_ 2 _ rfl; (with_reducible repeat (first | refine blk_drewN ?_ _ | refine blk_drew ?_ | refine blk_alloc ?_ _)); refine blk_put (cs := #[.int .u8 t121, .int .i64 0, .int .u8 0, .string (⟨#[]⟩ : ByteArray)]) ?_ 1 _ rfl; (with_reducible repeat (first | refine blk_drewN ?_ _ | refine blk_drew ?_ | refine blk_alloc ?_ _)); refine blk_put (cs := #[.int .u8 0, .int .i64 0, .int .u8 0, .string (⟨#[]⟩ : ByteArray)]) ?_ 0 _ rfl; (with_reducible repeat (first | refine blk_drewN ?_ _ | refine blk_drew ?_ | refine blk_alloc ?_ _)); exact BK126.out) hb); have n3_ := Aside0.mk (below_step (by repeat (first | (with_reducible first | exact HB.out | apply below_alloc | apply pw_below_drewN | apply below_drew1 | refine below_set ?_ GE126.out) | exact HB.out)) hb); clear HO120; clear BK126; clear HB; have HO120 := n0_; have HO129 := n1_; have BK126 := n2_; have HB := n3_; clear n0_ n1_ n2_ n3_; (try clear hb); (try clear hb2); (try clear hk); (try clear hi); (try clear ho0); obtain ⟨Ao35, co35, eo35⟩ := Kd.R_slice HO129.out; subst eo35) | ((with_reducible refine gate_callee (f := 44) rfl ?_); refine goesL_ (some 31) rfl rfl Tryd.func44 (by kernel_rfl) rfl #[.slice Ao35 t127.length co35, .int .u8 a0] rfl (by (try simp only [List.map_toArray, List.map_cons, List.map_nil]); first | done | rfl | (simp only [List.length_drop, List.length_take]; rfl)) ?_; (with_reducible refine (exprs_find.calls kj1 _ _ t127 a0 t130 t131 t132 t133 false _ ?side1 ?side2 A16.out).mono ?_); (case side1 => repeat (first | exact (Kd.R_reads' HO129.out).2.2 | (with_reducible refine Kd.C_alloc ?_ _) | (with_reducible refine Kd.C_drewN ?_ _) | (with_reducible refine Kd.C_drew ?_))); (case side2 => exact (Kd.R_reads' HO129.out).2.1); rintro e w36 ⟨rfl, hb⟩; refine ⟨_, rfl, ?_⟩; have n0_ := Aside0.mk (Kd.R_below (by (with_reducible repeat (first | apply Kd.R_alloc | apply Kd.R_drewN | apply Kd.R_drew)); exact HO120.out) hb); have n1_ := Aside0.mk (Kd.R_below (by (with_reducible repeat (first | apply Kd.R_alloc | apply Kd.R_drewN | apply Kd.R_drew)); exact HO129.out) hb); have n2_ := Aside0.mk (blk_below (g := gb126) (o := .cells #[.int .u8 t121, .int .i64 t122, .int .u8 t123, .string t124] 83 (0, 0)) (by (with_reducible repeat (first | refine blk_drewN ?_ _ | refine blk_drew ?_ | refine blk_alloc ?_ _)); exact BK126.out) hb); have n3_ := Aside0.mk (below_step (by repeat (first | (with_reducible first | exact HB.out | apply below_alloc | apply pw_below_drewN | apply below_drew1 | refine below_set ?_ GE126.out) | exact HB.out)) hb); clear HO120; clear HO129; clear BK126; clear HB; have HO120 := n0_; have HO129 := n1_; have BK126 := n2_; have HB := n3_; clear n0_ n1_ n2_ n3_; (try clear hb); (try clear hb2); (try clear hk); (try clear hi)) | ((with_reducible refine gate_dst (N := 5) rfl ?_); refine box_event ?hg (N := 5) ?hd (cs := #[.int .u8 0, .int .i64 0, .int .u8 0, .string (⟨#[]⟩ : ByteArray)]) (t := 83) ?hr ?_; (case hd => rfl); (case hg => rfl); (case hr => first | (go_simp; done) | (go_simp; rfl)); intro gb135 hg w37 hbox hb; have n0_ := Aside0.mk (Kd.R_below (Kd.R_elderB (by (with_reducible repeat (first | apply Kd.R_alloc | apply Kd.R_drewN | apply Kd.R_drew)); exact HO120.out) gb135 (Nat.le_of_eq hg.symm)) hb); have n1_ := Aside0.mk (Kd.R_below (Kd.R_elderB (by (with_reducible repeat (first | apply Kd.R_alloc | apply Kd.R_drewN | apply Kd.R_drew)); exact HO129.out) gb135 (Nat.le_of_eq hg.symm)) hb); have n2_ := Aside0.mk (blk_below (g := gb126) (o := .cells #[.int .u8 t121, .int .i64 t122, .int .u8 t123, .string t124] 83 (0, 0)) (by (with_reducible repeat (first | refine blk_drewN ?_ _ | refine blk_drew ?_ | refine blk_alloc ?_ _)); exact BK126.out) hb); have n3_ := Aside0.mk (below_step (by repeat (first | (with_reducible first | exact HB.out | apply below_alloc | apply pw_below_drewN | apply below_drew1 | refine below_set ?_ GE126.out) | exact HB.out)) hb); have n4_ := Aside0.mk (hbox); have n5_ := Aside0.mk ((by rw [hg]; exact (below_size (by repeat (first | (with_reducible first | exact HB.out | apply below_alloc | apply pw_below_drewN | apply below_drew1 | refine below_set ?_ GE126.out) | exact HB.out))) : w.heap.size ≤ gb135)); have n6_ := Aside0.mk ((by rw [hg]; exact (below_size (by repeat (first | (with_reducible first | exact HB.out | apply below_alloc | apply pw_below_drewN | apply below_drew1 | refine below_set ?_ GE126.out) | exact HB.out))) : w.heap.size ≤ gb135)); have n7_ := Aside0.mk ((by rw [hg]; exact Nat.ne_of_lt (blk_lt (g := gb126) (o := .cells #[.int .u8 t121, .int .i64 t122, .int .u8 t123, .string t124] 83 (0, 0)) (by (with_reducible repeat (first | refine blk_drewN ?_ _ | refine blk_drew ?_ | refine blk_alloc ?_ _)); exact BK126.out)) : gb126 ≠ gb135)); have n8_ := Aside0.mk ((by rw [hg]; exact Nat.ne_of_gt (blk_lt (g := gb126) (o := .cells #[.int .u8 t121, .int .i64 t122, .int .u8 t123, .string t124] 83 (0, 0)) (by (with_reducible repeat (first | refine blk_drewN ?_ _ | refine blk_drew ?_ | refine blk_alloc ?_ _)); exact BK126.out)) : gb135 ≠ gb126)); clear HO120; clear HO129; clear BK126; clear HB; have HO120 := n0_; have HO129 := n1_; have BK126 := n2_; have HB := n3_; have BK135 := n4_; have GW135 := n5_; have GE135 := n6_; have NB126_135 := n7_; have NB135_126 := n8_; clear n0_ n1_ n2_ n3_ n4_ n5_ n6_ n7_ n8_; clear hb hbox hg; have hnb38 := NB135_126.out; have hnc38 := NB126_135.out; have hcz39_0 : w37.cell? ⟨gb135, 0, none⟩ = some (.int .u8 0) := (blk_cell BK135.out 0).trans rfl; have hcz39_1 : w37.cell? ⟨gb135, 1, none⟩ = some (.int .i64 0) := (blk_cell BK135.out 1).trans rfl; have hcz39_2 : w37.cell? ⟨gb135, 2, none⟩ = some (.int .u8 0) := (blk_cell BK135.out 2).trans rfl; have hcz39_3 : w37.cell? ⟨gb135, 3, none⟩ = some (.string (⟨#[]⟩ : ByteArray)) := (blk_cell BK135.out 3).trans rfl; have hfz39_0 := blk_frozen BK135.out 0; have hfz39_1 := blk_frozen BK135.out 1; have hfz39_2 := blk_frozen BK135.out 2; have hfz39_3 := blk_frozen BK135.out 3))
       go_ret
       exact ⟨by first | rfl | (simp [errW_none, errW_some] <;> rfl) | (simp [*, errW_none, errW_some] <;> rfl), by repeat (first | (with_reducible first | exact HB.out | apply below_alloc | apply pw_below_drewN | apply below_drew1 | refine below_set ?_ GE126.out | refine below_set ?_ GE135.out) | exact HB.out)⟩

/-! ### tokens_Name: function 57 -/
-- BY HAND: function 57 (tokens_Name)

-- NOT PRINTED: function 33 (exprs_check)

/-! ### exprs_Check: function 14 -/
-- BY HAND: function 14 (exprs_Check)

-- NOT PRINTED: function 46 (exprs_form_asks)

/-! ### exprs_rankOf: function 70 -/
def exprs_rankOf.f (k : Nat) (a0 : Int) : Option (Int) := if a0 = 17 then (some 0) else ((exprs_pairs.f).bind fun t136 => ((exprs_find.f k t136 a0).bind fun bt139 => (if bt139.2.2.2.2 = true then (some bt139.2.1) else ((exprs_prefixes.f).bind fun t145 => ((exprs_find.f k t145 a0).bind fun bt148 => (some bt148.2.1))))))
theorem exprs_rankOf.mono : ∀ a0 k, LeO (exprs_rankOf.f k a0) (exprs_rankOf.f (k + 1) a0) := by
 intro a0 k
 unfold exprs_rankOf.f
 repeat' first
   | (with_reducible exact exprs_find.mono _ _ _)
   | (with_reducible exact LeO.refl _)
   | (with_reducible exact LeO.none _)
   | (with_reducible refine LeO.ite ?_ ?_)
   | (with_reducible refine LeO.bind ?_ (fun _ => ?_))
   | exact exprs_find.mono _ _ _
   | exact LeO.none _
   | refine LeO.ite ?_ ?_
   | refine LeO.bind ?_ (fun _ => ?_)
set_option maxHeartbeats 8000000 in
set_option maxRecDepth 100000 in
theorem exprs_rankOf.calls (k : Nat) (a0 : Int) (r : Int) (w : World) (h : exprs_rankOf.f k a0 = some r) :
  Calls Tryd.prog 70 #[.int .u8 a0] w fun e w' => e = .returned (.int .i64 r) ∧ Below w.heap.size w w' := by
 have hu83 := Tryd.underlying83
 have HB := Aside0.mk (Below.refl w.heap.size w)
 have H : (if a0 = 17 then (some 0) else ((exprs_pairs.f).bind fun t136 => ((exprs_find.f k t136 a0).bind fun bt139 => (if bt139.2.2.2.2 = true then (some bt139.2.1) else ((exprs_prefixes.f).bind fun t145 => ((exprs_find.f k t145 a0).bind fun bt148 => (some bt148.2.1))))))) = some r := h
 clear h
 by_cases c2 : a0 = 17
 ·rw [if_pos c2] at H
  have c2b0 : (a0 == 17) = true := beq_iff_eq.mpr c2
  have c2b1 : (a0 != 17) = false := bne_eq_false_iff_eq.mpr c2
  clear c2
  obtain rfl := Option.some.inj H
  go_enter Tryd.func70, Tryd.ntmps70
  go_wp2
  go_ret
  exact ⟨by first | rfl | (simp [errW_none, errW_some] <;> rfl) | (simp [*, errW_none, errW_some] <;> rfl), by repeat (first | (with_reducible first | exact HB.out | apply below_alloc | apply pw_below_drewN | apply below_drew1) | exact HB.out)⟩
 ·rw [if_neg c2] at H
  have c2b0 : (a0 == 17) = false := beq_eq_false_iff_ne.mpr c2
  have c2b1 : (a0 != 17) = true := bne_iff_ne.mpr c2
  replace H := Option.bind_eq_some_iff.mp H
  obtain ⟨t136, A30, H⟩ := H
  replace H : ((exprs_find.f k t136 a0).bind fun bt139 => (if bt139.2.2.2.2 = true then (some bt139.2.1) else ((exprs_prefixes.f).bind fun t145 => ((exprs_find.f k t145 a0).bind fun bt148 => (some bt148.2.1))))) = some r := H
  have A3 := Aside0.mk A30
  clear A30
  replace H := Option.bind_eq_some_iff.mp H
  obtain ⟨⟨t139, t140, t141, t142, t143⟩, A40, H⟩ := H
  replace H : (if t143 = true then (some t140) else ((exprs_prefixes.f).bind fun t145 => ((exprs_find.f k t145 a0).bind fun bt148 => (some bt148.2.1)))) = some r := H
  have A4 := Aside0.mk A40
  clear A40
  by_cases c5 : t143 = true
  ·subst c5
   have H1 : (some t140) = some r := by rw [if_pos rfl] at H; exact H
   clear H
   have H := H1
   clear H1
   obtain rfl := Option.some.inj H
   go_enter Tryd.func70, Tryd.ntmps70
   go_wp2_with (first | ((with_reducible refine gate_callee (f := 45) rfl ?_); refine goesL_ (some 8) rfl rfl Tryd.func45 (by kernel_rfl) rfl #[] rfl (by (try simp only [List.map_toArray, List.map_cons, List.map_nil]); first | done | rfl | (simp only [List.length_drop, List.length_take]; rfl)) ?_; (with_reducible refine (exprs_pairs.calls  t136 _ A3.out).mono ?_); rintro e w6 ⟨v137, rfl, ho0, hb⟩; refine ⟨_, rfl, ?_⟩; have n0_ := Aside0.mk (Kd.R_lower ho0 (below_size (by repeat (first | (with_reducible first | exact HB.out | apply below_alloc | apply pw_below_drewN | apply below_drew1) | exact HB.out)))); have n1_ := Aside0.mk (below_step (by repeat (first | (with_reducible first | exact HB.out | apply below_alloc | apply pw_below_drewN | apply below_drew1) | exact HB.out)) hb); clear HB; have HO138 := n0_; have HB := n1_; clear n0_ n1_; (try clear hb); (try clear hb2); (try clear hk); (try clear hi); (try clear ho0); obtain ⟨Ao7, co7, eo7⟩ := Kd.R_slice HO138.out; subst eo7) | ((with_reducible refine gate_callee (f := 44) rfl ?_); refine goesL_ (some 10) rfl rfl Tryd.func44 (by kernel_rfl) rfl #[.slice Ao7 t136.length co7, .int .u8 a0] rfl (by (try simp only [List.map_toArray, List.map_cons, List.map_nil]); first | done | rfl | (simp only [List.length_drop, List.length_take]; rfl)) ?_; (with_reducible refine (exprs_find.calls k _ _ t136 a0 t139 t140 t141 t142 true _ ?side1 ?side2 A4.out).mono ?_); (case side1 => repeat (first | exact (Kd.R_reads' HO138.out).2.2 | (with_reducible refine Kd.C_alloc ?_ _) | (with_reducible refine Kd.C_drewN ?_ _) | (with_reducible refine Kd.C_drew ?_))); (case side2 => exact (Kd.R_reads' HO138.out).2.1); rintro e w8 ⟨rfl, hb⟩; refine ⟨_, rfl, ?_⟩; have n0_ := Aside0.mk (Kd.R_below (by (with_reducible repeat (first | apply Kd.R_alloc | apply Kd.R_drewN | apply Kd.R_drew)); exact HO138.out) hb); have n1_ := Aside0.mk (below_step (by repeat (first | (with_reducible first | exact HB.out | apply below_alloc | apply pw_below_drewN | apply below_drew1) | exact HB.out)) hb); clear HO138; clear HB; have HO138 := n0_; have HB := n1_; clear n0_ n1_; (try clear hb); (try clear hb2); (try clear hk); (try clear hi)) | ((with_reducible refine gate_dst (N := 3) rfl ?_); refine box_event ?hg (N := 3) ?hd (cs := #[.int .u8 0, .int .i64 0, .int .u8 0, .string (⟨#[]⟩ : ByteArray)]) (t := 83) ?hr ?_; (case hd => rfl); (case hg => rfl); (case hr => first | (go_simp; done) | (go_simp; rfl)); intro gb144 hg w9 hbox hb; have n0_ := Aside0.mk (Kd.R_below (Kd.R_elderB (by (with_reducible repeat (first | apply Kd.R_alloc | apply Kd.R_drewN | apply Kd.R_drew)); exact HO138.out) gb144 (Nat.le_of_eq hg.symm)) hb); have n1_ := Aside0.mk (below_step (by repeat (first | (with_reducible first | exact HB.out | apply below_alloc | apply pw_below_drewN | apply below_drew1) | exact HB.out)) hb); have n2_ := Aside0.mk (hbox); have n3_ := Aside0.mk ((by rw [hg]; exact (below_size (by repeat (first | (with_reducible first | exact HB.out | apply below_alloc | apply pw_below_drewN | apply below_drew1) | exact HB.out))) : w.heap.size ≤ gb144)); have n4_ := Aside0.mk ((by rw [hg]; exact (below_size (by repeat (first | (with_reducible first | exact HB.out | apply below_alloc | apply pw_below_drewN | apply below_drew1) | exact HB.out))) : w.heap.size ≤ gb144)); clear HO138; clear HB; have HO138 := n0_; have HB := n1_; have BK144 := n2_; have GW144 := n3_; have GE144 := n4_; clear n0_ n1_ n2_ n3_ n4_; clear hb hbox hg; have hcz10_0 : w9.cell? ⟨gb144, 0, none⟩ = some (.int .u8 0) := (blk_cell BK144.out 0).trans rfl; have hcz10_1 : w9.cell? ⟨gb144, 1, none⟩ = some (.int .i64 0) := (blk_cell BK144.out 1).trans rfl; have hcz10_2 : w9.cell? ⟨gb144, 2, none⟩ = some (.int .u8 0) := (blk_cell BK144.out 2).trans rfl; have hcz10_3 : w9.cell? ⟨gb144, 3, none⟩ = some (.string (⟨#[]⟩ : ByteArray)) := (blk_cell BK144.out 3).trans rfl; have hfz10_0 := blk_frozen BK144.out 0; have hfz10_1 := blk_frozen BK144.out 1; have hfz10_2 := blk_frozen BK144.out 2; have hfz10_3 := blk_frozen BK144.out 3))
   go_ret
   exact ⟨by first | rfl | (simp [errW_none, errW_some] <;> rfl) | (simp [*, errW_none, errW_some] <;> rfl), by repeat (first | (with_reducible first | exact HB.out | apply below_alloc | apply pw_below_drewN | apply below_drew1 | refine below_set ?_ GE144.out) | exact HB.out)⟩
  ·replace c5 := Bool.eq_false_iff.mpr c5
   subst c5
   have H1 : ((exprs_prefixes.f).bind fun t145 => ((exprs_find.f k t145 a0).bind fun bt148 => (some bt148.2.1))) = some r := by rw [if_neg (show ¬ (false = true) by decide)] at H; exact H
   clear H
   have H := H1
   clear H1
   replace H := Option.bind_eq_some_iff.mp H
   obtain ⟨t145, A110, H⟩ := H
   replace H : ((exprs_find.f k t145 a0).bind fun bt148 => (some bt148.2.1)) = some r := H
   have A11 := Aside0.mk A110
   clear A110
   replace H := Option.bind_eq_some_iff.mp H
   obtain ⟨⟨t148, t149, t150, t151, t152⟩, A120, H⟩ := H
   replace H : (some t149) = some r := H
   have A12 := Aside0.mk A120
   clear A120
   obtain rfl := Option.some.inj H
   go_enter Tryd.func70, Tryd.ntmps70
   go_wp2_with (first | ((with_reducible refine gate_callee (f := 45) rfl ?_); refine goesL_ (some 8) rfl rfl Tryd.func45 (by kernel_rfl) rfl #[] rfl (by (try simp only [List.map_toArray, List.map_cons, List.map_nil]); first | done | rfl | (simp only [List.length_drop, List.length_take]; rfl)) ?_; (with_reducible refine (exprs_pairs.calls  t136 _ A3.out).mono ?_); rintro e w13 ⟨v137, rfl, ho0, hb⟩; refine ⟨_, rfl, ?_⟩; have n0_ := Aside0.mk (Kd.R_lower ho0 (below_size (by repeat (first | (with_reducible first | exact HB.out | apply below_alloc | apply pw_below_drewN | apply below_drew1) | exact HB.out)))); have n1_ := Aside0.mk (below_step (by repeat (first | (with_reducible first | exact HB.out | apply below_alloc | apply pw_below_drewN | apply below_drew1) | exact HB.out)) hb); clear HB; have HO138 := n0_; have HB := n1_; clear n0_ n1_; (try clear hb); (try clear hb2); (try clear hk); (try clear hi); (try clear ho0); obtain ⟨Ao14, co14, eo14⟩ := Kd.R_slice HO138.out; subst eo14) | ((with_reducible refine gate_callee (f := 44) rfl ?_); refine goesL_ (some 10) rfl rfl Tryd.func44 (by kernel_rfl) rfl #[.slice Ao14 t136.length co14, .int .u8 a0] rfl (by (try simp only [List.map_toArray, List.map_cons, List.map_nil]); first | done | rfl | (simp only [List.length_drop, List.length_take]; rfl)) ?_; (with_reducible refine (exprs_find.calls k _ _ t136 a0 t139 t140 t141 t142 false _ ?side1 ?side2 A4.out).mono ?_); (case side1 => repeat (first | exact (Kd.R_reads' HO138.out).2.2 | (with_reducible refine Kd.C_alloc ?_ _) | (with_reducible refine Kd.C_drewN ?_ _) | (with_reducible refine Kd.C_drew ?_))); (case side2 => exact (Kd.R_reads' HO138.out).2.1); rintro e w15 ⟨rfl, hb⟩; refine ⟨_, rfl, ?_⟩; have n0_ := Aside0.mk (Kd.R_below (by (with_reducible repeat (first | apply Kd.R_alloc | apply Kd.R_drewN | apply Kd.R_drew)); exact HO138.out) hb); have n1_ := Aside0.mk (below_step (by repeat (first | (with_reducible first | exact HB.out | apply below_alloc | apply pw_below_drewN | apply below_drew1) | exact HB.out)) hb); clear HO138; clear HB; have HO138 := n0_; have HB := n1_; clear n0_ n1_; (try clear hb); (try clear hb2); (try clear hk); (try clear hi)) | ((with_reducible refine gate_dst (N := 3) rfl ?_); refine box_event ?hg (N := 3) ?hd (cs := #[.int .u8 0, .int .i64 0, .int .u8 0, .string (⟨#[]⟩ : ByteArray)]) (t := 83) ?hr ?_; (case hd => rfl); (case hg => rfl); (case hr => first | (go_simp; done) | (go_simp; rfl)); intro gb144 hg w16 hbox hb; have n0_ := Aside0.mk (Kd.R_below (Kd.R_elderB (by (with_reducible repeat (first | apply Kd.R_alloc | apply Kd.R_drewN | apply Kd.R_drew)); exact HO138.out) gb144 (Nat.le_of_eq hg.symm)) hb); have n1_ := Aside0.mk (below_step (by repeat (first | (with_reducible first | exact HB.out | apply below_alloc | apply pw_below_drewN | apply below_drew1) | exact HB.out)) hb); have n2_ := Aside0.mk (hbox); have n3_ := Aside0.mk ((by rw [hg]; exact (below_size (by repeat (first | (with_reducible first | exact HB.out | apply below_alloc | apply pw_below_drewN | apply below_drew1) | exact HB.out))) : w.heap.size ≤ gb144)); have n4_ := Aside0.mk ((by rw [hg]; exact (below_size (by repeat (first | (with_reducible first | exact HB.out | apply below_alloc | apply pw_below_drewN | apply below_drew1) | exact HB.out))) : w.heap.size ≤ gb144)); clear HO138; clear HB; have HO138 := n0_; have HB := n1_; have BK144 := n2_; have GW144 := n3_; have GE144 := n4_; clear n0_ n1_ n2_ n3_ n4_; clear hb hbox hg; have hcz17_0 : w16.cell? ⟨gb144, 0, none⟩ = some (.int .u8 0) := (blk_cell BK144.out 0).trans rfl; have hcz17_1 : w16.cell? ⟨gb144, 1, none⟩ = some (.int .i64 0) := (blk_cell BK144.out 1).trans rfl; have hcz17_2 : w16.cell? ⟨gb144, 2, none⟩ = some (.int .u8 0) := (blk_cell BK144.out 2).trans rfl; have hcz17_3 : w16.cell? ⟨gb144, 3, none⟩ = some (.string (⟨#[]⟩ : ByteArray)) := (blk_cell BK144.out 3).trans rfl; have hfz17_0 := blk_frozen BK144.out 0; have hfz17_1 := blk_frozen BK144.out 1; have hfz17_2 := blk_frozen BK144.out 2; have hfz17_3 := blk_frozen BK144.out 3) | ((with_reducible refine gate_callee (f := 48) rfl ?_); refine goesL_ (some 16) rfl rfl Tryd.func48 (by kernel_rfl) rfl #[] rfl (by (try simp only [List.map_toArray, List.map_cons, List.map_nil]); first | done | rfl | (simp only [List.length_drop, List.length_take]; rfl)) ?_; (with_reducible refine (exprs_prefixes.calls  t145 _ A11.out).mono ?_); rintro e w18 ⟨v146, rfl, ho0, hb⟩; refine ⟨_, rfl, ?_⟩; have n0_ := Aside0.mk (Kd.R_elder' (by (with_reducible repeat (first | apply Kd.R_alloc | apply Kd.R_drewN | apply Kd.R_drew)); exact (Kd.R_mono (Kd.R_far (p := ⟨gb144, 3, none⟩) (Kd.R_far (p := ⟨gb144, 2, none⟩) (Kd.R_far (p := ⟨gb144, 1, none⟩) (Kd.R_far (p := ⟨gb144, 0, none⟩) (Kd.R_mono HO138.out (fun k_ hk => (⟨hk, hk.2⟩ : _ ∧ k_ ≠ gb144))) (fun _ hk => hk.2) (.int .u8 t139)) (fun _ hk => hk.2) (.int .i64 t140)) (fun _ hk => hk.2) (.int .u8 t141)) (fun _ hk => hk.2) (.string t142)) (fun _ h_ => h_.1))) (Kd.R_base ho0) hb); have n1_ := Aside0.mk (Kd.R_lower (Kd.R_newB (Kd.R_new' ho0 (Kd.R_lt (by (with_reducible repeat (first | apply Kd.R_alloc | apply Kd.R_drewN | apply Kd.R_drew)); exact (Kd.R_mono (Kd.R_far (p := ⟨gb144, 3, none⟩) (Kd.R_far (p := ⟨gb144, 2, none⟩) (Kd.R_far (p := ⟨gb144, 1, none⟩) (Kd.R_far (p := ⟨gb144, 0, none⟩) (Kd.R_mono HO138.out (fun k_ hk => (⟨hk, hk.2⟩ : _ ∧ k_ ≠ gb144))) (fun _ hk => hk.2) (.int .u8 t139)) (fun _ hk => hk.2) (.int .i64 t140)) (fun _ hk => hk.2) (.int .u8 t141)) (fun _ hk => hk.2) (.string t142)) (fun _ h_ => h_.1))))) (g := gb144) (o := .cells #[.int .u8 t139, .int .i64 t140, .int .u8 t141, .string t142] 83 (0, 0)) (by (with_reducible repeat (first | refine blk_drewN ?_ _ | refine blk_drew ?_ | refine blk_alloc ?_ _)); refine blk_put (cs := #[.int .u8 t139, .int .i64 t140, .int .u8 t141, .string (⟨#[]⟩ : ByteArray)]) ?_ 3 _ rfl; (with_reducible repeat (first | refine blk_drewN ?_ _ | refine blk_drew ?_ | refine blk_alloc ?_ _)); refine blk_put (cs := #[.int .u8 t139, .int .i64 t140, .int .u8 0, .string (⟨#[]⟩ : ByteArray)]) ?_ 2 _ rfl; (with_reducible repeat (first | refine blk_drewN ?_ _ | refine blk_drew ?_ | refine blk_alloc ?_ _)); refine blk_put (cs := #[.int .u8 t139, .int .i64 0, .int .u8 0, .string (⟨#[]⟩ : ByteArray)]) ?_ 1 _ rfl; (with_reducible repeat (first | refine blk_drewN ?_ _ | refine blk_drew ?_ | refine blk_alloc ?_ _)); refine blk_put (cs := #[.int .u8 0, .int .i64 0, .int .u8 0, .string (⟨#[]⟩ : ByteArray)]) ?_ 0 _ rfl; (with_reducible repeat (first | refine blk_drewN ?_ _ | refine blk_drew ?_ | refine blk_alloc ?_ _)); exact BK144.out)) (below_size (by repeat (first | (with_reducible first | exact HB.out | apply below_alloc | apply pw_below_drewN | apply below_drew1 | refine below_set ?_ GE144.out) | exact HB.out)))); have n2_ := Aside0.mk (blk_below (g := gb144) (o := .cells #[.int .u8 t139, .int .i64 t140, .int .u8 t141, .string t142] 83 (0, 0)) (by (with_reducible repeat (first | refine blk_drewN ?_ _ | refine blk_drew ?_ | refine blk_alloc ?_ _)); refine blk_put (cs := #[.int .u8 t139, .int .i64 t140, .int .u8 t141, .string (⟨#[]⟩ : ByteArray)]) ?_ 3 _ rfl; (with_reducible repeat (first | refine blk_drewN ?_ _ | refine blk_drew ?_ | refine blk_alloc ?_ _)); refine blk_put (cs := #[.int .u8 t139, .int .i64 t140, .int .u8 0, .string (⟨#[]⟩ : ByteArray)]) ?_ 2 _ rfl; (with_reducible repeat (first | refine blk_drewN ?_ _ | refine blk_drew ?_ | refine blk_alloc ?_ _)); refine blk_put (cs := #[.int .u8 t139, .int .i64 0, .int .u8 0, .string (⟨#[]⟩ : ByteArray)]) ?_ 1 _ rfl; (with_reducible repeat (first | refine blk_drewN ?_ _ | refine blk_drew ?_ | refine blk_alloc ?_ _)); refine blk_put (cs := #[.int .u8 0, .int .i64 0, .int .u8 0, .string (⟨#[]⟩ : ByteArray)]) ?_ 0 _ rfl; (with_reducible repeat (first | refine blk_drewN ?_ _ | refine blk_drew ?_ | refine blk_alloc ?_ _)); exact BK144.out) hb); have n3_ := Aside0.mk (below_step (by repeat (first | (with_reducible first | exact HB.out | apply below_alloc | apply pw_below_drewN | apply below_drew1 | refine below_set ?_ GE144.out) | exact HB.out)) hb); clear HO138; clear BK144; clear HB; have HO138 := n0_; have HO147 := n1_; have BK144 := n2_; have HB := n3_; clear n0_ n1_ n2_ n3_; (try clear hb); (try clear hb2); (try clear hk); (try clear hi); (try clear ho0); obtain ⟨Ao19, co19, eo19⟩ := Kd.R_slice HO147.out; subst eo19) | ((with_reducible refine gate_callee (f := 44) rfl ?_); refine goesL_ (some 18) rfl rfl Tryd.func44 (by kernel_rfl) rfl #[.slice Ao19 t145.length co19, .int .u8 a0] rfl (by (try simp only [List.map_toArray, List.map_cons, List.map_nil]); first | done | rfl | (simp only [List.length_drop, List.length_take]; rfl)) ?_; (with_reducible refine (exprs_find.calls k _ _ t145 a0 t148 t149 t150 t151 t152 _ ?side1 ?side2 A12.out).mono ?_); (case side1 => repeat (first | exact (Kd.R_reads' HO147.out).2.2 | (with_reducible refine Kd.C_alloc ?_ _) | (with_reducible refine Kd.C_drewN ?_ _) | (with_reducible refine Kd.C_drew ?_))); (case side2 => exact (Kd.R_reads' HO147.out).2.1); rintro e w20 ⟨rfl, hb⟩; refine ⟨_, rfl, ?_⟩; have n0_ := Aside0.mk (Kd.R_below (by (with_reducible repeat (first | apply Kd.R_alloc | apply Kd.R_drewN | apply Kd.R_drew)); exact HO138.out) hb); have n1_ := Aside0.mk (Kd.R_below (by (with_reducible repeat (first | apply Kd.R_alloc | apply Kd.R_drewN | apply Kd.R_drew)); exact HO147.out) hb); have n2_ := Aside0.mk (blk_below (g := gb144) (o := .cells #[.int .u8 t139, .int .i64 t140, .int .u8 t141, .string t142] 83 (0, 0)) (by (with_reducible repeat (first | refine blk_drewN ?_ _ | refine blk_drew ?_ | refine blk_alloc ?_ _)); exact BK144.out) hb); have n3_ := Aside0.mk (below_step (by repeat (first | (with_reducible first | exact HB.out | apply below_alloc | apply pw_below_drewN | apply below_drew1 | refine below_set ?_ GE144.out) | exact HB.out)) hb); clear HO138; clear HO147; clear BK144; clear HB; have HO138 := n0_; have HO147 := n1_; have BK144 := n2_; have HB := n3_; clear n0_ n1_ n2_ n3_; (try clear hb); (try clear hb2); (try clear hk); (try clear hi); have hcz21_0 : w20.cell? ⟨gb144, 0, none⟩ = some (.int .u8 t139) := (blk_cell BK144.out 0).trans rfl; have hcz21_1 : w20.cell? ⟨gb144, 1, none⟩ = some (.int .i64 t140) := (blk_cell BK144.out 1).trans rfl; have hcz21_2 : w20.cell? ⟨gb144, 2, none⟩ = some (.int .u8 t141) := (blk_cell BK144.out 2).trans rfl; have hcz21_3 : w20.cell? ⟨gb144, 3, none⟩ = some (.string t142) := (blk_cell BK144.out 3).trans rfl; have hfz21_0 := blk_frozen BK144.out 0; have hfz21_1 := blk_frozen BK144.out 1; have hfz21_2 := blk_frozen BK144.out 2; have hfz21_3 := blk_frozen BK144.out 3))
   go_ret
   exact ⟨by first | rfl | (simp [errW_none, errW_some] <;> rfl) | (simp [*, errW_none, errW_some] <;> rfl), by repeat (first | (with_reducible first | exact HB.out | apply below_alloc | apply pw_below_drewN | apply below_drew1 | refine below_set ?_ GE144.out) | exact HB.out)⟩

-- in a group: function 47 (exprs_part)

/-! ### strings_HasPrefix: function 49 -/
-- BY HAND: function 49 (strings_HasPrefix)

/-! ### strconv_FormatInt: function 50 -/
-- BY HAND: function 50 (strconv_FormatInt)

/-! ### strconv_FormatBool: function 51 -/
-- BY HAND: function 51 (strconv_FormatBool)

-- NOT PRINTED: function 31 (exprs_write)

/-! ### exprs_Text: function 12 -/
-- BY HAND: function 12 (exprs_Text)

end Go.Proofs.YtbdciibbgiphcaaDoor.V

/- Operators among forms, how many parts an operator has, its rank: what the printed functions compute. -/
namespace Go.Proofs.YtbdciibbgiphcaaDoor.V
set_option linter.unusedVariables false
set_option linter.unusedSimpArgs false
set_option linter.unusedSectionVars false
open Go.RowKit Go.Proofs.YtbdciibbgiphcaaDoorW.PrintWords Go.Proofs.YtbdciibbgiphcaaDoorW.PrintLast Go.Proofs.YtbdciibbgiphcaaDoorW.PrintMore
def foundF : Option S83 → Int × Int × Int × ByteArray × Bool
 | some f => (f.f0, f.f1, f.f2, f.f3, true)
 | none => (0, 7, 0, ⟨#[]⟩, false)
theorem rdT83 (l : List S83) (i : Nat) (h : i < l.length) : rd_T83 l (i : Int) = l[i] := by
 show l.getD i z83 = _
 rw [List.getD_eq_getElem?_getD, List.getElem?_eq_getElem h]; rfl
theorem findL_cons (x : S83) (r : List S83) (o : Int) : findL (x :: r) o = if x.f0 = o then some x else findL r o := by
 unfold findL
 rw [List.find?_cons]
 by_cases h : x.f0 = o
 ·rw [if_pos h, decide_eq_true h]
 ·rw [if_neg h, decide_eq_false h]
theorem find_loop (l : List S83) (o : Int) (hl : l.length ≤ 1000) : ∀ d i, i + d = l.length → Ev (fun k => exprs_find.l0 k o l (l.length : Int) i) (foundF (findL (l.drop i) o))
 | 0, i, hi => by
  rw [List.drop_eq_nil_of_le (by omega)]
  refine Ev.step (fun k => ?_) (Ev.now _)
  simp only [exprs_find.l0]
  rw [if_neg (by omega)]
  rfl
 | d + 1, i, hi => by
  have hlt : i < l.length := by omega
  rw [List.drop_eq_getElem_cons hlt, findL_cons]
  by_cases he : (l[i]).f0 = o
  ·rw [if_pos he]
   refine Ev.step (fun k => ?_) (Ev.now _)
   simp only [exprs_find.l0]
   rw [if_pos (by omega), if_pos (by omega), if_pos (by omega), rdT83 l i hlt, if_pos he]
   rfl
  ·rw [if_neg he]
   refine Ev.step (fun k => ?_) (find_loop l o hl d (i + 1) (by omega))
   simp only [exprs_find.l0]
   rw [if_pos (by omega), if_pos (by omega), if_pos (by omega), rdT83 l i hlt, if_neg he, w64 (by omega) (by omega)]
   rfl
theorem find_ev (l : List S83) (o : Int) (hl : l.length ≤ 1000) : Ev (fun k => exprs_find.f k l o) (foundF (findL l o)) :=
 Ev.congr (fun k => by simp only [exprs_find.f]; rfl) (find_loop l o hl l.length 0 (by omega))
theorem pairs_f : exprs_pairs.f = some pairsL := rfl
theorem prefixes_f : exprs_prefixes.f = some prefL := rfl
theorem foundF_b (x : Option S83) : (foundF x).2.2.2.2 = x.isSome := by cases x <;> rfl
theorem parts_tail (o : Int) (h1 : o ≠ 17) : Ev (fun k => (exprs_pairs.f).bind fun t118 => ((exprs_find.f k t118 o).bind fun bt121 => (if bt121.2.2.2.2 = true then (some (2 : Int)) else ((exprs_prefixes.f).bind fun t127 => ((exprs_find.f k t127 o).bind fun bt130 => (if bt130.2.2.2.2 = true then (some 1) else (some (-1)))))))) (if (findL pairsL o).isSome then 2 else if (findL prefL o).isSome then 1 else -1) := by
 rw [pairs_f, prefixes_f]
 simp only [Option.bind_some]
 refine Ev.bind (f := fun k bt121 => if bt121.2.2.2.2 = true then (some (2 : Int)) else ((exprs_find.f k prefL o).bind fun bt130 => (if bt130.2.2.2.2 = true then (some 1) else (some (-1))))) (find_ev pairsL o (by decide)) ?_
 simp only [foundF_b]
 cases h : (findL pairsL o).isSome with
 | true => exact Ev.congr (fun k => by rw [if_pos rfl, if_pos rfl]) (Ev.now _)
 | false =>
  refine Ev.congr (f := fun k => (exprs_find.f k prefL o).bind fun bt130 => (if bt130.2.2.2.2 = true then (some (1 : Int)) else (some (-1)))) (fun k => by rw [if_neg (by simp)]) ?_
  refine Ev.bind (f := fun k bt130 => if bt130.2.2.2.2 = true then (some (1 : Int)) else (some (-1))) (find_ev prefL o (by decide)) ?_
  simp only [foundF_b]
  cases h : (findL prefL o).isSome with
  | true => exact Ev.congr (fun k => by simp) (Ev.now _)
  | false => exact Ev.congr (fun k => by simp) (Ev.now _)
theorem parts_j0 (o : Int) (b : Bool) (hb : b = decide (o = 1 ∨ o = 2 ∨ o = 3)) : Ev (fun k => exprs_parts.j0 k o b) (parts o) := by
 unfold parts
 cases b with
 | true =>
  rw [if_pos (of_decide_eq_true hb.symm)]
  exact Ev.step (fun k => by simp [exprs_parts.j0]) (Ev.now _)
 | false =>
  rw [if_neg (of_decide_eq_false hb.symm)]
  by_cases h : o = 17
  ·rw [if_pos h]
   exact Ev.step (fun k => by simp only [exprs_parts.j0]; rw [if_neg (by simp), if_pos h]) (Ev.now _)
  ·rw [if_neg h]
   exact Ev.step (fun k => by simp only [exprs_parts.j0]; rw [if_neg (by simp), if_neg h]) (parts_tail o h)
theorem parts_ev (o : Int) : Ev (fun k => exprs_parts.f k o) (parts o) := by
 by_cases h1 : o = 1
 ·exact Ev.congr (fun k => by simp only [exprs_parts.f]; rw [if_pos h1]) (parts_j0 o true (by simp [h1]))
 ·by_cases h2 : o = 2
  ·exact Ev.congr (fun k => by simp only [exprs_parts.f]; rw [if_neg h1, if_pos h2]) (parts_j0 o true (by simp [h2]))
  ·exact Ev.congr (fun k => by simp only [exprs_parts.f]; rw [if_neg h1, if_neg h2]) (parts_j0 o (o == 3) (by by_cases h3 : o = 3 <;> simp [h1, h2, h3]))
theorem rankOf_ev (o : Int) : Ev (fun k => exprs_rankOf.f k o) (rankOf o) := by
 unfold rankOf
 by_cases h : o = 17
 ·rw [if_pos h]
  exact Ev.congr (fun k => by simp only [exprs_rankOf.f]; rw [if_pos h]) (Ev.now _)
 ·rw [if_neg h]
  refine Ev.congr (f := fun k => (exprs_find.f k pairsL o).bind fun bt140 => (if bt140.2.2.2.2 = true then (some bt140.2.1) else ((exprs_find.f k prefL o).bind fun bt149 => (some bt149.2.1)))) (fun k => by simp only [exprs_rankOf.f]; rw [if_neg h, pairs_f, prefixes_f, Option.bind_some]; rfl) ?_
  refine Ev.bind (f := fun k bt140 => if bt140.2.2.2.2 = true then (some bt140.2.1) else ((exprs_find.f k prefL o).bind fun bt149 => (some bt149.2.1))) (find_ev pairsL o (by decide)) ?_
  cases h1 : findL pairsL o with
  | some f => exact Ev.congr (fun k => by simp [foundF]) (Ev.now f.f1)
  | none =>
   refine Ev.congr (f := fun k => (exprs_find.f k prefL o).bind fun bt149 => (some bt149.2.1)) (fun k => by simp [foundF]) ?_
   refine Ev.bind (f := fun k bt149 => some bt149.2.1) (find_ev prefL o (by decide)) ?_
   cases h2 : findL prefL o with
   | some f => exact Ev.now f.f1
   | none => exact Ev.now 7
theorem parts_any (o : Int) (w : World) : Calls Tryd.prog 56 #[.int .u8 o] w fun e w' => e = .returned (.int .i64 (parts o)) ∧ Below w.heap.size w w' := by
 obtain ⟨k, h⟩ := (parts_ev o).rounds
 exact exprs_parts.calls k o _ w h
theorem rankOf_any (o : Int) (w : World) : Calls Tryd.prog 70 #[.int .u8 o] w fun e w' => e = .returned (.int .i64 (rankOf o)) ∧ Below w.heap.size w w' := by
 obtain ⟨k, h⟩ := (rankOf_ev o).rounds
 exact exprs_rankOf.calls k o _ w h
end Go.Proofs.YtbdciibbgiphcaaDoor.V

/- exprs.check, exprs.Check: walks. -/
namespace Go.Proofs.YtbdciibbgiphcaaDoor.V
set_option linter.unusedVariables false
set_option linter.unusedSimpArgs false
set_option linter.unusedSectionVars false
open Go.RowKit Go.Proofs.YtbdciibbgiphcaaDoorW.PrintWords Go.Proofs.YtbdciibbgiphcaaDoorW.PrintLast Go.Proofs.YtbdciibbgiphcaaDoorW.PrintMore
/-- tokens.Name answers nm. -/
def NameIs (nm : ByteArray → Bool) : Prop := ∀ s w, Calls Tryd.prog 57 #[.string s] w fun e w' => e = .returned (.bool (nm s)) ∧ Below w.heap.size w w'
/-- the counter's block. -/
def Cnt (w : World) (lb : Nat) (l : Int) : Prop := w.heap[lb]? = some (.cells #[.int .i64 l] 3 (0, 0))
theorem Cnt.cell {w : World} {lb : Nat} {l : Int} (h : Cnt w lb l) : w.cell? ⟨lb, 0, none⟩ = some (.int .i64 l) := by simp [World.cell?, show w.heap[lb]? = _ from h]
theorem Cnt.frozen {w : World} {lb : Nat} {l : Int} (h : Cnt w lb l) : w.frozen? ⟨lb, 0, none⟩ = false := by simp [World.frozen?, show w.heap[lb]? = _ from h]
theorem Cnt.lt {w : World} {lb : Nat} {l : Int} (h : Cnt w lb l) : lb < w.heap.size := (Array.getElem?_eq_some_iff.1 h).1
theorem Cnt.set {w : World} {lb : Nat} {l : Int} (h : Cnt w lb l) (m : Int) : Cnt (w.setCell ⟨lb, 0, none⟩ (.int .i64 m)) lb m := by
 unfold Cnt
 simp [World.setCell, show w.heap[lb]? = _ from h, Array.getElem?_modify]
theorem Cnt.below {w w' : World} {lb : Nat} {l : Int} (h : Cnt w lb l) (hb : Below w.heap.size w w') : Cnt w' lb l := (hb.block lb h.lt).trans h
def CheckPost (nm : ByteArray → Bool) (d : Nat) (x : S25) (l : Int) (lb : Nat) (w0 w : World) (e : Ending) (w' : World) : Prop :=
 e = .returned (.bool (chk nm d x l).1) ∧ Cnt w' lb (chk nm d x l).2 ∧ Below w0.heap.size w0 w' ∧ w.heap.size ≤ w'.heap.size ∧ w.grownBy w' (some lb)
theorem grown_set (w : World) (g j : Nat) (u : Value) : w.grownBy (w.setCell ⟨g, j, none⟩ u) (some g) :=
 ⟨rfl, rfl, rfl, by simp [World.setCell], fun k _ hk => Below.heap_setCell w ⟨g, j, none⟩ u k (fun e => hk (by rw [e]))⟩
theorem grown_of_below {w w' : World} (h : Below w.heap.size w w') (row : Option Nat) : w.grownBy w' row := ⟨h.os, h.tape, h.output, h.size, fun k hk _ => h.block k hk⟩
theorem cell_lt {w : World} {a : Addr} {u : Value} (h : w.cell? a = some u) : a.block < w.heap.size := by
 rcases Nat.lt_or_ge a.block w.heap.size with h1 | h1
 ·exact h1
 ·simp [World.cell?, Array.getElem?_eq_none h1] at h
theorem keep_cell {B : Nat} {W w2 : World} {a : Addr} {u : Value} (hb : Below B W w2) (hB : W.heap.size ≤ B) (h : W.cell? a = some u) : w2.cell? a = some u := by
 rw [hb.cell (Nat.lt_of_lt_of_le (cell_lt h) hB)]; exact h
theorem rdT25 (l : List S25) (i : Nat) (h : i < l.length) : rd_T25 l (i : Int) = l[i] := by
 show l.getD i z25 = _
 rw [List.getD_eq_getElem?_getD, List.getElem?_eq_getElem h]; rfl
/-- behind the count and the box. -/
structure Ck0 (w0 w wb : World) (lb : Nat) (m : Int) : Prop where
 cnt : Cnt wb lb m
 bel : Below w0.heap.size w0 wb
 sz : w.heap.size < wb.heap.size
 gr : w.grownBy wb (some lb)
theorem Ck0.post {nm : ByteArray → Bool} {d : Nat} {x : S25} {l m : Int} {lb : Nat} {w0 w wb : World} {b : Bool} (h : Ck0 w0 w wb lb m) (hc : chk nm d x l = (b, m)) : CheckPost nm d x l lb w0 w (.returned (.bool b)) wb := by
 refine ⟨by rw [hc], by rw [hc]; exact h.cnt, h.bel, Nat.le_of_lt h.sz, h.gr⟩
theorem Ck0.drewN {w0 w wb : World} {lb : Nat} {m : Int} (h : Ck0 w0 w wb lb m) (n : Nat) : Ck0 w0 w (wb.drewN n) lb m :=
 ⟨h.cnt, pw_below_drewN h.bel n, h.sz, ⟨h.gr.os, h.gr.tape, h.gr.output, h.gr.size, h.gr.block⟩⟩
theorem Ck0.drew {w0 w wb : World} {lb : Nat} {m : Int} (h : Ck0 w0 w wb lb m) : Ck0 w0 w wb.drew lb m :=
 ⟨h.cnt, h.bel.drew, h.sz, ⟨h.gr.os, h.gr.tape, h.gr.output, h.gr.size, h.gr.block⟩⟩
theorem Ck0.next {w0 w wb w2 : World} {lb : Nat} {m : Int} (h : Ck0 w0 w wb lb m) (hb : Below wb.heap.size wb w2) : Ck0 w0 w w2 lb m :=
 ⟨h.cnt.below hb, h.bel.trans (hb.mono h.bel.size), Nat.lt_of_lt_of_le h.sz hb.size, h.gr.trans (grown_of_below hb _)⟩
theorem chk0 (nm : ByteArray → Bool) (x : S25) (l : Int) : chk nm 0 x l = (false, l - 1) := rfl
theorem chkA {nm : ByteArray → Bool} {d : Nat} {x : S25} {l : Int} (h : l - 1 < 0) : chk nm d x l = (false, l - 1) := by
 cases d with
 | zero => rfl
 | succ d => unfold chk; rw [if_pos h]
theorem chkB {nm : ByteArray → Bool} {d : Nat} {x : S25} {l : Int} (h : parts x.f0 ≠ (x.f3.length : Int)) : chk nm d x l = (false, l - 1) := by
 cases d with
 | zero => rfl
 | succ d => unfold chk; rw [if_pos h]; split <;> rfl
theorem chkC {nm : ByteArray → Bool} {d : Nat} {o n : Int} {s : ByteArray} {xs : List S25} {l : Int} (h1 : ¬ l - 1 < 0) (h : parts o = (xs.length : Int)) : chk nm (d + 1) ⟨o, n, s, xs⟩ l =
  if o = 1 then (decide (0 ≤ n) && emp s, l - 1) else if o = 2 then ((decide (n = 0) || decide (n = 1)) && emp s, l - 1) else if o = 3 then (decide (n = 0) && nm s, l - 1)
  else ((chks (chk nm d) xs (l - 1)).1 && (decide (n = 0) && emp s), (chks (chk nm d) xs (l - 1)).2) := by
 rw [chk, if_neg h1, if_neg (fun e => e h)]
theorem box_cells {w : World} {k : Nat} {o n : Int} {s : ByteArray} {v : Value} (h : w.heap[k]? = some (.cells #[.int .u8 o, .int .i64 n, .string s, v] 25 (0, 0))) :
  w.cell? ⟨k, 0, none⟩ = some (.int .u8 o) ∧ w.cell? ⟨k, 1, none⟩ = some (.int .i64 n) ∧ w.cell? ⟨k, 2, none⟩ = some (.string s) ∧ w.cell? ⟨k, 3, none⟩ = some v := by
 simp [World.cell?, h]
set_option maxHeartbeats 8000000 in
set_option maxRecDepth 100000 in
theorem check_walk (nm : ByteArray → Bool) (hnm : NameIs nm) : ∀ (d : Nat) (x : S25) (A : Option Addr) (c lb : Nat) (l : Int) (w0 w : World), d ≤ 32 → 0 ≤ l → l ≤ 200 → x.f3.length ≤ c → Kd.C k25 w0 A x.f3.length x.f3 → Below w0.heap.size w0 w → w0.heap.size ≤ lb → Cnt w lb l →
  Calls Tryd.prog 33 #[.agg #[.int .u8 x.f0, .int .i64 x.f1, .string x.f2, .slice A x.f3.length c], .pointer (some ⟨lb, 0, none⟩), .int .i64 (d : Int)] w (CheckPost nm d x l lb w0 w) := by
 intro d
 induction d with
 | zero =>
  intro x A c lb l w0 w hd hl0 hl1 hlc hC hb hlb hcn
  obtain ⟨o, n, s, xs⟩ := x
  dsimp only at hlc hC ⊢
  have c0 := hcn.cell
  have f0 := hcn.frozen
  have hlt := hcn.lt
  have hk : Ck0 w0 w ((w.setCell ⟨lb, 0, none⟩ (.int .i64 (l - 1))).alloc (.cells #[.int .u8 o, .int .i64 n, .string s, .slice A xs.length c] 25)) lb (l - 1) := by
   refine ⟨(hcn.set (l - 1)).below ((Below.refl _ _).alloc (Nat.le_refl _) _), (hb.setCell (p := ⟨lb, 0, none⟩) hlb _).alloc (by have := hb.size; simp [World.setCell]; omega) _, by simp [World.setCell], (grown_set w lb 0 _).trans (World.grownBy_alloc _ _ _)⟩
  have HK := Lib.hid hk
  clear hC hb hcn hk
  by_cases h1 : l - 1 < 0
  ·go_enter Tryd.func33, Tryd.ntmps33
   go_wp2_with fail
   go_quiet (fail)
   go_wp2_with fail
   go_ret
   exact (HK.out.drewN _).post rfl
  ·have hd1 : decide (l - 1 < 0) = false := decide_eq_false h1
   go_enter Tryd.func33, Tryd.ntmps33
   go_wp2_with fail
   go_quiet (fail)
   go_wp2_with fail
   go_ret
   exact (HK.out.drewN _).post rfl
 | succ d ih =>
  intro x A c lb l w0 w hd hl0 hl1 hlc hC hb hlb hcn
  obtain ⟨o, n, s, xs⟩ := x
  dsimp only at hlc hC ⊢
  have c0 := hcn.cell
  have f0 := hcn.frozen
  have hlt := hcn.lt
  have hk : Ck0 w0 w ((w.setCell ⟨lb, 0, none⟩ (.int .i64 (l - 1))).alloc (.cells #[.int .u8 o, .int .i64 n, .string s, .slice A xs.length c] 25)) lb (l - 1) := by
   refine ⟨(hcn.set (l - 1)).below ((Below.refl _ _).alloc (Nat.le_refl _) _), (hb.setCell (p := ⟨lb, 0, none⟩) hlb _).alloc (by have := hb.size; simp [World.setCell]; omega) _, by simp [World.setCell], (grown_set w lb 0 _).trans (World.grownBy_alloc _ _ _)⟩
  have HK := Lib.hid hk; have HC := Lib.hid hC; have HIH := Lib.hid ih; have HNM := Lib.hid hnm
  have hbase : w0.heap.size ≤ w.heap.size := hb.size
  clear hC hb hcn hk ih
  by_cases h1 : l - 1 < 0
  ·go_enter Tryd.func33, Tryd.ntmps33
   go_wp2_with fail
   go_quiet (fail)
   go_wp2_with fail
   go_ret
   exact (HK.out.drewN _).post (chkA h1)
  ·have hd1 : decide (l - 1 < 0) = false := decide_eq_false h1
   have hd2 : decide (((d : Int) + 1) < 1) = false := decide_eq_false (by omega)
   have hd3 : decide ((d : Int) < 0) = false := decide_eq_false (by omega)
   go_enter Tryd.func33, Tryd.ntmps33
   go_wp2_with fail
   obtain ⟨wb, hwb⟩ : ∃ wb, wb = ((w.setCell ⟨lb, 0, none⟩ (.int .i64 (l - 1))).alloc (.cells #[.int .u8 o, .int .i64 n, .string s, .slice A xs.length c] 25)) := ⟨_, rfl⟩
   rw [← hwb] at HK ⊢
   have hbx : wb.heap[w.heap.size]? = some (.cells #[.int .u8 o, .int .i64 n, .string s, .slice A xs.length c] 25 (0, 0)) := by
    rw [hwb]
    have := heap_alloc_new (w.setCell ⟨lb, 0, none⟩ (.int .i64 (l - 1))) (.cells #[.int .u8 o, .int .i64 n, .string s, .slice A xs.length c] 25)
    simpa [World.setCell] using this
   have HBX := Lib.hid hbx
   clear hwb
   obtain ⟨b0, b1, b2, b3⟩ := box_cells hbx
   have bc := HK.out.cnt.cell
   clear hbx c0 f0
   go_region_held3 (fun w' => w'.cell? ⟨lb, 0, none⟩ = some (.int .i64 (l - 1)) ∧ w'.cell? ⟨w.heap.size, 0, none⟩ = some (.int .u8 o) ∧ w'.cell? ⟨w.heap.size, 3, none⟩ = some (.slice A xs.length c)) (first | (exact ⟨s0, s1, s3⟩) | go_keep) (first | (go_at_call 56; refine (parts_any o _).mono ?_; rintro e w2 ⟨rfl, hb2⟩; have s0 := keep_cell hb2 (Nat.le_refl _) bc; have s1 := keep_cell hb2 (Nat.le_refl _) b0; have s3 := keep_cell hb2 (Nat.le_refl _) b3; have HB2 := Lib.hid hb2; clear hb2))
   have HK2 := Lib.hid (HK.out.drew.next HB2.out)
   have hbx2 : w2.heap[w.heap.size]? = some (.cells #[.int .u8 o, .int .i64 n, .string s, .slice A xs.length c] 25 (0, 0)) := (HB2.out.block _ HK.out.sz).trans HBX.out
   have HBX2 := Lib.hid hbx2
   obtain ⟨d0, d1, d2, d3⟩ := box_cells hbx2
   clear hbx2 HBX HK HB2 b0 b1 b2 b3 bc s0 s1 s3
   by_cases hp : parts o = (xs.length : Int)
   ·have hp1 : (parts o != (xs.length : Int)) = false := by simp [hp]
    simp only [hp1]
    have HP := Lib.hid hp
    clear hp hp1
    have HN1 : Hid (¬ l - 1 < 0) := Lib.hid (by omega)
    by_cases ho1 : o = 1
    ·subst ho1
     have hch : chk nm (d + 1) ⟨1, n, s, xs⟩ l = (decide (0 ≤ n) && emp s, l - 1) := by rw [chkC HN1.out HP.out]; rfl
     have HCH := Lib.hid hch
     clear hch
     by_cases hn0 : 0 ≤ n
     ·go_wp2_with fail
      go_ret
      exact HK2.out.post (b := s.toList.isEmpty) (by rw [HCH.out, decide_eq_true hn0]; rfl)
     ·go_wp2_with fail
      go_ret
      exact HK2.out.post (b := false) (by rw [HCH.out, decide_eq_false (by omega)]; rfl)
    ·by_cases ho2 : o = 2
     ·subst ho2
      have hch : chk nm (d + 1) ⟨2, n, s, xs⟩ l = ((decide (n = 0) || decide (n = 1)) && emp s, l - 1) := by rw [chkC HN1.out HP.out]; rfl
      have HCH := Lib.hid hch
      clear hch
      by_cases hn0 : n = 0
      ·subst hn0
       go_wp2_with fail
       go_ret
       exact HK2.out.post (b := s.toList.isEmpty) (by rw [HCH.out]; rfl)
      ·by_cases hn1 : n = 1
       ·subst hn1
        go_wp2_with fail
        go_ret
        exact HK2.out.post (b := s.toList.isEmpty) (by rw [HCH.out]; rfl)
       ·have e0 : (n == 0) = false := by simp [hn0]
        have e1 : (n == 1) = false := by simp [hn1]
        go_wp2_with fail
        go_ret
        exact HK2.out.post (b := false) (by rw [HCH.out, decide_eq_false hn0, decide_eq_false hn1]; rfl)
     ·by_cases ho3 : o = 3
      ·subst ho3
       have hch : chk nm (d + 1) ⟨3, n, s, xs⟩ l = (decide (n = 0) && nm s, l - 1) := by rw [chkC HN1.out HP.out]; rfl
       have HCH := Lib.hid hch
       clear hch
       by_cases hn0 : n = 0
       ·subst hn0
        go_wp2_with fail
        refine (HNM.out s _).mono ?_
        rintro e w3 ⟨rfl, hb3⟩
        have HB3 := Lib.hid hb3
        clear hb3
        go_wp2_with fail
        go_ret
        exact (HK2.out.next HB3.out).post (b := nm s) (by rw [HCH.out]; rfl)
       ·have e0 : (n == 0) = false := by simp [hn0]
        go_wp2_with fail
        go_ret
        exact HK2.out.post (b := false) (by rw [HCH.out, decide_eq_false hn0]; rfl)
      ·have e1 : (o == 1) = false := by simp [ho1]
       have e2 : (o == 2) = false := by simp [ho2]
       have e3 : (o == 3) = false := by simp [ho3]
       have hch : chk nm (d + 1) ⟨o, n, s, xs⟩ l = ((chks (chk nm d) xs (l - 1)).1 && (decide (n = 0) && emp s), (chks (chk nm d) xs (l - 1)).2) := by rw [chkC HN1.out HP.out, if_neg ho1, if_neg ho2, if_neg ho3]
       have HCH := Lib.hid hch
       have hxl := (HC.out).2.1
       clear hch ho1 ho2 ho3
       go_wp2_with fail
       go_loopw [71] (fun iv wr => ∃ (i : Nat), iv = .int .i64 i ∧ i ≤ xs.length ∧ Hid ((chks (chk nm d) (xs.take i) (l - 1)).1 = true) ∧ Hid (Ck0 w0 w wr lb (chks (chk nm d) (xs.take i) (l - 1)).2) ∧ Hid (wr.heap[w.heap.size]? = some (.cells #[.int .u8 o, .int .i64 n, .string s, .slice A xs.length c] 25 (0, 0)))) (fun iv _ => xs.length - (intOf iv).toNat)
       case atStart => exact ⟨0, rfl, Nat.zero_le _, Lib.hid rfl, HK2, HBX2⟩
       case round =>
        obtain ⟨i, rfl, hi, HT, HK3, HBX3⟩ := hrel
        have hle := chks_le (chk_le nm d) (xs.take i) (l - 1) (by omega)
        have hle2 := hle.2.2 HT.out
        have hle3 := hle.2.1
        have HLE : Hid (0 ≤ (chks (chk nm d) (xs.take i) (l - 1)).2 ∧ (chks (chk nm d) (xs.take i) (l - 1)).2 ≤ 200) := Lib.hid ⟨hle2, by omega⟩
        clear hle hle2 hle3
        by_cases hlt2 : i < xs.length
        ·obtain ⟨ad, A3, c3, hA, q0, q1, q2, q3, hl3, hC3⟩ := at_T25 HC.out (i : Int) (by omega) (by omega)
         subst hA
         rw [rdT25 xs i hlt2] at q0 q1 q2 q3 hl3 hC3
         simp only [Int.toNat_natCast] at q0 q1 q2 q3
         have g0 := keep_cell HK3.out.bel (Nat.le_refl _) q0
         have g1 := keep_cell HK3.out.bel (Nat.le_refl _) q1
         have g2 := keep_cell HK3.out.bel (Nat.le_refl _) q2
         have g3 := keep_cell HK3.out.bel (Nat.le_refl _) q3
         have hst := chks_take (chk nm d) xs (l - 1) i hlt2 HT.out
         have HST := Lib.hid hst
         clear hst q0 q1 q2 q3
         generalize hy : xs[i] = y at *
         have HC3 := Lib.hid hC3; have HL3 := Lib.hid hl3
         clear hC3 hl3 hy
         obtain ⟨m, hm⟩ : ∃ m, m = (chks (chk nm d) (xs.take i) (l - 1)).2 := ⟨_, rfl⟩
         rw [← hm] at HK3 HLE HST
         have HM := Lib.hid hm
         clear hm
         go_wp2_with fail
         refine (HIH.out y A3 c3 lb m w0 _ (by omega) HLE.out.1 HLE.out.2 HL3.out HC3.out (HK3.out.bel.alloc HK3.out.bel.size _) hlb (HK3.out.cnt.below ((Below.refl _ _).alloc (Nat.le_refl _) _))).mono ?_
         intro e w4 hp
         obtain ⟨rfl, hcn4, hbe4, hsz4, hgr4⟩ := hp
         have hk4 : Ck0 w0 w w4 lb (chk nm d y m).2 := ⟨hcn4, hbe4, by have := HK3.out.sz; simp at hsz4; omega, (HK3.out.gr.trans (World.grownBy_alloc _ _ _)).trans hgr4⟩
         have hbx4 : w4.heap[w.heap.size]? = some (.cells #[.int .u8 o, .int .i64 n, .string s, .slice (some ad) xs.length c] 25 (0, 0)) := by
          have h5 := HK3.out.sz
          rw [hgr4.block _ (by simp; omega) (by intro e; injection e with e; omega), Below.heap_alloc _ _ _ h5]
          exact HBX3.out
         have HK4 := Lib.hid hk4; have HBX4 := Lib.hid hbx4
         clear hk4 hbx4 hcn4 hbe4 hsz4 hgr4 g0 g1 g2 g3
         by_cases hb : (chk nm d y m).1 = true
         ·simp only [hb]
          have HB := Lib.hid hb
          clear hb
          go_wp2_with fail
          exact ⟨⟨i + 1, by go_num, by omega, Lib.hid (by rw [HST.out]; exact HB.out), Lib.hid (by rw [HST.out]; exact HK4.out), HBX4⟩, by simp [intOf]; omega⟩
         ·have hb' : (chk nm d y m).1 = false := by simpa using hb
          simp only [hb']
          have HB := Lib.hid hb'
          clear hb hb'
          go_wp2_with fail
          go_ret
          have hs := chks_stop (chk nm d) xs (l - 1) (i + 1) (by rw [HST.out]; exact HB.out)
          exact HK4.out.post (by rw [HCH.out, hs, HST.out, HB.out]; rfl)
        ·obtain rfl : i = xs.length := by omega
         rw [List.take_length] at HT HK3
         obtain ⟨d0, d1, d2, d3⟩ := box_cells HBX3.out
         by_cases hn0 : n = 0
         ·subst hn0
          go_wp2_with fail
          go_ret
          exact HK3.out.post (b := s.toList.isEmpty) (by rw [HCH.out, HT.out]; rfl)
         ·have e0 : (n == 0) = false := by simp [hn0]
          go_wp2_with fail
          go_ret
          exact HK3.out.post (b := false) (by rw [HCH.out, HT.out, decide_eq_false hn0]; rfl)
   ·have hp1 : (parts o != (xs.length : Int)) = true := by simp [hp]
    have HP := Lib.hid hp
    simp only [hp1]
    clear hp hp1
    go_wp2_with fail
    go_ret
    exact HK2.out.post (chkB HP.out)
end Go.Proofs.YtbdciibbgiphcaaDoor.V

/- exprs.Check: walk. -/
namespace Go.Proofs.YtbdciibbgiphcaaDoor.V
set_option linter.unusedVariables false
set_option linter.unusedSimpArgs false
set_option linter.unusedSectionVars false
open Go.RowKit Go.Proofs.YtbdciibbgiphcaaDoorW.PrintWords Go.Proofs.YtbdciibbgiphcaaDoorW.PrintLast Go.Proofs.YtbdciibbgiphcaaDoorW.PrintMore
set_option maxHeartbeats 2000000 in
set_option maxRecDepth 100000 in
theorem Check_walk (nm : ByteArray → Bool) (hnm : NameIs nm) (x : S25) (A : Option Addr) (c : Nat) (w : World) (hc : x.f3.length ≤ c) (hC : Kd.C k25 w A x.f3.length x.f3) :
  Calls Tryd.prog 14 #[.agg #[.int .u8 x.f0, .int .i64 x.f1, .string x.f2, .slice A x.f3.length c]] w fun e w' => e = .returned (.bool (okE nm x)) ∧ Below w.heap.size w w' := by
 have HC := Lib.hid hC; have HN := Lib.hid hnm
 clear hC hnm
 go_enter Tryd.func14, Tryd.ntmps14
 go_wp2_with fail
 have hcn : Cnt ((w.alloc (.cells #[.int .u8 x.f0, .int .i64 x.f1, .string x.f2, .slice A x.f3.length c] 25)).alloc (.cells #[.int .i64 200] 3)) (w.heap.size + 1) 200 := by
  have := heap_alloc_new (w.alloc (.cells #[.int .u8 x.f0, .int .i64 x.f1, .string x.f2, .slice A x.f3.length c] 25)) (.cells #[.int .i64 200] 3)
  have e : (w.alloc (.cells #[.int .u8 x.f0, .int .i64 x.f1, .string x.f2, .slice A x.f3.length c] 25)).heap.size = w.heap.size + 1 := by simp
  rw [e] at this
  exact this
 refine (check_walk nm HN.out 32 x A c (w.heap.size + 1) 200 w _ (Nat.le_refl _) (by omega) (by omega) hc HC.out (((Below.refl _ _).alloc (Nat.le_refl _) _).alloc (by simp) _) (by omega) hcn).mono ?_
 intro e w2 hp
 obtain ⟨rfl, _, hb, _, _⟩ := hp
 have HB := Lib.hid hb
 clear hb
 go_wp2_with fail
 go_ret
 exact ⟨rfl, HB.out⟩
end Go.Proofs.YtbdciibbgiphcaaDoor.V

/- The reference's Name: what it computes (carried over from the tokens). -/
namespace Go.Proofs.YtbdciibbgiphcaaDoor.V
set_option linter.unusedVariables false
set_option linter.unusedSimpArgs false
open Go.RowKit Go.Proofs.YtbdciibbgiphcaaDoorW.PrintWords Go.Proofs.YtbdciibbgiphcaaDoorW.PrintLast
theorem toList_inj {a b : ByteArray} (h : a.toList = b.toList) : a = b := by
 rw [ByteArray.toList_eq, ByteArray.toList_eq] at h
 exact ByteArray.ext (Array.toList_inj.1 h)
theorem bt_nat (s : ByteArray) (i : Nat) (h : i < s.size) : (bytesOf s).drop i = bt s (i : Int) :: (bytesOf s).drop (i + 1) := by
 rw [drop_bytes s i h]
 congr 1
 unfold bt
 rw [dif_pos (by rw [Int.toNat_natCast]; exact h)]
 rfl
theorem bt_end (s : ByteArray) (i : Nat) (h : ¬ i < s.size) : (bytesOf s).drop i = [] := drop_end s i h
theorem ref_digit (c : Int) : belfryref04_digit.f c = some (Tok.digit c) := by
 unfold belfryref04_digit.f Tok.digit
 by_cases h : c ≥ 48
 ·rw [if_pos h, decide_eq_true (show 48 ≤ c from h), Bool.true_and]
 ·rw [if_neg h, decide_eq_false (show ¬ 48 ≤ c from h), Bool.false_and]
theorem ref_letter (c : Int) : belfryref04_letter.f c = some (Tok.letter c) := by
 unfold belfryref04_letter.f Tok.letter
 by_cases h1 : 97 ≤ c <;> by_cases h2 : c ≤ 122 <;> by_cases h3 : 65 ≤ c <;> by_cases h4 : c ≤ 90 <;>
  simp only [ge_iff_le, h1, h2, h3, h4, if_true, if_false, decide_true, decide_false, Bool.and_true, Bool.and_false, Bool.true_or, Bool.false_or, Bool.or_true, Bool.or_false] <;> rfl
/-- the end of a run of digits. -/
def fin (s : ByteArray) (n : Nat) : Int := if 1 < n then (if bt s 0 = 48 then 0 else (n : Int)) else n
theorem ref_word_l0 (s : ByteArray) (hs : s.size ≤ 1048576) : ∀ (d i k : Nat), i + d = s.size → 0 < i → d < k → belfryref04_word.l0 k s 0 (i : Int) = some ((i + Tok.tw Tok.inWord ((bytesOf s).drop i) : Nat) : Int)
 | 0, i, k, hi, h0, hk => by
  obtain ⟨k, rfl⟩ : ∃ m, k = m + 1 := ⟨k - 1, by omega⟩
  have hw0 : wrap64 ((i : Int) - 0) = i := by unfold wrap64; omega
  simp only [belfryref04_word.l0]
  rw [if_neg (by omega), hw0, bt_end s i (by omega), Tok.tw_nil, Nat.add_zero]
 | d + 1, i, k, hi, h0, hk => by
  obtain ⟨k, rfl⟩ : ∃ m, k = m + 1 := ⟨k - 1, by omega⟩
  have hlt : i < s.size := by omega
  have hw : wrap64 ((i : Int) + 1) = ((i + 1 : Nat) : Int) := by unfold wrap64; omega
  have hw0 : wrap64 ((i : Int) - 0) = i := by unfold wrap64; omega
  have ih := ref_word_l0 s hs d (i + 1) k (by omega) (by omega) (by omega)
  have hyes : Tok.inWord (bt s (i : Int)) = true → (i + 1) + Tok.tw Tok.inWord ((bytesOf s).drop (i + 1)) = i + Tok.tw Tok.inWord ((bytesOf s).drop i) := fun h => by
   rw [bt_nat s i hlt, Tok.tw_yes _ h]; omega
  simp only [belfryref04_word.l0]
  rw [if_pos (by omega), if_pos (by omega), ref_letter, Option.bind_some, hw, hw0, ih]
  cases hl : Tok.letter (bt s (i : Int)) with
  | true => rw [if_pos rfl, hyes (Tok.letter_inWord hl)]
  | false =>
   rw [if_neg (by simp), if_pos (by omega), ref_digit, Option.bind_some]
   cases hd : Tok.digit (bt s (i : Int)) with
   | true => rw [if_pos rfl, hyes (Tok.digit_inWord hd)]
   | false =>
    rw [if_neg (by simp)]
    by_cases h95 : bt s (i : Int) = 95
    ·rw [if_pos h95, hyes (by simp [Tok.inWord, h95])]
    ·rw [if_neg h95, bt_nat s i hlt, Tok.tw_no _ (by simp [Tok.inWord, hl, hd, h95]), Nat.add_zero]
theorem ref_word (s : ByteArray) (hs : s.size ≤ 1048576) (k : Nat) (hk : s.size < k) : belfryref04_word.f k s 0 = some ((Tok.wordLen (bytesOf s) : Nat) : Int) := by
 unfold belfryref04_word.f
 obtain ⟨k, rfl⟩ : ∃ m, k = m + 1 := ⟨k - 1, by omega⟩
 have hw0 : wrap64 ((0 : Int) - 0) = 0 := by unfold wrap64; omega
 have hw : wrap64 ((0 : Int) + 1) = ((1 : Nat) : Int) := by unfold wrap64; omega
 simp only [belfryref04_word.l0]
 by_cases h0 : 0 < s.size
 ·have hb := bt_nat s 0 h0
  rw [List.drop_zero] at hb
  rw [if_pos (by omega), if_pos (by omega), ref_letter, Option.bind_some, hb]
  have e : ((0 : Nat) : Int) = 0 := rfl
  rw [e] 
  rw [Tok.wordLen_cons]
  cases hl : Tok.letter (bt s 0) with
  | true =>
   rw [if_pos rfl, if_pos rfl, hw, ref_word_l0 s hs (s.size - 1) 1 k (by omega) (by omega) (by omega)]
  | false => rw [if_neg (by simp), if_neg (by omega), if_neg (by simp), hw0]; rfl
 ·have : bytesOf s = [] := List.eq_nil_of_length_eq_zero (by rw [bytesOf_length]; omega)
  rw [if_neg (by omega), hw0, this]; rfl
theorem wid (x : Int) (h0 : 0 ≤ x) (h1 : x ≤ 9223372036854775807) : wrap64 x = x := by unfold wrap64; omega
theorem ref_Name_l0 (s : ByteArray) (ws : List ByteArray) (hl : ws.length ≤ 100) : ∀ (d i k : Nat), i + d = ws.length → d < k → belfryref04_Name.l0 k s ws (i : Int) = some (!((ws.drop i).any fun x => x.data.toList == s.data.toList))
 | 0, i, k, hi, hk => by
  obtain ⟨k, rfl⟩ : ∃ m, k = m + 1 := ⟨k - 1, by omega⟩
  simp only [belfryref04_Name.l0]
  rw [if_neg (by omega), List.drop_eq_nil_of_le (by omega)]; rfl
 | d + 1, i, k, hi, hk => by
  obtain ⟨k, rfl⟩ : ∃ m, k = m + 1 := ⟨k - 1, by omega⟩
  have hw : wrap64 ((i : Int) + 1) = ((i + 1 : Nat) : Int) := by unfold wrap64; omega
  have hlt : i < ws.length := by omega
  have hrd : rdOf ByteArray.empty ws (i : Int) = ws[i] := by
   unfold rdOf
   rw [List.getD_eq_getElem?_getD, Int.toNat_natCast, List.getElem?_eq_getElem hlt]; rfl
  simp only [belfryref04_Name.l0]
  rw [if_pos (by omega), if_pos (by omega), hrd, hw, ref_Name_l0 s ws hl d (i + 1) k (by omega) (by omega), List.drop_eq_getElem_cons hlt, List.any_cons, ByteArray.toList_eq, ByteArray.toList_eq]
  by_cases h : ws[i].data.toList = s.data.toList
  ·rw [if_pos h, h]; simp
  ·rw [if_neg h, beq_eq_false_iff_ne.2 h, Bool.false_or]
theorem ref_Name (s : ByteArray) (k : Nat) (hk : s.size + 30 < k) : belfryref04_Name.f k s = some (nameOk s) := by
 unfold belfryref04_Name.f nameOk
 obtain ⟨k, rfl⟩ : ∃ m, k = m + 1 := ⟨k - 1, by omega⟩
 by_cases h0 : s.size = 0
 ·have hne : s.toList = [] := by rw [ByteArray.toList_eq]; exact List.eq_nil_of_length_eq_zero (by rw [data_length]; exact h0)
  rw [if_pos hne, decide_eq_false (by omega)]
  rfl
 ·have hne : ¬ s.toList = [] := fun q => h0 (by rw [ByteArray.toList_eq] at q; rw [← data_length, q]; rfl)
  rw [if_neg hne, decide_eq_true (show 0 < s.size by omega), Bool.true_and]
  by_cases h40 : s.size ≤ 40
  ·rw [if_neg (by omega), decide_eq_true h40, Bool.true_and, ref_word s (by omega) _ (by omega), Option.bind_some]
   simp only [belfryref04_Name.j0]
   by_cases hw : Tok.wordLen (bytesOf s) = s.size
   ·rw [hw, if_neg (by simp), decide_eq_true rfl, Bool.true_and]
    have := ref_Name_l0 s words (by decide) 17 0 k rfl (by omega)
    rw [List.drop_zero] at this
    exact this
   ·rw [if_pos (by rw [bne_iff_ne]; omega), decide_eq_false hw]; rfl
  ·rw [if_pos (by omega), decide_eq_false h40]; rfl
end Go.Proofs.YtbdciibbgiphcaaDoor.V
