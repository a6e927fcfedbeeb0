/- What exprs computes; exprs.Check walked. Joined by wip/merge.py (ours) from several texts of this seat. -/
import Derived.Test.YtbdciibbgiphcaaDoorNA
import Derived.Lib.ItoaLen
import Derived.Lib.Strings
import Derived.Lib.Small
import Derived.KernelRfl
import Derived.Deep.RegionHeld3
import Derived.LoopTactic
import Derived.Lib.Hide
import Derived.Laws.AppendOwn
import Derived.Maps.AppendAt
/- What is worked out: may it be, and how it is written: plain Lean. -/
namespace Go.Proofs.YtbdciibbgiphcaaDoor.V
set_option linter.unusedVariables false
set_option linter.unusedSimpArgs false
set_option linter.unusedSectionVars false
open Go.RowKit Go.Proofs.YtbdciibbgiphcaaDoorW.PrintWords Go.Proofs.YtbdciibbgiphcaaDoorW.PrintLast Go.Proofs.YtbdciibbgiphcaaDoorW.PrintMore
theorem w64 {n : Int} (h0 : -9223372036854775808 ≤ n) (h1 : n ≤ 9223372036854775807) : wrap64 n = n := by unfold wrap64; omega
/-- operators of two: the operator, its rank, the kind of its token, its text. -/
def pairsL : List S83 := [⟨18, 0, 3, ⟨#[45, 62]⟩⟩, ⟨16, 1, 1, ⟨#[111, 114]⟩⟩, ⟨15, 2, 1, ⟨#[97, 110, 100]⟩⟩, ⟨11, 3, 3, ⟨#[61, 61]⟩⟩, ⟨12, 3, 3, ⟨#[33, 61]⟩⟩, ⟨13, 3, 3, ⟨#[60]⟩⟩, ⟨14, 3, 3, ⟨#[60, 61]⟩⟩, ⟨6, 4, 3, ⟨#[43]⟩⟩, ⟨7, 4, 3, ⟨#[45]⟩⟩, ⟨8, 5, 3, ⟨#[42]⟩⟩, ⟨9, 5, 3, ⟨#[47]⟩⟩, ⟨10, 5, 3, ⟨#[37]⟩⟩]
def prefL : List S83 := [⟨4, 6, 3, ⟨#[45]⟩⟩, ⟨5, 6, 1, ⟨#[110, 111, 116]⟩⟩, ⟨19, 6, 1, ⟨#[112, 114, 101]⟩⟩]
def findL (l : List S83) (o : Int) : Option S83 := l.find? fun x => decide (x.f0 = o)
def parts (o : Int) : Int := if o = 1 ∨ o = 2 ∨ o = 3 then 0 else if o = 17 then 3 else if (findL pairsL o).isSome then 2 else if (findL prefL o).isSome then 1 else -1
def rankOf (o : Int) : Int := if o = 17 then 0 else match findL pairsL o with
 | some f => f.f1
 | none => match findL prefL o with
  | some f => f.f1
  | none => 7
def emp (s : ByteArray) : Bool := s.toList.isEmpty
def chks (f : S25 → Int → Bool × Int) : List S25 → Int → Bool × Int
 | [], l => (true, l)
 | y :: r, l => if (f y l).1 = true then chks f r (f y l).2 else (false, (f y l).2)
def chk (nm : ByteArray → Bool) : Nat → S25 → Int → Bool × Int
 | 0, _, l => (false, l - 1)
 | d + 1, x, l =>
  if l - 1 < 0 then (false, l - 1) else if parts x.f0 ≠ (x.f3.length : Int) then (false, l - 1)
  else if x.f0 = 1 then (decide (0 ≤ x.f1) && emp x.f2, l - 1)
  else if x.f0 = 2 then ((decide (x.f1 = 0) || decide (x.f1 = 1)) && emp x.f2, l - 1)
  else if x.f0 = 3 then (decide (x.f1 = 0) && nm x.f2, l - 1)
  else ((chks (chk nm d) x.f3 (l - 1)).1 && (decide (x.f1 = 0) && emp x.f2), (chks (chk nm d) x.f3 (l - 1)).2)
theorem chks_le {f : S25 → Int → Bool × Int} (hf : ∀ y l, 0 ≤ l → -1 ≤ (f y l).2 ∧ (f y l).2 ≤ l ∧ ((f y l).1 = true → 0 ≤ (f y l).2)) : ∀ (r : List S25) (l : Int), 0 ≤ l → -1 ≤ (chks f r l).2 ∧ (chks f r l).2 ≤ l ∧ ((chks f r l).1 = true → 0 ≤ (chks f r l).2)
 | [], l, h => by simp only [chks]; omega
 | y :: r, l, h => by
  have h1 := hf y l h
  simp only [chks]
  by_cases hb : (f y l).1 = true
  ·rw [if_pos hb]
   have h2 := chks_le hf r (f y l).2 (h1.2.2 hb)
   exact ⟨h2.1, by omega, h2.2.2⟩
  ·rw [if_neg hb]
   exact ⟨h1.1, h1.2.1, fun h => by simp at h⟩
theorem chk_le (nm : ByteArray → Bool) : ∀ (d : Nat) (x : S25) (l : Int), 0 ≤ l → -1 ≤ (chk nm d x l).2 ∧ (chk nm d x l).2 ≤ l ∧ ((chk nm d x l).1 = true → 0 ≤ (chk nm d x l).2)
 | 0, x, l, h => by simp only [chk]; exact ⟨by omega, by omega, fun h => by simp at h⟩
 | d + 1, x, l, h => by
  have h1 : 0 ≤ l - 1 → _ := chks_le (chk_le nm d) x.f3 (l - 1)
  unfold chk
  by_cases h2 : l - 1 < 0
  ·rw [if_pos h2]; exact ⟨by omega, by omega, fun h => by simp at h⟩
  ·rw [if_neg h2]
   have h1 := h1 (by omega)
   split
   ·exact ⟨by omega, by omega, fun h => by simp at h⟩
   ·split
    ·exact ⟨by omega, by omega, fun _ => by omega⟩
    ·split
     ·exact ⟨by omega, by omega, fun _ => by omega⟩
     ·split
      ·exact ⟨by omega, by omega, fun _ => by omega⟩
      ·refine ⟨h1.1, by omega, fun h => h1.2.2 ?_⟩
       simp only [Bool.and_eq_true] at h
       exact h.1
theorem chks_take (f : S25 → Int → Bool × Int) (xs : List S25) (l : Int) (i : Nat) (hi : i < xs.length) (h : (chks f (xs.take i) l).1 = true) : chks f (xs.take (i + 1)) l = f xs[i] (chks f (xs.take i) l).2 := by
 rw [List.take_succ_eq_append_getElem hi]
 generalize xs.take i = ys at h
 induction ys generalizing l with
 | nil =>
  simp only [List.nil_append, chks]
  by_cases hb : (f xs[i] l).1 = true
  ·rw [if_pos hb]; exact Prod.ext hb.symm rfl
  ·rw [if_neg hb]; exact Prod.ext (by simpa using hb) rfl
 | cons y ys ih =>
  simp only [List.cons_append, chks] at h ⊢
  by_cases hb : (f y l).1 = true
  ·rw [if_pos hb] at h ⊢; rw [if_pos hb]; exact ih _ h
  ·rw [if_neg hb] at h; simp at h
theorem chks_stop (f : S25 → Int → Bool × Int) (xs : List S25) (l : Int) (i : Nat) (h : (chks f (xs.take i) l).1 = false) : chks f xs l = chks f (xs.take i) l := by
 induction xs generalizing l i with
 | nil => simp
 | cons y ys ih =>
  cases i with
  | zero => simp [chks] at h
  | succ i =>
   simp only [List.take_succ_cons, chks] at h ⊢
   by_cases hb : (f y l).1 = true
   ·rw [if_pos hb] at h ⊢; rw [if_pos hb]; exact ih _ _ h
   ·rw [if_neg hb, if_neg hb]
/-- P5.3. -/
def okE (nm : ByteArray → Bool) (x : S25) : Bool := (chk nm 32 x 200).1
end Go.Proofs.YtbdciibbgiphcaaDoor.V

-- Written for this claim by wip/myprint.py (a program of this session over the kit's printer).
namespace Go.Proofs.YtbdciibbgiphcaaDoor.V
open Go.RowKit Go.Proofs.YtbdciibbgiphcaaDoorW.PrintWords Go.Proofs.YtbdciibbgiphcaaDoorW.PrintLast Go.Proofs.YtbdciibbgiphcaaDoorW.PrintMore
attribute [local go_sem] max2_int min2_int max_two min_two max_three min_three max_four min_four   -- for this text's walks alone
set_option linter.unusedVariables false
set_option linter.unusedSimpArgs false

/-! ### belfrylaw01_TwinExpr: function 11 -/
-- BY HAND: function 11 (belfrylaw01_TwinExpr)

/-! ### exprs_find: function 44 -/
def exprs_find.l0 : Nat → Int → List (S83) → Int → Int → Option (Int × Int × Int × ByteArray × Bool)
 | 0, _, _, _, _ => none
 | k + 1, x1, x8, x9, x10 => if x10 < x9 then (if 0 ≤ x10 then (if x10 < (x8.length : Int) then (if ((rd_T83 x8 x10).f0) = x1 then (some ((rd_T83 x8 x10).f0, (rd_T83 x8 x10).f1, (rd_T83 x8 x10).f2, (rd_T83 x8 x10).f3, true)) else (exprs_find.l0 k x1 x8 x9 (wrap64 (x10 + 1)))) else (none)) else (none)) else (some (0, 7, 0, (⟨#[]⟩ : ByteArray), false))
def exprs_find.f (k : Nat) (l0 : List (S83)) (a1 : Int) : Option (Int × Int × Int × ByteArray × Bool) := exprs_find.l0 k a1 l0 (l0.length : Int) 0
theorem exprs_find.mono_l : ∀ k, (∀ y0 y1 y2 y3, LeO (exprs_find.l0 k y0 y1 y2 y3) (exprs_find.l0 (k + 1) y0 y1 y2 y3))
 | 0 => fun _ _ _ _ r h => by simp [exprs_find.l0] at h
 | k + 1 => by
  have ih0 := exprs_find.mono_l k
  ·intro y0 y1 y2 y3
   unfold exprs_find.l0
   repeat' first
   | (with_reducible exact ih0 _ _ _ _)
   | (with_reducible exact LeO.refl _)
   | (with_reducible exact LeO.none _)
   | (with_reducible refine LeO.ite ?_ ?_)
   | (with_reducible refine LeO.bind ?_ (fun _ => ?_))
   | exact ih0 _ _ _ _
   | exact LeO.none _
   | refine LeO.ite ?_ ?_
   | refine LeO.bind ?_ (fun _ => ?_)
theorem exprs_find.mono : ∀ a0 a1 k, LeO (exprs_find.f k a0 a1) (exprs_find.f (k + 1) a0 a1) := by
 intro a0 a1 k
 have ih0 := exprs_find.mono_l k
 unfold exprs_find.f
 repeat' first
   | (with_reducible exact ih0 _ _ _ _)
   | (with_reducible exact LeO.refl _)
   | (with_reducible exact LeO.none _)
   | (with_reducible refine LeO.ite ?_ ?_)
   | (with_reducible refine LeO.bind ?_ (fun _ => ?_))
   | exact ih0 _ _ _ _
   | exact LeO.none _
   | refine LeO.ite ?_ ?_
   | refine LeO.bind ?_ (fun _ => ?_)
set_option maxHeartbeats 8000000 in
set_option maxRecDepth 100000 in
theorem exprs_find.calls (k : Nat) (A0 : Option Addr) (c0 : Nat) (l0 : List (S83)) (a1 : Int) (r1 : Int) (r2 : Int) (r3 : Int) (r4 : ByteArray) (r5 : Bool) (w : World) (hr0 : Kd.C k83 w A0 l0.length l0) (hc0 : l0.length ≤ c0) (h : exprs_find.f k l0 a1 = some (r1, r2, r3, r4, r5)) :
  Calls Tryd.prog 44 #[.slice A0 l0.length c0, .int .u8 a1] w fun e w' => e = .returned (.tuple #[.agg #[.int .u8 r1, .int .i64 r2, .int .u8 r3, .string r4], .bool r5]) ∧ Below w.heap.size w w' := by
 have hu83 := Tryd.underlying83
 have HR0 := Aside0.mk hr0
 have HC0 := Aside0.mk hc0
 clear hr0 hc0
 have HB := Aside0.mk (Below.refl w.heap.size w)
 have H : (exprs_find.l0 k a1 l0 (l0.length : Int) 0) = some (r1, r2, r3, r4, r5) := h
 clear h
 have H' := Aside0.mk H
 clear H
 go_enter Tryd.func44, Tryd.ntmps44
 go_wp2_with (first | ((with_reducible refine gate_dst (N := 4) rfl ?_); refine box_event ?hg (N := 4) ?hd (cs := #[.int .u8 0, .int .i64 0, .int .u8 0, .string (⟨#[]⟩ : ByteArray)]) (t := 83) ?hr ?_; (case hd => rfl); (case hg => rfl); (case hr => first | (go_simp; done) | (go_simp; rfl)); intro gb109 hg w3 hbox hb; have n0_ := Aside0.mk (below_step (by repeat (first | (with_reducible first | exact HB.out | apply below_alloc | apply pw_below_drewN | apply below_drew1) | exact HB.out)) hb); have n1_ := Aside0.mk (hbox); have n2_ := Aside0.mk ((by rw [hg]; exact (below_size (by repeat (first | (with_reducible first | exact HB.out | apply below_alloc | apply pw_below_drewN | apply below_drew1) | exact HB.out))) : w.heap.size ≤ gb109)); have n3_ := Aside0.mk ((by rw [hg]; exact (below_size (by repeat (first | (with_reducible first | exact HB.out | apply below_alloc | apply pw_below_drewN | apply below_drew1) | exact HB.out))) : w.heap.size ≤ gb109)); clear HB; have HB := n0_; have BK109 := n1_; have GW109 := n2_; have GE109 := n3_; clear n0_ n1_ n2_ n3_; clear hb hbox hg))
 go_loopg [10] k (fun kq v10 w' => ∃ (x10_1 : Int) (x110000_1 : Int) (x110001_1 : Int) (x110002_1 : Int) (x110003_1 : ByteArray), v10 = .int .i64 x10_1 ∧ Aside0 (exprs_find.l0 kq a1 l0 (l0.length : Int) x10_1 = some (r1, r2, r3, r4, r5)) ∧ Aside0 (kq ≤ k) ∧ Aside0 (w'.heap[gb109]? = some (.cells #[.int .u8 x110000_1, .int .i64 x110001_1, .int .u8 x110002_1, .string x110003_1] 83 (0, 0))) ∧ Aside0 (Below w.heap.size w w'))
 case atStart => exact ⟨(0), (0), (0), (0), ((⟨#[]⟩ : ByteArray)), (by first | rfl | (simp; done) | (simp [*]; done)), H', ⟨Nat.le_refl _⟩, ⟨by (with_reducible repeat (first | refine blk_drewN ?_ _ | refine blk_drew ?_ | refine blk_alloc ?_ _)); exact BK109.out⟩, ⟨by repeat (first | (with_reducible first | exact HB.out | apply below_alloc | apply pw_below_drewN | apply below_drew1 | refine below_set ?_ GE109.out) | exact HB.out)⟩⟩
 case round =>
  clear H'
  try clear p2
  obtain ⟨x10_1, x110000_1, x110001_1, x110002_1, x110003_1, rfl, HA, HK1, BK109, HB⟩ := hrel
  cases gk with
  | zero => exact absurd HA.out (by simp [exprs_find.l0])
  | succ k1 =>
   have H := HA.out
   clear HA
   simp only [exprs_find.l0] at H
   by_cases c4 : x10_1 < (l0.length : Int)
   ·rw [if_pos c4] at H
    have c4b0 : decide (x10_1 < (l0.length : Int)) = true := decide_eq_true c4
    clear c4
    by_cases c5 : 0 ≤ x10_1
    ·rw [if_pos c5] at H
     have c5b0 : decide (0 ≤ x10_1) = true := decide_eq_true c5
     clear c5
     by_cases c6 : x10_1 < (l0.length : Int)
     ·rw [if_pos c6] at H
      have c6b0 : decide (x10_1 < (l0.length : Int)) = true := decide_eq_true c6
      clear c6
      by_cases c7 : ((rd_T83 l0 x10_1).f0) = a1
      ·rw [if_pos c7] at H
       have c7b0 : (((rd_T83 l0 x10_1).f0) == a1) = true := beq_iff_eq.mpr c7
       have c7b1 : (((rd_T83 l0 x10_1).f0) != a1) = false := bne_eq_false_iff_eq.mpr c7
       clear c7
       simp only [Option.some.injEq, Prod.mk.injEq] at H
       obtain ⟨rfl, rfl, rfl, rfl, rfl⟩ := H
       have p110 : 0 ≤ (x10_1 : Int) := of_decide_eq_true (by first | (with_reducible assumption) | assumption)
       have q110 : x10_1 < (l0.length : Int) := of_decide_eq_true (by first | (with_reducible assumption) | assumption)
       obtain ⟨ad110, e110, hx110_0, hx110_1, hx110_2, hx110_3⟩ := at_T83 HR0.out x10_1 p110 q110
       cases e110
       replace hx110_0 := (HB.out.cell (World.block_lt_of_cell? w _ hx110_0)).trans hx110_0
       replace hx110_1 := (HB.out.cell (World.block_lt_of_cell? w _ hx110_1)).trans hx110_1
       replace hx110_2 := (HB.out.cell (World.block_lt_of_cell? w _ hx110_2)).trans hx110_2
       replace hx110_3 := (HB.out.cell (World.block_lt_of_cell? w _ hx110_3)).trans hx110_3
       replace p110 := eq_true p110
       replace q110 := eq_true q110
       go_wp2_with (first | ((with_reducible refine gate_dst (N := 7) rfl ?_); refine box_event ?hg (N := 7) ?hd (cs := #[.int .u8 0, .int .i64 0, .int .u8 0, .string (⟨#[]⟩ : ByteArray)]) (t := 83) ?hr ?_; (case hd => rfl); (case hg => rfl); (case hr => first | (go_simp; done) | (go_simp; rfl)); intro gb111 hg w8 hbox hb; have n0_ := Aside0.mk (blk_below (g := gb109) (o := .cells #[.int .u8 x110000_1, .int .i64 x110001_1, .int .u8 x110002_1, .string x110003_1] 83 (0, 0)) (by (with_reducible repeat (first | refine blk_drewN ?_ _ | refine blk_drew ?_ | refine blk_alloc ?_ _)); exact BK109.out) hb); have n1_ := Aside0.mk (below_step (by repeat (first | (with_reducible first | exact HB.out | apply below_alloc | apply pw_below_drewN | apply below_drew1 | refine below_set ?_ GE109.out) | exact HB.out)) hb); have n2_ := Aside0.mk (hbox); have n3_ := Aside0.mk ((by rw [hg]; exact (below_size (by repeat (first | (with_reducible first | exact HB.out | apply below_alloc | apply pw_below_drewN | apply below_drew1 | refine below_set ?_ GE109.out) | exact HB.out))) : w.heap.size ≤ gb111)); have n4_ := Aside0.mk ((by rw [hg]; exact (below_size (by repeat (first | (with_reducible first | exact HB.out | apply below_alloc | apply pw_below_drewN | apply below_drew1 | refine below_set ?_ GE109.out) | exact HB.out))) : w.heap.size ≤ gb111)); have n5_ := Aside0.mk ((by rw [hg]; exact Nat.ne_of_lt (blk_lt (g := gb109) (o := .cells #[.int .u8 x110000_1, .int .i64 x110001_1, .int .u8 x110002_1, .string x110003_1] 83 (0, 0)) (by (with_reducible repeat (first | refine blk_drewN ?_ _ | refine blk_drew ?_ | refine blk_alloc ?_ _)); exact BK109.out)) : gb109 ≠ gb111)); have n6_ := Aside0.mk ((by rw [hg]; exact Nat.ne_of_gt (blk_lt (g := gb109) (o := .cells #[.int .u8 x110000_1, .int .i64 x110001_1, .int .u8 x110002_1, .string x110003_1] 83 (0, 0)) (by (with_reducible repeat (first | refine blk_drewN ?_ _ | refine blk_drew ?_ | refine blk_alloc ?_ _)); exact BK109.out)) : gb111 ≠ gb109)); clear BK109; clear HB; have BK109 := n0_; have HB := n1_; have BK111 := n2_; have GW111 := n3_; have GE111 := n4_; have NB109_111 := n5_; have NB111_109 := n6_; clear n0_ n1_ n2_ n3_ n4_ n5_ n6_; clear hb hbox hg; have hnb9 := NB111_109.out; have hnc9 := NB109_111.out; have hcz10_0 : w8.cell? ⟨gb111, 0, none⟩ = some (.int .u8 0) := (blk_cell BK111.out 0).trans rfl; have hcz10_1 : w8.cell? ⟨gb111, 1, none⟩ = some (.int .i64 0) := (blk_cell BK111.out 1).trans rfl; have hcz10_2 : w8.cell? ⟨gb111, 2, none⟩ = some (.int .u8 0) := (blk_cell BK111.out 2).trans rfl; have hcz10_3 : w8.cell? ⟨gb111, 3, none⟩ = some (.string (⟨#[]⟩ : ByteArray)) := (blk_cell BK111.out 3).trans rfl; have hfz10_0 := blk_frozen BK111.out 0; have hfz10_1 := blk_frozen BK111.out 1; have hfz10_2 := blk_frozen BK111.out 2; have hfz10_3 := blk_frozen BK111.out 3; have hcz11_0 : w8.cell? ⟨gb109, 0, none⟩ = some (.int .u8 x110000_1) := (blk_cell BK109.out 0).trans rfl; have hcz11_1 : w8.cell? ⟨gb109, 1, none⟩ = some (.int .i64 x110001_1) := (blk_cell BK109.out 1).trans rfl; have hcz11_2 : w8.cell? ⟨gb109, 2, none⟩ = some (.int .u8 x110002_1) := (blk_cell BK109.out 2).trans rfl; have hcz11_3 : w8.cell? ⟨gb109, 3, none⟩ = some (.string x110003_1) := (blk_cell BK109.out 3).trans rfl; have hfz11_0 := blk_frozen BK109.out 0; have hfz11_1 := blk_frozen BK109.out 1; have hfz11_2 := blk_frozen BK109.out 2; have hfz11_3 := blk_frozen BK109.out 3))
       refine bodyPost_ret (results_ct rfl _ _ gb109 83 #[.int .u8 ((rd_T83 l0 x10_1).f0), .int .i64 ((rd_T83 l0 x10_1).f1), .int .u8 ((rd_T83 l0 x10_1).f2), .string ((rd_T83 l0 x10_1).f3)] (0, 0) _ rfl (by (with_reducible repeat (first | refine blk_drewN ?_ _ | refine blk_drew ?_ | refine blk_alloc ?_ _)); refine blk_put (cs := #[.int .u8 ((rd_T83 l0 x10_1).f0), .int .i64 ((rd_T83 l0 x10_1).f1), .int .u8 ((rd_T83 l0 x10_1).f2), .string x110003_1]) ?_ 3 _ rfl; (with_reducible repeat (first | refine blk_drewN ?_ _ | refine blk_drew ?_ | refine blk_alloc ?_ _)); refine blk_put (cs := #[.int .u8 ((rd_T83 l0 x10_1).f0), .int .i64 ((rd_T83 l0 x10_1).f1), .int .u8 x110002_1, .string x110003_1]) ?_ 2 _ rfl; (with_reducible repeat (first | refine blk_drewN ?_ _ | refine blk_drew ?_ | refine blk_alloc ?_ _)); refine blk_put (cs := #[.int .u8 ((rd_T83 l0 x10_1).f0), .int .i64 x110001_1, .int .u8 x110002_1, .string x110003_1]) ?_ 1 _ rfl; (with_reducible repeat (first | refine blk_drewN ?_ _ | refine blk_drew ?_ | refine blk_alloc ?_ _)); refine blk_put (cs := #[.int .u8 x110000_1, .int .i64 x110001_1, .int .u8 x110002_1, .string x110003_1]) ?_ 0 _ rfl; (with_reducible repeat (first | refine blk_drewN ?_ _ | refine blk_drew ?_ | refine blk_alloc ?_ _)); refine blk_far ?_ NB109_111.out _; (with_reducible repeat (first | refine blk_drewN ?_ _ | refine blk_drew ?_ | refine blk_alloc ?_ _)); refine blk_far ?_ NB109_111.out _; (with_reducible repeat (first | refine blk_drewN ?_ _ | refine blk_drew ?_ | refine blk_alloc ?_ _)); refine blk_far ?_ NB109_111.out _; (with_reducible repeat (first | refine blk_drewN ?_ _ | refine blk_drew ?_ | refine blk_alloc ?_ _)); refine blk_far ?_ NB109_111.out _; (with_reducible repeat (first | refine blk_drewN ?_ _ | refine blk_drew ?_ | refine blk_alloc ?_ _)); exact BK109.out) Tryd.underlying83 rfl (by kernel_rfl)) rfl ?_
       exact ⟨by first | rfl | (simp [errW_none, errW_some] <;> rfl) | (simp [*, errW_none, errW_some] <;> rfl), by repeat (first | (with_reducible first | exact HB.out | apply below_alloc | apply pw_below_drewN | apply below_drew1 | refine below_set ?_ GE109.out | refine below_set ?_ GE111.out) | exact HB.out)⟩
      ·rw [if_neg c7] at H
       have c7b0 : (((rd_T83 l0 x10_1).f0) == a1) = false := beq_eq_false_iff_ne.mpr c7
       have c7b1 : (((rd_T83 l0 x10_1).f0) != a1) = true := bne_iff_ne.mpr c7
       have H' := Aside0.mk H
       clear H
       have p110 : 0 ≤ (x10_1 : Int) := of_decide_eq_true (by first | (with_reducible assumption) | assumption)
       have q110 : x10_1 < (l0.length : Int) := of_decide_eq_true (by first | (with_reducible assumption) | assumption)
       obtain ⟨ad110, e110, hx110_0, hx110_1, hx110_2, hx110_3⟩ := at_T83 HR0.out x10_1 p110 q110
       cases e110
       replace hx110_0 := (HB.out.cell (World.block_lt_of_cell? w _ hx110_0)).trans hx110_0
       replace hx110_1 := (HB.out.cell (World.block_lt_of_cell? w _ hx110_1)).trans hx110_1
       replace hx110_2 := (HB.out.cell (World.block_lt_of_cell? w _ hx110_2)).trans hx110_2
       replace hx110_3 := (HB.out.cell (World.block_lt_of_cell? w _ hx110_3)).trans hx110_3
       replace p110 := eq_true p110
       replace q110 := eq_true q110
       go_wp2_with (first | ((with_reducible refine gate_dst (N := 7) rfl ?_); refine box_event ?hg (N := 7) ?hd (cs := #[.int .u8 0, .int .i64 0, .int .u8 0, .string (⟨#[]⟩ : ByteArray)]) (t := 83) ?hr ?_; (case hd => rfl); (case hg => rfl); (case hr => first | (go_simp; done) | (go_simp; rfl)); intro gb111 hg w12 hbox hb; have n0_ := Aside0.mk (blk_below (g := gb109) (o := .cells #[.int .u8 x110000_1, .int .i64 x110001_1, .int .u8 x110002_1, .string x110003_1] 83 (0, 0)) (by (with_reducible repeat (first | refine blk_drewN ?_ _ | refine blk_drew ?_ | refine blk_alloc ?_ _)); exact BK109.out) hb); have n1_ := Aside0.mk (below_step (by repeat (first | (with_reducible first | exact HB.out | apply below_alloc | apply pw_below_drewN | apply below_drew1 | refine below_set ?_ GE109.out) | exact HB.out)) hb); have n2_ := Aside0.mk (hbox); have n3_ := Aside0.mk ((by rw [hg]; exact (below_size (by repeat (first | (with_reducible first | exact HB.out | apply below_alloc | apply pw_below_drewN | apply below_drew1 | refine below_set ?_ GE109.out) | exact HB.out))) : w.heap.size ≤ gb111)); have n4_ := Aside0.mk ((by rw [hg]; exact (below_size (by repeat (first | (with_reducible first | exact HB.out | apply below_alloc | apply pw_below_drewN | apply below_drew1 | refine below_set ?_ GE109.out) | exact HB.out))) : w.heap.size ≤ gb111)); have n5_ := Aside0.mk ((by rw [hg]; exact Nat.ne_of_lt (blk_lt (g := gb109) (o := .cells #[.int .u8 x110000_1, .int .i64 x110001_1, .int .u8 x110002_1, .string x110003_1] 83 (0, 0)) (by (with_reducible repeat (first | refine blk_drewN ?_ _ | refine blk_drew ?_ | refine blk_alloc ?_ _)); exact BK109.out)) : gb109 ≠ gb111)); have n6_ := Aside0.mk ((by rw [hg]; exact Nat.ne_of_gt (blk_lt (g := gb109) (o := .cells #[.int .u8 x110000_1, .int .i64 x110001_1, .int .u8 x110002_1, .string x110003_1] 83 (0, 0)) (by (with_reducible repeat (first | refine blk_drewN ?_ _ | refine blk_drew ?_ | refine blk_alloc ?_ _)); exact BK109.out)) : gb111 ≠ gb109)); clear BK109; clear HB; have BK109 := n0_; have HB := n1_; have BK111 := n2_; have GW111 := n3_; have GE111 := n4_; have NB109_111 := n5_; have NB111_109 := n6_; clear n0_ n1_ n2_ n3_ n4_ n5_ n6_; clear hb hbox hg; have hnb13 := NB111_109.out; have hnc13 := NB109_111.out; have hcz14_0 : w12.cell? ⟨gb111, 0, none⟩ = some (.int .u8 0) := (blk_cell BK111.out 0).trans rfl; have hcz14_1 : w12.cell? ⟨gb111, 1, none⟩ = some (.int .i64 0) := (blk_cell BK111.out 1).trans rfl; have hcz14_2 : w12.cell? ⟨gb111, 2, none⟩ = some (.int .u8 0) := (blk_cell BK111.out 2).trans rfl; have hcz14_3 : w12.cell? ⟨gb111, 3, none⟩ = some (.string (⟨#[]⟩ : ByteArray)) := (blk_cell BK111.out 3).trans rfl; have hfz14_0 := blk_frozen BK111.out 0; have hfz14_1 := blk_frozen BK111.out 1; have hfz14_2 := blk_frozen BK111.out 2; have hfz14_3 := blk_frozen BK111.out 3))
       go_roundg k1
       case measure => have := HK1.out; omega
       case rel => exact ⟨(wrap64 (x10_1 + 1)), (x110000_1), (x110001_1), (x110002_1), (x110003_1), (by first | rfl | (simp; done) | (simp [*]; done)), H', ⟨by have := HK1.out; omega⟩, ⟨by (with_reducible repeat (first | refine blk_drewN ?_ _ | refine blk_drew ?_ | refine blk_alloc ?_ _)); refine blk_far ?_ NB109_111.out _; (with_reducible repeat (first | refine blk_drewN ?_ _ | refine blk_drew ?_ | refine blk_alloc ?_ _)); refine blk_far ?_ NB109_111.out _; (with_reducible repeat (first | refine blk_drewN ?_ _ | refine blk_drew ?_ | refine blk_alloc ?_ _)); refine blk_far ?_ NB109_111.out _; (with_reducible repeat (first | refine blk_drewN ?_ _ | refine blk_drew ?_ | refine blk_alloc ?_ _)); refine blk_far ?_ NB109_111.out _; (with_reducible repeat (first | refine blk_drewN ?_ _ | refine blk_drew ?_ | refine blk_alloc ?_ _)); exact BK109.out⟩, ⟨by repeat (first | (with_reducible first | exact HB.out | apply below_alloc | apply pw_below_drewN | apply below_drew1 | refine below_set ?_ GE109.out | refine below_set ?_ GE111.out) | exact HB.out)⟩⟩
     ·rw [if_neg c6] at H
      exact absurd H (by simp)
    ·rw [if_neg c5] at H
     exact absurd H (by simp)
   ·rw [if_neg c4] at H
    have c4b0 : decide (x10_1 < (l0.length : Int)) = false := decide_eq_false c4
    clear c4
    simp only [Option.some.injEq, Prod.mk.injEq] at H
    obtain ⟨rfl, rfl, rfl, rfl, rfl⟩ := H
    have hcz15_0 : wr.cell? ⟨gb109, 0, none⟩ = some (.int .u8 x110000_1) := (blk_cell BK109.out 0).trans rfl
    have hcz15_1 : wr.cell? ⟨gb109, 1, none⟩ = some (.int .i64 x110001_1) := (blk_cell BK109.out 1).trans rfl
    have hcz15_2 : wr.cell? ⟨gb109, 2, none⟩ = some (.int .u8 x110002_1) := (blk_cell BK109.out 2).trans rfl
    have hcz15_3 : wr.cell? ⟨gb109, 3, none⟩ = some (.string x110003_1) := (blk_cell BK109.out 3).trans rfl
    have hfz15_0 := blk_frozen BK109.out 0
    have hfz15_1 := blk_frozen BK109.out 1
    have hfz15_2 := blk_frozen BK109.out 2
    have hfz15_3 := blk_frozen BK109.out 3
    go_wp2
    refine bodyPost_ret (results_ct rfl _ _ gb109 83 #[.int .u8 0, .int .i64 7, .int .u8 0, .string (⟨#[]⟩ : ByteArray)] (0, 0) _ rfl (by (with_reducible repeat (first | refine blk_drewN ?_ _ | refine blk_drew ?_ | refine blk_alloc ?_ _)); refine blk_put (cs := #[.int .u8 0, .int .i64 7, .int .u8 0, .string x110003_1]) ?_ 3 _ rfl; (with_reducible repeat (first | refine blk_drewN ?_ _ | refine blk_drew ?_ | refine blk_alloc ?_ _)); refine blk_put (cs := #[.int .u8 0, .int .i64 7, .int .u8 x110002_1, .string x110003_1]) ?_ 2 _ rfl; (with_reducible repeat (first | refine blk_drewN ?_ _ | refine blk_drew ?_ | refine blk_alloc ?_ _)); refine blk_put (cs := #[.int .u8 0, .int .i64 x110001_1, .int .u8 x110002_1, .string x110003_1]) ?_ 1 _ rfl; (with_reducible repeat (first | refine blk_drewN ?_ _ | refine blk_drew ?_ | refine blk_alloc ?_ _)); refine blk_put (cs := #[.int .u8 x110000_1, .int .i64 x110001_1, .int .u8 x110002_1, .string x110003_1]) ?_ 0 _ rfl; (with_reducible repeat (first | refine blk_drewN ?_ _ | refine blk_drew ?_ | refine blk_alloc ?_ _)); exact BK109.out) Tryd.underlying83 rfl (by kernel_rfl)) rfl ?_
    exact ⟨by first | rfl | (simp [errW_none, errW_some] <;> rfl) | (simp [*, errW_none, errW_some] <;> rfl), by repeat (first | (with_reducible first | exact HB.out | apply below_alloc | apply pw_below_drewN | apply below_drew1 | refine below_set ?_ GE109.out) | exact HB.out)⟩

/-! ### exprs_pairs: function 45 -/
def exprs_pairs.f  : Option ((List (S83))) := some (([(⟨18, 0, 3, (⟨#[45, 62]⟩ : ByteArray)⟩ : S83), (⟨16, 1, 1, (⟨#[111, 114]⟩ : ByteArray)⟩ : S83), (⟨15, 2, 1, (⟨#[97, 110, 100]⟩ : ByteArray)⟩ : S83), (⟨11, 3, 3, (⟨#[61, 61]⟩ : ByteArray)⟩ : S83), (⟨12, 3, 3, (⟨#[33, 61]⟩ : ByteArray)⟩ : S83), (⟨13, 3, 3, (⟨#[60]⟩ : ByteArray)⟩ : S83), (⟨14, 3, 3, (⟨#[60, 61]⟩ : ByteArray)⟩ : S83), (⟨6, 4, 3, (⟨#[43]⟩ : ByteArray)⟩ : S83), (⟨7, 4, 3, (⟨#[45]⟩ : ByteArray)⟩ : S83), (⟨8, 5, 3, (⟨#[42]⟩ : ByteArray)⟩ : S83), (⟨9, 5, 3, (⟨#[47]⟩ : ByteArray)⟩ : S83), (⟨10, 5, 3, (⟨#[37]⟩ : ByteArray)⟩ : S83)] : List (S83)))
set_option maxHeartbeats 8000000 in
set_option maxRecDepth 100000 in
theorem exprs_pairs.calls  (r : List (S83)) (w : World) (h : exprs_pairs.f  = some r) :
  Calls Tryd.prog 45 #[] w fun e w' => ∃ v0_ : Value, e = .returned (v0_) ∧ Kd.R k83 83 w' w.heap.size (fun _ => True) v0_ r ∧ Below w.heap.size w w' := by
 have hu83 := Tryd.underlying83
 have HB := Aside0.mk (Below.refl w.heap.size w)
 have H : (some (([(⟨18, 0, 3, (⟨#[45, 62]⟩ : ByteArray)⟩ : S83), (⟨16, 1, 1, (⟨#[111, 114]⟩ : ByteArray)⟩ : S83), (⟨15, 2, 1, (⟨#[97, 110, 100]⟩ : ByteArray)⟩ : S83), (⟨11, 3, 3, (⟨#[61, 61]⟩ : ByteArray)⟩ : S83), (⟨12, 3, 3, (⟨#[33, 61]⟩ : ByteArray)⟩ : S83), (⟨13, 3, 3, (⟨#[60]⟩ : ByteArray)⟩ : S83), (⟨14, 3, 3, (⟨#[60, 61]⟩ : ByteArray)⟩ : S83), (⟨6, 4, 3, (⟨#[43]⟩ : ByteArray)⟩ : S83), (⟨7, 4, 3, (⟨#[45]⟩ : ByteArray)⟩ : S83), (⟨8, 5, 3, (⟨#[42]⟩ : ByteArray)⟩ : S83), (⟨9, 5, 3, (⟨#[47]⟩ : ByteArray)⟩ : S83), (⟨10, 5, 3, (⟨#[37]⟩ : ByteArray)⟩ : S83)] : List (S83)))) = some r := h
 clear h
 obtain ⟨y112, hy112⟩ : ∃ y_ : List (S83), y_ = (([(⟨18, 0, 3, (⟨#[45, 62]⟩ : ByteArray)⟩ : S83), (⟨16, 1, 1, (⟨#[111, 114]⟩ : ByteArray)⟩ : S83), (⟨15, 2, 1, (⟨#[97, 110, 100]⟩ : ByteArray)⟩ : S83), (⟨11, 3, 3, (⟨#[61, 61]⟩ : ByteArray)⟩ : S83), (⟨12, 3, 3, (⟨#[33, 61]⟩ : ByteArray)⟩ : S83), (⟨13, 3, 3, (⟨#[60]⟩ : ByteArray)⟩ : S83), (⟨14, 3, 3, (⟨#[60, 61]⟩ : ByteArray)⟩ : S83), (⟨6, 4, 3, (⟨#[43]⟩ : ByteArray)⟩ : S83), (⟨7, 4, 3, (⟨#[45]⟩ : ByteArray)⟩ : S83), (⟨8, 5, 3, (⟨#[42]⟩ : ByteArray)⟩ : S83), (⟨9, 5, 3, (⟨#[47]⟩ : ByteArray)⟩ : S83), (⟨10, 5, 3, (⟨#[37]⟩ : ByteArray)⟩ : S83)] : List (S83))) := ⟨_, rfl⟩
 replace H : (some y112) = some r := by first | (rw [hy112]; with_reducible exact H) | (have H2_ := (Option.bind_some _ _).symm.trans H; rw [hy112]; with_reducible exact H2_) | (have H2_ := (Option.bind_some _ _).symm.trans H; with_reducible exact H2_) | with_reducible exact H | (rw [hy112]; exact H) | exact H
 have Ny112 := Aside0.mk hy112
 clear hy112
 obtain rfl := Option.some.inj H
 go_enter Tryd.func45, Tryd.ntmps45
 go_wp2_with (first | ((with_reducible refine gate_dst (N := 13) rfl ?_); refine Kd.R_lit k83 _ 83 ?hg (N := 13) ?hd (xs := ([(⟨18, 0, 3, (⟨#[45, 62]⟩ : ByteArray)⟩ : S83), (⟨16, 1, 1, (⟨#[111, 114]⟩ : ByteArray)⟩ : S83), (⟨15, 2, 1, (⟨#[97, 110, 100]⟩ : ByteArray)⟩ : S83), (⟨11, 3, 3, (⟨#[61, 61]⟩ : ByteArray)⟩ : S83), (⟨12, 3, 3, (⟨#[33, 61]⟩ : ByteArray)⟩ : S83), (⟨13, 3, 3, (⟨#[60]⟩ : ByteArray)⟩ : S83), (⟨14, 3, 3, (⟨#[60, 61]⟩ : ByteArray)⟩ : S83), (⟨6, 4, 3, (⟨#[43]⟩ : ByteArray)⟩ : S83), (⟨7, 4, 3, (⟨#[45]⟩ : ByteArray)⟩ : S83), (⟨8, 5, 3, (⟨#[42]⟩ : ByteArray)⟩ : S83), (⟨9, 5, 3, (⟨#[47]⟩ : ByteArray)⟩ : S83), (⟨10, 5, 3, (⟨#[37]⟩ : ByteArray)⟩ : S83)] : List (S83))) (inner := [.int .u8 18, .int .i64 0, .int .u8 3, .string (⟨#[45, 62]⟩ : ByteArray), .int .u8 16, .int .i64 1, .int .u8 1, .string (⟨#[111, 114]⟩ : ByteArray), .int .u8 15, .int .i64 2, .int .u8 1, .string (⟨#[97, 110, 100]⟩ : ByteArray), .int .u8 11, .int .i64 3, .int .u8 3, .string (⟨#[61, 61]⟩ : ByteArray), .int .u8 12, .int .i64 3, .int .u8 3, .string (⟨#[33, 61]⟩ : ByteArray), .int .u8 13, .int .i64 3, .int .u8 3, .string (⟨#[60]⟩ : ByteArray), .int .u8 14, .int .i64 3, .int .u8 3, .string (⟨#[60, 61]⟩ : ByteArray), .int .u8 6, .int .i64 4, .int .u8 3, .string (⟨#[43]⟩ : ByteArray), .int .u8 7, .int .i64 4, .int .u8 3, .string (⟨#[45]⟩ : ByteArray), .int .u8 8, .int .i64 5, .int .u8 3, .string (⟨#[42]⟩ : ByteArray), .int .u8 9, .int .i64 5, .int .u8 3, .string (⟨#[47]⟩ : ByteArray), .int .u8 10, .int .i64 5, .int .u8 3, .string (⟨#[37]⟩ : ByteArray)]) (ok := fun _ => True) (okp := fun _ => True) ?hr ?hp (fun _ hk => hk) trivial (Below.refl _ _) (Nat.le_refl _) (by simp) ?_; (case hd => rfl); (case hg => rfl); (case hr => first | (go_simp; done) | (go_simp; rfl)); (case hp => exact (Reps.c4 (show Kd.M k83 _ _ _ (⟨18, 0, 3, (⟨#[45, 62]⟩ : ByteArray)⟩ : S83) [.int .u8 18, .int .i64 0, .int .u8 3, .string (⟨#[45, 62]⟩ : ByteArray)] from (k83_mkM _ _ _ (⟨18, 0, 3, (⟨#[45, 62]⟩ : ByteArray)⟩ : S83) )) (Reps.c4 (show Kd.M k83 _ _ _ (⟨16, 1, 1, (⟨#[111, 114]⟩ : ByteArray)⟩ : S83) [.int .u8 16, .int .i64 1, .int .u8 1, .string (⟨#[111, 114]⟩ : ByteArray)] from (k83_mkM _ _ _ (⟨16, 1, 1, (⟨#[111, 114]⟩ : ByteArray)⟩ : S83) )) (Reps.c4 (show Kd.M k83 _ _ _ (⟨15, 2, 1, (⟨#[97, 110, 100]⟩ : ByteArray)⟩ : S83) [.int .u8 15, .int .i64 2, .int .u8 1, .string (⟨#[97, 110, 100]⟩ : ByteArray)] from (k83_mkM _ _ _ (⟨15, 2, 1, (⟨#[97, 110, 100]⟩ : ByteArray)⟩ : S83) )) (Reps.c4 (show Kd.M k83 _ _ _ (⟨11, 3, 3, (⟨#[61, 61]⟩ : ByteArray)⟩ : S83) [.int .u8 11, .int .i64 3, .int .u8 3, .string (⟨#[61, 61]⟩ : ByteArray)] from (k83_mkM _ _ _ (⟨11, 3, 3, (⟨#[61, 61]⟩ : ByteArray)⟩ : S83) )) (Reps.c4 (show Kd.M k83 _ _ _ (⟨12, 3, 3, (⟨#[33, 61]⟩ : ByteArray)⟩ : S83) [.int .u8 12, .int .i64 3, .int .u8 3, .string (⟨#[33, 61]⟩ : ByteArray)] from (k83_mkM _ _ _ (⟨12, 3, 3, (⟨#[33, 61]⟩ : ByteArray)⟩ : S83) )) (Reps.c4 (show Kd.M k83 _ _ _ (⟨13, 3, 3, (⟨#[60]⟩ : ByteArray)⟩ : S83) [.int .u8 13, .int .i64 3, .int .u8 3, .string (⟨#[60]⟩ : ByteArray)] from (k83_mkM _ _ _ (⟨13, 3, 3, (⟨#[60]⟩ : ByteArray)⟩ : S83) )) (Reps.c4 (show Kd.M k83 _ _ _ (⟨14, 3, 3, (⟨#[60, 61]⟩ : ByteArray)⟩ : S83) [.int .u8 14, .int .i64 3, .int .u8 3, .string (⟨#[60, 61]⟩ : ByteArray)] from (k83_mkM _ _ _ (⟨14, 3, 3, (⟨#[60, 61]⟩ : ByteArray)⟩ : S83) )) (Reps.c4 (show Kd.M k83 _ _ _ (⟨6, 4, 3, (⟨#[43]⟩ : ByteArray)⟩ : S83) [.int .u8 6, .int .i64 4, .int .u8 3, .string (⟨#[43]⟩ : ByteArray)] from (k83_mkM _ _ _ (⟨6, 4, 3, (⟨#[43]⟩ : ByteArray)⟩ : S83) )) (Reps.c4 (show Kd.M k83 _ _ _ (⟨7, 4, 3, (⟨#[45]⟩ : ByteArray)⟩ : S83) [.int .u8 7, .int .i64 4, .int .u8 3, .string (⟨#[45]⟩ : ByteArray)] from (k83_mkM _ _ _ (⟨7, 4, 3, (⟨#[45]⟩ : ByteArray)⟩ : S83) )) (Reps.c4 (show Kd.M k83 _ _ _ (⟨8, 5, 3, (⟨#[42]⟩ : ByteArray)⟩ : S83) [.int .u8 8, .int .i64 5, .int .u8 3, .string (⟨#[42]⟩ : ByteArray)] from (k83_mkM _ _ _ (⟨8, 5, 3, (⟨#[42]⟩ : ByteArray)⟩ : S83) )) (Reps.c4 (show Kd.M k83 _ _ _ (⟨9, 5, 3, (⟨#[47]⟩ : ByteArray)⟩ : S83) [.int .u8 9, .int .i64 5, .int .u8 3, .string (⟨#[47]⟩ : ByteArray)] from (k83_mkM _ _ _ (⟨9, 5, 3, (⟨#[47]⟩ : ByteArray)⟩ : S83) )) (Reps.c4 (show Kd.M k83 _ _ _ (⟨10, 5, 3, (⟨#[37]⟩ : ByteArray)⟩ : S83) [.int .u8 10, .int .i64 5, .int .u8 3, .string (⟨#[37]⟩ : ByteArray)] from (k83_mkM _ _ _ (⟨10, 5, 3, (⟨#[37]⟩ : ByteArray)⟩ : S83) )) (Reps.none _ _)))))))))))))); intro v113 w1 ho2 hb hg_ hnew_; clear hg_ hnew_; (first | rw [← Ny112.out] at ho2 | (simp only [Int.reduceToNat] at ho2; rw [← Ny112.out] at ho2)); have n0_ := Aside0.mk (Kd.R_lower ho2 (below_size (by repeat (first | (with_reducible first | exact HB.out | apply below_alloc | apply pw_below_drewN | apply below_drew1) | exact HB.out)))); have n1_ := Aside0.mk (below_step (by repeat (first | (with_reducible first | exact HB.out | apply below_alloc | apply pw_below_drewN | apply below_drew1) | exact HB.out)) hb); clear HB; have HO114 := n0_; have HB := n1_; clear n0_ n1_; clear hb ho2))
 go_ret
 exact ⟨_, by first | rfl | (simp [errW_none, errW_some] <;> rfl) | (simp [*, errW_none, errW_some] <;> rfl), by (with_reducible repeat (first | apply Kd.R_alloc | apply Kd.R_drewN | apply Kd.R_drew)); exact HO114.out, by repeat (first | (with_reducible first | exact HB.out | apply below_alloc | apply pw_below_drewN | apply below_drew1) | exact HB.out)⟩

/-! ### exprs_prefixes: function 48 -/
def exprs_prefixes.f  : Option ((List (S83))) := some (([(⟨4, 6, 3, (⟨#[45]⟩ : ByteArray)⟩ : S83), (⟨5, 6, 1, (⟨#[110, 111, 116]⟩ : ByteArray)⟩ : S83), (⟨19, 6, 1, (⟨#[112, 114, 101]⟩ : ByteArray)⟩ : S83)] : List (S83)))
set_option maxHeartbeats 8000000 in
set_option maxRecDepth 100000 in
theorem exprs_prefixes.calls  (r : List (S83)) (w : World) (h : exprs_prefixes.f  = some r) :
  Calls Tryd.prog 48 #[] w fun e w' => ∃ v0_ : Value, e = .returned (v0_) ∧ Kd.R k83 83 w' w.heap.size (fun _ => True) v0_ r ∧ Below w.heap.size w w' := by
 have hu83 := Tryd.underlying83
 have HB := Aside0.mk (Below.refl w.heap.size w)
 have H : (some (([(⟨4, 6, 3, (⟨#[45]⟩ : ByteArray)⟩ : S83), (⟨5, 6, 1, (⟨#[110, 111, 116]⟩ : ByteArray)⟩ : S83), (⟨19, 6, 1, (⟨#[112, 114, 101]⟩ : ByteArray)⟩ : S83)] : List (S83)))) = some r := h
 clear h
 obtain ⟨y115, hy115⟩ : ∃ y_ : List (S83), y_ = (([(⟨4, 6, 3, (⟨#[45]⟩ : ByteArray)⟩ : S83), (⟨5, 6, 1, (⟨#[110, 111, 116]⟩ : ByteArray)⟩ : S83), (⟨19, 6, 1, (⟨#[112, 114, 101]⟩ : ByteArray)⟩ : S83)] : List (S83))) := ⟨_, rfl⟩
 replace H : (some y115) = some r := by first | (rw [hy115]; with_reducible exact H) | (have H2_ := (Option.bind_some _ _).symm.trans H; rw [hy115]; with_reducible exact H2_) | (have H2_ := (Option.bind_some _ _).symm.trans H; with_reducible exact H2_) | with_reducible exact H | (rw [hy115]; exact H) | exact H
 have Ny115 := Aside0.mk hy115
 clear hy115
 obtain rfl := Option.some.inj H
 go_enter Tryd.func48, Tryd.ntmps48
 go_wp2_with (first | ((with_reducible refine gate_dst (N := 4) rfl ?_); refine Kd.R_lit k83 _ 83 ?hg (N := 4) ?hd (xs := ([(⟨4, 6, 3, (⟨#[45]⟩ : ByteArray)⟩ : S83), (⟨5, 6, 1, (⟨#[110, 111, 116]⟩ : ByteArray)⟩ : S83), (⟨19, 6, 1, (⟨#[112, 114, 101]⟩ : ByteArray)⟩ : S83)] : List (S83))) (inner := [.int .u8 4, .int .i64 6, .int .u8 3, .string (⟨#[45]⟩ : ByteArray), .int .u8 5, .int .i64 6, .int .u8 1, .string (⟨#[110, 111, 116]⟩ : ByteArray), .int .u8 19, .int .i64 6, .int .u8 1, .string (⟨#[112, 114, 101]⟩ : ByteArray)]) (ok := fun _ => True) (okp := fun _ => True) ?hr ?hp (fun _ hk => hk) trivial (Below.refl _ _) (Nat.le_refl _) (by simp) ?_; (case hd => rfl); (case hg => rfl); (case hr => first | (go_simp; done) | (go_simp; rfl)); (case hp => exact (Reps.c4 (show Kd.M k83 _ _ _ (⟨4, 6, 3, (⟨#[45]⟩ : ByteArray)⟩ : S83) [.int .u8 4, .int .i64 6, .int .u8 3, .string (⟨#[45]⟩ : ByteArray)] from (k83_mkM _ _ _ (⟨4, 6, 3, (⟨#[45]⟩ : ByteArray)⟩ : S83) )) (Reps.c4 (show Kd.M k83 _ _ _ (⟨5, 6, 1, (⟨#[110, 111, 116]⟩ : ByteArray)⟩ : S83) [.int .u8 5, .int .i64 6, .int .u8 1, .string (⟨#[110, 111, 116]⟩ : ByteArray)] from (k83_mkM _ _ _ (⟨5, 6, 1, (⟨#[110, 111, 116]⟩ : ByteArray)⟩ : S83) )) (Reps.c4 (show Kd.M k83 _ _ _ (⟨19, 6, 1, (⟨#[112, 114, 101]⟩ : ByteArray)⟩ : S83) [.int .u8 19, .int .i64 6, .int .u8 1, .string (⟨#[112, 114, 101]⟩ : ByteArray)] from (k83_mkM _ _ _ (⟨19, 6, 1, (⟨#[112, 114, 101]⟩ : ByteArray)⟩ : S83) )) (Reps.none _ _))))); intro v116 w1 ho2 hb hg_ hnew_; clear hg_ hnew_; (first | rw [← Ny115.out] at ho2 | (simp only [Int.reduceToNat] at ho2; rw [← Ny115.out] at ho2)); have n0_ := Aside0.mk (Kd.R_lower ho2 (below_size (by repeat (first | (with_reducible first | exact HB.out | apply below_alloc | apply pw_below_drewN | apply below_drew1) | exact HB.out)))); have n1_ := Aside0.mk (below_step (by repeat (first | (with_reducible first | exact HB.out | apply below_alloc | apply pw_below_drewN | apply below_drew1) | exact HB.out)) hb); clear HB; have HO117 := n0_; have HB := n1_; clear n0_ n1_; clear hb ho2))
 go_ret
 exact ⟨_, by first | rfl | (simp [errW_none, errW_some] <;> rfl) | (simp [*, errW_none, errW_some] <;> rfl), by (with_reducible repeat (first | apply Kd.R_alloc | apply Kd.R_drewN | apply Kd.R_drew)); exact HO117.out, by repeat (first | (with_reducible first | exact HB.out | apply below_alloc | apply pw_below_drewN | apply below_drew1) | exact HB.out)⟩

/-! ### exprs_parts: function 56 -/
def exprs_parts.j0 : Nat → Int → Bool → Option (Int)
 | 0, _, _ => none
 | k + 1, x0, x7 => if x7 = true then (some 0) else (if x0 = 17 then (some 3) else ((exprs_pairs.f).bind fun t118 => ((exprs_find.f k t118 x0).bind fun bt121 => (if bt121.2.2.2.2 = true then (some 2) else ((exprs_prefixes.f).bind fun t127 => ((exprs_find.f k t127 x0).bind fun bt130 => (if bt130.2.2.2.2 = true then (some 1) else (some (-1)))))))))
def exprs_parts.f (k : Nat) (a0 : Int) : Option (Int) := if a0 = 1 then (exprs_parts.j0 k a0 true) else (if a0 = 2 then (exprs_parts.j0 k a0 true) else (exprs_parts.j0 k a0 (a0 == 3)))
theorem exprs_parts.mono_l : ∀ k, (∀ y0 y1, LeO (exprs_parts.j0 k y0 y1) (exprs_parts.j0 (k + 1) y0 y1))
 | 0 => fun _ _ r h => by simp [exprs_parts.j0] at h
 | k + 1 => by
  have ih0 := exprs_parts.mono_l k
  ·intro y0 y1
   unfold exprs_parts.j0
   repeat' first
   | (with_reducible exact ih0 _ _)
   | (with_reducible exact exprs_find.mono _ _ _)
   | (with_reducible exact LeO.refl _)
   | (with_reducible exact LeO.none _)
   | (with_reducible refine LeO.ite ?_ ?_)
   | (with_reducible refine LeO.bind ?_ (fun _ => ?_))
   | exact ih0 _ _
   | exact exprs_find.mono _ _ _
   | exact LeO.none _
   | refine LeO.ite ?_ ?_
   | refine LeO.bind ?_ (fun _ => ?_)
theorem exprs_parts.mono : ∀ a0 k, LeO (exprs_parts.f k a0) (exprs_parts.f (k + 1) a0) := by
 intro a0 k
 have ih0 := exprs_parts.mono_l k
 unfold exprs_parts.f
 repeat' first
   | (with_reducible exact ih0 _ _)
   | (with_reducible exact exprs_find.mono _ _ _)
   | (with_reducible exact LeO.refl _)
   | (with_reducible exact LeO.none _)
   | (with_reducible refine LeO.ite ?_ ?_)
   | (with_reducible refine LeO.bind ?_ (fun _ => ?_))
   | exact ih0 _ _
   | exact exprs_find.mono _ _ _
   | exact LeO.none _
   | refine LeO.ite ?_ ?_
   | refine LeO.bind ?_ (fun _ => ?_)
set_option maxHeartbeats 8000000 in
set_option maxRecDepth 100000 in
theorem exprs_parts.calls (k : Nat) (a0 : Int) (r : Int) (w : World) (h : exprs_parts.f k a0 = some r) :
  Calls Tryd.prog 56 #[.int .u8 a0] w fun e w' => e = .returned (.int .i64 r) ∧ Below w.heap.size w w' := by
 have hu83 := Tryd.underlying83
 have HB := Aside0.mk (Below.refl w.heap.size w)
 have H : (if a0 = 1 then (exprs_parts.j0 k a0 true) else (if a0 = 2 then (exprs_parts.j0 k a0 true) else (exprs_parts.j0 k a0 (a0 == 3)))) = some r := h
 clear h
 have HC2 := Aside0.mk H
 clear H
 go_enter Tryd.func56, Tryd.ntmps56
 go_upto_region 1 with (fail)
 go_cut [7] (fun v7 wc => ∃ (kq : Nat) (x7_1 : Bool), v7 = .bool x7_1 ∧ Aside0 (exprs_parts.j0 kq a0 x7_1 = some r) ∧ Aside0 (kq ≤ k) ∧ Aside0 (Below w.heap.size w wc))
 case first =>
  have H := HC2.out
  clear HC2
  by_cases c3 : a0 = 1
  ·rw [if_pos c3] at H
   have c3b0 : (a0 == 1) = true := beq_iff_eq.mpr c3
   have c3b1 : (a0 != 1) = false := bne_eq_false_iff_eq.mpr c3
   clear c3
   (first | rw [c3b0] | (simp only [i64_w, i32_w]; rw [c3b0]) | skip)
   have H' := Aside0.mk H
   clear H
   go_wp2
   go_meet
   case rel => exact ⟨_, (true), (by first | rfl | (simp; done) | (simp [*]; done)), H', ⟨by first | omega | exact Nat.le_refl _⟩, ⟨by repeat (first | (with_reducible first | exact HB.out | apply below_alloc | apply pw_below_drewN | apply below_drew1) | exact HB.out)⟩⟩
  ·rw [if_neg c3] at H
   have c3b0 : (a0 == 1) = false := beq_eq_false_iff_ne.mpr c3
   have c3b1 : (a0 != 1) = true := bne_iff_ne.mpr c3
   (first | rw [c3b0] | (simp only [i64_w, i32_w]; rw [c3b0]) | skip)
   by_cases c4 : a0 = 2
   ·rw [if_pos c4] at H
    have c4b0 : (a0 == 2) = true := beq_iff_eq.mpr c4
    have c4b1 : (a0 != 2) = false := bne_eq_false_iff_eq.mpr c4
    clear c4
    have H' := Aside0.mk H
    clear H
    go_wp2
    go_meet
    case rel => exact ⟨_, (true), (by first | rfl | (simp; done) | (simp [*]; done)), H', ⟨by first | omega | exact Nat.le_refl _⟩, ⟨by repeat (first | (with_reducible first | exact HB.out | apply below_alloc | apply pw_below_drewN | apply below_drew1) | exact HB.out)⟩⟩
   ·rw [if_neg c4] at H
    have c4b0 : (a0 == 2) = false := beq_eq_false_iff_ne.mpr c4
    have c4b1 : (a0 != 2) = true := bne_iff_ne.mpr c4
    have H' := Aside0.mk H
    clear H
    go_wp2
    go_meet
    case rel => exact ⟨_, ((a0 == 3)), (by first | rfl | (simp; done) | (simp [*]; done)), H', ⟨by first | omega | exact Nat.le_refl _⟩, ⟨by repeat (first | (with_reducible first | exact HB.out | apply below_alloc | apply pw_below_drewN | apply below_drew1) | exact HB.out)⟩⟩
 case rest =>
  clear HC2
  try clear p2
  try clear c3
  try clear c3b0
  try clear c3b1
  try clear c4
  try clear c4b0
  try clear c4b1
  obtain ⟨kq, x7_1, rfl, HA, HJ1, HB⟩ := hcut
  cases kq with
  | zero => exact absurd HA.out (by simp [exprs_parts.j0])
  | succ kj1 =>
   have H := HA.out
   clear HA
   simp only [exprs_parts.j0] at H
   by_cases c5 : x7_1 = true
   ·subst c5
    have H1 : (some 0) = some r := by rw [if_pos rfl] at H; exact H
    clear H
    have H := H1
    clear H1
    obtain rfl := Option.some.inj H
    go_wp2
    go_ret
    exact ⟨by first | rfl | (simp [errW_none, errW_some] <;> rfl) | (simp [*, errW_none, errW_some] <;> rfl), by repeat (first | (with_reducible first | exact HB.out | apply below_alloc | apply pw_below_drewN | apply below_drew1) | exact HB.out)⟩
   ·replace c5 := Bool.eq_false_iff.mpr c5
    subst c5
    have H1 : (if a0 = 17 then (some 3) else ((exprs_pairs.f).bind fun t118 => ((exprs_find.f kj1 t118 a0).bind fun bt121 => (if bt121.2.2.2.2 = true then (some 2) else ((exprs_prefixes.f).bind fun t127 => ((exprs_find.f kj1 t127 a0).bind fun bt130 => (if bt130.2.2.2.2 = true then (some 1) else (some (-1))))))))) = some r := by rw [if_neg (show ¬ (false = true) by decide)] at H; exact H
    clear H
    have H := H1
    clear H1
    by_cases c6 : a0 = 17
    ·rw [if_pos c6] at H
     have c6b0 : (a0 == 17) = true := beq_iff_eq.mpr c6
     have c6b1 : (a0 != 17) = false := bne_eq_false_iff_eq.mpr c6
     clear c6
     obtain rfl := Option.some.inj H
     go_wp2
     go_ret
     exact ⟨by first | rfl | (simp [errW_none, errW_some] <;> rfl) | (simp [*, errW_none, errW_some] <;> rfl), by repeat (first | (with_reducible first | exact HB.out | apply below_alloc | apply pw_below_drewN | apply below_drew1) | exact HB.out)⟩
    ·rw [if_neg c6] at H
     have c6b0 : (a0 == 17) = false := beq_eq_false_iff_ne.mpr c6
     have c6b1 : (a0 != 17) = true := bne_iff_ne.mpr c6
     replace H := Option.bind_eq_some_iff.mp H
     obtain ⟨t118, A70, H⟩ := H
     replace H : ((exprs_find.f kj1 t118 a0).bind fun bt121 => (if bt121.2.2.2.2 = true then (some 2) else ((exprs_prefixes.f).bind fun t127 => ((exprs_find.f kj1 t127 a0).bind fun bt130 => (if bt130.2.2.2.2 = true then (some 1) else (some (-1))))))) = some r := H
     have A7 := Aside0.mk A70
     clear A70
     replace H := Option.bind_eq_some_iff.mp H
     obtain ⟨⟨t121, t122, t123, t124, t125⟩, A80, H⟩ := H
     replace H : (if t125 = true then (some 2) else ((exprs_prefixes.f).bind fun t127 => ((exprs_find.f kj1 t127 a0).bind fun bt130 => (if bt130.2.2.2.2 = true then (some 1) else (some (-1)))))) = some r := H
     have A8 := Aside0.mk A80
     clear A80
     by_cases c9 : t125 = true
     ·subst c9
      have H1 : (some 2) = some r := by rw [if_pos rfl] at H; exact H
      clear H
      have H := H1
      clear H1
      obtain rfl := Option.some.inj H
      go_wp2_with (first | ((with_reducible refine gate_callee (f := 45) rfl ?_); refine goesL_ (some 22) rfl rfl Tryd.func45 (by kernel_rfl) rfl #[] rfl (by (try simp only [List.map_toArray, List.map_cons, List.map_nil]); first | done | rfl | (simp only [List.length_drop, List.length_take]; rfl)) ?_; (with_reducible refine (exprs_pairs.calls  t118 _ A7.out).mono ?_); rintro e w10 ⟨v119, rfl, ho0, hb⟩; refine ⟨_, rfl, ?_⟩; have n0_ := Aside0.mk (Kd.R_lower ho0 (below_size (by repeat (first | (with_reducible first | exact HB.out | apply below_alloc | apply pw_below_drewN | apply below_drew1) | exact HB.out)))); have n1_ := Aside0.mk (below_step (by repeat (first | (with_reducible first | exact HB.out | apply below_alloc | apply pw_below_drewN | apply below_drew1) | exact HB.out)) hb); clear HB; have HO120 := n0_; have HB := n1_; clear n0_ n1_; (try clear hb); (try clear hb2); (try clear hk); (try clear hi); (try clear ho0); obtain ⟨Ao11, co11, eo11⟩ := Kd.R_slice HO120.out; subst eo11) | ((with_reducible refine gate_callee (f := 44) rfl ?_); refine goesL_ (some 24) rfl rfl Tryd.func44 (by kernel_rfl) rfl #[.slice Ao11 t118.length co11, .int .u8 a0] rfl (by (try simp only [List.map_toArray, List.map_cons, List.map_nil]); first | done | rfl | (simp only [List.length_drop, List.length_take]; rfl)) ?_; (with_reducible refine (exprs_find.calls kj1 _ _ t118 a0 t121 t122 t123 t124 true _ ?side1 ?side2 A8.out).mono ?_); (case side1 => repeat (first | exact (Kd.R_reads' HO120.out).2.2 | (with_reducible refine Kd.C_alloc ?_ _) | (with_reducible refine Kd.C_drewN ?_ _) | (with_reducible refine Kd.C_drew ?_))); (case side2 => exact (Kd.R_reads' HO120.out).2.1); rintro e w12 ⟨rfl, hb⟩; refine ⟨_, rfl, ?_⟩; have n0_ := Aside0.mk (Kd.R_below (by (with_reducible repeat (first | apply Kd.R_alloc | apply Kd.R_drewN | apply Kd.R_drew)); exact HO120.out) hb); have n1_ := Aside0.mk (below_step (by repeat (first | (with_reducible first | exact HB.out | apply below_alloc | apply pw_below_drewN | apply below_drew1) | exact HB.out)) hb); clear HO120; clear HB; have HO120 := n0_; have HB := n1_; clear n0_ n1_; (try clear hb); (try clear hb2); (try clear hk); (try clear hi)) | ((with_reducible refine gate_dst (N := 3) rfl ?_); refine box_event ?hg (N := 3) ?hd (cs := #[.int .u8 0, .int .i64 0, .int .u8 0, .string (⟨#[]⟩ : ByteArray)]) (t := 83) ?hr ?_; (case hd => rfl); (case hg => rfl); (case hr => first | (go_simp; done) | (go_simp; rfl)); intro gb126 hg w13 hbox hb; have n0_ := Aside0.mk (Kd.R_below (Kd.R_elderB (by (with_reducible repeat (first | apply Kd.R_alloc | apply Kd.R_drewN | apply Kd.R_drew)); exact HO120.out) gb126 (Nat.le_of_eq hg.symm)) hb); have n1_ := Aside0.mk (below_step (by repeat (first | (with_reducible first | exact HB.out | apply below_alloc | apply pw_below_drewN | apply below_drew1) | exact HB.out)) hb); have n2_ := Aside0.mk (hbox); have n3_ := Aside0.mk ((by rw [hg]; exact (below_size (by repeat (first | (with_reducible first | exact HB.out | apply below_alloc | apply pw_below_drewN | apply below_drew1) | exact HB.out))) : w.heap.size ≤ gb126)); have n4_ := Aside0.mk ((by rw [hg]; exact (below_size (by repeat (first | (with_reducible first | exact HB.out | apply below_alloc | apply pw_below_drewN | apply below_drew1) | exact HB.out))) : w.heap.size ≤ gb126)); clear HO120; clear HB; have HO120 := n0_; have HB := n1_; have BK126 := n2_; have GW126 := n3_; have GE126 := n4_; clear n0_ n1_ n2_ n3_ n4_; clear hb hbox hg; have hcz14_0 : w13.cell? ⟨gb126, 0, none⟩ = some (.int .u8 0) := (blk_cell BK126.out 0).trans rfl; have hcz14_1 : w13.cell? ⟨gb126, 1, none⟩ = some (.int .i64 0) := (blk_cell BK126.out 1).trans rfl; have hcz14_2 : w13.cell? ⟨gb126, 2, none⟩ = some (.int .u8 0) := (blk_cell BK126.out 2).trans rfl; have hcz14_3 : w13.cell? ⟨gb126, 3, none⟩ = some (.string (⟨#[]⟩ : ByteArray)) := (blk_cell BK126.out 3).trans rfl; have hfz14_0 := blk_frozen BK126.out 0; have hfz14_1 := blk_frozen BK126.out 1; have hfz14_2 := blk_frozen BK126.out 2; have hfz14_3 := blk_frozen BK126.out 3))
      go_ret
      exact ⟨by first | rfl | (simp [errW_none, errW_some] <;> rfl) | (simp [*, errW_none, errW_some] <;> rfl), by repeat (first | (with_reducible first | exact HB.out | apply below_alloc | apply pw_below_drewN | apply below_drew1 | refine below_set ?_ GE126.out) | exact HB.out)⟩
     ·replace c9 := Bool.eq_false_iff.mpr c9
      subst c9
      have H1 : ((exprs_prefixes.f).bind fun t127 => ((exprs_find.f kj1 t127 a0).bind fun bt130 => (if bt130.2.2.2.2 = true then (some 1) else (some (-1))))) = some r := by rw [if_neg (show ¬ (false = true) by decide)] at H; exact H
      clear H
      have H := H1
      clear H1
      replace H := Option.bind_eq_some_iff.mp H
      obtain ⟨t127, A150, H⟩ := H
      replace H : ((exprs_find.f kj1 t127 a0).bind fun bt130 => (if bt130.2.2.2.2 = true then (some 1) else (some (-1)))) = some r := H
      have A15 := Aside0.mk A150
      clear A150
      replace H := Option.bind_eq_some_iff.mp H
      obtain ⟨⟨t130, t131, t132, t133, t134⟩, A160, H⟩ := H
      replace H : (if t134 = true then (some 1) else (some (-1))) = some r := H
      have A16 := Aside0.mk A160
      clear A160
      by_cases c17 : t134 = true
      ·subst c17
       have H1 : (some 1) = some r := by rw [if_pos rfl] at H; exact H
       clear H
       have H := H1
       clear H1
       obtain rfl := Option.some.inj H
       go_wp2_with (first | ((with_reducible refine gate_callee (f := 45) rfl ?_); refine goesL_ (some 22) rfl rfl Tryd.func45 (by kernel_rfl) rfl #[] rfl (by (try simp only [List.map_toArray, List.map_cons, List.map_nil]); first | done | rfl | (simp only [List.length_drop, List.length_take]; rfl)) ?_; (with_reducible refine (exprs_pairs.calls  t118 _ A7.out).mono ?_); rintro e w18 ⟨v119, rfl, ho0, hb⟩; refine ⟨_, rfl, ?_⟩; have n0_ := Aside0.mk (Kd.R_lower ho0 (below_size (by repeat (first | (with_reducible first | exact HB.out | apply below_alloc | apply pw_below_drewN | apply below_drew1) | exact HB.out)))); have n1_ := Aside0.mk (below_step (by repeat (first | (with_reducible first | exact HB.out | apply below_alloc | apply pw_below_drewN | apply below_drew1) | exact HB.out)) hb); clear HB; have HO120 := n0_; have HB := n1_; clear n0_ n1_; (try clear hb); (try clear hb2); (try clear hk); (try clear hi); (try clear ho0); obtain ⟨Ao19, co19, eo19⟩ := Kd.R_slice HO120.out; subst eo19) | ((with_reducible refine gate_callee (f := 44) rfl ?_); refine goesL_ (some 24) rfl rfl Tryd.func44 (by kernel_rfl) rfl #[.slice Ao19 t118.length co19, .int .u8 a0] rfl (by (try simp only [List.map_toArray, List.map_cons, List.map_nil]); first | done | rfl | (simp only [List.length_drop, List.length_take]; rfl)) ?_; (with_reducible refine (exprs_find.calls kj1 _ _ t118 a0 t121 t122 t123 t124 false _ ?side1 ?side2 A8.out).mono ?_); (case side1 => repeat (first | exact (Kd.R_reads' HO120.out).2.2 | (with_reducible refine Kd.C_alloc ?_ _) | (with_reducible refine Kd.C_drewN ?_ _) | (with_reducible refine Kd.C_drew ?_))); (case side2 => exact (Kd.R_reads' HO120.out).2.1); rintro e w20 ⟨rfl, hb⟩; refine ⟨_, rfl, ?_⟩; have n0_ := Aside0.mk (Kd.R_below (by (with_reducible repeat (first | apply Kd.R_alloc | apply Kd.R_drewN | apply Kd.R_drew)); exact HO120.out) hb); have n1_ := Aside0.mk (below_step (by repeat (first | (with_reducible first | exact HB.out | apply below_alloc | apply pw_below_drewN | apply below_drew1) | exact HB.out)) hb); clear HO120; clear HB; have HO120 := n0_; have HB := n1_; clear n0_ n1_; (try clear hb); (try clear hb2); (try clear hk); (try clear hi)) | ((with_reducible refine gate_dst (N := 3) rfl ?_); refine box_event ?hg (N := 3) ?hd (cs := #[.int .u8 0, .int .i64 0, .int .u8 0, .string (⟨#[]⟩ : ByteArray)]) (t := 83) ?hr ?_; (case hd => rfl); (case hg => rfl); (case hr => first | (go_simp; done) | (go_simp; rfl)); intro gb126 hg w21 hbox hb; have n0_ := Aside0.mk (Kd.R_below (Kd.R_elderB (by (with_reducible repeat (first | apply Kd.R_alloc | apply Kd.R_drewN | apply Kd.R_drew)); exact HO120.out) gb126 (Nat.le_of_eq hg.symm)) hb); have n1_ := Aside0.mk (below_step (by repeat (first | (with_reducible first | exact HB.out | apply below_alloc | apply pw_below_drewN | apply below_drew1) | exact HB.out)) hb); have n2_ := Aside0.mk (hbox); have n3_ := Aside0.mk ((by rw [hg]; exact (below_size (by repeat (first | (with_reducible first | exact HB.out | apply below_alloc | apply pw_below_drewN | apply below_drew1) | exact HB.out))) : w.heap.size ≤ gb126)); have n4_ := Aside0.mk ((by rw [hg]; exact (below_size (by repeat (first | (with_reducible first | exact HB.out | apply below_alloc | apply pw_below_drewN | apply below_drew1) | exact HB.out))) : w.heap.size ≤ gb126)); clear HO120; clear HB; have HO120 := n0_; have HB := n1_; have BK126 := n2_; have GW126 := n3_; have GE126 := n4_; clear n0_ n1_ n2_ n3_ n4_; clear hb hbox hg; have hcz22_0 : w21.cell? ⟨gb126, 0, none⟩ = some (.int .u8 0) := (blk_cell BK126.out 0).trans rfl; have hcz22_1 : w21.cell? ⟨gb126, 1, none⟩ = some (.int .i64 0) := (blk_cell BK126.out 1).trans rfl; have hcz22_2 : w21.cell? ⟨gb126, 2, none⟩ = some (.int .u8 0) := (blk_cell BK126.out 2).trans rfl; have hcz22_3 : w21.cell? ⟨gb126, 3, none⟩ = some (.string (⟨#[]⟩ : ByteArray)) := (blk_cell BK126.out 3).trans rfl; have hfz22_0 := blk_frozen BK126.out 0; have hfz22_1 := blk_frozen BK126.out 1; have hfz22_2 := blk_frozen BK126.out 2; have hfz22_3 := blk_frozen BK126.out 3) | ((with_reducible refine gate_callee (f := 48) rfl ?_); refine goesL_ (some 29) rfl rfl Tryd.func48 (by kernel_rfl) rfl #[] rfl (by (try simp only [List.map_toArray, List.map_cons, List.map_nil]); first | done | rfl | (simp only [List.length_drop, List.length_take]; rfl)) ?_; (with_reducible refine (exprs_prefixes.calls  t127 _ A15.out).mono ?_); rintro e w23 ⟨v128, rfl, ho0, hb⟩; refine ⟨_, rfl, ?_⟩; have n0_ := Aside0.mk (Kd.R_elder' (by (with_reducible repeat (first | apply Kd.R_alloc | apply Kd.R_drewN | apply Kd.R_drew)); exact (Kd.R_mono (Kd.R_far (p := ⟨gb126, 3, none⟩) (Kd.R_far (p := ⟨gb126, 2, none⟩) (Kd.R_far (p := ⟨gb126, 1, none⟩) (Kd.R_far (p := ⟨gb126, 0, none⟩) (Kd.R_mono HO120.out (fun k_ hk => (⟨hk, hk.2⟩ : _ ∧ k_ ≠ gb126))) (fun _ hk => hk.2) (.int .u8 t121)) (fun _ hk => hk.2) (.int .i64 t122)) (fun _ hk => hk.2) (.int .u8 t123)) (fun _ hk => hk.2) (.string t124)) (fun _ h_ => h_.1))) (Kd.R_base ho0) hb); have n1_ := Aside0.mk (Kd.R_lower (Kd.R_newB (Kd.R_new' ho0 (Kd.R_lt (by (with_reducible repeat (first | apply Kd.R_alloc | apply Kd.R_drewN | apply Kd.R_drew)); exact (Kd.R_mono (Kd.R_far (p := ⟨gb126, 3, none⟩) (Kd.R_far (p := ⟨gb126, 2, none⟩) (Kd.R_far (p := ⟨gb126, 1, none⟩) (Kd.R_far (p := ⟨gb126, 0, none⟩) (Kd.R_mono HO120.out (fun k_ hk => (⟨hk, hk.2⟩ : _ ∧ k_ ≠ gb126))) (fun _ hk => hk.2) (.int .u8 t121)) (fun _ hk => hk.2) (.int .i64 t122)) (fun _ hk => hk.2) (.int .u8 t123)) (fun _ hk => hk.2) (.string t124)) (fun _ h_ => h_.1))))) (g := gb126) (o := .cells #[.int .u8 t121, .int .i64 t122, .int .u8 t123, .string t124] 83 (0, 0)) (by (with_reducible repeat (first | refine blk_drewN ?_ _ | refine blk_drew ?_ | refine blk_alloc ?_ _)); refine blk_put (cs := #[.int .u8 t121, .int .i64 t122, .int .u8 t123, .string (⟨#[]⟩ : ByteArray)]) ?_ 3 _ rfl; (with_reducible repeat (first | refine blk_drewN ?_ _ | refine blk_drew ?_ | refine blk_alloc ?_ _)); refine blk_put (cs := #[.int .u8 t121, .int .i64 t122, .int .u8 0, .string (⟨#[]⟩ : ByteArray)]) ?_ 2 _ rfl; (with_reducible repeat (first | refine blk_drewN ?_ _ | refine blk_drew ?_ | refine blk_alloc ?_ _)); refine blk_put (cs := #[.int .u8 t121, .int .i64 0, .int .u8 0, .string (⟨#[]⟩ : ByteArray)]) ?_ 1 _ rfl; (with_reducible repeat (first | refine blk_drewN ?_ _ | refine blk_drew ?_ | refine blk_alloc ?_ _)); refine blk_put (cs := #[.int .u8 0, .int .i64 0, .int .u8 0, .string (⟨#[]⟩ : ByteArray)]) ?_ 0 _ rfl; (with_reducible repeat (first | refine blk_drewN ?_ _ | refine blk_drew ?_ | refine blk_alloc ?_ _)); exact BK126.out)) (below_size (by repeat (first | (with_reducible first | exact HB.out | apply below_alloc | apply pw_below_drewN | apply below_drew1 | refine below_set ?_ GE126.out) | exact HB.out)))); have n2_ := Aside0.mk (blk_below (g := gb126) (o := .cells #[.int .u8 t121, .int .i64 t122, .int .u8 t123, .string t124] 83 (0, 0)) (by (with_reducible repeat (first | refine blk_drewN ?_ _ | refine blk_drew ?_ | refine blk_alloc ?_ _)); refine blk_put (cs := #[.int .u8 t121, .int .i64 t122, .int .u8 t123, .string (⟨#[]⟩ : ByteArray)]) ?_ 3 _ rfl; (with_reducible repeat (first | refine blk_drewN ?_ _ | refine blk_drew ?_ | refine blk_alloc ?_ _)); refine blk_put (cs := #[.int .u8 t121, .int .i64 t122, .int .u8 0, .string (⟨#[]⟩ : ByteArray)]) ?_ 2 _ rfl; (with_reducible repeat (first | refine blk_drewN ?_ _ | refine blk_drew ?_ | refine blk_alloc ?_ _)); refine blk_put (cs := #[.int .u8 t121, .int .i64 0, .int .u8 0, .string (⟨#[]⟩ : ByteArray)]) ?_ 1 _ rfl; (with_reducible repeat (first | refine blk_drewN ?_ _ | refine blk_drew ?_ | refine blk_alloc ?_ _)); refine blk_put (cs := #[.int .u8 0, .int .i64 0, .int .u8 0, .string (⟨#[]⟩ : ByteArray)]) ?_ 0 _ rfl; (with_reducible repeat (first | refine blk_drewN ?_ _ | refine blk_drew ?_ | refine blk_alloc ?_ _)); exact BK126.out) hb); have n3_ := Aside0.mk (below_step (by repeat (first | (with_reducible first | exact HB.out | apply below_alloc | apply pw_below_drewN | apply below_drew1 | refine below_set ?_ GE126.out) | exact HB.out)) hb); clear HO120; clear BK126; clear HB; have HO120 := n0_; have HO129 := n1_; have BK126 := n2_; have HB := n3_; clear n0_ n1_ n2_ n3_; (try clear hb); (try clear hb2); (try clear hk); (try clear hi); (try clear ho0); obtain ⟨Ao24, co24, eo24⟩ := Kd.R_slice HO129.out; subst eo24) | ((with_reducible refine gate_callee (f := 44) rfl ?_); refine goesL_ (some 31) rfl rfl Tryd.func44 (by kernel_rfl) rfl #[.slice Ao24 t127.length co24, .int .u8 a0] rfl (by (try simp only [List.map_toArray, List.map_cons, List.map_nil]); first | done | rfl | (simp only [List.length_drop, List.length_take]; rfl)) ?_; (with_reducible refine (exprs_find.calls kj1 _ _ t127 a0 t130 t131 t132 t133 true _ ?side1 ?side2 A16.out).mono ?_); (case side1 => repeat (first | exact (Kd.R_reads' HO129.out).2.2 | (with_reducible refine Kd.C_alloc ?_ _) | (with_reducible refine Kd.C_drewN ?_ _) | (with_reducible refine Kd.C_drew ?_))); (case side2 => exact (Kd.R_reads' HO129.out).2.1); rintro e w25 ⟨rfl, hb⟩; refine ⟨_, rfl, ?_⟩; have n0_ := Aside0.mk (Kd.R_below (by (with_reducible repeat (first | apply Kd.R_alloc | apply Kd.R_drewN | apply Kd.R_drew)); exact HO120.out) hb); have n1_ := Aside0.mk (Kd.R_below (by (with_reducible repeat (first | apply Kd.R_alloc | apply Kd.R_drewN | apply Kd.R_drew)); exact HO129.out) hb); have n2_ := Aside0.mk (blk_below (g := gb126) (o := .cells #[.int .u8 t121, .int .i64 t122, .int .u8 t123, .string t124] 83 (0, 0)) (by (with_reducible repeat (first | refine blk_drewN ?_ _ | refine blk_drew ?_ | refine blk_alloc ?_ _)); exact BK126.out) hb); have n3_ := Aside0.mk (below_step (by repeat (first | (with_reducible first | exact HB.out | apply below_alloc | apply pw_below_drewN | apply below_drew1 | refine below_set ?_ GE126.out) | exact HB.out)) hb); clear HO120; clear HO129; clear BK126; clear HB; have HO120 := n0_; have HO129 := n1_; have BK126 := n2_; have HB := n3_; clear n0_ n1_ n2_ n3_; (try clear hb); (try clear hb2); (try clear hk); (try clear hi)) | ((with_reducible refine gate_dst (N := 5) rfl ?_); refine box_event ?hg (N := 5) ?hd (cs := #[.int .u8 0, .int .i64 0, .int .u8 0, .string (⟨#[]⟩ : ByteArray)]) (t := 83) ?hr ?_; (case hd => rfl); (case hg => rfl); (case hr => first | (go_simp; done) | (go_simp; rfl)); intro gb135 hg w26 hbox hb; have n0_ := Aside0.mk (Kd.R_below (Kd.R_elderB (by (with_reducible repeat (first | apply Kd.R_alloc | apply Kd.R_drewN | apply Kd.R_drew)); exact HO120.out) gb135 (Nat.le_of_eq hg.symm)) hb); have n1_ := Aside0.mk (Kd.R_below (Kd.R_elderB (by (with_reducible repeat (first | apply Kd.R_alloc | apply Kd.R_drewN | apply Kd.R_drew)); exact HO129.out) gb135 (Nat.le_of_eq hg.symm)) hb); have n2_ := Aside0.mk (blk_below (g := gb126) (o := .cells #[.int .u8 t121, .int .i64 t122, .int .u8 t123, .string t124] 83 (0, 0)) (by (with_reducible repeat (first | refine blk_drewN ?_ _ | refine blk_drew ?_ | refine blk_alloc ?_ _)); exact BK126.out) hb); have n3_ := Aside0.mk (below_step (by repeat (first | (with_reducible first | exact HB.out | apply below_alloc | apply pw_below_drewN | apply below_drew1 | refine below_set ?_ GE126.out) | exact HB.out)) hb); have n4_ := Aside0.mk (hbox); have n5_ := Aside0.mk ((by rw [hg]; exact (below_size (by repeat (first | (with_reducible first | exact HB.out | apply below_alloc | apply pw_below_drewN | apply below_drew1 | refine below_set ?_ GE126.out) | exact HB.out))) : w.heap.size ≤ gb135)); have n6_ := Aside0.mk ((by rw [hg]; exact (below_size (by repeat (first | (with_reducible first | exact HB.out | apply below_alloc | apply pw_below_drewN | apply below_drew1 | refine below_set ?_ GE126.out) | exact HB.out))) : w.heap.size ≤ gb135)); have n7_ := Aside0.mk ((by rw [hg]; exact Nat.ne_of_lt (blk_lt (g := gb126) (o := .cells #[.int .u8 t121, .int .i64 t122, .int .u8 t123, .string t124] 83 (0, 0)) (by (with_reducible repeat (first | refine blk_drewN ?_ _ | refine blk_drew ?_ | refine blk_alloc ?_ _)); exact BK126.out)) : gb126 ≠ gb135)); have n8_ := Aside0.mk ((by rw [hg]; exact Nat.ne_of_gt (blk_lt (g := gb126) (o := .cells #[.int .u8 t121, .int .i64 t122, .int .u8 t123, .string t124] 83 (0, 0)) (by (with_reducible repeat (first | refine blk_drewN ?_ _ | refine blk_drew ?_ | refine blk_alloc ?_ _)); exact BK126.out)) : gb135 ≠ gb126)); clear HO120; clear HO129; clear BK126; clear HB; have HO120 := n0_; have HO129 := n1_; have BK126 := n2_; have HB := n3_; have BK135 := n4_; have GW135 := n5_; have GE135 := n6_; have NB126_135 := n7_; have NB135_126 := n8_; clear n0_ n1_ n2_ n3_ n4_ n5_ n6_ n7_ n8_; clear hb hbox hg; have hnb27 := NB135_126.out; have hnc27 := NB126_135.out; have hcz28_0 : w26.cell? ⟨gb135, 0, none⟩ = some (.int .u8 0) := (blk_cell BK135.out 0).trans rfl; have hcz28_1 : w26.cell? ⟨gb135, 1, none⟩ = some (.int .i64 0) := (blk_cell BK135.out 1).trans rfl; have hcz28_2 : w26.cell? ⟨gb135, 2, none⟩ = some (.int .u8 0) := (blk_cell BK135.out 2).trans rfl; have hcz28_3 : w26.cell? ⟨gb135, 3, none⟩ = some (.string (⟨#[]⟩ : ByteArray)) := (blk_cell BK135.out 3).trans rfl; have hfz28_0 := blk_frozen BK135.out 0; have hfz28_1 := blk_frozen BK135.out 1; have hfz28_2 := blk_frozen BK135.out 2; have hfz28_3 := blk_frozen BK135.out 3))
       go_ret
       exact ⟨by first | rfl | (simp [errW_none, errW_some] <;> rfl) | (simp [*, errW_none, errW_some] <;> rfl), by repeat (first | (with_reducible first | exact HB.out | apply below_alloc | apply pw_below_drewN | apply below_drew1 | refine below_set ?_ GE126.out | refine below_set ?_ GE135.out) | exact HB.out)⟩
      ·replace c17 := Bool.eq_false_iff.mpr c17
       subst c17
       have H1 : (some (-1)) = some r := by rw [if_neg (show ¬ (false = true) by decide)] at H; exact H
       clear H
       have H := H1
       clear H1
       obtain rfl := Option.some.inj H
       go_wp2_with (first | ((with_reducible refine gate_callee (f := 45) rfl ?_); refine goesL_ (some 22) rfl rfl Tryd.func45 (by kernel_rfl) rfl #[] rfl (by (try simp only [List.map_toArray, List.map_cons, List.map_nil]); first | done | rfl | (simp only [List.length_drop, List.length_take]; rfl)) ?_; (with_reducible refine (exprs_pairs.calls  t118 _ A7.out).mono ?_); rintro e w29 ⟨v119, rfl, ho0, hb⟩; refine ⟨_, rfl, ?_⟩; have n0_ := Aside0.mk (Kd.R_lower ho0 (below_size (by repeat (first | (with_reducible first | exact HB.out | apply below_alloc | apply pw_below_drewN | apply below_drew1) | exact HB.out)))); have n1_ := Aside0.mk (below_step (by repeat (first | (with_reducible first | exact HB.out | apply below_alloc | apply pw_below_drewN | apply below_drew1) | exact HB.out)) hb); clear HB; have HO120 := n0_; have HB := n1_; clear n0_ n1_; (try clear hb); (try clear hb2); (try clear hk); (try clear hi); (try clear ho0); obtain ⟨Ao30, co30, eo30⟩ := Kd.R_slice HO120.out; subst eo30) | ((with_reducible refine gate_callee (f := 44) rfl ?_); refine goesL_ (some 24) rfl rfl Tryd.func44 (by kernel_rfl) rfl #[.slice Ao30 t118.length co30, .int .u8 a0] rfl (by (try simp only [List.map_toArray, List.map_cons, List.map_nil]); first | done | rfl | (simp only [List.length_drop, List.length_take]; rfl)) ?_; (with_reducible refine (exprs_find.calls kj1 _ _ t118 a0 t121 t122 t123 t124 false _ ?side1 ?side2 A8.out).mono ?_); (case side1 => repeat (first | exact (Kd.R_reads' HO120.out).2.2 | (with_reducible refine Kd.C_alloc ?_ _) | (with_reducible refine Kd.C_drewN ?_ _) | (with_reducible refine Kd.C_drew ?_))); (case side2 => exact (Kd.R_reads' HO120.out).2.1); rintro e w31 ⟨rfl, hb⟩; refine ⟨_, rfl, ?_⟩; have n0_ := Aside0.mk (Kd.R_below (by (with_reducible repeat (first | apply Kd.R_alloc | apply Kd.R_drewN | apply Kd.R_drew)); exact HO120.out) hb); have n1_ := Aside0.mk (below_step (by repeat (first | (with_reducible first | exact HB.out | apply below_alloc | apply pw_below_drewN | apply below_drew1) | exact HB.out)) hb); clear HO120; clear HB; have HO120 := n0_; have HB := n1_; clear n0_ n1_; (try clear hb); (try clear hb2); (try clear hk); (try clear hi)) | ((with_reducible refine gate_dst (N := 3) rfl ?_); refine box_event ?hg (N := 3) ?hd (cs := #[.int .u8 0, .int .i64 0, .int .u8 0, .string (⟨#[]⟩ : ByteArray)]) (t := 83) ?hr ?_; (case hd => rfl); (case hg => rfl); (case hr => first | (go_simp; done) | (go_simp; rfl)); intro gb126 hg w32 hbox hb; have n0_ := Aside0.mk (Kd.R_below (Kd.R_elderB (by (with_reducible repeat (first | apply Kd.R_alloc | apply Kd.R_drewN | apply Kd.R_drew)); exact HO120.out) gb126 (Nat.le_of_eq hg.symm)) hb); have n1_ := Aside0.mk (below_step (by repeat (first | (with_reducible first | exact HB.out | apply below_alloc | apply pw_below_drewN | apply below_drew1) | exact HB.out)) hb); have n2_ := Aside0.mk (hbox); have n3_ := Aside0.mk ((by rw [hg]; exact (below_size (by repeat (first | (with_reducible first | exact HB.out | apply below_alloc | apply pw_below_drewN | apply below_drew1) | exact HB.out))) : w.heap.size ≤ gb126)); have n4_ := Aside0.mk ((by rw [hg]; exact (below_size (by repeat (first | (with_reducible first | exact HB.out | apply below_alloc | apply pw_below_drewN | apply below_drew1) | exact HB.out))) : w.heap.size ≤ gb126)); clear HO120; clear HB; have HO120 := n0_; have HB := n1_; have BK126 := n2_; have GW126 := n3_; have GE126 := n4_; clear n0_ n1_ n2_ n3_ n4_; clear hb hbox hg; have hcz33_0 : w32.cell? ⟨gb126, 0, none⟩ = some (.int .u8 0) := (blk_cell BK126.out 0).trans rfl; have hcz33_1 : w32.cell? ⟨gb126, 1, none⟩ = some (.int .i64 0) := (blk_cell BK126.out 1).trans rfl; have hcz33_2 : w32.cell? ⟨gb126, 2, none⟩ = some (.int .u8 0) := (blk_cell BK126.out 2).trans rfl; have hcz33_3 : w32.cell? ⟨gb126, 3, none⟩ = some (.string (⟨#[]⟩ : ByteArray)) := (blk_cell BK126.out 3).trans rfl; have hfz33_0 := blk_frozen BK126.out 0; have hfz33_1 := blk_frozen BK126.out 1; have hfz33_2 := blk_frozen BK126.out 2; have hfz33_3 := blk_frozen BK126.out 3) | ((with_reducible refine gate_callee (f := 48) rfl ?_); refine goesL_ (some 29) rfl rfl Tryd.func48 (by kernel_rfl) rfl #[] rfl (by (try simp only [List.map_toArray, List.map_cons, List.map_nil]); first | done | rfl | (simp only [List.length_drop, List.length_take]; rfl)) ?_; (with_reducible refine (exprs_prefixes.calls  t127 _ A15.out).mono ?_); rintro e w34 ⟨v128, rfl, ho0, hb⟩; refine ⟨_, rfl, ?_⟩; have n0_ := Aside0.mk (Kd.R_elder' (by (with_reducible repeat (first | apply Kd.R_alloc | apply Kd.R_drewN | apply Kd.R_drew)); exact (Kd.R_mono (Kd.R_far (p := ⟨gb126, 3, none⟩) (Kd.R_far (p := ⟨gb126, 2, none⟩) (Kd.R_far (p := ⟨gb126, 1, none⟩) (Kd.R_far (p := ⟨gb126, 0, none⟩) (Kd.R_mono HO120.out (fun k_ hk => (⟨hk, hk.2⟩ : _ ∧ k_ ≠ gb126))) (fun _ hk => hk.2) (.int .u8 t121)) (fun _ hk => hk.2) (.int .i64 t122)) (fun _ hk => hk.2) (.int .u8 t123)) (fun _ hk => hk.2) (.string t124)) (fun _ h_ => h_.1))) (Kd.R_base ho0) hb); have n1_ := Aside0.mk (Kd.R_lower (Kd.R_newB (Kd.R_new' ho0 (Kd.R_lt (by (with_reducible repeat (first | apply Kd.R_alloc | apply Kd.R_drewN | apply Kd.R_drew)); exact (Kd.R_mono (Kd.R_far (p := ⟨gb126, 3, none⟩) (Kd.R_far (p := ⟨gb126, 2, none⟩) (Kd.R_far (p := ⟨gb126, 1, none⟩) (Kd.R_far (p := ⟨gb126, 0, none⟩) (Kd.R_mono HO120.out (fun k_ hk => (⟨hk, hk.2⟩ : _ ∧ k_ ≠ gb126))) (fun _ hk => hk.2) (.int .u8 t121)) (fun _ hk => hk.2) (.int .i64 t122)) (fun _ hk => hk.2) (.int .u8 t123)) (fun _ hk => hk.2) (.string t124)) (fun _ h_ => h_.1))))) (g := gb126) (o := .cells #[.int .u8 t121, .int .i64 t122, .int .u8 t123, .string t124] 83 (0, 0)) (by (with_reducible repeat (first | refine blk_drewN ?_ _ | refine blk_drew ?_ | refine blk_alloc ?_ _)); refine blk_put (cs := #[.int .u8 t121, .int .i64 t122, .int .u8 t123, .string (⟨#[]⟩ : ByteArray)]) ?_ 3 _ rfl; (with_reducible repeat (first | refine blk_drewN ?_ _ | refine blk_drew ?_ | refine blk_alloc ?_ _)); refine blk_put (cs := #[.int .u8 t121, .int .i64 t122, .int .u8 0, .string (⟨#[]⟩ : ByteArray)]) ?_ 2 _ rfl; (with_reducible repeat (first | refine blk_drewN ?_ _ | refine blk_drew ?_ | refine blk_alloc ?_ _)); refine blk_put (cs := #[.int .u8 t121, .int .i64 0, .int .u8 0, .string (⟨#[]⟩ : ByteArray)]) ?_ 1 _ rfl; (with_reducible repeat (first | refine blk_drewN ?_ _ | refine blk_drew ?_ | refine blk_alloc ?_ _)); refine blk_put (cs := #[.int .u8 0, .int .i64 0, .int .u8 0, .string (⟨#[]⟩ : ByteArray)]) ?_ 0 _ rfl; (with_reducible repeat (first | refine blk_drewN ?_ _ | refine blk_drew ?_ | refine blk_alloc ?_ _)); exact BK126.out)) (below_size (by repeat (first | (with_reducible first | exact HB.out | apply below_alloc | apply pw_below_drewN | apply below_drew1 | refine below_set ?_ GE126.out) | exact HB.out)))); have n2_ := Aside0.mk (blk_below (g := gb126) (o := .cells #[.int .u8 t121, .int .i64 t122, .int .u8 t123, .string t124] 83 (0, 0)) (by (with_reducible repeat (first | refine blk_drewN ?_ _ | refine blk_drew ?_ | refine blk_alloc ?_ _)); refine blk_put (cs := #[.int .u8 t121, .int .i64 t122, .int .u8 t123, .string (⟨#[]⟩ : ByteArray)]) ?_ 3 _ rfl; (with_reducible repeat (first | refine blk_drewN ?_ _ | refine blk_drew ?_ | refine blk_alloc ?_ _)); refine blk_put (cs := #[.int .u8 t121, .int .i64 t122, .int .u8 0, .string (⟨#[]⟩ : ByteArray)]) ?_ 2 _ rfl; (with_reducible repeat (first | refine blk_drewN ?_ _ | refine blk_drew ?_ | refine blk_alloc ?_ _)); refine blk_put (cs := #[.int .u8 t121, .int .i64 0, .int .u8 0, .string (⟨#[]⟩ : ByteArray)]) ?_ 1 _ rfl; (with_reducible repeat (first | refine blk_drewN ?_ _ | refine blk_drew ?_ | refine blk_alloc ?_ _)); refine blk_put (cs := #[.int .u8 0, .int .i64 0, .int .u8 0, .string (⟨#[]⟩ : ByteArray)]) ?_ 0 _ rfl; (with_reducible repeat (first | refine blk_drewN ?_ _ | refine blk_drew ?_ | refine blk_alloc ?_ _)); exact BK126.out) hb); have n3_ := Aside0.mk (below_step (by repeat (first | (with_reducible first | exact HB.out | apply below_alloc | apply pw_below_drewN | apply below_drew1 | refine below_set ?_ GE126.out) | exact HB.out)) hb); clear HO120; clear BK126; clear HB; have HO120 := n0_; have HO129 := n1_; have BK126 := n2_; have HB := n3_; clear n0_ n1_ n2_ n3_; (try clear hb); (try clear hb2); (try clear hk); (try clear hi); (try clear ho0); obtain ⟨Ao35, co35, eo35⟩ := Kd.R_slice HO129.out; subst eo35) | ((with_reducible refine gate_callee (f := 44) rfl ?_); refine goesL_ (some 31) rfl rfl Tryd.func44 (by kernel_rfl) rfl #[.slice Ao35 t127.length co35, .int .u8 a0] rfl (by (try simp only [List.map_toArray, List.map_cons, List.map_nil]); first | done | rfl | (simp only [List.length_drop, List.length_take]; rfl)) ?_; (with_reducible refine (exprs_find.calls kj1 _ _ t127 a0 t130 t131 t132 t133 false _ ?side1 ?side2 A16.out).mono ?_); (case side1 => repeat (first | exact (Kd.R_reads' HO129.out).2.2 | (with_reducible refine Kd.C_alloc ?_ _) | (with_reducible refine Kd.C_drewN ?_ _) | (with_reducible refine Kd.C_drew ?_))); (case side2 => exact (Kd.R_reads' HO129.out).2.1); rintro e w36 ⟨rfl, hb⟩; refine ⟨_, rfl, ?_⟩; have n0_ := Aside0.mk (Kd.R_below (by (with_reducible repeat (first | apply Kd.R_alloc | apply Kd.R_drewN | apply Kd.R_drew)); exact HO120.out) hb); have n1_ := Aside0.mk (Kd.R_below (by (with_reducible repeat (first | apply Kd.R_alloc | apply Kd.R_drewN | apply Kd.R_drew)); exact HO129.out) hb); have n2_ := Aside0.mk (blk_below (g := gb126) (o := .cells #[.int .u8 t121, .int .i64 t122, .int .u8 t123, .string t124] 83 (0, 0)) (by (with_reducible repeat (first | refine blk_drewN ?_ _ | refine blk_drew ?_ | refine blk_alloc ?_ _)); exact BK126.out) hb); have n3_ := Aside0.mk (below_step (by repeat (first | (with_reducible first | exact HB.out | apply below_alloc | apply pw_below_drewN | apply below_drew1 | refine below_set ?_ GE126.out) | exact HB.out)) hb); clear HO120; clear HO129; clear BK126; clear HB; have HO120 := n0_; have HO129 := n1_; have BK126 := n2_; have HB := n3_; clear n0_ n1_ n2_ n3_; (try clear hb); (try clear hb2); (try clear hk); (try clear hi)) | ((with_reducible refine gate_dst (N := 5) rfl ?_); refine box_event ?hg (N := 5) ?hd (cs := #[.int .u8 0, .int .i64 0, .int .u8 0, .string (⟨#[]⟩ : ByteArray)]) (t := 83) ?hr ?_; (case hd => rfl); (case hg => rfl); (case hr => first | (go_simp; done) | (go_simp; rfl)); intro gb135 hg w37 hbox hb; have n0_ := Aside0.mk (Kd.R_below (Kd.R_elderB (by (with_reducible repeat (first | apply Kd.R_alloc | apply Kd.R_drewN | apply Kd.R_drew)); exact HO120.out) gb135 (Nat.le_of_eq hg.symm)) hb); have n1_ := Aside0.mk (Kd.R_below (Kd.R_elderB (by (with_reducible repeat (first | apply Kd.R_alloc | apply Kd.R_drewN | apply Kd.R_drew)); exact HO129.out) gb135 (Nat.le_of_eq hg.symm)) hb); have n2_ := Aside0.mk (blk_below (g := gb126) (o := .cells #[.int .u8 t121, .int .i64 t122, .int .u8 t123, .string t124] 83 (0, 0)) (by (with_reducible repeat (first | refine blk_drewN ?_ _ | refine blk_drew ?_ | refine blk_alloc ?_ _)); exact BK126.out) hb); have n3_ := Aside0.mk (below_step (by repeat (first | (with_reducible first | exact HB.out | apply below_alloc | apply pw_below_drewN | apply below_drew1 | refine below_set ?_ GE126.out) | exact HB.out)) hb); have n4_ := Aside0.mk (hbox); have n5_ := Aside0.mk ((by rw [hg]; exact (below_size (by repeat (first | (with_reducible first | exact HB.out | apply below_alloc | apply pw_below_drewN | apply below_drew1 | refine below_set ?_ GE126.out) | exact HB.out))) : w.heap.size ≤ gb135)); have n6_ := Aside0.mk ((by rw [hg]; exact (below_size (by repeat (first | (with_reducible first | exact HB.out | apply below_alloc | apply pw_below_drewN | apply below_drew1 | refine below_set ?_ GE126.out) | exact HB.out))) : w.heap.size ≤ gb135)); have n7_ := Aside0.mk ((by rw [hg]; exact Nat.ne_of_lt (blk_lt (g := gb126) (o := .cells #[.int .u8 t121, .int .i64 t122, .int .u8 t123, .string t124] 83 (0, 0)) (by (with_reducible repeat (first | refine blk_drewN ?_ _ | refine blk_drew ?_ | refine blk_alloc ?_ _)); exact BK126.out)) : gb126 ≠ gb135)); have n8_ := Aside0.mk ((by rw [hg]; exact Nat.ne_of_gt (blk_lt (g := gb126) (o := .cells #[.int .u8 t121, .int .i64 t122, .int .u8 t123, .string t124] 83 (0, 0)) (by (with_reducible repeat (first | refine blk_drewN ?_ _ | refine blk_drew ?_ | refine blk_alloc ?_ _)); exact BK126.out)) : gb135 ≠ gb126)); clear HO120; clear HO129; clear BK126; clear HB; have HO120 := n0_; have HO129 := n1_; have BK126 := n2_; have HB := n3_; have BK135 := n4_; have GW135 := n5_; have GE135 := n6_; have NB126_135 := n7_; have NB135_126 := n8_; clear n0_ n1_ n2_ n3_ n4_ n5_ n6_ n7_ n8_; clear hb hbox hg; have hnb38 := NB135_126.out; have hnc38 := NB126_135.out; have hcz39_0 : w37.cell? ⟨gb135, 0, none⟩ = some (.int .u8 0) := (blk_cell BK135.out 0).trans rfl; have hcz39_1 : w37.cell? ⟨gb135, 1, none⟩ = some (.int .i64 0) := (blk_cell BK135.out 1).trans rfl; have hcz39_2 : w37.cell? ⟨gb135, 2, none⟩ = some (.int .u8 0) := (blk_cell BK135.out 2).trans rfl; have hcz39_3 : w37.cell? ⟨gb135, 3, none⟩ = some (.string (⟨#[]⟩ : ByteArray)) := (blk_cell BK135.out 3).trans rfl; have hfz39_0 := blk_frozen BK135.out 0; have hfz39_1 := blk_frozen BK135.out 1; have hfz39_2 := blk_frozen BK135.out 2; have hfz39_3 := blk_frozen BK135.out 3))
       go_ret
       exact ⟨by first | rfl | (simp [errW_none, errW_some] <;> rfl) | (simp [*, errW_none, errW_some] <;> rfl), by repeat (first | (with_reducible first | exact HB.out | apply below_alloc | apply pw_below_drewN | apply below_drew1 | refine below_set ?_ GE126.out | refine below_set ?_ GE135.out) | exact HB.out)⟩

/-! ### tokens_Name: function 57 -/
-- BY HAND: function 57 (tokens_Name)

-- NOT PRINTED: function 33 (exprs_check)

/-! ### exprs_Check: function 14 -/
-- BY HAND: function 14 (exprs_Check)

-- NOT PRINTED: function 46 (exprs_form_asks)

/-! ### exprs_rankOf: function 70 -/
def exprs_rankOf.f (k : Nat) (a0 : Int) : Option (Int) := if a0 = 17 then (some 0) else ((exprs_pairs.f).bind fun t136 => ((exprs_find.f k t136 a0).bind fun bt139 => (if bt139.2.2.2.2 = true then (some bt139.2.1) else ((exprs_prefixes.f).bind fun t145 => ((exprs_find.f k t145 a0).bind fun bt148 => (some bt148.2.1))))))
theorem exprs_rankOf.mono : ∀ a0 k, LeO (exprs_rankOf.f k a0) (exprs_rankOf.f (k + 1) a0) := by
 intro a0 k
 unfold exprs_rankOf.f
 repeat' first
   | (with_reducible exact exprs_find.mono _ _ _)
   | (with_reducible exact LeO.refl _)
   | (with_reducible exact LeO.none _)
   | (with_reducible refine LeO.ite ?_ ?_)
   | (with_reducible refine LeO.bind ?_ (fun _ => ?_))
   | exact exprs_find.mono _ _ _
   | exact LeO.none _
   | refine LeO.ite ?_ ?_
   | refine LeO.bind ?_ (fun _ => ?_)
set_option maxHeartbeats 8000000 in
set_option maxRecDepth 100000 in
theorem exprs_rankOf.calls (k : Nat) (a0 : Int) (r : Int) (w : World) (h : exprs_rankOf.f k a0 = some r) :
  Calls Tryd.prog 70 #[.int .u8 a0] w fun e w' => e = .returned (.int .i64 r) ∧ Below w.heap.size w w' := by
 have hu83 := Tryd.underlying83
 have HB := Aside0.mk (Below.refl w.heap.size w)
 have H : (if a0 = 17 then (some 0) else ((exprs_pairs.f).bind fun t136 => ((exprs_find.f k t136 a0).bind fun bt139 => (if bt139.2.2.2.2 = true then (some bt139.2.1) else ((exprs_prefixes.f).bind fun t145 => ((exprs_find.f k t145 a0).bind fun bt148 => (some bt148.2.1))))))) = some r := h
 clear h
 by_cases c2 : a0 = 17
 ·rw [if_pos c2] at H
  have c2b0 : (a0 == 17) = true := beq_iff_eq.mpr c2
  have c2b1 : (a0 != 17) = false := bne_eq_false_iff_eq.mpr c2
  clear c2
  obtain rfl := Option.some.inj H
  go_enter Tryd.func70, Tryd.ntmps70
  go_wp2
  go_ret
  exact ⟨by first | rfl | (simp [errW_none, errW_some] <;> rfl) | (simp [*, errW_none, errW_some] <;> rfl), by repeat (first | (with_reducible first | exact HB.out | apply below_alloc | apply pw_below_drewN | apply below_drew1) | exact HB.out)⟩
 ·rw [if_neg c2] at H
  have c2b0 : (a0 == 17) = false := beq_eq_false_iff_ne.mpr c2
  have c2b1 : (a0 != 17) = true := bne_iff_ne.mpr c2
  replace H := Option.bind_eq_some_iff.mp H
  obtain ⟨t136, A30, H⟩ := H
  replace H : ((exprs_find.f k t136 a0).bind fun bt139 => (if bt139.2.2.2.2 = true then (some bt139.2.1) else ((exprs_prefixes.f).bind fun t145 => ((exprs_find.f k t145 a0).bind fun bt148 => (some bt148.2.1))))) = some r := H
  have A3 := Aside0.mk A30
  clear A30
  replace H := Option.bind_eq_some_iff.mp H
  obtain ⟨⟨t139, t140, t141, t142, t143⟩, A40, H⟩ := H
  replace H : (if t143 = true then (some t140) else ((exprs_prefixes.f).bind fun t145 => ((exprs_find.f k t145 a0).bind fun bt148 => (some bt148.2.1)))) = some r := H
  have A4 := Aside0.mk A40
  clear A40
  by_cases c5 : t143 = true
  ·subst c5
   have H1 : (some t140) = some r := by rw [if_pos rfl] at H; exact H
   clear H
   have H := H1
   clear H1
   obtain rfl := Option.some.inj H
   go_enter Tryd.func70, Tryd.ntmps70
   go_wp2_with (first | ((with_reducible refine gate_callee (f := 45) rfl ?_); refine goesL_ (some 8) rfl rfl Tryd.func45 (by kernel_rfl) rfl #[] rfl (by (try simp only [List.map_toArray, List.map_cons, List.map_nil]); first | done | rfl | (simp only [List.length_drop, List.length_take]; rfl)) ?_; (with_reducible refine (exprs_pairs.calls  t136 _ A3.out).mono ?_); rintro e w6 ⟨v137, rfl, ho0, hb⟩; refine ⟨_, rfl, ?_⟩; have n0_ := Aside0.mk (Kd.R_lower ho0 (below_size (by repeat (first | (with_reducible first | exact HB.out | apply below_alloc | apply pw_below_drewN | apply below_drew1) | exact HB.out)))); have n1_ := Aside0.mk (below_step (by repeat (first | (with_reducible first | exact HB.out | apply below_alloc | apply pw_below_drewN | apply below_drew1) | exact HB.out)) hb); clear HB; have HO138 := n0_; have HB := n1_; clear n0_ n1_; (try clear hb); (try clear hb2); (try clear hk); (try clear hi); (try clear ho0); obtain ⟨Ao7, co7, eo7⟩ := Kd.R_slice HO138.out; subst eo7) | ((with_reducible refine gate_callee (f := 44) rfl ?_); refine goesL_ (some 10) rfl rfl Tryd.func44 (by kernel_rfl) rfl #[.slice Ao7 t136.length co7, .int .u8 a0] rfl (by (try simp only [List.map_toArray, List.map_cons, List.map_nil]); first | done | rfl | (simp only [List.length_drop, List.length_take]; rfl)) ?_; (with_reducible refine (exprs_find.calls k _ _ t136 a0 t139 t140 t141 t142 true _ ?side1 ?side2 A4.out).mono ?_); (case side1 => repeat (first | exact (Kd.R_reads' HO138.out).2.2 | (with_reducible refine Kd.C_alloc ?_ _) | (with_reducible refine Kd.C_drewN ?_ _) | (with_reducible refine Kd.C_drew ?_))); (case side2 => exact (Kd.R_reads' HO138.out).2.1); rintro e w8 ⟨rfl, hb⟩; refine ⟨_, rfl, ?_⟩; have n0_ := Aside0.mk (Kd.R_below (by (with_reducible repeat (first | apply Kd.R_alloc | apply Kd.R_drewN | apply Kd.R_drew)); exact HO138.out) hb); have n1_ := Aside0.mk (below_step (by repeat (first | (with_reducible first | exact HB.out | apply below_alloc | apply pw_below_drewN | apply below_drew1) | exact HB.out)) hb); clear HO138; clear HB; have HO138 := n0_; have HB := n1_; clear n0_ n1_; (try clear hb); (try clear hb2); (try clear hk); (try clear hi)) | ((with_reducible refine gate_dst (N := 3) rfl ?_); refine box_event ?hg (N := 3) ?hd (cs := #[.int .u8 0, .int .i64 0, .int .u8 0, .string (⟨#[]⟩ : ByteArray)]) (t := 83) ?hr ?_; (case hd => rfl); (case hg => rfl); (case hr => first | (go_simp; done) | (go_simp; rfl)); intro gb144 hg w9 hbox hb; have n0_ := Aside0.mk (Kd.R_below (Kd.R_elderB (by (with_reducible repeat (first | apply Kd.R_alloc | apply Kd.R_drewN | apply Kd.R_drew)); exact HO138.out) gb144 (Nat.le_of_eq hg.symm)) hb); have n1_ := Aside0.mk (below_step (by repeat (first | (with_reducible first | exact HB.out | apply below_alloc | apply pw_below_drewN | apply below_drew1) | exact HB.out)) hb); have n2_ := Aside0.mk (hbox); have n3_ := Aside0.mk ((by rw [hg]; exact (below_size (by repeat (first | (with_reducible first | exact HB.out | apply below_alloc | apply pw_below_drewN | apply below_drew1) | exact HB.out))) : w.heap.size ≤ gb144)); have n4_ := Aside0.mk ((by rw [hg]; exact (below_size (by repeat (first | (with_reducible first | exact HB.out | apply below_alloc | apply pw_below_drewN | apply below_drew1) | exact HB.out))) : w.heap.size ≤ gb144)); clear HO138; clear HB; have HO138 := n0_; have HB := n1_; have BK144 := n2_; have GW144 := n3_; have GE144 := n4_; clear n0_ n1_ n2_ n3_ n4_; clear hb hbox hg; have hcz10_0 : w9.cell? ⟨gb144, 0, none⟩ = some (.int .u8 0) := (blk_cell BK144.out 0).trans rfl; have hcz10_1 : w9.cell? ⟨gb144, 1, none⟩ = some (.int .i64 0) := (blk_cell BK144.out 1).trans rfl; have hcz10_2 : w9.cell? ⟨gb144, 2, none⟩ = some (.int .u8 0) := (blk_cell BK144.out 2).trans rfl; have hcz10_3 : w9.cell? ⟨gb144, 3, none⟩ = some (.string (⟨#[]⟩ : ByteArray)) := (blk_cell BK144.out 3).trans rfl; have hfz10_0 := blk_frozen BK144.out 0; have hfz10_1 := blk_frozen BK144.out 1; have hfz10_2 := blk_frozen BK144.out 2; have hfz10_3 := blk_frozen BK144.out 3))
   go_ret
   exact ⟨by first | rfl | (simp [errW_none, errW_some] <;> rfl) | (simp [*, errW_none, errW_some] <;> rfl), by repeat (first | (with_reducible first | exact HB.out | apply below_alloc | apply pw_below_drewN | apply below_drew1 | refine below_set ?_ GE144.out) | exact HB.out)⟩
  ·replace c5 := Bool.eq_false_iff.mpr c5
   subst c5
   have H1 : ((exprs_prefixes.f).bind fun t145 => ((exprs_find.f k t145 a0).bind fun bt148 => (some bt148.2.1))) = some r := by rw [if_neg (show ¬ (false = true) by decide)] at H; exact H
   clear H
   have H := H1
   clear H1
   replace H := Option.bind_eq_some_iff.mp H
   obtain ⟨t145, A110, H⟩ := H
   replace H : ((exprs_find.f k t145 a0).bind fun bt148 => (some bt148.2.1)) = some r := H
   have A11 := Aside0.mk A110
   clear A110
   replace H := Option.bind_eq_some_iff.mp H
   obtain ⟨⟨t148, t149, t150, t151, t152⟩, A120, H⟩ := H
   replace H : (some t149) = some r := H
   have A12 := Aside0.mk A120
   clear A120
   obtain rfl := Option.some.inj H
   go_enter Tryd.func70, Tryd.ntmps70
   go_wp2_with (first | ((with_reducible refine gate_callee (f := 45) rfl ?_); refine goesL_ (some 8) rfl rfl Tryd.func45 (by kernel_rfl) rfl #[] rfl (by (try simp only [List.map_toArray, List.map_cons, List.map_nil]); first | done | rfl | (simp only [List.length_drop, List.length_take]; rfl)) ?_; (with_reducible refine (exprs_pairs.calls  t136 _ A3.out).mono ?_); rintro e w13 ⟨v137, rfl, ho0, hb⟩; refine ⟨_, rfl, ?_⟩; have n0_ := Aside0.mk (Kd.R_lower ho0 (below_size (by repeat (first | (with_reducible first | exact HB.out | apply below_alloc | apply pw_below_drewN | apply below_drew1) | exact HB.out)))); have n1_ := Aside0.mk (below_step (by repeat (first | (with_reducible first | exact HB.out | apply below_alloc | apply pw_below_drewN | apply below_drew1) | exact HB.out)) hb); clear HB; have HO138 := n0_; have HB := n1_; clear n0_ n1_; (try clear hb); (try clear hb2); (try clear hk); (try clear hi); (try clear ho0); obtain ⟨Ao14, co14, eo14⟩ := Kd.R_slice HO138.out; subst eo14) | ((with_reducible refine gate_callee (f := 44) rfl ?_); refine goesL_ (some 10) rfl rfl Tryd.func44 (by kernel_rfl) rfl #[.slice Ao14 t136.length co14, .int .u8 a0] rfl (by (try simp only [List.map_toArray, List.map_cons, List.map_nil]); first | done | rfl | (simp only [List.length_drop, List.length_take]; rfl)) ?_; (with_reducible refine (exprs_find.calls k _ _ t136 a0 t139 t140 t141 t142 false _ ?side1 ?side2 A4.out).mono ?_); (case side1 => repeat (first | exact (Kd.R_reads' HO138.out).2.2 | (with_reducible refine Kd.C_alloc ?_ _) | (with_reducible refine Kd.C_drewN ?_ _) | (with_reducible refine Kd.C_drew ?_))); (case side2 => exact (Kd.R_reads' HO138.out).2.1); rintro e w15 ⟨rfl, hb⟩; refine ⟨_, rfl, ?_⟩; have n0_ := Aside0.mk (Kd.R_below (by (with_reducible repeat (first | apply Kd.R_alloc | apply Kd.R_drewN | apply Kd.R_drew)); exact HO138.out) hb); have n1_ := Aside0.mk (below_step (by repeat (first | (with_reducible first | exact HB.out | apply below_alloc | apply pw_below_drewN | apply below_drew1) | exact HB.out)) hb); clear HO138; clear HB; have HO138 := n0_; have HB := n1_; clear n0_ n1_; (try clear hb); (try clear hb2); (try clear hk); (try clear hi)) | ((with_reducible refine gate_dst (N := 3) rfl ?_); refine box_event ?hg (N := 3) ?hd (cs := #[.int .u8 0, .int .i64 0, .int .u8 0, .string (⟨#[]⟩ : ByteArray)]) (t := 83) ?hr ?_; (case hd => rfl); (case hg => rfl); (case hr => first | (go_simp; done) | (go_simp; rfl)); intro gb144 hg w16 hbox hb; have n0_ := Aside0.mk (Kd.R_below (Kd.R_elderB (by (with_reducible repeat (first | apply Kd.R_alloc | apply Kd.R_drewN | apply Kd.R_drew)); exact HO138.out) gb144 (Nat.le_of_eq hg.symm)) hb); have n1_ := Aside0.mk (below_step (by repeat (first | (with_reducible first | exact HB.out | apply below_alloc | apply pw_below_drewN | apply below_drew1) | exact HB.out)) hb); have n2_ := Aside0.mk (hbox); have n3_ := Aside0.mk ((by rw [hg]; exact (below_size (by repeat (first | (with_reducible first | exact HB.out | apply below_alloc | apply pw_below_drewN | apply below_drew1) | exact HB.out))) : w.heap.size ≤ gb144)); have n4_ := Aside0.mk ((by rw [hg]; exact (below_size (by repeat (first | (with_reducible first | exact HB.out | apply below_alloc | apply pw_below_drewN | apply below_drew1) | exact HB.out))) : w.heap.size ≤ gb144)); clear HO138; clear HB; have HO138 := n0_; have HB := n1_; have BK144 := n2_; have GW144 := n3_; have GE144 := n4_; clear n0_ n1_ n2_ n3_ n4_; clear hb hbox hg; have hcz17_0 : w16.cell? ⟨gb144, 0, none⟩ = some (.int .u8 0) := (blk_cell BK144.out 0).trans rfl; have hcz17_1 : w16.cell? ⟨gb144, 1, none⟩ = some (.int .i64 0) := (blk_cell BK144.out 1).trans rfl; have hcz17_2 : w16.cell? ⟨gb144, 2, none⟩ = some (.int .u8 0) := (blk_cell BK144.out 2).trans rfl; have hcz17_3 : w16.cell? ⟨gb144, 3, none⟩ = some (.string (⟨#[]⟩ : ByteArray)) := (blk_cell BK144.out 3).trans rfl; have hfz17_0 := blk_frozen BK144.out 0; have hfz17_1 := blk_frozen BK144.out 1; have hfz17_2 := blk_frozen BK144.out 2; have hfz17_3 := blk_frozen BK144.out 3) | ((with_reducible refine gate_callee (f := 48) rfl ?_); refine goesL_ (some 16) rfl rfl Tryd.func48 (by kernel_rfl) rfl #[] rfl (by (try simp only [List.map_toArray, List.map_cons, List.map_nil]); first | done | rfl | (simp only [List.length_drop, List.length_take]; rfl)) ?_; (with_reducible refine (exprs_prefixes.calls  t145 _ A11.out).mono ?_); rintro e w18 ⟨v146, rfl, ho0, hb⟩; refine ⟨_, rfl, ?_⟩; have n0_ := Aside0.mk (Kd.R_elder' (by (with_reducible repeat (first | apply Kd.R_alloc | apply Kd.R_drewN | apply Kd.R_drew)); exact (Kd.R_mono (Kd.R_far (p := ⟨gb144, 3, none⟩) (Kd.R_far (p := ⟨gb144, 2, none⟩) (Kd.R_far (p := ⟨gb144, 1, none⟩) (Kd.R_far (p := ⟨gb144, 0, none⟩) (Kd.R_mono HO138.out (fun k_ hk => (⟨hk, hk.2⟩ : _ ∧ k_ ≠ gb144))) (fun _ hk => hk.2) (.int .u8 t139)) (fun _ hk => hk.2) (.int .i64 t140)) (fun _ hk => hk.2) (.int .u8 t141)) (fun _ hk => hk.2) (.string t142)) (fun _ h_ => h_.1))) (Kd.R_base ho0) hb); have n1_ := Aside0.mk (Kd.R_lower (Kd.R_newB (Kd.R_new' ho0 (Kd.R_lt (by (with_reducible repeat (first | apply Kd.R_alloc | apply Kd.R_drewN | apply Kd.R_drew)); exact (Kd.R_mono (Kd.R_far (p := ⟨gb144, 3, none⟩) (Kd.R_far (p := ⟨gb144, 2, none⟩) (Kd.R_far (p := ⟨gb144, 1, none⟩) (Kd.R_far (p := ⟨gb144, 0, none⟩) (Kd.R_mono HO138.out (fun k_ hk => (⟨hk, hk.2⟩ : _ ∧ k_ ≠ gb144))) (fun _ hk => hk.2) (.int .u8 t139)) (fun _ hk => hk.2) (.int .i64 t140)) (fun _ hk => hk.2) (.int .u8 t141)) (fun _ hk => hk.2) (.string t142)) (fun _ h_ => h_.1))))) (g := gb144) (o := .cells #[.int .u8 t139, .int .i64 t140, .int .u8 t141, .string t142] 83 (0, 0)) (by (with_reducible repeat (first | refine blk_drewN ?_ _ | refine blk_drew ?_ | refine blk_alloc ?_ _)); refine blk_put (cs := #[.int .u8 t139, .int .i64 t140, .int .u8 t141, .string (⟨#[]⟩ : ByteArray)]) ?_ 3 _ rfl; (with_reducible repeat (first | refine blk_drewN ?_ _ | refine blk_drew ?_ | refine blk_alloc ?_ _)); refine blk_put (cs := #[.int .u8 t139, .int .i64 t140, .int .u8 0, .string (⟨#[]⟩ : ByteArray)]) ?_ 2 _ rfl; (with_reducible repeat (first | refine blk_drewN ?_ _ | refine blk_drew ?_ | refine blk_alloc ?_ _)); refine blk_put (cs := #[.int .u8 t139, .int .i64 0, .int .u8 0, .string (⟨#[]⟩ : ByteArray)]) ?_ 1 _ rfl; (with_reducible repeat (first | refine blk_drewN ?_ _ | refine blk_drew ?_ | refine blk_alloc ?_ _)); refine blk_put (cs := #[.int .u8 0, .int .i64 0, .int .u8 0, .string (⟨#[]⟩ : ByteArray)]) ?_ 0 _ rfl; (with_reducible repeat (first | refine blk_drewN ?_ _ | refine blk_drew ?_ | refine blk_alloc ?_ _)); exact BK144.out)) (below_size (by repeat (first | (with_reducible first | exact HB.out | apply below_alloc | apply pw_below_drewN | apply below_drew1 | refine below_set ?_ GE144.out) | exact HB.out)))); have n2_ := Aside0.mk (blk_below (g := gb144) (o := .cells #[.int .u8 t139, .int .i64 t140, .int .u8 t141, .string t142] 83 (0, 0)) (by (with_reducible repeat (first | refine blk_drewN ?_ _ | refine blk_drew ?_ | refine blk_alloc ?_ _)); refine blk_put (cs := #[.int .u8 t139, .int .i64 t140, .int .u8 t141, .string (⟨#[]⟩ : ByteArray)]) ?_ 3 _ rfl; (with_reducible repeat (first | refine blk_drewN ?_ _ | refine blk_drew ?_ | refine blk_alloc ?_ _)); refine blk_put (cs := #[.int .u8 t139, .int .i64 t140, .int .u8 0, .string (⟨#[]⟩ : ByteArray)]) ?_ 2 _ rfl; (with_reducible repeat (first | refine blk_drewN ?_ _ | refine blk_drew ?_ | refine blk_alloc ?_ _)); refine blk_put (cs := #[.int .u8 t139, .int .i64 0, .int .u8 0, .string (⟨#[]⟩ : ByteArray)]) ?_ 1 _ rfl; (with_reducible repeat (first | refine blk_drewN ?_ _ | refine blk_drew ?_ | refine blk_alloc ?_ _)); refine blk_put (cs := #[.int .u8 0, .int .i64 0, .int .u8 0, .string (⟨#[]⟩ : ByteArray)]) ?_ 0 _ rfl; (with_reducible repeat (first | refine blk_drewN ?_ _ | refine blk_drew ?_ | refine blk_alloc ?_ _)); exact BK144.out) hb); have n3_ := Aside0.mk (below_step (by repeat (first | (with_reducible first | exact HB.out | apply below_alloc | apply pw_below_drewN | apply below_drew1 | refine below_set ?_ GE144.out) | exact HB.out)) hb); clear HO138; clear BK144; clear HB; have HO138 := n0_; have HO147 := n1_; have BK144 := n2_; have HB := n3_; clear n0_ n1_ n2_ n3_; (try clear hb); (try clear hb2); (try clear hk); (try clear hi); (try clear ho0); obtain ⟨Ao19, co19, eo19⟩ := Kd.R_slice HO147.out; subst eo19) | ((with_reducible refine gate_callee (f := 44) rfl ?_); refine goesL_ (some 18) rfl rfl Tryd.func44 (by kernel_rfl) rfl #[.slice Ao19 t145.length co19, .int .u8 a0] rfl (by (try simp only [List.map_toArray, List.map_cons, List.map_nil]); first | done | rfl | (simp only [List.length_drop, List.length_take]; rfl)) ?_; (with_reducible refine (exprs_find.calls k _ _ t145 a0 t148 t149 t150 t151 t152 _ ?side1 ?side2 A12.out).mono ?_); (case side1 => repeat (first | exact (Kd.R_reads' HO147.out).2.2 | (with_reducible refine Kd.C_alloc ?_ _) | (with_reducible refine Kd.C_drewN ?_ _) | (with_reducible refine Kd.C_drew ?_))); (case side2 => exact (Kd.R_reads' HO147.out).2.1); rintro e w20 ⟨rfl, hb⟩; refine ⟨_, rfl, ?_⟩; have n0_ := Aside0.mk (Kd.R_below (by (with_reducible repeat (first | apply Kd.R_alloc | apply Kd.R_drewN | apply Kd.R_drew)); exact HO138.out) hb); have n1_ := Aside0.mk (Kd.R_below (by (with_reducible repeat (first | apply Kd.R_alloc | apply Kd.R_drewN | apply Kd.R_drew)); exact HO147.out) hb); have n2_ := Aside0.mk (blk_below (g := gb144) (o := .cells #[.int .u8 t139, .int .i64 t140, .int .u8 t141, .string t142] 83 (0, 0)) (by (with_reducible repeat (first | refine blk_drewN ?_ _ | refine blk_drew ?_ | refine blk_alloc ?_ _)); exact BK144.out) hb); have n3_ := Aside0.mk (below_step (by repeat (first | (with_reducible first | exact HB.out | apply below_alloc | apply pw_below_drewN | apply below_drew1 | refine below_set ?_ GE144.out) | exact HB.out)) hb); clear HO138; clear HO147; clear BK144; clear HB; have HO138 := n0_; have HO147 := n1_; have BK144 := n2_; have HB := n3_; clear n0_ n1_ n2_ n3_; (try clear hb); (try clear hb2); (try clear hk); (try clear hi); have hcz21_0 : w20.cell? ⟨gb144, 0, none⟩ = some (.int .u8 t139) := (blk_cell BK144.out 0).trans rfl; have hcz21_1 : w20.cell? ⟨gb144, 1, none⟩ = some (.int .i64 t140) := (blk_cell BK144.out 1).trans rfl; have hcz21_2 : w20.cell? ⟨gb144, 2, none⟩ = some (.int .u8 t141) := (blk_cell BK144.out 2).trans rfl; have hcz21_3 : w20.cell? ⟨gb144, 3, none⟩ = some (.string t142) := (blk_cell BK144.out 3).trans rfl; have hfz21_0 := blk_frozen BK144.out 0; have hfz21_1 := blk_frozen BK144.out 1; have hfz21_2 := blk_frozen BK144.out 2; have hfz21_3 := blk_frozen BK144.out 3))
   go_ret
   exact ⟨by first | rfl | (simp [errW_none, errW_some] <;> rfl) | (simp [*, errW_none, errW_some] <;> rfl), by repeat (first | (with_reducible first | exact HB.out | apply below_alloc | apply pw_below_drewN | apply below_drew1 | refine below_set ?_ GE144.out) | exact HB.out)⟩

-- in a group: function 47 (exprs_part)

/-! ### strings_HasPrefix: function 49 -/
-- BY HAND: function 49 (strings_HasPrefix)

/-! ### strconv_FormatInt: function 50 -/
-- BY HAND: function 50 (strconv_FormatInt)

/-! ### strconv_FormatBool: function 51 -/
-- BY HAND: function 51 (strconv_FormatBool)

-- NOT PRINTED: function 31 (exprs_write)

/-! ### exprs_Text: function 12 -/
-- BY HAND: function 12 (exprs_Text)

end Go.Proofs.YtbdciibbgiphcaaDoor.V

/- Operators among forms, how many parts an operator has, its rank: what the printed functions compute. -/
namespace Go.Proofs.YtbdciibbgiphcaaDoor.V
set_option linter.unusedVariables false
set_option linter.unusedSimpArgs false
set_option linter.unusedSectionVars false
open Go.RowKit Go.Proofs.YtbdciibbgiphcaaDoorW.PrintWords Go.Proofs.YtbdciibbgiphcaaDoorW.PrintLast Go.Proofs.YtbdciibbgiphcaaDoorW.PrintMore
def foundF : Option S83 → Int × Int × Int × ByteArray × Bool
 | some f => (f.f0, f.f1, f.f2, f.f3, true)
 | none => (0, 7, 0, ⟨#[]⟩, false)
theorem rdT83 (l : List S83) (i : Nat) (h : i < l.length) : rd_T83 l (i : Int) = l[i] := by
 show l.getD i z83 = _
 rw [List.getD_eq_getElem?_getD, List.getElem?_eq_getElem h]; rfl
theorem findL_cons (x : S83) (r : List S83) (o : Int) : findL (x :: r) o = if x.f0 = o then some x else findL r o := by
 unfold findL
 rw [List.find?_cons]
 by_cases h : x.f0 = o
 ·rw [if_pos h, decide_eq_true h]
 ·rw [if_neg h, decide_eq_false h]
theorem find_loop (l : List S83) (o : Int) (hl : l.length ≤ 1000) : ∀ d i, i + d = l.length → Ev (fun k => exprs_find.l0 k o l (l.length : Int) i) (foundF (findL (l.drop i) o))
 | 0, i, hi => by
  rw [List.drop_eq_nil_of_le (by omega)]
  refine Ev.step (fun k => ?_) (Ev.now _)
  simp only [exprs_find.l0]
  rw [if_neg (by omega)]
  rfl
 | d + 1, i, hi => by
  have hlt : i < l.length := by omega
  rw [List.drop_eq_getElem_cons hlt, findL_cons]
  by_cases he : (l[i]).f0 = o
  ·rw [if_pos he]
   refine Ev.step (fun k => ?_) (Ev.now _)
   simp only [exprs_find.l0]
   rw [if_pos (by omega), if_pos (by omega), if_pos (by omega), rdT83 l i hlt, if_pos he]
   rfl
  ·rw [if_neg he]
   refine Ev.step (fun k => ?_) (find_loop l o hl d (i + 1) (by omega))
   simp only [exprs_find.l0]
   rw [if_pos (by omega), if_pos (by omega), if_pos (by omega), rdT83 l i hlt, if_neg he, w64 (by omega) (by omega)]
   rfl
theorem find_ev (l : List S83) (o : Int) (hl : l.length ≤ 1000) : Ev (fun k => exprs_find.f k l o) (foundF (findL l o)) :=
 Ev.congr (fun k => by simp only [exprs_find.f]; rfl) (find_loop l o hl l.length 0 (by omega))
theorem pairs_f : exprs_pairs.f = some pairsL := rfl
theorem prefixes_f : exprs_prefixes.f = some prefL := rfl
theorem foundF_b (x : Option S83) : (foundF x).2.2.2.2 = x.isSome := by cases x <;> rfl
theorem parts_tail (o : Int) (h1 : o ≠ 17) : Ev (fun k => (exprs_pairs.f).bind fun t118 => ((exprs_find.f k t118 o).bind fun bt121 => (if bt121.2.2.2.2 = true then (some (2 : Int)) else ((exprs_prefixes.f).bind fun t127 => ((exprs_find.f k t127 o).bind fun bt130 => (if bt130.2.2.2.2 = true then (some 1) else (some (-1)))))))) (if (findL pairsL o).isSome then 2 else if (findL prefL o).isSome then 1 else -1) := by
 rw [pairs_f, prefixes_f]
 simp only [Option.bind_some]
 refine Ev.bind (f := fun k bt121 => if bt121.2.2.2.2 = true then (some (2 : Int)) else ((exprs_find.f k prefL o).bind fun bt130 => (if bt130.2.2.2.2 = true then (some 1) else (some (-1))))) (find_ev pairsL o (by decide)) ?_
 simp only [foundF_b]
 cases h : (findL pairsL o).isSome with
 | true => exact Ev.congr (fun k => by rw [if_pos rfl, if_pos rfl]) (Ev.now _)
 | false =>
  refine Ev.congr (f := fun k => (exprs_find.f k prefL o).bind fun bt130 => (if bt130.2.2.2.2 = true then (some (1 : Int)) else (some (-1)))) (fun k => by rw [if_neg (by simp)]) ?_
  refine Ev.bind (f := fun k bt130 => if bt130.2.2.2.2 = true then (some (1 : Int)) else (some (-1))) (find_ev prefL o (by decide)) ?_
  simp only [foundF_b]
  cases h : (findL prefL o).isSome with
  | true => exact Ev.congr (fun k => by simp) (Ev.now _)
  | false => exact Ev.congr (fun k => by simp) (Ev.now _)
theorem parts_j0 (o : Int) (b : Bool) (hb : b = decide (o = 1 ∨ o = 2 ∨ o = 3)) : Ev (fun k => exprs_parts.j0 k o b) (parts o) := by
 unfold parts
 cases b with
 | true =>
  rw [if_pos (of_decide_eq_true hb.symm)]
  exact Ev.step (fun k => by simp [exprs_parts.j0]) (Ev.now _)
 | false =>
  rw [if_neg (of_decide_eq_false hb.symm)]
  by_cases h : o = 17
  ·rw [if_pos h]
   exact Ev.step (fun k => by simp only [exprs_parts.j0]; rw [if_neg (by simp), if_pos h]) (Ev.now _)
  ·rw [if_neg h]
   exact Ev.step (fun k => by simp only [exprs_parts.j0]; rw [if_neg (by simp), if_neg h]) (parts_tail o h)
theorem parts_ev (o : Int) : Ev (fun k => exprs_parts.f k o) (parts o) := by
 by_cases h1 : o = 1
 ·exact Ev.congr (fun k => by simp only [exprs_parts.f]; rw [if_pos h1]) (parts_j0 o true (by simp [h1]))
 ·by_cases h2 : o = 2
  ·exact Ev.congr (fun k => by simp only [exprs_parts.f]; rw [if_neg h1, if_pos h2]) (parts_j0 o true (by simp [h2]))
  ·exact Ev.congr (fun k => by simp only [exprs_parts.f]; rw [if_neg h1, if_neg h2]) (parts_j0 o (o == 3) (by by_cases h3 : o = 3 <;> simp [h1, h2, h3]))
theorem rankOf_ev (o : Int) : Ev (fun k => exprs_rankOf.f k o) (rankOf o) := by
 unfold rankOf
 by_cases h : o = 17
 ·rw [if_pos h]
  exact Ev.congr (fun k => by simp only [exprs_rankOf.f]; rw [if_pos h]) (Ev.now _)
 ·rw [if_neg h]
  refine Ev.congr (f := fun k => (exprs_find.f k pairsL o).bind fun bt140 => (if bt140.2.2.2.2 = true then (some bt140.2.1) else ((exprs_find.f k prefL o).bind fun bt149 => (some bt149.2.1)))) (fun k => by simp only [exprs_rankOf.f]; rw [if_neg h, pairs_f, prefixes_f, Option.bind_some]; rfl) ?_
  refine Ev.bind (f := fun k bt140 => if bt140.2.2.2.2 = true then (some bt140.2.1) else ((exprs_find.f k prefL o).bind fun bt149 => (some bt149.2.1))) (find_ev pairsL o (by decide)) ?_
  cases h1 : findL pairsL o with
  | some f => exact Ev.congr (fun k => by simp [foundF]) (Ev.now f.f1)
  | none =>
   refine Ev.congr (f := fun k => (exprs_find.f k prefL o).bind fun bt149 => (some bt149.2.1)) (fun k => by simp [foundF]) ?_
   refine Ev.bind (f := fun k bt149 => some bt149.2.1) (find_ev prefL o (by decide)) ?_
   cases h2 : findL prefL o with
   | some f => exact Ev.now f.f1
   | none => exact Ev.now 7
theorem parts_any (o : Int) (w : World) : Calls Tryd.prog 56 #[.int .u8 o] w fun e w' => e = .returned (.int .i64 (parts o)) ∧ Below w.heap.size w w' := by
 obtain ⟨k, h⟩ := (parts_ev o).rounds
 exact exprs_parts.calls k o _ w h
theorem rankOf_any (o : Int) (w : World) : Calls Tryd.prog 70 #[.int .u8 o] w fun e w' => e = .returned (.int .i64 (rankOf o)) ∧ Below w.heap.size w w' := by
 obtain ⟨k, h⟩ := (rankOf_ev o).rounds
 exact exprs_rankOf.calls k o _ w h
end Go.Proofs.YtbdciibbgiphcaaDoor.V

/- What may be, as a shape; how it is written: plain Lean. -/
namespace Go.Proofs.YtbdciibbgiphcaaDoor.V
set_option linter.unusedVariables false
set_option linter.unusedSimpArgs false
set_option linter.unusedSectionVars false
open Go.RowKit Go.Proofs.YtbdciibbgiphcaaDoorW.PrintWords Go.Proofs.YtbdciibbgiphcaaDoorW.PrintLast Go.Proofs.YtbdciibbgiphcaaDoorW.PrintMore
/-- what may be, at most so deep, with l parts left ahead and l' behind. -/
inductive Ok (nm : ByteArray → Bool) : Nat → S25 → Int → Int → Prop
 | int (d : Nat) (n : Int) (s : ByteArray) (l : Int) : 1 ≤ l → 0 ≤ n → emp s = true → Ok nm (d + 1) ⟨1, n, s, []⟩ l (l - 1)
 | bool (d : Nat) (n : Int) (s : ByteArray) (l : Int) : 1 ≤ l → n = 0 ∨ n = 1 → emp s = true → Ok nm (d + 1) ⟨2, n, s, []⟩ l (l - 1)
 | name (d : Nat) (s : ByteArray) (l : Int) : 1 ≤ l → nm s = true → Ok nm (d + 1) ⟨3, 0, s, []⟩ l (l - 1)
 | two (d : Nat) (f : S83) (s : ByteArray) (a b : S25) (l l1 l2 : Int) : 1 ≤ l → findL pairsL f.f0 = some f → emp s = true → Ok nm d a (l - 1) l1 → Ok nm d b l1 l2 → Ok nm (d + 1) ⟨f.f0, 0, s, [a, b]⟩ l l2
 | one (d : Nat) (f : S83) (s : ByteArray) (a : S25) (l l1 : Int) : 1 ≤ l → findL pairsL f.f0 = none → findL prefL f.f0 = some f → emp s = true → Ok nm d a (l - 1) l1 → Ok nm (d + 1) ⟨f.f0, 0, s, [a]⟩ l l1
 | three (d : Nat) (s : ByteArray) (a b c : S25) (l l1 l2 l3 : Int) : 1 ≤ l → emp s = true → Ok nm d a (l - 1) l1 → Ok nm d b l1 l2 → Ok nm d c l2 l3 → Ok nm (d + 1) ⟨17, 0, s, [a, b, c]⟩ l l3
theorem findL_op {l : List S83} {o : Int} {f : S83} (h : findL l o = some f) : f.f0 = o ∧ f ∈ l := by
 unfold findL at h
 have := List.find?_some h
 exact ⟨by simpa using this, List.mem_of_find?_eq_some h⟩
theorem parts_zero {o : Int} (h : o = 1 ∨ o = 2 ∨ o = 3) : parts o = 0 := by unfold parts; rw [if_pos h]
theorem findL_pairs_none : findL pairsL 1 = none ∧ findL pairsL 2 = none ∧ findL pairsL 3 = none ∧ findL pairsL 17 = none ∧ findL prefL 17 = none ∧ findL prefL 1 = none ∧ findL prefL 2 = none ∧ findL prefL 3 = none := by decide
theorem chks_cons {f : S25 → Int → Bool × Int} {y : S25} {r : List S25} {l : Int} (h : (chks f (y :: r) l).1 = true) : (f y l).1 = true ∧ (chks f r (f y l).2).1 = true ∧ (chks f (y :: r) l).2 = (chks f r (f y l).2).2 := by
 simp only [chks] at h ⊢
 by_cases hb : (f y l).1 = true
 ·rw [if_pos hb] at h ⊢; exact ⟨hb, h, rfl⟩
 ·rw [if_neg hb] at h; simp at h
theorem ok_of_chk (nm : ByteArray → Bool) : ∀ (d : Nat) (x : S25) (l : Int), (chk nm d x l).1 = true → Ok nm d x l (chk nm d x l).2
 | 0, x, l, h => by simp [chk] at h
 | d + 1, ⟨o, n, s, xs⟩, l, h => by
  have ih := ok_of_chk nm d
  by_cases h1 : l - 1 < 0
  ·rw [chk, if_pos h1] at h; simp at h
  by_cases h2 : parts o ≠ (xs.length : Int)
  ·rw [chk, if_neg h1, if_pos h2] at h; simp at h
  have h2 : parts o = (xs.length : Int) := by simpa using h2
  rw [chk, if_neg h1, if_neg (fun e => e h2)] at h ⊢
  by_cases o1 : o = 1
  ·subst o1
   rw [if_pos rfl] at h ⊢
   rw [parts_zero (.inl rfl)] at h2
   obtain rfl : xs = [] := List.eq_nil_of_length_eq_zero (by omega)
   simp only [Bool.and_eq_true, decide_eq_true_eq] at h
   exact .int d n s l (by omega) h.1 h.2
  rw [if_neg o1] at h ⊢
  by_cases o2 : o = 2
  ·subst o2
   rw [if_pos rfl] at h ⊢
   rw [parts_zero (.inr (.inl rfl))] at h2
   obtain rfl : xs = [] := List.eq_nil_of_length_eq_zero (by omega)
   simp only [Bool.and_eq_true, Bool.or_eq_true, decide_eq_true_eq] at h
   exact .bool d n s l (by omega) h.1 h.2
  rw [if_neg o2] at h ⊢
  by_cases o3 : o = 3
  ·subst o3
   rw [if_pos rfl] at h ⊢
   rw [parts_zero (.inr (.inr rfl))] at h2
   obtain rfl : xs = [] := List.eq_nil_of_length_eq_zero (by omega)
   simp only [Bool.and_eq_true, decide_eq_true_eq] at h
   obtain ⟨rfl, h⟩ := h
   exact .name d s l (by omega) h
  rw [if_neg o3] at h ⊢
  simp only [Bool.and_eq_true, decide_eq_true_eq] at h
  obtain ⟨h3, rfl, h5⟩ := h
  unfold parts at h2
  rw [if_neg (by rintro (e | e | e) <;> contradiction)] at h2
  by_cases o17 : o = 17
  ·subst o17
   rw [if_pos rfl] at h2
   match xs, h2, h3 with
   | [a, b, c], _, h3 =>
    obtain ⟨q1, q2, q3⟩ := chks_cons h3
    obtain ⟨r1, r2, r3⟩ := chks_cons q2
    obtain ⟨s1, s2, s3⟩ := chks_cons r2
    rw [q3, r3, s3]
    exact .three d s a b c l _ _ _ (by omega) h5 (ih _ _ q1) (ih _ _ r1) (ih _ _ s1)
  rw [if_neg o17] at h2
  cases hp : findL pairsL o with
  | some f =>
   obtain ⟨rfl, _⟩ := findL_op hp
   rw [hp] at h2
   simp only [Option.isSome_some, if_true] at h2
   match xs, h2, h3 with
   | [a, b], _, h3 =>
    obtain ⟨q1, q2, q3⟩ := chks_cons h3
    obtain ⟨r1, r2, r3⟩ := chks_cons q2
    rw [q3, r3]
    exact .two d f s a b l _ _ (by omega) hp h5 (ih _ _ q1) (ih _ _ r1)
  | none =>
   cases hq : findL prefL o with
   | some f =>
    obtain ⟨rfl, _⟩ := findL_op hq
    rw [hp, hq] at h2
    simp only [Option.isSome_some, Option.isSome_none, if_true] at h2
    match xs, h2, h3 with
    | [a], _, h3 =>
     obtain ⟨q1, q2, q3⟩ := chks_cons h3
     rw [q3]
     exact .one d f s a l _ (by omega) hp hq h5 (ih _ _ q1)
   | none =>
    rw [hp, hq] at h2
    simp at h2
theorem ok_okE {nm : ByteArray → Bool} {x : S25} (h : okE nm x = true) : ∃ l', Ok nm 32 x 200 l' := ⟨_, ok_of_chk nm 32 x 200 h⟩
theorem Ok.lt {nm : ByteArray → Bool} {d : Nat} {x : S25} {l l' : Int} (h : Ok nm d x l l') : 0 ≤ l' ∧ l' < l := by
 induction h <;> omega
/-- what is read: whole numbers of 64 bits. -/
inductive WfE : S25 → Prop
 | mk (o n : Int) (s : ByteArray) (xs : List S25) : 0 ≤ o → o ≤ 255 → -9223372036854775808 ≤ n → n ≤ 9223372036854775807 → s.size ≤ 140737488351232 → xs.length ≤ 140737488351232 → (∀ y ∈ xs, WfE y) → WfE ⟨o, n, s, xs⟩
def asksOf (f : S83) : Int × Int := if f.f1 = 0 then (1, 0) else if f.f1 = 3 then (4, 4) else (f.f1, f.f1 + 1)
def hd0 (x : S25) (i : Nat) : S25 := x.f3.getD i z25
def sp : ByteArray := ⟨#[32]⟩
def partW (wr : S25 → ByteArray) (x : S25) (least : Int) : ByteArray := if rankOf x.f0 < least then ((⟨#[40]⟩ : ByteArray) ++ wr x) ++ (⟨#[41]⟩ : ByteArray) else wr x
def prefW (f : S83) (s : ByteArray) : ByteArray := if f.f2 = 3 ∧ Lib.hasPrefix s.data.toList f.f3.data.toList = false then f.f3 ++ s else (f.f3 ++ sp) ++ s
def boolW (b : Bool) : ByteArray := if b then ⟨#[116, 114, 117, 101]⟩ else ⟨#[102, 97, 108, 115, 101]⟩
theorem boolW_is (b : Bool) : boolW b = ⟨(Lib.formatBool b).toArray⟩ := by cases b <;> kernel_rfl
/-- P5.2. -/
def wr : Nat → S25 → ByteArray
 | 0, _ => ⟨#[]⟩
 | d + 1, x => match findL pairsL x.f0 with
  | some f => (((partW (wr d) (hd0 x 0) (asksOf f).1 ++ sp) ++ f.f3) ++ sp) ++ partW (wr d) (hd0 x 1) (asksOf f).2
  | none => match findL prefL x.f0 with
   | some f => prefW f (partW (wr d) (hd0 x 0) 6)
   | none => if x.f0 = 1 then ⟨(Lib.itoa x.f1).toArray⟩ else if x.f0 = 2 then boolW (decide (x.f1 = 1)) else if x.f0 = 3 then x.f2
    else ((((⟨#[105, 102, 32]⟩ : ByteArray) ++ partW (wr d) (hd0 x 0) 0) ++ (⟨#[32, 116, 104, 101, 110, 32]⟩ : ByteArray)) ++ partW (wr d) (hd0 x 1) 0) ++ (⟨#[32, 101, 108, 115, 101, 32]⟩ : ByteArray) ++ partW (wr d) (hd0 x 2) 0
theorem size_app (a b : ByteArray) : (a ++ b).size = a.size + b.size := ByteArray.size_append
theorem partW_size (w : S25 → ByteArray) (x : S25) (k : Int) : (partW w x k).size ≤ (w x).size + 2 := by
 unfold partW
 split
 ·rw [size_app, size_app]
  show 1 + (w x).size + 1 ≤ _
  omega
 ·omega
theorem form_text {f : S83} (h : f ∈ pairsL ∨ f ∈ prefL) : f.f3.size ≤ 3 := by
 rcases h with h | h
 ·simp only [pairsL, List.mem_cons, List.not_mem_nil, or_false] at h
  rcases h with rfl | rfl | rfl | rfl | rfl | rfl | rfl | rfl | rfl | rfl | rfl | rfl <;> decide
 ·simp only [prefL, List.mem_cons, List.not_mem_nil, or_false] at h
  rcases h with rfl | rfl | rfl <;> decide
theorem boolW_size (b : Bool) : (boolW b).size ≤ 5 := by cases b <;> decide
theorem itoaW_size (n : Int) (h0 : -9223372036854775808 ≤ n) (h1 : n ≤ 9223372036854775807) : (⟨(Lib.itoa n).toArray⟩ : ByteArray).size ≤ 21 := by
 show (Lib.itoa n).toArray.size ≤ 21
 rw [List.size_toArray]
 exact Lib.itoa_length_le n h0 h1
theorem prefW_size (f : S83) (s : ByteArray) (hf : f.f3.size ≤ 3) : (prefW f s).size ≤ s.size + 4 := by
 unfold prefW
 split
 ·rw [size_app]; omega
 ·rw [size_app, size_app]
  show f.f3.size + 1 + s.size ≤ _
  omega
theorem wr_size {nm : ByteArray → Bool} (hnm : ∀ s, nm s = true → s.size ≤ 40) {d : Nat} {x : S25} {l l' : Int} (h : Ok nm d x l l') : WfE x → ((wr d x).size : Int) ≤ 60 * (l - l') := by
 induction h with
 | int d n s l h1 h2 h3 =>
  intro hw
  cases hw with | mk o n s xs w0 w1 w2 w3 w4 w5 w6 =>
  have := itoaW_size n w2 w3
  show ((⟨(Lib.itoa n).toArray⟩ : ByteArray).size : Int) ≤ _
  omega
 | bool d n s l h1 h2 h3 =>
  intro hw
  have := boolW_size (decide (n = 1))
  show ((boolW (decide (n = 1))).size : Int) ≤ _
  omega
 | name d s l h1 h2 =>
  intro hw
  have := hnm s h2
  show (s.size : Int) ≤ _
  omega
 | two d f s a b l l1 l2 h1 hf h3 ha hb iha ihb =>
  intro hw
  cases hw with | mk o n s xs w0 w1 w2 w3 w4 w5 w6 =>
  have e : wr (d + 1) ⟨f.f0, 0, s, [a, b]⟩ = (((partW (wr d) a (asksOf f).1 ++ sp) ++ f.f3) ++ sp) ++ partW (wr d) b (asksOf f).2 := by
   simp only [wr]; rw [hf]; rfl
  rw [e, size_app, size_app, size_app, size_app]
  have g1 := partW_size (wr d) a (asksOf f).1
  have g2 := partW_size (wr d) b (asksOf f).2
  have g3 := form_text (.inl (findL_op hf).2)
  have g4 := iha (w6 a (by simp))
  have g5 := ihb (w6 b (by simp))
  have g6 : sp.size = 1 := rfl
  omega
 | one d f s a l l1 h1 hp hf h3 ha iha =>
  intro hw
  cases hw with | mk o n s xs w0 w1 w2 w3 w4 w5 w6 =>
  have e : wr (d + 1) ⟨f.f0, 0, s, [a]⟩ = prefW f (partW (wr d) a 6) := by
   simp only [wr]; rw [hp, hf]; rfl
  rw [e]
  have g1 := partW_size (wr d) a 6
  have g3 := form_text (.inr (findL_op hf).2)
  have g2 := prefW_size f (partW (wr d) a 6) g3
  have g4 := iha (w6 a (by simp))
  omega
 | three d s a b c l l1 l2 l3 h1 h3 ha hb hc iha ihb ihc =>
  intro hw
  cases hw with | mk o n s xs w0 w1 w2 w3 w4 w5 w6 =>
  have e : wr (d + 1) ⟨17, 0, s, [a, b, c]⟩ = ((((⟨#[105, 102, 32]⟩ : ByteArray) ++ partW (wr d) a 0) ++ (⟨#[32, 116, 104, 101, 110, 32]⟩ : ByteArray)) ++ partW (wr d) b 0) ++ (⟨#[32, 101, 108, 115, 101, 32]⟩ : ByteArray) ++ partW (wr d) c 0 := rfl
  rw [e, size_app, size_app, size_app, size_app, size_app]
  have g1 := partW_size (wr d) a 0
  have g2 := partW_size (wr d) b 0
  have g3 := partW_size (wr d) c 0
  have g4 := iha (w6 a (by simp))
  have g5 := ihb (w6 b (by simp))
  have g6 := ihc (w6 c (by simp))
  have q1 : (⟨#[105, 102, 32]⟩ : ByteArray).size = 3 := rfl
  have q2 : (⟨#[32, 116, 104, 101, 110, 32]⟩ : ByteArray).size = 6 := rfl
  have q3 : (⟨#[32, 101, 108, 115, 101, 32]⟩ : ByteArray).size = 6 := rfl
  omega
end Go.Proofs.YtbdciibbgiphcaaDoor.V

/- exprs.check, exprs.Check: walks. -/
namespace Go.Proofs.YtbdciibbgiphcaaDoor.V
set_option linter.unusedVariables false
set_option linter.unusedSimpArgs false
set_option linter.unusedSectionVars false
open Go.RowKit Go.Proofs.YtbdciibbgiphcaaDoorW.PrintWords Go.Proofs.YtbdciibbgiphcaaDoorW.PrintLast Go.Proofs.YtbdciibbgiphcaaDoorW.PrintMore
/-- tokens.Name answers nm. -/
def NameIs (nm : ByteArray → Bool) : Prop := ∀ s w, Calls Tryd.prog 57 #[.string s] w fun e w' => e = .returned (.bool (nm s)) ∧ Below w.heap.size w w'
/-- the counter's block. -/
def Cnt (w : World) (lb : Nat) (l : Int) : Prop := w.heap[lb]? = some (.cells #[.int .i64 l] 3 (0, 0))
theorem Cnt.cell {w : World} {lb : Nat} {l : Int} (h : Cnt w lb l) : w.cell? ⟨lb, 0, none⟩ = some (.int .i64 l) := by simp [World.cell?, show w.heap[lb]? = _ from h]
theorem Cnt.frozen {w : World} {lb : Nat} {l : Int} (h : Cnt w lb l) : w.frozen? ⟨lb, 0, none⟩ = false := by simp [World.frozen?, show w.heap[lb]? = _ from h]
theorem Cnt.lt {w : World} {lb : Nat} {l : Int} (h : Cnt w lb l) : lb < w.heap.size := (Array.getElem?_eq_some_iff.1 h).1
theorem Cnt.set {w : World} {lb : Nat} {l : Int} (h : Cnt w lb l) (m : Int) : Cnt (w.setCell ⟨lb, 0, none⟩ (.int .i64 m)) lb m := by
 unfold Cnt
 simp [World.setCell, show w.heap[lb]? = _ from h, Array.getElem?_modify]
theorem Cnt.below {w w' : World} {lb : Nat} {l : Int} (h : Cnt w lb l) (hb : Below w.heap.size w w') : Cnt w' lb l := (hb.block lb h.lt).trans h
def CheckPost (nm : ByteArray → Bool) (d : Nat) (x : S25) (l : Int) (lb : Nat) (w0 w : World) (e : Ending) (w' : World) : Prop :=
 e = .returned (.bool (chk nm d x l).1) ∧ Cnt w' lb (chk nm d x l).2 ∧ Below w0.heap.size w0 w' ∧ w.heap.size ≤ w'.heap.size ∧ w.grownBy w' (some lb)
theorem grown_set (w : World) (g j : Nat) (u : Value) : w.grownBy (w.setCell ⟨g, j, none⟩ u) (some g) :=
 ⟨rfl, rfl, rfl, by simp [World.setCell], fun k _ hk => Below.heap_setCell w ⟨g, j, none⟩ u k (fun e => hk (by rw [e]))⟩
theorem grown_of_below {w w' : World} (h : Below w.heap.size w w') (row : Option Nat) : w.grownBy w' row := ⟨h.os, h.tape, h.output, h.size, fun k hk _ => h.block k hk⟩
theorem cell_lt {w : World} {a : Addr} {u : Value} (h : w.cell? a = some u) : a.block < w.heap.size := by
 rcases Nat.lt_or_ge a.block w.heap.size with h1 | h1
 ·exact h1
 ·simp [World.cell?, Array.getElem?_eq_none h1] at h
theorem keep_cell {B : Nat} {W w2 : World} {a : Addr} {u : Value} (hb : Below B W w2) (hB : W.heap.size ≤ B) (h : W.cell? a = some u) : w2.cell? a = some u := by
 rw [hb.cell (Nat.lt_of_lt_of_le (cell_lt h) hB)]; exact h
theorem rdT25 (l : List S25) (i : Nat) (h : i < l.length) : rd_T25 l (i : Int) = l[i] := by
 show l.getD i z25 = _
 rw [List.getD_eq_getElem?_getD, List.getElem?_eq_getElem h]; rfl
/-- behind the count and the box. -/
structure Ck0 (w0 w wb : World) (lb : Nat) (m : Int) : Prop where
 cnt : Cnt wb lb m
 bel : Below w0.heap.size w0 wb
 sz : w.heap.size < wb.heap.size
 gr : w.grownBy wb (some lb)
theorem Ck0.post {nm : ByteArray → Bool} {d : Nat} {x : S25} {l m : Int} {lb : Nat} {w0 w wb : World} {b : Bool} (h : Ck0 w0 w wb lb m) (hc : chk nm d x l = (b, m)) : CheckPost nm d x l lb w0 w (.returned (.bool b)) wb := by
 refine ⟨by rw [hc], by rw [hc]; exact h.cnt, h.bel, Nat.le_of_lt h.sz, h.gr⟩
theorem Ck0.drewN {w0 w wb : World} {lb : Nat} {m : Int} (h : Ck0 w0 w wb lb m) (n : Nat) : Ck0 w0 w (wb.drewN n) lb m :=
 ⟨h.cnt, pw_below_drewN h.bel n, h.sz, ⟨h.gr.os, h.gr.tape, h.gr.output, h.gr.size, h.gr.block⟩⟩
theorem Ck0.drew {w0 w wb : World} {lb : Nat} {m : Int} (h : Ck0 w0 w wb lb m) : Ck0 w0 w wb.drew lb m :=
 ⟨h.cnt, h.bel.drew, h.sz, ⟨h.gr.os, h.gr.tape, h.gr.output, h.gr.size, h.gr.block⟩⟩
theorem Ck0.next {w0 w wb w2 : World} {lb : Nat} {m : Int} (h : Ck0 w0 w wb lb m) (hb : Below wb.heap.size wb w2) : Ck0 w0 w w2 lb m :=
 ⟨h.cnt.below hb, h.bel.trans (hb.mono h.bel.size), Nat.lt_of_lt_of_le h.sz hb.size, h.gr.trans (grown_of_below hb _)⟩
theorem chkA {nm : ByteArray → Bool} {d : Nat} {x : S25} {l : Int} (h : l - 1 < 0) : chk nm d x l = (false, l - 1) := by
 cases d with
 | zero => rfl
 | succ d => unfold chk; rw [if_pos h]
theorem chkB {nm : ByteArray → Bool} {d : Nat} {x : S25} {l : Int} (h : parts x.f0 ≠ (x.f3.length : Int)) : chk nm d x l = (false, l - 1) := by
 cases d with
 | zero => rfl
 | succ d => unfold chk; rw [if_pos h]; split <;> rfl
theorem chkC {nm : ByteArray → Bool} {d : Nat} {o n : Int} {s : ByteArray} {xs : List S25} {l : Int} (h1 : ¬ l - 1 < 0) (h : parts o = (xs.length : Int)) : chk nm (d + 1) ⟨o, n, s, xs⟩ l =
  if o = 1 then (decide (0 ≤ n) && emp s, l - 1) else if o = 2 then ((decide (n = 0) || decide (n = 1)) && emp s, l - 1) else if o = 3 then (decide (n = 0) && nm s, l - 1)
  else ((chks (chk nm d) xs (l - 1)).1 && (decide (n = 0) && emp s), (chks (chk nm d) xs (l - 1)).2) := by
 rw [chk, if_neg h1, if_neg (fun e => e h)]
theorem box_cells {w : World} {k : Nat} {o n : Int} {s : ByteArray} {v : Value} (h : w.heap[k]? = some (.cells #[.int .u8 o, .int .i64 n, .string s, v] 25 (0, 0))) :
  w.cell? ⟨k, 0, none⟩ = some (.int .u8 o) ∧ w.cell? ⟨k, 1, none⟩ = some (.int .i64 n) ∧ w.cell? ⟨k, 2, none⟩ = some (.string s) ∧ w.cell? ⟨k, 3, none⟩ = some v := by
 simp [World.cell?, h]
set_option maxHeartbeats 8000000 in
set_option maxRecDepth 100000 in
theorem check_walk (nm : ByteArray → Bool) (hnm : NameIs nm) : ∀ (d : Nat) (x : S25) (A : Option Addr) (c lb : Nat) (l : Int) (w0 w : World), d ≤ 32 → 0 ≤ l → l ≤ 200 → x.f3.length ≤ c → Kd.C k25 w0 A x.f3.length x.f3 → Below w0.heap.size w0 w → w0.heap.size ≤ lb → Cnt w lb l →
  Calls Tryd.prog 33 #[.agg #[.int .u8 x.f0, .int .i64 x.f1, .string x.f2, .slice A x.f3.length c], .pointer (some ⟨lb, 0, none⟩), .int .i64 (d : Int)] w (CheckPost nm d x l lb w0 w) := by
 intro d
 induction d with
 | zero =>
  intro x A c lb l w0 w hd hl0 hl1 hlc hC hb hlb hcn
  obtain ⟨o, n, s, xs⟩ := x
  dsimp only at hlc hC ⊢
  have c0 := hcn.cell
  have f0 := hcn.frozen
  have hlt := hcn.lt
  have hk : Ck0 w0 w ((w.setCell ⟨lb, 0, none⟩ (.int .i64 (l - 1))).alloc (.cells #[.int .u8 o, .int .i64 n, .string s, .slice A xs.length c] 25)) lb (l - 1) := by
   refine ⟨(hcn.set (l - 1)).below ((Below.refl _ _).alloc (Nat.le_refl _) _), (hb.setCell (p := ⟨lb, 0, none⟩) hlb _).alloc (by have := hb.size; simp [World.setCell]; omega) _, by simp [World.setCell], (grown_set w lb 0 _).trans (World.grownBy_alloc _ _ _)⟩
  have HK := Lib.hid hk
  clear hC hb hcn hk
  by_cases h1 : l - 1 < 0
  ·go_enter Tryd.func33, Tryd.ntmps33
   go_wp2_with fail
   go_quiet (fail)
   go_wp2_with fail
   go_ret
   exact (HK.out.drewN _).post rfl
  ·have hd1 : decide (l - 1 < 0) = false := decide_eq_false h1
   go_enter Tryd.func33, Tryd.ntmps33
   go_wp2_with fail
   go_quiet (fail)
   go_wp2_with fail
   go_ret
   exact (HK.out.drewN _).post rfl
 | succ d ih =>
  intro x A c lb l w0 w hd hl0 hl1 hlc hC hb hlb hcn
  obtain ⟨o, n, s, xs⟩ := x
  dsimp only at hlc hC ⊢
  have c0 := hcn.cell
  have f0 := hcn.frozen
  have hlt := hcn.lt
  have hk : Ck0 w0 w ((w.setCell ⟨lb, 0, none⟩ (.int .i64 (l - 1))).alloc (.cells #[.int .u8 o, .int .i64 n, .string s, .slice A xs.length c] 25)) lb (l - 1) := by
   refine ⟨(hcn.set (l - 1)).below ((Below.refl _ _).alloc (Nat.le_refl _) _), (hb.setCell (p := ⟨lb, 0, none⟩) hlb _).alloc (by have := hb.size; simp [World.setCell]; omega) _, by simp [World.setCell], (grown_set w lb 0 _).trans (World.grownBy_alloc _ _ _)⟩
  have HK := Lib.hid hk; have HC := Lib.hid hC; have HIH := Lib.hid ih; have HNM := Lib.hid hnm
  have hbase : w0.heap.size ≤ w.heap.size := hb.size
  clear hC hb hcn hk ih
  by_cases h1 : l - 1 < 0
  ·go_enter Tryd.func33, Tryd.ntmps33
   go_wp2_with fail
   go_quiet (fail)
   go_wp2_with fail
   go_ret
   exact (HK.out.drewN _).post (chkA h1)
  ·have hd1 : decide (l - 1 < 0) = false := decide_eq_false h1
   have hd2 : decide (((d : Int) + 1) < 1) = false := decide_eq_false (by omega)
   have hd3 : decide ((d : Int) < 0) = false := decide_eq_false (by omega)
   go_enter Tryd.func33, Tryd.ntmps33
   go_wp2_with fail
   obtain ⟨wb, hwb⟩ : ∃ wb, wb = ((w.setCell ⟨lb, 0, none⟩ (.int .i64 (l - 1))).alloc (.cells #[.int .u8 o, .int .i64 n, .string s, .slice A xs.length c] 25)) := ⟨_, rfl⟩
   rw [← hwb] at HK ⊢
   have hbx : wb.heap[w.heap.size]? = some (.cells #[.int .u8 o, .int .i64 n, .string s, .slice A xs.length c] 25 (0, 0)) := by
    rw [hwb]
    have := heap_alloc_new (w.setCell ⟨lb, 0, none⟩ (.int .i64 (l - 1))) (.cells #[.int .u8 o, .int .i64 n, .string s, .slice A xs.length c] 25)
    simpa [World.setCell] using this
   have HBX := Lib.hid hbx
   clear hwb
   obtain ⟨b0, b1, b2, b3⟩ := box_cells hbx
   have bc := HK.out.cnt.cell
   clear hbx c0 f0
   go_region_held3 (fun w' => w'.cell? ⟨lb, 0, none⟩ = some (.int .i64 (l - 1)) ∧ w'.cell? ⟨w.heap.size, 0, none⟩ = some (.int .u8 o) ∧ w'.cell? ⟨w.heap.size, 3, none⟩ = some (.slice A xs.length c)) (first | (exact ⟨s0, s1, s3⟩) | go_keep) (first | (go_at_call 56; refine (parts_any o _).mono ?_; rintro e w2 ⟨rfl, hb2⟩; have s0 := keep_cell hb2 (Nat.le_refl _) bc; have s1 := keep_cell hb2 (Nat.le_refl _) b0; have s3 := keep_cell hb2 (Nat.le_refl _) b3; have HB2 := Lib.hid hb2; clear hb2))
   have HK2 := Lib.hid (HK.out.drew.next HB2.out)
   have hbx2 : w2.heap[w.heap.size]? = some (.cells #[.int .u8 o, .int .i64 n, .string s, .slice A xs.length c] 25 (0, 0)) := (HB2.out.block _ HK.out.sz).trans HBX.out
   have HBX2 := Lib.hid hbx2
   obtain ⟨d0, d1, d2, d3⟩ := box_cells hbx2
   clear hbx2 HBX HK HB2 b0 b1 b2 b3 bc s0 s1 s3
   by_cases hp : parts o = (xs.length : Int)
   ·have hp1 : (parts o != (xs.length : Int)) = false := by simp [hp]
    simp only [hp1]
    have HP := Lib.hid hp
    clear hp hp1
    have HN1 : Hid (¬ l - 1 < 0) := Lib.hid (by omega)
    by_cases ho1 : o = 1
    ·subst ho1
     have hch : chk nm (d + 1) ⟨1, n, s, xs⟩ l = (decide (0 ≤ n) && emp s, l - 1) := by rw [chkC HN1.out HP.out]; rfl
     have HCH := Lib.hid hch
     clear hch
     by_cases hn0 : 0 ≤ n
     ·go_wp2_with fail
      go_ret
      exact HK2.out.post (b := s.toList.isEmpty) (by rw [HCH.out, decide_eq_true hn0]; rfl)
     ·go_wp2_with fail
      go_ret
      exact HK2.out.post (b := false) (by rw [HCH.out, decide_eq_false (by omega)]; rfl)
    ·by_cases ho2 : o = 2
     ·subst ho2
      have hch : chk nm (d + 1) ⟨2, n, s, xs⟩ l = ((decide (n = 0) || decide (n = 1)) && emp s, l - 1) := by rw [chkC HN1.out HP.out]; rfl
      have HCH := Lib.hid hch
      clear hch
      by_cases hn0 : n = 0
      ·subst hn0
       go_wp2_with fail
       go_ret
       exact HK2.out.post (b := s.toList.isEmpty) (by rw [HCH.out]; rfl)
      ·by_cases hn1 : n = 1
       ·subst hn1
        go_wp2_with fail
        go_ret
        exact HK2.out.post (b := s.toList.isEmpty) (by rw [HCH.out]; rfl)
       ·have e0 : (n == 0) = false := by simp [hn0]
        have e1 : (n == 1) = false := by simp [hn1]
        go_wp2_with fail
        go_ret
        exact HK2.out.post (b := false) (by rw [HCH.out, decide_eq_false hn0, decide_eq_false hn1]; rfl)
     ·by_cases ho3 : o = 3
      ·subst ho3
       have hch : chk nm (d + 1) ⟨3, n, s, xs⟩ l = (decide (n = 0) && nm s, l - 1) := by rw [chkC HN1.out HP.out]; rfl
       have HCH := Lib.hid hch
       clear hch
       by_cases hn0 : n = 0
       ·subst hn0
        go_wp2_with fail
        refine (HNM.out s _).mono ?_
        rintro e w3 ⟨rfl, hb3⟩
        have HB3 := Lib.hid hb3
        clear hb3
        go_wp2_with fail
        go_ret
        exact (HK2.out.next HB3.out).post (b := nm s) (by rw [HCH.out]; rfl)
       ·have e0 : (n == 0) = false := by simp [hn0]
        go_wp2_with fail
        go_ret
        exact HK2.out.post (b := false) (by rw [HCH.out, decide_eq_false hn0]; rfl)
      ·have e1 : (o == 1) = false := by simp [ho1]
       have e2 : (o == 2) = false := by simp [ho2]
       have e3 : (o == 3) = false := by simp [ho3]
       have hch : chk nm (d + 1) ⟨o, n, s, xs⟩ l = ((chks (chk nm d) xs (l - 1)).1 && (decide (n = 0) && emp s), (chks (chk nm d) xs (l - 1)).2) := by rw [chkC HN1.out HP.out, if_neg ho1, if_neg ho2, if_neg ho3]
       have HCH := Lib.hid hch
       have hxl := (HC.out).2.1
       clear hch ho1 ho2 ho3
       go_wp2_with fail
       go_loopw [71] (fun iv wr => ∃ (i : Nat), iv = .int .i64 i ∧ i ≤ xs.length ∧ Hid ((chks (chk nm d) (xs.take i) (l - 1)).1 = true) ∧ Hid (Ck0 w0 w wr lb (chks (chk nm d) (xs.take i) (l - 1)).2) ∧ Hid (wr.heap[w.heap.size]? = some (.cells #[.int .u8 o, .int .i64 n, .string s, .slice A xs.length c] 25 (0, 0)))) (fun iv _ => xs.length - (intOf iv).toNat)
       case atStart => exact ⟨0, rfl, Nat.zero_le _, Lib.hid rfl, HK2, HBX2⟩
       case round =>
        obtain ⟨i, rfl, hi, HT, HK3, HBX3⟩ := hrel
        have hle := chks_le (chk_le nm d) (xs.take i) (l - 1) (by omega)
        have hle2 := hle.2.2 HT.out
        have hle3 := hle.2.1
        have HLE : Hid (0 ≤ (chks (chk nm d) (xs.take i) (l - 1)).2 ∧ (chks (chk nm d) (xs.take i) (l - 1)).2 ≤ 200) := Lib.hid ⟨hle2, by omega⟩
        clear hle hle2 hle3
        by_cases hlt2 : i < xs.length
        ·obtain ⟨ad, A3, c3, hA, q0, q1, q2, q3, hl3, hC3⟩ := at_T25 HC.out (i : Int) (by omega) (by omega)
         subst hA
         rw [rdT25 xs i hlt2] at q0 q1 q2 q3 hl3 hC3
         simp only [Int.toNat_natCast] at q0 q1 q2 q3
         have g0 := keep_cell HK3.out.bel (Nat.le_refl _) q0
         have g1 := keep_cell HK3.out.bel (Nat.le_refl _) q1
         have g2 := keep_cell HK3.out.bel (Nat.le_refl _) q2
         have g3 := keep_cell HK3.out.bel (Nat.le_refl _) q3
         have hst := chks_take (chk nm d) xs (l - 1) i hlt2 HT.out
         have HST := Lib.hid hst
         clear hst q0 q1 q2 q3
         generalize hy : xs[i] = y at *
         have HC3 := Lib.hid hC3; have HL3 := Lib.hid hl3
         clear hC3 hl3 hy
         obtain ⟨m, hm⟩ : ∃ m, m = (chks (chk nm d) (xs.take i) (l - 1)).2 := ⟨_, rfl⟩
         rw [← hm] at HK3 HLE HST
         have HM := Lib.hid hm
         clear hm
         go_wp2_with fail
         refine (HIH.out y A3 c3 lb m w0 _ (by omega) HLE.out.1 HLE.out.2 HL3.out HC3.out (HK3.out.bel.alloc HK3.out.bel.size _) hlb (HK3.out.cnt.below ((Below.refl _ _).alloc (Nat.le_refl _) _))).mono ?_
         intro e w4 hp
         obtain ⟨rfl, hcn4, hbe4, hsz4, hgr4⟩ := hp
         have hk4 : Ck0 w0 w w4 lb (chk nm d y m).2 := ⟨hcn4, hbe4, by have := HK3.out.sz; simp at hsz4; omega, (HK3.out.gr.trans (World.grownBy_alloc _ _ _)).trans hgr4⟩
         have hbx4 : w4.heap[w.heap.size]? = some (.cells #[.int .u8 o, .int .i64 n, .string s, .slice (some ad) xs.length c] 25 (0, 0)) := by
          have h5 := HK3.out.sz
          rw [hgr4.block _ (by simp; omega) (by intro e; injection e with e; omega), Below.heap_alloc _ _ _ h5]
          exact HBX3.out
         have HK4 := Lib.hid hk4; have HBX4 := Lib.hid hbx4
         clear hk4 hbx4 hcn4 hbe4 hsz4 hgr4 g0 g1 g2 g3
         by_cases hb : (chk nm d y m).1 = true
         ·simp only [hb]
          have HB := Lib.hid hb
          clear hb
          go_wp2_with fail
          exact ⟨⟨i + 1, by go_num, by omega, Lib.hid (by rw [HST.out]; exact HB.out), Lib.hid (by rw [HST.out]; exact HK4.out), HBX4⟩, by simp [intOf]; omega⟩
         ·have hb' : (chk nm d y m).1 = false := by simpa using hb
          simp only [hb']
          have HB := Lib.hid hb'
          clear hb hb'
          go_wp2_with fail
          go_ret
          have hs := chks_stop (chk nm d) xs (l - 1) (i + 1) (by rw [HST.out]; exact HB.out)
          exact HK4.out.post (by rw [HCH.out, hs, HST.out, HB.out]; rfl)
        ·obtain rfl : i = xs.length := by omega
         rw [List.take_length] at HT HK3
         obtain ⟨d0, d1, d2, d3⟩ := box_cells HBX3.out
         by_cases hn0 : n = 0
         ·subst hn0
          go_wp2_with fail
          go_ret
          exact HK3.out.post (b := s.toList.isEmpty) (by rw [HCH.out, HT.out]; rfl)
         ·have e0 : (n == 0) = false := by simp [hn0]
          go_wp2_with fail
          go_ret
          exact HK3.out.post (b := false) (by rw [HCH.out, HT.out, decide_eq_false hn0]; rfl)
   ·have hp1 : (parts o != (xs.length : Int)) = true := by simp [hp]
    have HP := Lib.hid hp
    simp only [hp1]
    clear hp hp1
    go_wp2_with fail
    go_ret
    exact HK2.out.post (chkB HP.out)
end Go.Proofs.YtbdciibbgiphcaaDoor.V

/- exprs.Check: walk. -/
namespace Go.Proofs.YtbdciibbgiphcaaDoor.V
set_option linter.unusedVariables false
set_option linter.unusedSimpArgs false
set_option linter.unusedSectionVars false
open Go.RowKit Go.Proofs.YtbdciibbgiphcaaDoorW.PrintWords Go.Proofs.YtbdciibbgiphcaaDoorW.PrintLast Go.Proofs.YtbdciibbgiphcaaDoorW.PrintMore
set_option maxHeartbeats 2000000 in
set_option maxRecDepth 100000 in
theorem Check_walk (nm : ByteArray → Bool) (hnm : NameIs nm) (x : S25) (A : Option Addr) (c : Nat) (w : World) (hc : x.f3.length ≤ c) (hC : Kd.C k25 w A x.f3.length x.f3) :
  Calls Tryd.prog 14 #[.agg #[.int .u8 x.f0, .int .i64 x.f1, .string x.f2, .slice A x.f3.length c]] w fun e w' => e = .returned (.bool (okE nm x)) ∧ Below w.heap.size w w' := by
 have HC := Lib.hid hC; have HN := Lib.hid hnm
 clear hC hnm
 go_enter Tryd.func14, Tryd.ntmps14
 go_wp2_with fail
 have hcn : Cnt ((w.alloc (.cells #[.int .u8 x.f0, .int .i64 x.f1, .string x.f2, .slice A x.f3.length c] 25)).alloc (.cells #[.int .i64 200] 3)) (w.heap.size + 1) 200 := by
  have := heap_alloc_new (w.alloc (.cells #[.int .u8 x.f0, .int .i64 x.f1, .string x.f2, .slice A x.f3.length c] 25)) (.cells #[.int .i64 200] 3)
  have e : (w.alloc (.cells #[.int .u8 x.f0, .int .i64 x.f1, .string x.f2, .slice A x.f3.length c] 25)).heap.size = w.heap.size + 1 := by simp
  rw [e] at this
  exact this
 refine (check_walk nm HN.out 32 x A c (w.heap.size + 1) 200 w _ (Nat.le_refl _) (by omega) (by omega) hc HC.out (((Below.refl _ _).alloc (Nat.le_refl _) _).alloc (by simp) _) (by omega) hcn).mono ?_
 intro e w2 hp
 obtain ⟨rfl, _, hb, _, _⟩ := hp
 have HB := Lib.hid hb
 clear hb
 go_wp2_with fail
 go_ret
 exact ⟨rfl, HB.out⟩
end Go.Proofs.YtbdciibbgiphcaaDoor.V

/- Lists that are written over, and grown, apart from each other: plain facts about a world's blocks. (Of whatever program.) -/
namespace Go.Proofs.YtbdciibbgiphcaaDoor.B
set_option linter.unusedVariables false
set_option linter.unusedSimpArgs false
set_option linter.unusedSectionVars false
open Go.RowKit
/-- what a list reads as, whoever owns it. -/
def Pre (w : World) (e : TypeId) (size : Nat) (v : Value) (n : Nat) (xs : List Value) : Prop :=
 (v = .slice none 0 0 ∧ n = 0) ∨ ∃ g cap cur, v = .slice (some ⟨g, 0, none⟩) n cap ∧ w.heap[g]? = some (.cells cur e (0, 0)) ∧ cur.toList.take (n * size) = xs
theorem Pre.kept {w w' : World} {e : TypeId} {size n : Nat} {v : Value} {xs : List Value} (h : Pre w e size v n xs) (hk : ∀ k, v.ownBlock = some k → w'.heap[k]? = w.heap[k]?) : Pre w' e size v n xs := by
 rcases h with h | ⟨g, cap, cur, rfl, hg, ht⟩
 ·exact .inl h
 ·exact .inr ⟨g, cap, cur, rfl, by rw [hk g rfl]; exact hg, ht⟩
theorem Pre.cell {w : World} {e : TypeId} {size n : Nat} {g cap : Nat} {xs : List Value} (h : Pre w e size (.slice (some ⟨g, 0, none⟩) n cap) n xs) (j : Nat) (u : Value) (hu : xs[j]? = some u) : w.cell? ⟨g, j, none⟩ = some u := by
 rcases h with ⟨h, _⟩ | ⟨g', cap', cur, hv, hg, ht⟩
 ·cases h
 ·injection hv with h1 h2 h3
  injection h1 with h1
  injection h1 with h1
  subst h1
  rw [← ht] at hu
  have : cur.toList[j]? = some u := by
   rw [List.getElem?_take] at hu
   split at hu
   ·exact hu
   ·cases hu
  simpa [World.cell?, hg] using this
theorem own_kept {w w' : World} {base : Nat} {e : TypeId} {size n : Nat} {v : Value} {xs : List Value} (h : w.ownsRow base e size v n xs) (hk : ∀ k, v.ownBlock = some k → w'.heap[k]? = w.heap[k]?) : w'.ownsRow base e size v n xs := by
 refine ⟨h.1, ?_⟩
 rcases h.2 with h | ⟨g, cap, cur, rfl, hb, hg, rest⟩
 ·exact .inl h
 ·exact .inr ⟨g, cap, cur, rfl, hb, by rw [hk g rfl]; exact hg, rest⟩
/-- one more behind a list of one's own: in its own block, or in a new one, and then nothing of what was there turns. -/
theorem append_two {P : Program} (w : World) (base : Nat) (t ty e : TypeId) (z : Value) (size bytes : Nat) (ht : P.underlying t = some (.slice e))
  (hinfo : (P.info? e).map (fun i => (i.zero, i.size, i.bytes)) = some (some z, size, bytes)) (hzs : z.cells.size = size) (hsz : 0 < size) (hb0 : 0 < bytes)
  (v : Value) (n : Nat) (xs : List Value) (hown : w.ownsRow base e size v n xs) (ad : Addr) (c : Nat) (news : List Value) (hl : news.length = size) (hnews : ∀ j u, news[j]? = some u → w.cell? (ad.add j) = some u)
  (h1 : ∀ u ∈ news, u.oneCell' = true) (hbytes : (n + 1) * bytes ≤ 140737488355328) (hbase : base ≤ w.heap.size) :
  ∃ v' w', (Builtin.append_ #[t, t] ty #[v, .slice (some ad) 1 c]).run P w = .ok v' w' ∧ w'.ownsRow base e size v' (n + 1) (xs ++ news) ∧
   ((v'.ownBlock = v.ownBlock ∧ w.grownBy w' v.ownBlock) ∨ (v'.ownBlock = some w.heap.size ∧ w.grownBy w' none)) := by
 obtain ⟨i, hi, hzz⟩ := Option.map_eq_some_iff.1 hinfo
 simp only [Prod.mk.injEq] at hzz
 obtain ⟨hz, hsize, hby⟩ := hzz
 have h63 : n + 1 ≤ maxLen := by
  have : n + 1 ≤ (n + 1) * bytes := Nat.le_mul_of_pos_right _ hb0
  simp only [maxLen]; omega
 obtain ⟨v', w', hr, h2, h3, h4, h5⟩ := run_append_own_at (P := P) w base t ty e i z size bytes ht hi hz hsize hby hzs hsz v n xs hown ad 1 c news (by omega) hnews h1 h63 hbytes hbase
 refine ⟨v', w', hr, h2, ?_⟩
 rcases h5 with h5 | h5
 ·exact .inl ⟨h5, h3⟩
 ·refine .inr ⟨h5, ?_⟩
  rcases hown.2 with ⟨rfl, rfl⟩ | ⟨g, cap, cur, rfl, hbg, hg, hnc, hcm, hcs, htake⟩
  ·exact h3
  ·by_cases hroom : n + 1 ≤ cap
   ·exfalso
    subst hsize
    have hfit : n * i.size + news.length ≤ cur.size := by rw [hl, hcs]; have : (n + 1) * i.size ≤ cap * i.size := Nat.mul_le_mul_right _ hroom; rw [Nat.add_mul] at this; omega
    have hr2 := run_append_room (P := P) w t ty e i ht hi g n cap cur hg ad 1 c news (by omega) hnews h1 hroom hfit
    rw [hr2] at hr
    injection hr with hv hw
    rw [← hv] at h5
    have : g = w.heap.size := by simpa [Value.ownBlock] using h5
    have hlt : g < w.heap.size := (Array.getElem?_eq_some_iff.1 hg).1
    omega
   ·subst hsize; subst hby
    have holds : ∀ j u, xs[j]? = some u → w.cell? ((⟨g, 0, none⟩ : Addr).add j) = some u := hown.cells (g := g) rfl
    have hr2 := run_append_grow (P := P) w t ty e i z ht hi hz ⟨g, 0, none⟩ n cap xs hown.1 holds ad 1 c news (by omega) hnews (by omega) (by simp only [maxLen] at h63; omega) (growslice_fits (by omega) hbytes)
    rw [hr2] at hr
    injection hr with hv hw
    rw [← hw]
    exact ⟨rfl, rfl, rfl, by simp, fun k hk _ => Below.heap_alloc w.drew _ k hk⟩
end Go.Proofs.YtbdciibbgiphcaaDoor.B

/- Book, whatever the kind of its lists: plain facts on lists that are kept, written over, grown. -/
namespace Go.Proofs.YtbdciibbgiphcaaDoor.B
set_option linter.unusedVariables false
set_option linter.unusedSimpArgs false
set_option linter.unusedSectionVars false
open Go.RowKit Go.Proofs.YtbdciibbgiphcaaDoorW.PrintWords Go.Proofs.YtbdciibbgiphcaaDoorW.PrintLast Go.Proofs.YtbdciibbgiphcaaDoorW.PrintMore
theorem blk_cell {w : World} {k : Nat} {cs : Array Value} {t : TypeId} (h : w.heap[k]? = some (.cells cs t (0, 0))) (j : Nat) : w.cell? ⟨k, j, none⟩ = cs[j]? := by simp [World.cell?, h]
theorem blk_frozen {w : World} {k : Nat} {cs : Array Value} {t : TypeId} (h : w.heap[k]? = some (.cells cs t (0, 0))) (j : Nat) : w.frozen? ⟨k, j, none⟩ = false := by simp [World.frozen?, h]
theorem blk_set {w : World} {k : Nat} {cs : Array Value} {t : TypeId} (h : w.heap[k]? = some (.cells cs t (0, 0))) (j : Nat) (u : Value) : (w.setCell ⟨k, j, none⟩ u).heap[k]? = some (.cells (cs.setIfInBounds j u) t (0, 0)) := by
 simp [World.setCell, h, Array.getElem?_modify]
theorem set_other (w : World) (k j : Nat) (u : Value) (q : Nat) (hq : q ≠ k) : (w.setCell ⟨k, j, none⟩ u).heap[q]? = w.heap[q]? := Below.heap_setCell w _ u q hq
theorem set_size (w : World) (k j : Nat) (u : Value) : (w.setCell ⟨k, j, none⟩ u).heap.size = w.heap.size := by simp [World.setCell]
theorem cell_lt {w : World} {a : Addr} {u : Value} (h : w.cell? a = some u) : a.block < w.heap.size := by
 rcases Nat.lt_or_ge a.block w.heap.size with h1 | h1
 ·exact h1
 ·simp [World.cell?, Array.getElem?_eq_none h1] at h
theorem keep_cell {B : Nat} {W w2 : World} {a : Addr} {u : Value} (hb : Below B W w2) (hB : W.heap.size ≤ B) (h : W.cell? a = some u) : w2.cell? a = some u := by
 rw [hb.cell (Nat.lt_of_lt_of_le (cell_lt h) hB)]; exact h
theorem grown_of_below {w w' : World} (h : Below w.heap.size w w') (row : Option Nat) : w.grownBy w' row := ⟨h.os, h.tape, h.output, h.size, fun k hk _ => h.block k hk⟩
theorem grown_set (w : World) (g j : Nat) (u : Value) : w.grownBy (w.setCell ⟨g, j, none⟩ u) (some g) :=
 ⟨rfl, rfl, rfl, Nat.le_of_eq (set_size w g j u).symm, fun k _ hk => set_other w g j u k (fun e => hk (by rw [e]))⟩
theorem wp_append_two {P : Program} {ops : Array Oper} {rest : List Oper} {o : Oper} {a : Act} {Q : Exit → Act → World → Prop} {W : World} (base : Nat) (hgd : o.guard = none) (s x : Operand) (t e : TypeId) (z : Value) (size bytes : Nat)
  (ho : o.op = .call { callee := .builtin .append, args := #[s, x], argTypes := #[t, t] }) (ht : P.underlying t = some (.slice e)) (hinfo : (P.info? e).map (fun i => (i.zero, i.size, i.bytes)) = some (some z, size, bytes)) (hz : z.cells.size = size) (hs0 : 0 < size) (hb0 : 0 < bytes)
  (v : Value) (n : Nat) (xs ys : List Value) (hs : a.eval s = v) (hx : a.eval x = .slice (some ⟨W.heap.size, 0, none⟩) 1 1) (hys : ys.length = size) (h1 : ∀ u ∈ ys, u.oneCell' = true) (HO : W.ownsRow base e size v n xs) (hbase : base ≤ W.heap.size) (hl : (n + 1) * bytes ≤ 140737488355328)
  (h : ∀ v1 w1, w1.ownsRow base e size v1 (n + 1) (xs ++ ys) → ((v1.ownBlock = v.ownBlock ∧ W.grownBy w1 v.ownBlock) ∨ (∃ q, v1.ownBlock = some q ∧ W.heap.size ≤ q ∧ W.grownBy w1 none)) → wpList P ops Q rest (a.put o.dst v1) w1) :
  wpList P ops Q (o :: rest) a (W.alloc (.cells ys.toArray e)) := by
 refine wpList_plain hgd fun K hK => ?_
 obtain ⟨v', w', hr, h2, h3⟩ := append_two (P := P) (W.alloc (.cells ys.toArray e)) base t o.type e z size bytes ht hinfo hz hs0 hb0 v n xs (HO.alloc _) ⟨W.heap.size, 0, none⟩ 1 ys hys
  (by simpa using World.news_of_block (cs := ys.toArray) (t := e) (fr := (0, 0)) (heap_alloc_new W (.cells ys.toArray e))) h1 hl (by simp; omega)
 unfold Oper.wp execOp
 simp only [ho, resolve, invoke, builtin, Sem.run_bind, Sem.run_pure, Result.andThen_ok, List.map_toArray, List.map_cons, List.map_nil, hs, hx, hr]
 refine hK _ _ (h v' w' h2 ?_)
 rcases h3 with ⟨h4, h5⟩ | ⟨h4, h5⟩
 ·exact .inl ⟨h4, (World.grownBy_alloc W _ _).trans h5⟩
 ·exact .inr ⟨_, h4, by simp, (World.grownBy_alloc W _ _).trans h5⟩
end Go.Proofs.YtbdciibbgiphcaaDoor.B

/- What is worked out, in memory of its own, with a spare place behind each list: what memory holds. -/
namespace Go.Proofs.YtbdciibbgiphcaaDoor.V
set_option linter.unusedVariables false
set_option linter.unusedSimpArgs false
set_option linter.unusedSectionVars false
open Go.RowKit Go.Proofs.YtbdciibbgiphcaaDoorW.PrintWords Go.Proofs.YtbdciibbgiphcaaDoorW.PrintLast Go.Proofs.YtbdciibbgiphcaaDoorW.PrintMore
open Go.Proofs.YtbdciibbgiphcaaDoor.B (wp_append_two own_kept)
theorem own_prefix {w : World} {base : Nat} {e : TypeId} {sz g n m cap : Nat} {xs : List Value} (h : w.ownsRow base e sz (.slice (some ⟨g, 0, none⟩) n cap) n xs) (hm : m ≤ n) :
  w.ownsRow base e sz (.slice (some ⟨g, 0, none⟩) m cap) m (xs.take (m * sz)) := by
 have hl := h.1
 have hms : m * sz ≤ n * sz := Nat.mul_le_mul_right _ hm
 rcases h.2 with ⟨h', _⟩ | ⟨g', cap', cur, h', hb, hh, hn, hc, hs, ht⟩
 ·cases h'
 ·injection h' with h1 h2 h3
  injection h1 with h1
  injection h1 with h1
  subst h1; subst h3
  refine ⟨by rw [List.length_take]; omega, .inr ⟨g, cap, cur, rfl, hb, hh, by omega, hc, hs, ?_⟩⟩
  rw [← ht, List.take_take]
  congr 1
  omega
def e4 (x : S25) (v : Value) : List Value := [.int .u8 x.f0, .int .i64 x.f1, .string x.f2, v]
def eCells : List S25 → List Value → List Value
 | x :: xs, v :: vs => e4 x v ++ eCells xs vs
 | _, _ => []
def spareE : List Value := [.int .u8 0, .int .i64 0, .string ⟨#[115, 112, 97, 114, 101]⟩, .slice none 0 0]
theorem eCells_len : ∀ (xs : List S25) (vs : List Value), vs.length = xs.length → (eCells xs vs).length = xs.length * 4
 | [], [], _ => rfl
 | y :: xs, u :: vs, h => by
  simp only [eCells, List.length_append, List.length_cons, e4, List.length_nil]
  rw [eCells_len xs vs (by simpa using h)]
  omega
 | [], _ :: _, h => by simp at h
 | _ :: _, [], h => by simp at h
theorem eCells_drop : ∀ (xs : List S25) (vs : List Value) (i : Nat) (x : S25) (v : Value), vs.length = xs.length → xs[i]? = some x → vs[i]? = some v → ((eCells xs vs).drop (i * 4)).take 4 = e4 x v
 | [], _, i, x, v, _, h, _ => by simp at h
 | y :: xs, [], i, x, v, h, _, _ => by simp at h
 | y :: xs, u :: vs, 0, x, v, h, h1, h2 => by
  simp only [List.getElem?_cons_zero, Option.some.injEq] at h1 h2
  subst h1; subst h2
  rfl
 | y :: xs, u :: vs, i + 1, x, v, h, h1, h2 => by
  simp only [List.getElem?_cons_succ] at h1 h2
  have := eCells_drop xs vs i x v (by simpa using h) h1 h2
  rw [show (i + 1) * 4 = i * 4 + 1 + 1 + 1 + 1 by omega]
  exact this
/-- a list, with a spare place behind, and all lists within it: bs their blocks, each once. -/
inductive TwR (w : World) (base : Nat) : List S25 → Value → List Nat → Prop
 | mk (xs : List S25) (g c : Nat) (vs : List Value) (bss : List (List Nat)) : vs.length = xs.length → bss.length = xs.length →
   w.ownsRow base 25 4 (.slice (some ⟨g, 0, none⟩) (xs.length + 1) c) (xs.length + 1) (eCells xs vs ++ spareE) →
   (∀ (i : Nat) (x : S25) (v : Value) (bs : List Nat), xs[i]? = some x → vs[i]? = some v → bss[i]? = some bs → TwR w base x.f3 v bs) →
   (g :: bss.flatten).Nodup → TwR w base xs (.slice (some ⟨g, 0, none⟩) xs.length c) (g :: bss.flatten)
theorem mem_bss {bss : List (List Nat)} {k n : Nat} {xs : List S25} {vs : List Value} (hb : bss.length = n) (hx : xs.length = n) (hv : vs.length = n) (h : k ∈ bss.flatten) :
  ∃ (i : Nat) (x : S25) (v : Value) (bs : List Nat), xs[i]? = some x ∧ vs[i]? = some v ∧ bss[i]? = some bs ∧ k ∈ bs := by
 obtain ⟨bs, h1, h2⟩ := List.mem_flatten.1 h
 obtain ⟨i, hi, rfl⟩ := List.getElem_of_mem h1
 exact ⟨i, _, _, _, List.getElem?_eq_getElem (by omega), List.getElem?_eq_getElem (by omega), List.getElem?_eq_getElem hi, h2⟩
theorem TwR.blocks {w : World} {base : Nat} {xs : List S25} {v : Value} {bs : List Nat} (h : TwR w base xs v bs) : ∀ k ∈ bs, base ≤ k ∧ k < w.heap.size := by
 induction h with
 | mk xs g c vs bss hv hb ho he hn ih =>
  intro k hk
  rcases List.mem_cons.1 hk with rfl | hk
  ·exact ⟨own_base ho k rfl, own_lt ho k rfl⟩
  ·obtain ⟨i, x, v, bs, h1, h2, h3, h4⟩ := mem_bss hb rfl hv hk
   exact ih i x v bs h1 h2 h3 k h4
theorem TwR.kept {w w' : World} {base : Nat} {xs : List S25} {v : Value} {bs : List Nat} (h : TwR w base xs v bs) : (∀ k ∈ bs, w'.heap[k]? = w.heap[k]?) → TwR w' base xs v bs := by
 induction h with
 | mk xs g c vs bss hv hb ho he hn ih =>
  intro hk
  refine .mk xs g c vs bss hv hb (own_kept ho (fun k hq => ?_)) (fun i x v bs h1 h2 h3 => ih i x v bs h1 h2 h3 (fun k hk2 => hk k ?_)) hn
  ·have : k = g := by simpa [Value.ownBlock] using hq.symm
   subst this
   exact hk k List.mem_cons_self
  ·exact List.mem_cons_of_mem _ (List.mem_flatten.2 ⟨bs, List.mem_of_getElem? h3, hk2⟩)
theorem TwR.stay {w w' : World} {base : Nat} {xs : List S25} {v : Value} {bs : List Nat} (h : TwR w base xs v bs) (hb : Below w.heap.size w w') : TwR w' base xs v bs :=
 h.kept (fun k hk => hb.block k (h.blocks k hk).2)
theorem own_cap' {w : World} {base n c e sz : Nat} {A : Option Addr} {xs : List Value} (h : w.ownsRow base e sz (.slice A n c) n xs) : n ≤ c := by
 rcases h.2 with ⟨h', h2⟩ | ⟨g', cap', cur, h', hb, hh, hn, hc, hs, ht⟩
 ·injection h' with h1 h2 h3; omega
 ·injection h' with h1 h2 h3; omega
/-- such a list reads as it is told. -/
theorem TwR.reads {w : World} {base : Nat} {xs : List S25} {v : Value} {bs : List Nat} (h : TwR w base xs v bs) : ∃ A c, v = .slice A xs.length c ∧ xs.length ≤ c ∧ Kd.C k25 w A xs.length xs := by
 induction h with
 | mk xs g c vs bss hv hb ho he hn ih =>
  have hl := eCells_len xs vs hv
  have ho2 : w.ownsRow base 25 4 (.slice (some ⟨g, 0, none⟩) xs.length c) xs.length (eCells xs vs) := by
   have h9 := own_prefix ho (m := xs.length) (by omega)
   rw [← hl, List.take_left] at h9
   exact h9
  have hR : Reps (k25.K w) 4 xs (eCells xs vs) := by
   refine ⟨hl, fun j x hx => ?_⟩
   have hj : j < xs.length := (List.getElem?_eq_some_iff.1 hx).1
   obtain ⟨A, c', hv', hl', hC⟩ := ih j x (vs[j]'(by rw [hv]; exact hj)) (bss[j]'(by rw [hb]; exact hj)) hx (List.getElem?_eq_getElem _) (List.getElem?_eq_getElem _)
   rw [eCells_drop xs vs j x _ hv hx (List.getElem?_eq_getElem (by rw [hv]; exact hj))]
   unfold e4
   rw [hv']
   exact k25_mk w x hl' hC
  obtain ⟨A, c', he', hr⟩ := own_reads_row ho2 hR rfl
  exact ⟨A, c', he', by injection he' with _ _ h3; have := own_cap' ho; omega, hr⟩
/-- while such a list is made. -/
structure TwS (w : World) (base : Nat) (xs : List S25) (tv : Value) (vs : List Value) (bss : List (List Nat)) : Prop where
 lv : vs.length = xs.length
 lb : bss.length = xs.length
 row : w.ownsRow base 25 4 tv xs.length (eCells xs vs)
 each : ∀ (i : Nat) (x : S25) (v : Value) (bs : List Nat), xs[i]? = some x → vs[i]? = some v → bss[i]? = some bs → TwR w base x.f3 v bs
 nd : bss.flatten.Nodup
 ne : ∀ b ∈ bss.flatten, tv.ownBlock ≠ some b
theorem TwS.lt {w : World} {base : Nat} {xs : List S25} {tv : Value} {vs : List Value} {bss : List (List Nat)} (h : TwS w base xs tv vs bss) : ∀ b ∈ bss.flatten, base ≤ b ∧ b < w.heap.size := by
 intro b hb
 obtain ⟨i, x, v, bs, h1, h2, h3, h4⟩ := mem_bss h.lb rfl h.lv hb
 exact (h.each i x v bs h1 h2 h3).blocks b h4
/-- no list is great. -/
inductive SmE : S25 → Prop
 | mk (o n : Int) (s : ByteArray) (xs : List S25) : xs.length ≤ 2513169434900 → (∀ y ∈ xs, SmE y) → SmE ⟨o, n, s, xs⟩
end Go.Proofs.YtbdciibbgiphcaaDoor.V
