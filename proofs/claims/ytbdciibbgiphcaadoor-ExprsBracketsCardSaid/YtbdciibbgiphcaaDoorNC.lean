/- exprs.Text walked. Joined by wip/merge.py (ours) from several texts of this seat. -/
import Derived.Test.YtbdciibbgiphcaaDoorNB
import Derived.Test.YtbdciibbgiphcaaDoorNA
import Derived.Deep.RegionHeld3
import Derived.Lib.Hide
/- exprs.write: walk. The drawn regions as wip/myprint.py (ours, over the kit's printer) prints them. -/
namespace Go.Proofs.YtbdciibbgiphcaaDoor.V
open Go.RowKit Go.Proofs.YtbdciibbgiphcaaDoorW.PrintWords Go.Proofs.YtbdciibbgiphcaaDoorW.PrintLast Go.Proofs.YtbdciibbgiphcaaDoorW.PrintMore
attribute [local go_sem] max2_int min2_int max_two min_two max_three min_three max_four min_four   -- for this text's walks alone
set_option linter.unusedVariables false
set_option linter.unusedSimpArgs false
/-! ### exprs_form_asks: function 46 -/
def exprs_form_asks.f (a0_0 : Int) (a0_1 : Int) (a0_2 : Int) (a0_3 : ByteArray) : Option (Int × Int) := if a0_1 = 0 then (some (1, 0)) else (if a0_1 = 3 then (some (4, 4)) else (some (a0_1, wrap64 (a0_1 + 1))))
set_option maxHeartbeats 8000000 in
set_option maxRecDepth 100000 in
theorem exprs_form_asks.calls (a0_0 : Int) (a0_1 : Int) (a0_2 : Int) (a0_3 : ByteArray) (r1 : Int) (r2 : Int) (w : World) (h : exprs_form_asks.f a0_0 a0_1 a0_2 a0_3 = some (r1, r2)) :
  Calls Tryd.prog 46 #[.agg #[.int .u8 a0_0, .int .i64 a0_1, .int .u8 a0_2, .string a0_3]] w fun e w' => e = .returned (.agg #[.int .i64 r1, .int .i64 r2]) ∧ Below w.heap.size w w' := by
 have hu83 := Tryd.underlying83
 have hu88 := Tryd.underlying88
 have HB := Aside0.mk (Below.refl w.heap.size w)
 have H : (if a0_1 = 0 then (some (1, 0)) else (if a0_1 = 3 then (some (4, 4)) else (some (a0_1, wrap64 (a0_1 + 1))))) = some (r1, r2) := h
 clear h
 by_cases c2 : a0_1 = 0
 ·rw [if_pos c2] at H
  have c2b0 : (a0_1 == 0) = true := beq_iff_eq.mpr c2
  have c2b1 : (a0_1 != 0) = false := bne_eq_false_iff_eq.mpr c2
  clear c2
  simp only [Option.some.injEq, Prod.mk.injEq] at H
  obtain ⟨rfl, rfl⟩ := H
  go_enter Tryd.func46, Tryd.ntmps46
  go_wp2_with (first | ((with_reducible refine gate_dst (N := 1) rfl ?_); refine box_event ?hg (N := 1) ?hd (cs := #[.int .u8 a0_0, .int .i64 a0_1, .int .u8 a0_2, .string a0_3]) (t := 83) ?hr ?_; (case hd => rfl); (case hg => rfl); (case hr => first | (go_simp; done) | (go_simp; rfl)); intro gb115 hg w3 hbox hb; have n0_ := Aside0.mk (below_step (by repeat (first | (with_reducible first | exact HB.out | apply below_alloc | apply pw_below_drewN | apply below_drew1) | exact HB.out)) hb); have n1_ := Aside0.mk (hbox); have n2_ := Aside0.mk ((by rw [hg]; exact (below_size (by repeat (first | (with_reducible first | exact HB.out | apply below_alloc | apply pw_below_drewN | apply below_drew1) | exact HB.out))) : w.heap.size ≤ gb115)); have n3_ := Aside0.mk ((by rw [hg]; exact (below_size (by repeat (first | (with_reducible first | exact HB.out | apply below_alloc | apply pw_below_drewN | apply below_drew1) | exact HB.out))) : w.heap.size ≤ gb115)); clear HB; have HB := n0_; have BK115 := n1_; have GW115 := n2_; have GE115 := n3_; clear n0_ n1_ n2_ n3_; clear hb hbox hg) | ((with_reducible refine gate_dst (N := 2) rfl ?_); refine box_event ?hg (N := 2) ?hd (cs := #[.int .i64 0, .int .i64 0]) (t := 88) ?hr ?_; (case hd => rfl); (case hg => rfl); (case hr => first | (go_simp; done) | (go_simp; rfl)); intro gb116 hg w4 hbox hb; have n0_ := Aside0.mk (blk_below (g := gb115) (o := .cells #[.int .u8 a0_0, .int .i64 a0_1, .int .u8 a0_2, .string a0_3] 83 (0, 0)) (by (with_reducible repeat (first | refine blk_drewN ?_ _ | refine blk_drew ?_ | refine blk_alloc ?_ _)); exact BK115.out) hb); have n1_ := Aside0.mk (below_step (by repeat (first | (with_reducible first | exact HB.out | apply below_alloc | apply pw_below_drewN | apply below_drew1 | refine below_set ?_ GE115.out) | exact HB.out)) hb); have n2_ := Aside0.mk (hbox); have n3_ := Aside0.mk ((by rw [hg]; exact (below_size (by repeat (first | (with_reducible first | exact HB.out | apply below_alloc | apply pw_below_drewN | apply below_drew1 | refine below_set ?_ GE115.out) | exact HB.out))) : w.heap.size ≤ gb116)); have n4_ := Aside0.mk ((by rw [hg]; exact (below_size (by repeat (first | (with_reducible first | exact HB.out | apply below_alloc | apply pw_below_drewN | apply below_drew1 | refine below_set ?_ GE115.out) | exact HB.out))) : w.heap.size ≤ gb116)); have n5_ := Aside0.mk ((by rw [hg]; exact Nat.ne_of_lt (blk_lt (g := gb115) (o := .cells #[.int .u8 a0_0, .int .i64 a0_1, .int .u8 a0_2, .string a0_3] 83 (0, 0)) (by (with_reducible repeat (first | refine blk_drewN ?_ _ | refine blk_drew ?_ | refine blk_alloc ?_ _)); exact BK115.out)) : gb115 ≠ gb116)); have n6_ := Aside0.mk ((by rw [hg]; exact Nat.ne_of_gt (blk_lt (g := gb115) (o := .cells #[.int .u8 a0_0, .int .i64 a0_1, .int .u8 a0_2, .string a0_3] 83 (0, 0)) (by (with_reducible repeat (first | refine blk_drewN ?_ _ | refine blk_drew ?_ | refine blk_alloc ?_ _)); exact BK115.out)) : gb116 ≠ gb115)); clear BK115; clear HB; have BK115 := n0_; have HB := n1_; have BK116 := n2_; have GW116 := n3_; have GE116 := n4_; have NB115_116 := n5_; have NB116_115 := n6_; clear n0_ n1_ n2_ n3_ n4_ n5_ n6_; clear hb hbox hg; have hnb5 := NB115_116.out; have hnc5 := NB116_115.out; have hcz6_0 : w4.cell? ⟨gb115, 0, none⟩ = some (.int .u8 a0_0) := (blk_cell BK115.out 0).trans rfl; have hcz6_1 : w4.cell? ⟨gb115, 1, none⟩ = some (.int .i64 a0_1) := (blk_cell BK115.out 1).trans rfl; have hcz6_2 : w4.cell? ⟨gb115, 2, none⟩ = some (.int .u8 a0_2) := (blk_cell BK115.out 2).trans rfl; have hcz6_3 : w4.cell? ⟨gb115, 3, none⟩ = some (.string a0_3) := (blk_cell BK115.out 3).trans rfl; have hfz6_0 := blk_frozen BK115.out 0; have hfz6_1 := blk_frozen BK115.out 1; have hfz6_2 := blk_frozen BK115.out 2; have hfz6_3 := blk_frozen BK115.out 3; have hcz7_0 : w4.cell? ⟨gb116, 0, none⟩ = some (.int .i64 0) := (blk_cell BK116.out 0).trans rfl; have hcz7_1 : w4.cell? ⟨gb116, 1, none⟩ = some (.int .i64 0) := (blk_cell BK116.out 1).trans rfl; have hfz7_0 := blk_frozen BK116.out 0; have hfz7_1 := blk_frozen BK116.out 1))
  refine bodyPost_ret (results_cell_row rfl _ _ gb116 88 #[.int .i64 1, .int .i64 0] (0, 0) _ rfl (by (with_reducible repeat (first | refine blk_drewN ?_ _ | refine blk_drew ?_ | refine blk_alloc ?_ _)); refine blk_put (cs := #[.int .i64 1, .int .i64 0]) ?_ 1 _ rfl; (with_reducible repeat (first | refine blk_drewN ?_ _ | refine blk_drew ?_ | refine blk_alloc ?_ _)); refine blk_put (cs := #[.int .i64 0, .int .i64 0]) ?_ 0 _ rfl; (with_reducible repeat (first | refine blk_drewN ?_ _ | refine blk_drew ?_ | refine blk_alloc ?_ _)); exact BK116.out) Tryd.underlying88 rfl (by kernel_rfl)) rfl ?_
  exact ⟨by first | rfl | (simp [errW_none, errW_some] <;> rfl) | (simp [*, errW_none, errW_some] <;> rfl), by repeat (first | (with_reducible first | exact HB.out | apply below_alloc | apply pw_below_drewN | apply below_drew1 | refine below_set ?_ GE115.out | refine below_set ?_ GE116.out) | exact HB.out)⟩
 ·rw [if_neg c2] at H
  have c2b0 : (a0_1 == 0) = false := beq_eq_false_iff_ne.mpr c2
  have c2b1 : (a0_1 != 0) = true := bne_iff_ne.mpr c2
  by_cases c8 : a0_1 = 3
  ·rw [if_pos c8] at H
   have c8b0 : (a0_1 == 3) = true := beq_iff_eq.mpr c8
   have c8b1 : (a0_1 != 3) = false := bne_eq_false_iff_eq.mpr c8
   clear c8
   simp only [Option.some.injEq, Prod.mk.injEq] at H
   obtain ⟨rfl, rfl⟩ := H
   go_enter Tryd.func46, Tryd.ntmps46
   go_wp2_with (first | ((with_reducible refine gate_dst (N := 1) rfl ?_); refine box_event ?hg (N := 1) ?hd (cs := #[.int .u8 a0_0, .int .i64 a0_1, .int .u8 a0_2, .string a0_3]) (t := 83) ?hr ?_; (case hd => rfl); (case hg => rfl); (case hr => first | (go_simp; done) | (go_simp; rfl)); intro gb115 hg w9 hbox hb; have n0_ := Aside0.mk (below_step (by repeat (first | (with_reducible first | exact HB.out | apply below_alloc | apply pw_below_drewN | apply below_drew1) | exact HB.out)) hb); have n1_ := Aside0.mk (hbox); have n2_ := Aside0.mk ((by rw [hg]; exact (below_size (by repeat (first | (with_reducible first | exact HB.out | apply below_alloc | apply pw_below_drewN | apply below_drew1) | exact HB.out))) : w.heap.size ≤ gb115)); have n3_ := Aside0.mk ((by rw [hg]; exact (below_size (by repeat (first | (with_reducible first | exact HB.out | apply below_alloc | apply pw_below_drewN | apply below_drew1) | exact HB.out))) : w.heap.size ≤ gb115)); clear HB; have HB := n0_; have BK115 := n1_; have GW115 := n2_; have GE115 := n3_; clear n0_ n1_ n2_ n3_; clear hb hbox hg) | ((with_reducible refine gate_dst (N := 2) rfl ?_); refine box_event ?hg (N := 2) ?hd (cs := #[.int .i64 0, .int .i64 0]) (t := 88) ?hr ?_; (case hd => rfl); (case hg => rfl); (case hr => first | (go_simp; done) | (go_simp; rfl)); intro gb116 hg w10 hbox hb; have n0_ := Aside0.mk (blk_below (g := gb115) (o := .cells #[.int .u8 a0_0, .int .i64 a0_1, .int .u8 a0_2, .string a0_3] 83 (0, 0)) (by (with_reducible repeat (first | refine blk_drewN ?_ _ | refine blk_drew ?_ | refine blk_alloc ?_ _)); exact BK115.out) hb); have n1_ := Aside0.mk (below_step (by repeat (first | (with_reducible first | exact HB.out | apply below_alloc | apply pw_below_drewN | apply below_drew1 | refine below_set ?_ GE115.out) | exact HB.out)) hb); have n2_ := Aside0.mk (hbox); have n3_ := Aside0.mk ((by rw [hg]; exact (below_size (by repeat (first | (with_reducible first | exact HB.out | apply below_alloc | apply pw_below_drewN | apply below_drew1 | refine below_set ?_ GE115.out) | exact HB.out))) : w.heap.size ≤ gb116)); have n4_ := Aside0.mk ((by rw [hg]; exact (below_size (by repeat (first | (with_reducible first | exact HB.out | apply below_alloc | apply pw_below_drewN | apply below_drew1 | refine below_set ?_ GE115.out) | exact HB.out))) : w.heap.size ≤ gb116)); have n5_ := Aside0.mk ((by rw [hg]; exact Nat.ne_of_lt (blk_lt (g := gb115) (o := .cells #[.int .u8 a0_0, .int .i64 a0_1, .int .u8 a0_2, .string a0_3] 83 (0, 0)) (by (with_reducible repeat (first | refine blk_drewN ?_ _ | refine blk_drew ?_ | refine blk_alloc ?_ _)); exact BK115.out)) : gb115 ≠ gb116)); have n6_ := Aside0.mk ((by rw [hg]; exact Nat.ne_of_gt (blk_lt (g := gb115) (o := .cells #[.int .u8 a0_0, .int .i64 a0_1, .int .u8 a0_2, .string a0_3] 83 (0, 0)) (by (with_reducible repeat (first | refine blk_drewN ?_ _ | refine blk_drew ?_ | refine blk_alloc ?_ _)); exact BK115.out)) : gb116 ≠ gb115)); clear BK115; clear HB; have BK115 := n0_; have HB := n1_; have BK116 := n2_; have GW116 := n3_; have GE116 := n4_; have NB115_116 := n5_; have NB116_115 := n6_; clear n0_ n1_ n2_ n3_ n4_ n5_ n6_; clear hb hbox hg; have hnb11 := NB115_116.out; have hnc11 := NB116_115.out; have hcz12_0 : w10.cell? ⟨gb115, 0, none⟩ = some (.int .u8 a0_0) := (blk_cell BK115.out 0).trans rfl; have hcz12_1 : w10.cell? ⟨gb115, 1, none⟩ = some (.int .i64 a0_1) := (blk_cell BK115.out 1).trans rfl; have hcz12_2 : w10.cell? ⟨gb115, 2, none⟩ = some (.int .u8 a0_2) := (blk_cell BK115.out 2).trans rfl; have hcz12_3 : w10.cell? ⟨gb115, 3, none⟩ = some (.string a0_3) := (blk_cell BK115.out 3).trans rfl; have hfz12_0 := blk_frozen BK115.out 0; have hfz12_1 := blk_frozen BK115.out 1; have hfz12_2 := blk_frozen BK115.out 2; have hfz12_3 := blk_frozen BK115.out 3; have hcz13_0 : w10.cell? ⟨gb116, 0, none⟩ = some (.int .i64 0) := (blk_cell BK116.out 0).trans rfl; have hcz13_1 : w10.cell? ⟨gb116, 1, none⟩ = some (.int .i64 0) := (blk_cell BK116.out 1).trans rfl; have hfz13_0 := blk_frozen BK116.out 0; have hfz13_1 := blk_frozen BK116.out 1))
   refine bodyPost_ret (results_cell_row rfl _ _ gb116 88 #[.int .i64 4, .int .i64 4] (0, 0) _ rfl (by (with_reducible repeat (first | refine blk_drewN ?_ _ | refine blk_drew ?_ | refine blk_alloc ?_ _)); refine blk_put (cs := #[.int .i64 4, .int .i64 0]) ?_ 1 _ rfl; (with_reducible repeat (first | refine blk_drewN ?_ _ | refine blk_drew ?_ | refine blk_alloc ?_ _)); refine blk_put (cs := #[.int .i64 0, .int .i64 0]) ?_ 0 _ rfl; (with_reducible repeat (first | refine blk_drewN ?_ _ | refine blk_drew ?_ | refine blk_alloc ?_ _)); exact BK116.out) Tryd.underlying88 rfl (by kernel_rfl)) rfl ?_
   exact ⟨by first | rfl | (simp [errW_none, errW_some] <;> rfl) | (simp [*, errW_none, errW_some] <;> rfl), by repeat (first | (with_reducible first | exact HB.out | apply below_alloc | apply pw_below_drewN | apply below_drew1 | refine below_set ?_ GE115.out | refine below_set ?_ GE116.out) | exact HB.out)⟩
  ·rw [if_neg c8] at H
   have c8b0 : (a0_1 == 3) = false := beq_eq_false_iff_ne.mpr c8
   have c8b1 : (a0_1 != 3) = true := bne_iff_ne.mpr c8
   simp only [Option.some.injEq, Prod.mk.injEq] at H
   obtain ⟨rfl, rfl⟩ := H
   go_enter Tryd.func46, Tryd.ntmps46
   go_wp2_with (first | ((with_reducible refine gate_dst (N := 1) rfl ?_); refine box_event ?hg (N := 1) ?hd (cs := #[.int .u8 a0_0, .int .i64 a0_1, .int .u8 a0_2, .string a0_3]) (t := 83) ?hr ?_; (case hd => rfl); (case hg => rfl); (case hr => first | (go_simp; done) | (go_simp; rfl)); intro gb115 hg w14 hbox hb; have n0_ := Aside0.mk (below_step (by repeat (first | (with_reducible first | exact HB.out | apply below_alloc | apply pw_below_drewN | apply below_drew1) | exact HB.out)) hb); have n1_ := Aside0.mk (hbox); have n2_ := Aside0.mk ((by rw [hg]; exact (below_size (by repeat (first | (with_reducible first | exact HB.out | apply below_alloc | apply pw_below_drewN | apply below_drew1) | exact HB.out))) : w.heap.size ≤ gb115)); have n3_ := Aside0.mk ((by rw [hg]; exact (below_size (by repeat (first | (with_reducible first | exact HB.out | apply below_alloc | apply pw_below_drewN | apply below_drew1) | exact HB.out))) : w.heap.size ≤ gb115)); clear HB; have HB := n0_; have BK115 := n1_; have GW115 := n2_; have GE115 := n3_; clear n0_ n1_ n2_ n3_; clear hb hbox hg) | ((with_reducible refine gate_dst (N := 2) rfl ?_); refine box_event ?hg (N := 2) ?hd (cs := #[.int .i64 0, .int .i64 0]) (t := 88) ?hr ?_; (case hd => rfl); (case hg => rfl); (case hr => first | (go_simp; done) | (go_simp; rfl)); intro gb116 hg w15 hbox hb; have n0_ := Aside0.mk (blk_below (g := gb115) (o := .cells #[.int .u8 a0_0, .int .i64 a0_1, .int .u8 a0_2, .string a0_3] 83 (0, 0)) (by (with_reducible repeat (first | refine blk_drewN ?_ _ | refine blk_drew ?_ | refine blk_alloc ?_ _)); exact BK115.out) hb); have n1_ := Aside0.mk (below_step (by repeat (first | (with_reducible first | exact HB.out | apply below_alloc | apply pw_below_drewN | apply below_drew1 | refine below_set ?_ GE115.out) | exact HB.out)) hb); have n2_ := Aside0.mk (hbox); have n3_ := Aside0.mk ((by rw [hg]; exact (below_size (by repeat (first | (with_reducible first | exact HB.out | apply below_alloc | apply pw_below_drewN | apply below_drew1 | refine below_set ?_ GE115.out) | exact HB.out))) : w.heap.size ≤ gb116)); have n4_ := Aside0.mk ((by rw [hg]; exact (below_size (by repeat (first | (with_reducible first | exact HB.out | apply below_alloc | apply pw_below_drewN | apply below_drew1 | refine below_set ?_ GE115.out) | exact HB.out))) : w.heap.size ≤ gb116)); have n5_ := Aside0.mk ((by rw [hg]; exact Nat.ne_of_lt (blk_lt (g := gb115) (o := .cells #[.int .u8 a0_0, .int .i64 a0_1, .int .u8 a0_2, .string a0_3] 83 (0, 0)) (by (with_reducible repeat (first | refine blk_drewN ?_ _ | refine blk_drew ?_ | refine blk_alloc ?_ _)); exact BK115.out)) : gb115 ≠ gb116)); have n6_ := Aside0.mk ((by rw [hg]; exact Nat.ne_of_gt (blk_lt (g := gb115) (o := .cells #[.int .u8 a0_0, .int .i64 a0_1, .int .u8 a0_2, .string a0_3] 83 (0, 0)) (by (with_reducible repeat (first | refine blk_drewN ?_ _ | refine blk_drew ?_ | refine blk_alloc ?_ _)); exact BK115.out)) : gb116 ≠ gb115)); clear BK115; clear HB; have BK115 := n0_; have HB := n1_; have BK116 := n2_; have GW116 := n3_; have GE116 := n4_; have NB115_116 := n5_; have NB116_115 := n6_; clear n0_ n1_ n2_ n3_ n4_ n5_ n6_; clear hb hbox hg; have hnb16 := NB115_116.out; have hnc16 := NB116_115.out; have hcz17_0 : w15.cell? ⟨gb115, 0, none⟩ = some (.int .u8 a0_0) := (blk_cell BK115.out 0).trans rfl; have hcz17_1 : w15.cell? ⟨gb115, 1, none⟩ = some (.int .i64 a0_1) := (blk_cell BK115.out 1).trans rfl; have hcz17_2 : w15.cell? ⟨gb115, 2, none⟩ = some (.int .u8 a0_2) := (blk_cell BK115.out 2).trans rfl; have hcz17_3 : w15.cell? ⟨gb115, 3, none⟩ = some (.string a0_3) := (blk_cell BK115.out 3).trans rfl; have hfz17_0 := blk_frozen BK115.out 0; have hfz17_1 := blk_frozen BK115.out 1; have hfz17_2 := blk_frozen BK115.out 2; have hfz17_3 := blk_frozen BK115.out 3; have hcz18_0 : w15.cell? ⟨gb116, 0, none⟩ = some (.int .i64 0) := (blk_cell BK116.out 0).trans rfl; have hcz18_1 : w15.cell? ⟨gb116, 1, none⟩ = some (.int .i64 0) := (blk_cell BK116.out 1).trans rfl; have hfz18_0 := blk_frozen BK116.out 0; have hfz18_1 := blk_frozen BK116.out 1))
   refine bodyPost_ret (results_cell_row rfl _ _ gb116 88 #[.int .i64 a0_1, .int .i64 (wrap64 (a0_1 + 1))] (0, 0) _ rfl (by (with_reducible repeat (first | refine blk_drewN ?_ _ | refine blk_drew ?_ | refine blk_alloc ?_ _)); refine blk_put (cs := #[.int .i64 a0_1, .int .i64 0]) ?_ 1 _ rfl; (with_reducible repeat (first | refine blk_drewN ?_ _ | refine blk_drew ?_ | refine blk_alloc ?_ _)); refine blk_put (cs := #[.int .i64 0, .int .i64 0]) ?_ 0 _ rfl; (with_reducible repeat (first | refine blk_drewN ?_ _ | refine blk_drew ?_ | refine blk_alloc ?_ _)); exact BK116.out) Tryd.underlying88 rfl (by kernel_rfl)) rfl ?_
   exact ⟨by first | rfl | (simp [errW_none, errW_some] <;> rfl) | (simp [*, errW_none, errW_some] <;> rfl), by repeat (first | (with_reducible first | exact HB.out | apply below_alloc | apply pw_below_drewN | apply below_drew1 | refine below_set ?_ GE115.out | refine below_set ?_ GE116.out) | exact HB.out)⟩

def VarT (w : World) : Prop := Lib.TabIs Tryd.prog w "internal/strconv.uint64pow10" .u64 Lib.pow10Tab
theorem pow10_named : Tryd.prog.globalNamed "internal/strconv.uint64pow10" = some 0 := by kernel_rfl
theorem VarT.step {w w' : World} (h : VarT w) (hb : Below w.heap.size w w') : VarT w' := by
 unfold VarT Lib.TabIs World.var? at h ⊢
 rw [pow10_named] at h ⊢
 simp only [Option.bind_some] at h ⊢
 have hlt : 0 < w.heap.size := by
  rcases Nat.lt_or_ge 0 w.heap.size with h1 | h1
  ·exact h1
  ·rw [Array.getElem?_eq_none h1] at h; cases h
 rw [hb.block 0 hlt]
 exact h
theorem asks_any (f : S83) (h0 : 0 ≤ f.f1) (h1 : f.f1 ≤ 100) (w : World) : Calls Tryd.prog 46 #[.agg #[.int .u8 f.f0, .int .i64 f.f1, .int .u8 f.f2, .string f.f3]] w fun e w' => e = .returned (.agg #[.int .i64 (asksOf f).1, .int .i64 (asksOf f).2]) ∧ Below w.heap.size w w' := by
 refine exprs_form_asks.calls f.f0 f.f1 f.f2 f.f3 _ _ w ?_
 unfold exprs_form_asks.f asksOf
 rw [w64 (by omega) (by omega)]
 split
 ·rfl
 ·split <;> rfl
/-- what is written of a part, that may be. -/
def PartIs (nm : ByteArray → Bool) (d : Nat) : Prop := ∀ (x : S25) (least l l' : Int) (A : Option Addr) (c : Nat) (W : World), Ok nm d x l l' → l ≤ 200 → WfE x → x.f3.length ≤ c → Kd.C k25 W A x.f3.length x.f3 → VarT W →
  Calls Tryd.prog 47 #[.agg #[.int .u8 x.f0, .int .i64 x.f1, .string x.f2, .slice A x.f3.length c], .int .i64 least] W fun e w' => e = .returned (.string (partW (wr d) x least)) ∧ Below W.heap.size W w'
theorem ok_two {nm : ByteArray → Bool} {d : Nat} {o n : Int} {s : ByteArray} {xs : List S25} {l l' : Int} {f : S83} (h : Ok nm (d + 1) ⟨o, n, s, xs⟩ l l') (hf : findL pairsL o = some f) : ∃ a b l1, xs = [a, b] ∧ Ok nm d a (l - 1) l1 ∧ Ok nm d b l1 l' := by
 cases h with
 | int => rw [findL_pairs_none.1] at hf; cases hf
 | bool => rw [findL_pairs_none.2.1] at hf; cases hf
 | name => rw [findL_pairs_none.2.2.1] at hf; cases hf
 | two _ f s a b _ l1 _ h1 h2 h3 ha hb => exact ⟨a, b, l1, rfl, ha, hb⟩
 | one _ f s a _ _ h1 h2 h3 => rw [h2] at hf; cases hf
 | three => rw [findL_pairs_none.2.2.2.1] at hf; cases hf
theorem ok_one {nm : ByteArray → Bool} {d : Nat} {o n : Int} {s : ByteArray} {xs : List S25} {l l' : Int} {f : S83} (h : Ok nm (d + 1) ⟨o, n, s, xs⟩ l l') (hp : findL pairsL o = none) (hf : findL prefL o = some f) : ∃ a, xs = [a] ∧ Ok nm d a (l - 1) l' := by
 cases h with
 | int => rw [findL_pairs_none.2.2.2.2.2.1] at hf; cases hf
 | bool => rw [findL_pairs_none.2.2.2.2.2.2.1] at hf; cases hf
 | name => rw [findL_pairs_none.2.2.2.2.2.2.2] at hf; cases hf
 | two _ f s a b _ l1 _ h1 h2 h3 ha hb => rw [h2] at hp; cases hp
 | one _ f s a _ _ h1 h2 h3 h4 ha => exact ⟨a, rfl, ha⟩
 | three => rw [findL_pairs_none.2.2.2.2.1] at hf; cases hf
theorem ok_leaf {nm : ByteArray → Bool} {d : Nat} {o n : Int} {s : ByteArray} {xs : List S25} {l l' : Int} (h : Ok nm (d + 1) ⟨o, n, s, xs⟩ l l') (hp : findL pairsL o = none) (hf : findL prefL o = none) :
  (o = 1 ∧ 0 ≤ n) ∨ o = 2 ∨ o = 3 ∨ (o = 17 ∧ ∃ a b c l1 l2, xs = [a, b, c] ∧ Ok nm d a (l - 1) l1 ∧ Ok nm d b l1 l2 ∧ Ok nm d c l2 l') := by
 cases h with
 | int _ _ _ _ _ h => exact .inl ⟨rfl, h⟩
 | bool => exact .inr (.inl rfl)
 | name => exact .inr (.inr (.inl rfl))
 | two _ f s a b _ l1 _ h1 h2 h3 ha hb => rw [h2] at hp; cases hp
 | one _ f s a _ _ h1 h2 h3 h4 ha => rw [h3] at hf; cases hf
 | three _ s a b c _ l1 l2 _ _ _ ha hb hc => exact .inr (.inr (.inr ⟨rfl, a, b, c, l1, l2, rfl, ha, hb, hc⟩))
theorem wf_sub {o n : Int} {s : ByteArray} {xs : List S25} (h : WfE ⟨o, n, s, xs⟩) : ∀ y ∈ xs, WfE y := by cases h with | mk _ _ _ _ _ _ _ _ _ _ h => exact h
theorem pair_rank {f : S83} {o : Int} (h : findL pairsL o = some f) : 0 ≤ f.f1 ∧ f.f1 ≤ 100 := by
 have hm := (findL_op h).2
 simp only [pairsL, List.mem_cons, List.not_mem_nil, or_false] at hm
 rcases hm with rfl | rfl | rfl | rfl | rfl | rfl | rfl | rfl | rfl | rfl | rfl | rfl <;> decide
theorem foundF_some {t0 t1 t2 : Int} {t3 : ByteArray} {x : Option S83} (h : (t0, t1, t2, t3, true) = foundF x) : ∃ f, x = some f ∧ t0 = f.f0 ∧ t1 = f.f1 ∧ t2 = f.f2 ∧ t3 = f.f3 := by
 cases x with
 | none => simp [foundF] at h
 | some f => simp only [foundF, Prod.mk.injEq] at h; exact ⟨f, rfl, h.1, h.2.1, h.2.2.1, h.2.2.2.1⟩
theorem foundF_none {t0 t1 t2 : Int} {t3 : ByteArray} {x : Option S83} (h : (t0, t1, t2, t3, false) = foundF x) : x = none := by
 cases x with
 | none => rfl
 | some f => simp [foundF] at h
theorem below_grow (w : World) (k : Nat) (os : Array Obj) : Below w.heap.size w (Go.Sort.grow (w.drewN k) os) :=
 ⟨rfl, rfl, rfl, by show w.heap.size ≤ (w.heap ++ os).size; rw [Array.size_append]; omega, fun i hi => by
  show (w.heap ++ os)[i]? = _
  rw [Array.getElem?_append_left hi]⟩
theorem pref_some {f : S83} {o : Int} (h : findL prefL o = some f) : f.f2 = 1 ∨ f.f2 = 3 := by
 have hm := (findL_op h).2
 simp only [prefL, List.mem_cons, List.not_mem_nil, or_false] at hm
 rcases hm with rfl | rfl | rfl <;> decide
theorem part_size {nm : ByteArray → Bool} (hnm : ∀ s, nm s = true → s.size ≤ 40) {d : Nat} {x : S25} {l l' : Int} (h : Ok nm d x l l') (hw : WfE x) (hl : l ≤ 200) (k : Int) : (partW (wr d) x k).size ≤ 12002 := by
 have h1 := wr_size hnm h hw
 have h2 := h.lt
 have h3 := partW_size (wr d) x k
 omega
def exprs_write.T1 : Bool × List (List Nat × List Nat) := (true, [([], []), ([], []), ([1], [1]), ([0, 2, 0], [0, 2]), ([3], [3]), ([4], [4]), ([4], [4]), ([], []), ([7, 5, 3, 0, 1, 2, 3, 4, 5, 7], [5, 7]), ([6, 8, 0, 1, 2, 3, 4, 5, 6, 7, 8], [6])])
def exprs_write.B1 : List Nat := [0, 0, 2, 7, 15, 31, 31, 0, 191, 511]
theorem exprs_write.tab1 : rtab .any (opsOf Tryd.f31 1) = exprs_write.T1 := by kernel_rfl
theorem exprs_write.bits1 : waitsOk exprs_write.T1.2 exprs_write.B1 = true := by kernel_rfl
def exprs_write.T5 : Bool × List (List Nat × List Nat) := (true, [([], []), ([], []), ([1], [1]), ([0, 2, 0], [0, 2]), ([3], [3]), ([4], [4]), ([4], [4]), ([], []), ([7, 5, 3, 0, 1, 2, 3, 4, 5, 7], [5, 7]), ([6, 8, 0, 1, 2, 3, 4, 5, 6, 7, 8], [6])])
def exprs_write.B5 : List Nat := [0, 0, 2, 7, 15, 31, 31, 0, 191, 511]
theorem exprs_write.tab5 : rtab .any (opsOf Tryd.f31 5) = exprs_write.T5 := by kernel_rfl
theorem exprs_write.bits5 : waitsOk exprs_write.T5.2 exprs_write.B5 = true := by kernel_rfl
set_option maxHeartbeats 16000000 in
set_option maxRecDepth 100000 in
theorem write_walk (nm : ByteArray → Bool) (hnm : ∀ s, nm s = true → s.size ≤ 40) (d : Nat) (hp : PartIs nm d) (a0_0 a0_1 : Int) (a0_2 : ByteArray) (A0_3 : Option Addr) (c0_3 : Nat) (l0_3 : List S25) (l l' : Int) (w : World)
  (hok : Ok nm (d + 1) ⟨a0_0, a0_1, a0_2, l0_3⟩ l l') (hl : l ≤ 200) (hwf : WfE ⟨a0_0, a0_1, a0_2, l0_3⟩) (hc0_3 : l0_3.length ≤ c0_3) (hr0_3 : Kd.C k25 w A0_3 l0_3.length l0_3) (hvar : VarT w) :
  Calls Tryd.prog 31 #[.agg #[.int .u8 a0_0, .int .i64 a0_1, .string a0_2, .slice A0_3 l0_3.length c0_3]] w fun e w' => e = .returned (.string (wr (d + 1) ⟨a0_0, a0_1, a0_2, l0_3⟩)) ∧ Below w.heap.size w w' := by
 obtain ⟨K1, hK1⟩ := find_ev pairsL a0_0 (by decide)
 obtain ⟨K2, hK2⟩ := find_ev prefL a0_0 (by decide)
 obtain ⟨k, hk1, hk2⟩ : ∃ k, exprs_find.f k pairsL a0_0 = some (foundF (findL pairsL a0_0)) ∧ exprs_find.f k prefL a0_0 = some (foundF (findL prefL a0_0)) := ⟨max K1 K2, hK1 _ (by omega), hK2 _ (by omega)⟩
 clear hK1 hK2
 obtain ⟨t181, ht181⟩ : ∃ t, t = pairsL := ⟨_, rfl⟩
 obtain ⟨t197, ht197⟩ : ∃ t, t = prefL := ⟨_, rfl⟩
 obtain ⟨⟨t184, t185, t186, t187, t188⟩, hf1⟩ : ∃ t, t = foundF (findL pairsL a0_0) := ⟨_, rfl⟩
 obtain ⟨⟨t200, t201, t202, t203, t204⟩, hf2⟩ : ∃ t, t = foundF (findL prefL a0_0) := ⟨_, rfl⟩
 rw [← hf1, ← ht181] at hk1
 rw [← hf2, ← ht197] at hk2
 have A2 : Aside0 (exprs_pairs.f = some t181) := ⟨by rw [ht181]; exact pairs_f⟩
 have A36 : Aside0 (exprs_prefixes.f = some t197) := ⟨by rw [ht197]; exact prefixes_f⟩
 have A3 := Aside0.mk hk1
 have A37 := Aside0.mk hk2
 have HF1 := Lib.hid hf1; have HF2 := Lib.hid hf2
 have HOK := Lib.hid hok; have HWF := Lib.hid hwf; have HP := Lib.hid hp; have HV := Lib.hid hvar; have HNM := Lib.hid hnm; have HL := Lib.hid hl
 clear hk1 hk2 hf1 hf2 ht181 ht197 hok hwf hp hvar hnm hl
 have hu25 := Tryd.underlying25
 have hu83 := Tryd.underlying83
 have hu88 := Tryd.underlying88
 have HR0_3 := Aside0.mk hr0_3
 have HC0_3 := Aside0.mk hc0_3
 clear hr0_3 hc0_3
 have HB := Aside0.mk (Below.refl w.heap.size w)
 go_enter Tryd.func31, Tryd.ntmps31
 try go_wp2_with (first | ((with_reducible refine gate_dst (N := 1) rfl ?_); refine box_event ?hg (N := 1) ?hd (cs := #[.int .u8 a0_0, .int .i64 a0_1, .string a0_2, .slice A0_3 l0_3.length c0_3]) (t := 25) ?hr ?_; (case hd => rfl); (case hg => rfl); (case hr => first | (go_simp; done) | (go_simp; rfl)); intro gb180 hg w46 hbox hb; have n0_ := Aside0.mk (below_step (by repeat (first | (with_reducible first | exact HB.out | apply below_alloc | apply pw_below_drewN | apply below_drew1) | exact HB.out)) hb); have n1_ := Aside0.mk (hbox); have n2_ := Aside0.mk ((by rw [hg]; exact (below_size (by repeat (first | (with_reducible first | exact HB.out | apply below_alloc | apply pw_below_drewN | apply below_drew1) | exact HB.out))) : w.heap.size ≤ gb180)); have n3_ := Aside0.mk ((by rw [hg]; exact (below_size (by repeat (first | (with_reducible first | exact HB.out | apply below_alloc | apply pw_below_drewN | apply below_drew1) | exact HB.out))) : w.heap.size ≤ gb180)); clear HB; have HB := n0_; have BK180 := n1_; have GW180 := n2_; have GE180 := n3_; clear n0_ n1_ n2_ n3_; clear hb hbox hg))
 have n0_ := Aside0.mk (blk_drew BK180.out)
 have n1_ := Aside0.mk (below_drew1 HB.out)
 clear BK180
 clear HB
 have BK180 := n0_
 have HB := n1_
 clear n0_ n1_
 refine start_ (n := 10) (S := fun w' => w'.cell? ⟨gb180, 0, none⟩ = some (.int .u8 a0_0) ∧ w'.cell? ⟨gb180, 1, none⟩ = some (.int .i64 a0_1) ∧ w'.cell? ⟨gb180, 2, none⟩ = some (.string a0_2) ∧ w'.cell? ⟨gb180, 3, none⟩ = some (.slice A0_3 l0_3.length c0_3)) (ds := []) #[false, false, false, false, false, false, false, false, false, false] (by kernel_rfl) rfl rfl ⟨(blk_cell BK180.out 0).trans rfl, (blk_cell BK180.out 1).trans rfl, (blk_cell BK180.out 2).trans rfl, (blk_cell BK180.out 3).trans rfl⟩ (fun hHeld => ?_); refine with_tabW exprs_write.tab1 exprs_write.bits1 (fun HT_ HW_ => ?_)
 generalize w46.drew = w47 at BK180 HB hHeld ⊢
 refine pure_ (i := 1) (N := some 11) (v := ?_) (a' := ?_) #[false, true, false, false, false, false, false, false, false, false] rfl rfl (any_of HT_.out (by kernel_rfl)) (fun _ _ _ h => h) (Or.inl ⟨by rfl, ?_⟩) ?_ ?_
 rotate_left
 ·intro w'
  go_simp
  with_reducible rfl
 rotate_left
 ·simp only [Act.put, List.setIfInBounds_toArray, List.set_cons_zero, List.set_cons_succ, i64_w, i32_w]
  rfl
 refine take_ (i := 2) (N := some 12) (v := ?_) (a' := ?_) #[false, true, true, false, false, false, false, false, false, false] rfl rfl (take_ofW HT_.out HW_.out (by kernel_rfl)) (fun _ _ _ h => h) (Or.inl ⟨by rfl, ?_⟩) hHeld ?_ ?_
 rotate_left
 ·rintro w' ⟨s0, s1, s2, s3⟩
  go_simp
  with_reducible rfl
 rotate_left
 ·simp only [Act.put, List.setIfInBounds_toArray, List.set_cons_zero, List.set_cons_succ, i64_w, i32_w]
  rfl
 refine join_ (σ := Value × Nat) 2 #[true, true, true, true, true, true, true, true, false, false] (fun s_ => [(10, s_.1), (13, .tuple #[.agg #[.int .u8 t184, .int .i64 t185, .int .u8 t186, .string t187], .bool t188]), (3, .pointer (some ⟨s_.2, 0, none⟩)), (9, .tuple #[.agg #[.int .u8 t184, .int .i64 t185, .int .u8 t186, .string t187], .bool t188]), (14, .agg #[.int .u8 t184, .int .i64 t185, .int .u8 t186, .string t187]), (15, .bool t188)]) (fun s_ w' => (w'.cell? ⟨gb180, 0, none⟩ = some (.int .u8 a0_0) ∧ w'.cell? ⟨gb180, 1, none⟩ = some (.int .i64 a0_1) ∧ w'.cell? ⟨gb180, 2, none⟩ = some (.string a0_2) ∧ w'.cell? ⟨gb180, 3, none⟩ = some (.slice A0_3 l0_3.length c0_3)) ∧ (Kd.R k83 83 w' w.heap.size (fun k_ => k_ ≠ s_.2) s_.1 t181) ∧ (w'.heap[gb180]? = some (.cells #[.int .u8 a0_0, .int .i64 a0_1, .string a0_2, .slice A0_3 l0_3.length c0_3] 25 (0, 0))) ∧ (w'.heap[s_.2]? = some (.cells #[.int .u8 0, .int .i64 0, .int .u8 0, .string (⟨#[]⟩ : ByteArray)] 83 (0, 0))) ∧ (w.heap.size ≤ s_.2) ∧ (w.heap.size ≤ s_.2) ∧ (gb180 ≠ s_.2) ∧ (s_.2 ≠ gb180) ∧ (Below w.heap.size w w')) ?_ ?_
 rotate_left
 ·intro hCont
  refine two_ (i := 0) (j := 7) (Ni := some 10) (Nj := some 3) #[true, true, true, false, false, false, false, false, false, false] #[false, true, true, false, false, false, false, true, false, false] rfl rfl rfl rfl (two_of HT_.out (by kernel_rfl)) (by decide) (by decide) (fun K hK => ?_) (fun K hK => ?_)
  ·skip
   refine goes_ Tryd.func45 (by kernel_rfl) rfl #[] (by rfl) rfl rfl (by (try simp only [List.map_toArray, List.map_cons, List.map_nil]); first | done | rfl | (simp only [List.length_drop, List.length_take]; rfl)) ?_
   with_reducible refine (exprs_pairs.calls  t181 _ A2.out).mono ?_
   rintro e w48 ⟨v182, rfl, ho0, hb⟩
   refine ⟨_, rfl, ?_⟩
   have n0_ := Aside0.mk (Kd.R_lower ho0 (below_size (by repeat (first | (with_reducible first | exact HB.out | apply below_alloc | apply pw_below_drewN | apply below_drew1 | refine below_set ?_ GE180.out) | exact HB.out))))
   have n1_ := Aside0.mk (blk_below (g := gb180) (o := .cells #[.int .u8 a0_0, .int .i64 a0_1, .string a0_2, .slice A0_3 l0_3.length c0_3] 25 (0, 0)) (by (with_reducible repeat (first | refine blk_drewN ?_ _ | refine blk_drew ?_ | refine blk_alloc ?_ _)); exact BK180.out) hb)
   have n2_ := Aside0.mk (below_step (by repeat (first | (with_reducible first | exact HB.out | apply below_alloc | apply pw_below_drewN | apply below_drew1 | refine below_set ?_ GE180.out) | exact HB.out)) hb)
   clear BK180
   clear HB
   have HO183 := n0_
   have BK180 := n1_
   have HB := n2_
   clear n0_ n1_ n2_
   (try clear hb)
   (try clear hb2)
   (try clear hk)
   (try clear hi)
   (try clear ho0)
   obtain ⟨Ao49, co49, eo49⟩ := Kd.R_slice HO183.out
   (first | subst eo49 | (injection eo49 with f1_ f2_ f3_; have f4_ := f1_.symm; have f5_ := f3_.symm; clear f1_ f2_ f3_; subst f4_; subst f5_))
   refine hK.out _ _ ⟨(blk_cell BK180.out 0).trans rfl, (blk_cell BK180.out 1).trans rfl, (blk_cell BK180.out 2).trans rfl, (blk_cell BK180.out 3).trans rfl⟩ (fun hHeld => ?_)
   clear hK K
   refine norm_ (a' := ?_) ?_ ?_
   rotate_left
   ·show Act.put _ (some 10) _ = _
    simp only [Act.put, List.setIfInBounds_toArray, List.set_cons_zero, List.set_cons_succ, i64_w, i32_w]
    rfl
   refine two_ (i := 3) (j := 7) (Ni := some 13) (Nj := some 3) #[true, true, true, true, false, false, false, false, false, false] #[true, true, true, false, false, false, false, true, false, false] rfl rfl rfl rfl (two_of HT_.out (by kernel_rfl)) (by decide) (by decide) (fun K hK => ?_) (fun K hK => ?_)
   ·skip
    refine goes_ Tryd.func44 (by kernel_rfl) rfl #[.slice Ao49 t181.length co49, .int .u8 a0_0] (by rfl) rfl rfl (by (try simp only [List.map_toArray, List.map_cons, List.map_nil]); first | done | rfl | (simp only [List.length_drop, List.length_take]; rfl)) ?_
    with_reducible refine (exprs_find.calls k _ _ t181 a0_0 t184 t185 t186 t187 t188 _ ?side1 ?side2 A3.out).mono ?_
    (case side1 => repeat (first | exact (Kd.R_reads' HO183.out).2.2 | (with_reducible refine Kd.C_alloc ?_ _) | (with_reducible refine Kd.C_drewN ?_ _) | (with_reducible refine Kd.C_drew ?_)))
    (case side2 => exact (Kd.R_reads' HO183.out).2.1)
    rintro e w50 ⟨rfl, hb⟩
    refine ⟨_, rfl, ?_⟩
    have n0_ := Aside0.mk (Kd.R_below (by (with_reducible repeat (first | apply Kd.R_alloc | apply Kd.R_drewN | apply Kd.R_drew)); exact HO183.out) hb)
    have n1_ := Aside0.mk (blk_below (g := gb180) (o := .cells #[.int .u8 a0_0, .int .i64 a0_1, .string a0_2, .slice A0_3 l0_3.length c0_3] 25 (0, 0)) (by (with_reducible repeat (first | refine blk_drewN ?_ _ | refine blk_drew ?_ | refine blk_alloc ?_ _)); exact BK180.out) hb)
    have n2_ := Aside0.mk (below_step (by repeat (first | (with_reducible first | exact HB.out | apply below_alloc | apply pw_below_drewN | apply below_drew1 | refine below_set ?_ GE180.out) | exact HB.out)) hb)
    clear HO183
    clear BK180
    clear HB
    have HO183 := n0_
    have BK180 := n1_
    have HB := n2_
    clear n0_ n1_ n2_
    (try clear hb)
    (try clear hb2)
    (try clear hk)
    (try clear hi)
    refine hK.out _ _ ⟨(blk_cell BK180.out 0).trans rfl, (blk_cell BK180.out 1).trans rfl, (blk_cell BK180.out 2).trans rfl, (blk_cell BK180.out 3).trans rfl⟩ (fun hHeld => ?_)
    clear hK K
    refine norm_ (a' := ?_) ?_ ?_
    rotate_left
    ·show Act.put _ (some 13) _ = _
     simp only [Act.put, List.setIfInBounds_toArray, List.set_cons_zero, List.set_cons_succ, i64_w, i32_w]
     rfl
    refine pure_ (i := 4) (N := some 9) (v := ?_) (a' := ?_) #[true, true, true, true, true, false, false, false, false, false] rfl rfl (any_of HT_.out (by kernel_rfl)) (fun _ _ _ h => h) (Or.inl ⟨by rfl, ?_⟩) ?_ ?_
    rotate_left
    ·intro w'
     go_simp
     with_reducible rfl
    rotate_left
    ·simp only [Act.put, List.setIfInBounds_toArray, List.set_cons_zero, List.set_cons_succ, i64_w, i32_w]
     rfl
    refine pure_ (i := 5) (N := some 14) (v := ?_) (a' := ?_) #[true, true, true, true, true, true, false, false, false, false] rfl rfl (any_of HT_.out (by kernel_rfl)) (fun _ _ _ h => h) (Or.inl ⟨by rfl, ?_⟩) ?_ ?_
    rotate_left
    ·intro w'
     go_simp
     with_reducible rfl
    rotate_left
    ·simp only [Act.put, List.setIfInBounds_toArray, List.set_cons_zero, List.set_cons_succ, i64_w, i32_w]
     rfl
    refine pure_ (i := 6) (N := some 15) (v := ?_) (a' := ?_) #[true, true, true, true, true, true, true, false, false, false] rfl rfl (any_of HT_.out (by kernel_rfl)) (fun _ _ _ h => h) (Or.inl ⟨by rfl, ?_⟩) ?_ ?_
    rotate_left
    ·intro w'
     go_simp
     with_reducible rfl
    rotate_left
    ·simp only [Act.put, List.setIfInBounds_toArray, List.set_cons_zero, List.set_cons_succ, i64_w, i32_w]
     rfl
    refine one_ (i := 7) (N := some 3) #[true, true, true, true, true, true, true, true, false, false] rfl rfl (one_of HT_.out (by kernel_rfl)) (by decide) (fun K hK => ?_)
    refine box_step ?hg (N := 3) ?hd (cs := #[.int .u8 0, .int .i64 0, .int .u8 0, .string (⟨#[]⟩ : ByteArray)]) (t := 83) ?hr ?_; (case hd => rfl); (case hg => rfl); (case hr => first | (go_simp; done) | (go_simp; rfl))
    intro gb189 hg w51 hbox hb
    have n0_ := Aside0.mk (Kd.R_below (Kd.R_elderB (by (with_reducible repeat (first | apply Kd.R_alloc | apply Kd.R_drewN | apply Kd.R_drew)); exact HO183.out) gb189 (Nat.le_of_eq hg.symm)) hb)
    have n1_ := Aside0.mk (blk_below (g := gb180) (o := .cells #[.int .u8 a0_0, .int .i64 a0_1, .string a0_2, .slice A0_3 l0_3.length c0_3] 25 (0, 0)) (by (with_reducible repeat (first | refine blk_drewN ?_ _ | refine blk_drew ?_ | refine blk_alloc ?_ _)); exact BK180.out) hb)
    have n2_ := Aside0.mk (below_step (by repeat (first | (with_reducible first | exact HB.out | apply below_alloc | apply pw_below_drewN | apply below_drew1 | refine below_set ?_ GE180.out) | exact HB.out)) hb)
    have n3_ := Aside0.mk (hbox)
    have n4_ := Aside0.mk ((by rw [hg]; exact (below_size (by repeat (first | (with_reducible first | exact HB.out | apply below_alloc | apply pw_below_drewN | apply below_drew1 | refine below_set ?_ GE180.out) | exact HB.out))) : w.heap.size ≤ gb189))
    have n5_ := Aside0.mk ((by rw [hg]; exact (below_size (by repeat (first | (with_reducible first | exact HB.out | apply below_alloc | apply pw_below_drewN | apply below_drew1 | refine below_set ?_ GE180.out) | exact HB.out))) : w.heap.size ≤ gb189))
    have n6_ := Aside0.mk ((by rw [hg]; exact Nat.ne_of_lt (blk_lt (g := gb180) (o := .cells #[.int .u8 a0_0, .int .i64 a0_1, .string a0_2, .slice A0_3 l0_3.length c0_3] 25 (0, 0)) (by (with_reducible repeat (first | refine blk_drewN ?_ _ | refine blk_drew ?_ | refine blk_alloc ?_ _)); exact BK180.out)) : gb180 ≠ gb189))
    have n7_ := Aside0.mk ((by rw [hg]; exact Nat.ne_of_gt (blk_lt (g := gb180) (o := .cells #[.int .u8 a0_0, .int .i64 a0_1, .string a0_2, .slice A0_3 l0_3.length c0_3] 25 (0, 0)) (by (with_reducible repeat (first | refine blk_drewN ?_ _ | refine blk_drew ?_ | refine blk_alloc ?_ _)); exact BK180.out)) : gb189 ≠ gb180))
    clear HO183
    clear BK180
    clear HB
    have HO183 := n0_
    have BK180 := n1_
    have HB := n2_
    have BK189 := n3_
    have GW189 := n4_
    have GE189 := n5_
    have NB180_189 := n6_
    have NB189_180 := n7_
    clear n0_ n1_ n2_ n3_ n4_ n5_ n6_ n7_
    clear hb hbox hg
    refine hK.out _ _ ⟨(blk_cell BK180.out 0).trans rfl, (blk_cell BK180.out 1).trans rfl, (blk_cell BK180.out 2).trans rfl, (blk_cell BK180.out 3).trans rfl⟩ (fun hHeld => ?_)
    clear hK K
    refine norm_ (a' := ?_) ?_ ?_
    rotate_left
    ·show Act.put _ (some 3) _ = _
     simp only [Act.put, List.setIfInBounds_toArray, List.set_cons_zero, List.set_cons_succ, i64_w, i32_w]
     rfl
    exact norm_ (by simp only [putAll, Act.put, List.setIfInBounds_toArray, List.set_cons_zero, List.set_cons_succ]) (hCont (.slice Ao49 t181.length co49, gb189) _ ⟨hHeld, (by (with_reducible repeat (first | apply Kd.R_alloc | apply Kd.R_drewN | apply Kd.R_drew)); exact Kd.R_mono HO183.out (fun _ hk => hk.2)), (by (with_reducible repeat (first | refine blk_drewN ?_ _ | refine blk_drew ?_ | refine blk_alloc ?_ _)); exact BK180.out), (by (with_reducible repeat (first | refine blk_drewN ?_ _ | refine blk_drew ?_ | refine blk_alloc ?_ _)); exact BK189.out), GW189.out, GE189.out, NB180_189.out, NB189_180.out, (by repeat (first | (with_reducible first | exact HB.out | apply below_alloc | apply pw_below_drewN | apply below_drew1 | refine below_set ?_ GE180.out | refine below_set ?_ GE189.out) | exact HB.out))⟩)
   ·skip
    refine box_step ?hg (N := 3) ?hd (cs := #[.int .u8 0, .int .i64 0, .int .u8 0, .string (⟨#[]⟩ : ByteArray)]) (t := 83) ?hr ?_; (case hd => rfl); (case hg => rfl); (case hr => first | (go_simp; done) | (go_simp; rfl))
    intro gb189 hg w49 hbox hb
    have n0_ := Aside0.mk (Kd.R_below (Kd.R_elderB (by (with_reducible repeat (first | apply Kd.R_alloc | apply Kd.R_drewN | apply Kd.R_drew)); exact HO183.out) gb189 (Nat.le_of_eq hg.symm)) hb)
    have n1_ := Aside0.mk (blk_below (g := gb180) (o := .cells #[.int .u8 a0_0, .int .i64 a0_1, .string a0_2, .slice A0_3 l0_3.length c0_3] 25 (0, 0)) (by (with_reducible repeat (first | refine blk_drewN ?_ _ | refine blk_drew ?_ | refine blk_alloc ?_ _)); exact BK180.out) hb)
    have n2_ := Aside0.mk (below_step (by repeat (first | (with_reducible first | exact HB.out | apply below_alloc | apply pw_below_drewN | apply below_drew1 | refine below_set ?_ GE180.out) | exact HB.out)) hb)
    have n3_ := Aside0.mk (hbox)
    have n4_ := Aside0.mk ((by rw [hg]; exact (below_size (by repeat (first | (with_reducible first | exact HB.out | apply below_alloc | apply pw_below_drewN | apply below_drew1 | refine below_set ?_ GE180.out) | exact HB.out))) : w.heap.size ≤ gb189))
    have n5_ := Aside0.mk ((by rw [hg]; exact (below_size (by repeat (first | (with_reducible first | exact HB.out | apply below_alloc | apply pw_below_drewN | apply below_drew1 | refine below_set ?_ GE180.out) | exact HB.out))) : w.heap.size ≤ gb189))
    have n6_ := Aside0.mk ((by rw [hg]; exact Nat.ne_of_lt (blk_lt (g := gb180) (o := .cells #[.int .u8 a0_0, .int .i64 a0_1, .string a0_2, .slice A0_3 l0_3.length c0_3] 25 (0, 0)) (by (with_reducible repeat (first | refine blk_drewN ?_ _ | refine blk_drew ?_ | refine blk_alloc ?_ _)); exact BK180.out)) : gb180 ≠ gb189))
    have n7_ := Aside0.mk ((by rw [hg]; exact Nat.ne_of_gt (blk_lt (g := gb180) (o := .cells #[.int .u8 a0_0, .int .i64 a0_1, .string a0_2, .slice A0_3 l0_3.length c0_3] 25 (0, 0)) (by (with_reducible repeat (first | refine blk_drewN ?_ _ | refine blk_drew ?_ | refine blk_alloc ?_ _)); exact BK180.out)) : gb189 ≠ gb180))
    clear HO183
    clear BK180
    clear HB
    have HO183 := n0_
    have BK180 := n1_
    have HB := n2_
    have BK189 := n3_
    have GW189 := n4_
    have GE189 := n5_
    have NB180_189 := n6_
    have NB189_180 := n7_
    clear n0_ n1_ n2_ n3_ n4_ n5_ n6_ n7_
    clear hb hbox hg
    obtain ⟨Ao50, co50, eo50⟩ := Kd.R_slice HO183.out
    (first | subst eo50 | (injection eo50 with f1_ f2_ f3_; have f4_ := f1_.symm; have f5_ := f3_.symm; clear f1_ f2_ f3_; subst f4_; subst f5_))
    refine hK.out _ _ ⟨(blk_cell BK180.out 0).trans rfl, (blk_cell BK180.out 1).trans rfl, (blk_cell BK180.out 2).trans rfl, (blk_cell BK180.out 3).trans rfl⟩ (fun hHeld => ?_)
    clear hK K
    refine norm_ (a' := ?_) ?_ ?_
    rotate_left
    ·show Act.put _ (some 3) _ = _
     simp only [Act.put, List.setIfInBounds_toArray, List.set_cons_zero, List.set_cons_succ, i64_w, i32_w]
     rfl
    refine one_ (i := 3) (N := some 13) #[true, true, true, true, false, false, false, true, false, false] rfl rfl (one_of HT_.out (by kernel_rfl)) (by decide) (fun K hK => ?_)
    refine goes_ Tryd.func44 (by kernel_rfl) rfl #[.slice Ao50 t181.length co50, .int .u8 a0_0] (by rfl) rfl rfl (by (try simp only [List.map_toArray, List.map_cons, List.map_nil]); first | done | rfl | (simp only [List.length_drop, List.length_take]; rfl)) ?_
    with_reducible refine (exprs_find.calls k _ _ t181 a0_0 t184 t185 t186 t187 t188 _ ?side1 ?side2 A3.out).mono ?_
    (case side1 => repeat (first | exact (Kd.R_reads' HO183.out).2.2 | (with_reducible refine Kd.C_alloc ?_ _) | (with_reducible refine Kd.C_drewN ?_ _) | (with_reducible refine Kd.C_drew ?_)))
    (case side2 => exact (Kd.R_reads' HO183.out).2.1)
    rintro e w51 ⟨rfl, hb⟩
    refine ⟨_, rfl, ?_⟩
    have n0_ := Aside0.mk (Kd.R_below (by (with_reducible repeat (first | apply Kd.R_alloc | apply Kd.R_drewN | apply Kd.R_drew)); exact HO183.out) hb)
    have n1_ := Aside0.mk (blk_below (g := gb180) (o := .cells #[.int .u8 a0_0, .int .i64 a0_1, .string a0_2, .slice A0_3 l0_3.length c0_3] 25 (0, 0)) (by (with_reducible repeat (first | refine blk_drewN ?_ _ | refine blk_drew ?_ | refine blk_alloc ?_ _)); exact BK180.out) hb)
    have n2_ := Aside0.mk (blk_below (g := gb189) (o := .cells #[.int .u8 0, .int .i64 0, .int .u8 0, .string (⟨#[]⟩ : ByteArray)] 83 (0, 0)) (by (with_reducible repeat (first | refine blk_drewN ?_ _ | refine blk_drew ?_ | refine blk_alloc ?_ _)); exact BK189.out) hb)
    have n3_ := Aside0.mk (below_step (by repeat (first | (with_reducible first | exact HB.out | apply below_alloc | apply pw_below_drewN | apply below_drew1 | refine below_set ?_ GE180.out | refine below_set ?_ GE189.out) | exact HB.out)) hb)
    clear HO183
    clear BK180
    clear BK189
    clear HB
    have HO183 := n0_
    have BK180 := n1_
    have BK189 := n2_
    have HB := n3_
    clear n0_ n1_ n2_ n3_
    (try clear hb)
    (try clear hb2)
    (try clear hk)
    (try clear hi)
    refine hK.out _ _ ⟨(blk_cell BK180.out 0).trans rfl, (blk_cell BK180.out 1).trans rfl, (blk_cell BK180.out 2).trans rfl, (blk_cell BK180.out 3).trans rfl⟩ (fun hHeld => ?_)
    clear hK K
    refine norm_ (a' := ?_) ?_ ?_
    rotate_left
    ·show Act.put _ (some 13) _ = _
     simp only [Act.put, List.setIfInBounds_toArray, List.set_cons_zero, List.set_cons_succ, i64_w, i32_w]
     rfl
    refine pure_ (i := 4) (N := some 9) (v := ?_) (a' := ?_) #[true, true, true, true, true, false, false, true, false, false] rfl rfl (any_of HT_.out (by kernel_rfl)) (fun _ _ _ h => h) (Or.inl ⟨by rfl, ?_⟩) ?_ ?_
    rotate_left
    ·intro w'
     go_simp
     with_reducible rfl
    rotate_left
    ·simp only [Act.put, List.setIfInBounds_toArray, List.set_cons_zero, List.set_cons_succ, i64_w, i32_w]
     rfl
    refine pure_ (i := 5) (N := some 14) (v := ?_) (a' := ?_) #[true, true, true, true, true, true, false, true, false, false] rfl rfl (any_of HT_.out (by kernel_rfl)) (fun _ _ _ h => h) (Or.inl ⟨by rfl, ?_⟩) ?_ ?_
    rotate_left
    ·intro w'
     go_simp
     with_reducible rfl
    rotate_left
    ·simp only [Act.put, List.setIfInBounds_toArray, List.set_cons_zero, List.set_cons_succ, i64_w, i32_w]
     rfl
    refine pure_ (i := 6) (N := some 15) (v := ?_) (a' := ?_) #[true, true, true, true, true, true, true, true, false, false] rfl rfl (any_of HT_.out (by kernel_rfl)) (fun _ _ _ h => h) (Or.inl ⟨by rfl, ?_⟩) ?_ ?_
    rotate_left
    ·intro w'
     go_simp
     with_reducible rfl
    rotate_left
    ·simp only [Act.put, List.setIfInBounds_toArray, List.set_cons_zero, List.set_cons_succ, i64_w, i32_w]
     rfl
    exact norm_ (by simp only [putAll, Act.put, List.setIfInBounds_toArray, List.set_cons_zero, List.set_cons_succ]) (hCont (.slice Ao50 t181.length co50, gb189) _ ⟨hHeld, (by (with_reducible repeat (first | apply Kd.R_alloc | apply Kd.R_drewN | apply Kd.R_drew)); exact Kd.R_mono HO183.out (fun _ hk => hk.2)), (by (with_reducible repeat (first | refine blk_drewN ?_ _ | refine blk_drew ?_ | refine blk_alloc ?_ _)); exact BK180.out), (by (with_reducible repeat (first | refine blk_drewN ?_ _ | refine blk_drew ?_ | refine blk_alloc ?_ _)); exact BK189.out), GW189.out, GE189.out, NB180_189.out, NB189_180.out, (by repeat (first | (with_reducible first | exact HB.out | apply below_alloc | apply pw_below_drewN | apply below_drew1 | refine below_set ?_ GE180.out | refine below_set ?_ GE189.out) | exact HB.out))⟩)
  ·skip
   refine box_step ?hg (N := 3) ?hd (cs := #[.int .u8 0, .int .i64 0, .int .u8 0, .string (⟨#[]⟩ : ByteArray)]) (t := 83) ?hr ?_; (case hd => rfl); (case hg => rfl); (case hr => first | (go_simp; done) | (go_simp; rfl))
   intro gb189 hg w48 hbox hb
   have n0_ := Aside0.mk (blk_below (g := gb180) (o := .cells #[.int .u8 a0_0, .int .i64 a0_1, .string a0_2, .slice A0_3 l0_3.length c0_3] 25 (0, 0)) (by (with_reducible repeat (first | refine blk_drewN ?_ _ | refine blk_drew ?_ | refine blk_alloc ?_ _)); exact BK180.out) hb)
   have n1_ := Aside0.mk (below_step (by repeat (first | (with_reducible first | exact HB.out | apply below_alloc | apply pw_below_drewN | apply below_drew1 | refine below_set ?_ GE180.out) | exact HB.out)) hb)
   have n2_ := Aside0.mk (hbox)
   have n3_ := Aside0.mk ((by rw [hg]; exact (below_size (by repeat (first | (with_reducible first | exact HB.out | apply below_alloc | apply pw_below_drewN | apply below_drew1 | refine below_set ?_ GE180.out) | exact HB.out))) : w.heap.size ≤ gb189))
   have n4_ := Aside0.mk ((by rw [hg]; exact (below_size (by repeat (first | (with_reducible first | exact HB.out | apply below_alloc | apply pw_below_drewN | apply below_drew1 | refine below_set ?_ GE180.out) | exact HB.out))) : w.heap.size ≤ gb189))
   have n5_ := Aside0.mk ((by rw [hg]; exact Nat.ne_of_lt (blk_lt (g := gb180) (o := .cells #[.int .u8 a0_0, .int .i64 a0_1, .string a0_2, .slice A0_3 l0_3.length c0_3] 25 (0, 0)) (by (with_reducible repeat (first | refine blk_drewN ?_ _ | refine blk_drew ?_ | refine blk_alloc ?_ _)); exact BK180.out)) : gb180 ≠ gb189))
   have n6_ := Aside0.mk ((by rw [hg]; exact Nat.ne_of_gt (blk_lt (g := gb180) (o := .cells #[.int .u8 a0_0, .int .i64 a0_1, .string a0_2, .slice A0_3 l0_3.length c0_3] 25 (0, 0)) (by (with_reducible repeat (first | refine blk_drewN ?_ _ | refine blk_drew ?_ | refine blk_alloc ?_ _)); exact BK180.out)) : gb189 ≠ gb180))
   clear BK180
   clear HB
   have BK180 := n0_
   have HB := n1_
   have BK189 := n2_
   have GW189 := n3_
   have GE189 := n4_
   have NB180_189 := n5_
   have NB189_180 := n6_
   clear n0_ n1_ n2_ n3_ n4_ n5_ n6_
   clear hb hbox hg
   refine hK.out _ _ ⟨(blk_cell BK180.out 0).trans rfl, (blk_cell BK180.out 1).trans rfl, (blk_cell BK180.out 2).trans rfl, (blk_cell BK180.out 3).trans rfl⟩ (fun hHeld => ?_)
   clear hK K
   refine norm_ (a' := ?_) ?_ ?_
   rotate_left
   ·show Act.put _ (some 3) _ = _
    simp only [Act.put, List.setIfInBounds_toArray, List.set_cons_zero, List.set_cons_succ, i64_w, i32_w]
    rfl
   refine one_ (i := 0) (N := some 10) #[true, true, true, false, false, false, false, true, false, false] rfl rfl (one_of HT_.out (by kernel_rfl)) (by decide) (fun K hK => ?_)
   refine goes_ Tryd.func45 (by kernel_rfl) rfl #[] (by rfl) rfl rfl (by (try simp only [List.map_toArray, List.map_cons, List.map_nil]); first | done | rfl | (simp only [List.length_drop, List.length_take]; rfl)) ?_
   with_reducible refine (exprs_pairs.calls  t181 _ A2.out).mono ?_
   rintro e w49 ⟨v182, rfl, ho0, hb⟩
   refine ⟨_, rfl, ?_⟩
   have n0_ := Aside0.mk (Kd.R_lower (Kd.R_newB ho0 (g := gb189) (o := .cells #[.int .u8 0, .int .i64 0, .int .u8 0, .string (⟨#[]⟩ : ByteArray)] 83 (0, 0)) (by (with_reducible repeat (first | refine blk_drewN ?_ _ | refine blk_drew ?_ | refine blk_alloc ?_ _)); exact BK189.out)) (below_size (by repeat (first | (with_reducible first | exact HB.out | apply below_alloc | apply pw_below_drewN | apply below_drew1 | refine below_set ?_ GE180.out | refine below_set ?_ GE189.out) | exact HB.out))))
   have n1_ := Aside0.mk (blk_below (g := gb180) (o := .cells #[.int .u8 a0_0, .int .i64 a0_1, .string a0_2, .slice A0_3 l0_3.length c0_3] 25 (0, 0)) (by (with_reducible repeat (first | refine blk_drewN ?_ _ | refine blk_drew ?_ | refine blk_alloc ?_ _)); exact BK180.out) hb)
   have n2_ := Aside0.mk (blk_below (g := gb189) (o := .cells #[.int .u8 0, .int .i64 0, .int .u8 0, .string (⟨#[]⟩ : ByteArray)] 83 (0, 0)) (by (with_reducible repeat (first | refine blk_drewN ?_ _ | refine blk_drew ?_ | refine blk_alloc ?_ _)); exact BK189.out) hb)
   have n3_ := Aside0.mk (below_step (by repeat (first | (with_reducible first | exact HB.out | apply below_alloc | apply pw_below_drewN | apply below_drew1 | refine below_set ?_ GE180.out | refine below_set ?_ GE189.out) | exact HB.out)) hb)
   clear BK180
   clear BK189
   clear HB
   have HO183 := n0_
   have BK180 := n1_
   have BK189 := n2_
   have HB := n3_
   clear n0_ n1_ n2_ n3_
   (try clear hb)
   (try clear hb2)
   (try clear hk)
   (try clear hi)
   (try clear ho0)
   obtain ⟨Ao50, co50, eo50⟩ := Kd.R_slice HO183.out
   (first | subst eo50 | (injection eo50 with f1_ f2_ f3_; have f4_ := f1_.symm; have f5_ := f3_.symm; clear f1_ f2_ f3_; subst f4_; subst f5_))
   refine hK.out _ _ ⟨(blk_cell BK180.out 0).trans rfl, (blk_cell BK180.out 1).trans rfl, (blk_cell BK180.out 2).trans rfl, (blk_cell BK180.out 3).trans rfl⟩ (fun hHeld => ?_)
   clear hK K
   refine norm_ (a' := ?_) ?_ ?_
   rotate_left
   ·show Act.put _ (some 10) _ = _
    simp only [Act.put, List.setIfInBounds_toArray, List.set_cons_zero, List.set_cons_succ, i64_w, i32_w]
    rfl
   refine one_ (i := 3) (N := some 13) #[true, true, true, true, false, false, false, true, false, false] rfl rfl (one_of HT_.out (by kernel_rfl)) (by decide) (fun K hK => ?_)
   refine goes_ Tryd.func44 (by kernel_rfl) rfl #[.slice Ao50 t181.length co50, .int .u8 a0_0] (by rfl) rfl rfl (by (try simp only [List.map_toArray, List.map_cons, List.map_nil]); first | done | rfl | (simp only [List.length_drop, List.length_take]; rfl)) ?_
   with_reducible refine (exprs_find.calls k _ _ t181 a0_0 t184 t185 t186 t187 t188 _ ?side1 ?side2 A3.out).mono ?_
   (case side1 => repeat (first | exact (Kd.R_reads' HO183.out).2.2 | (with_reducible refine Kd.C_alloc ?_ _) | (with_reducible refine Kd.C_drewN ?_ _) | (with_reducible refine Kd.C_drew ?_)))
   (case side2 => exact (Kd.R_reads' HO183.out).2.1)
   rintro e w51 ⟨rfl, hb⟩
   refine ⟨_, rfl, ?_⟩
   have n0_ := Aside0.mk (Kd.R_below (by (with_reducible repeat (first | apply Kd.R_alloc | apply Kd.R_drewN | apply Kd.R_drew)); exact HO183.out) hb)
   have n1_ := Aside0.mk (blk_below (g := gb180) (o := .cells #[.int .u8 a0_0, .int .i64 a0_1, .string a0_2, .slice A0_3 l0_3.length c0_3] 25 (0, 0)) (by (with_reducible repeat (first | refine blk_drewN ?_ _ | refine blk_drew ?_ | refine blk_alloc ?_ _)); exact BK180.out) hb)
   have n2_ := Aside0.mk (blk_below (g := gb189) (o := .cells #[.int .u8 0, .int .i64 0, .int .u8 0, .string (⟨#[]⟩ : ByteArray)] 83 (0, 0)) (by (with_reducible repeat (first | refine blk_drewN ?_ _ | refine blk_drew ?_ | refine blk_alloc ?_ _)); exact BK189.out) hb)
   have n3_ := Aside0.mk (below_step (by repeat (first | (with_reducible first | exact HB.out | apply below_alloc | apply pw_below_drewN | apply below_drew1 | refine below_set ?_ GE180.out | refine below_set ?_ GE189.out) | exact HB.out)) hb)
   clear HO183
   clear BK180
   clear BK189
   clear HB
   have HO183 := n0_
   have BK180 := n1_
   have BK189 := n2_
   have HB := n3_
   clear n0_ n1_ n2_ n3_
   (try clear hb)
   (try clear hb2)
   (try clear hk)
   (try clear hi)
   refine hK.out _ _ ⟨(blk_cell BK180.out 0).trans rfl, (blk_cell BK180.out 1).trans rfl, (blk_cell BK180.out 2).trans rfl, (blk_cell BK180.out 3).trans rfl⟩ (fun hHeld => ?_)
   clear hK K
   refine norm_ (a' := ?_) ?_ ?_
   rotate_left
   ·show Act.put _ (some 13) _ = _
    simp only [Act.put, List.setIfInBounds_toArray, List.set_cons_zero, List.set_cons_succ, i64_w, i32_w]
    rfl
   refine pure_ (i := 4) (N := some 9) (v := ?_) (a' := ?_) #[true, true, true, true, true, false, false, true, false, false] rfl rfl (any_of HT_.out (by kernel_rfl)) (fun _ _ _ h => h) (Or.inl ⟨by rfl, ?_⟩) ?_ ?_
   rotate_left
   ·intro w'
    go_simp
    with_reducible rfl
   rotate_left
   ·simp only [Act.put, List.setIfInBounds_toArray, List.set_cons_zero, List.set_cons_succ, i64_w, i32_w]
    rfl
   refine pure_ (i := 5) (N := some 14) (v := ?_) (a' := ?_) #[true, true, true, true, true, true, false, true, false, false] rfl rfl (any_of HT_.out (by kernel_rfl)) (fun _ _ _ h => h) (Or.inl ⟨by rfl, ?_⟩) ?_ ?_
   rotate_left
   ·intro w'
    go_simp
    with_reducible rfl
   rotate_left
   ·simp only [Act.put, List.setIfInBounds_toArray, List.set_cons_zero, List.set_cons_succ, i64_w, i32_w]
    rfl
   refine pure_ (i := 6) (N := some 15) (v := ?_) (a' := ?_) #[true, true, true, true, true, true, true, true, false, false] rfl rfl (any_of HT_.out (by kernel_rfl)) (fun _ _ _ h => h) (Or.inl ⟨by rfl, ?_⟩) ?_ ?_
   rotate_left
   ·intro w'
    go_simp
    with_reducible rfl
   rotate_left
   ·simp only [Act.put, List.setIfInBounds_toArray, List.set_cons_zero, List.set_cons_succ, i64_w, i32_w]
    rfl
   exact norm_ (by simp only [putAll, Act.put, List.setIfInBounds_toArray, List.set_cons_zero, List.set_cons_succ]) (hCont (.slice Ao50 t181.length co50, gb189) _ ⟨hHeld, (by (with_reducible repeat (first | apply Kd.R_alloc | apply Kd.R_drewN | apply Kd.R_drew)); exact Kd.R_mono HO183.out (fun _ hk => hk.2)), (by (with_reducible repeat (first | refine blk_drewN ?_ _ | refine blk_drew ?_ | refine blk_alloc ?_ _)); exact BK180.out), (by (with_reducible repeat (first | refine blk_drewN ?_ _ | refine blk_drew ?_ | refine blk_alloc ?_ _)); exact BK189.out), GW189.out, GE189.out, NB180_189.out, NB189_180.out, (by repeat (first | (with_reducible first | exact HB.out | apply below_alloc | apply pw_below_drewN | apply below_drew1 | refine below_set ?_ GE180.out | refine below_set ?_ GE189.out) | exact HB.out))⟩)
 rintro ⟨v182, gb189⟩ w52 ⟨hS_, h0_, h1_, h2_, h3_, h4_, h5_, h6_, h7_⟩
 have n0_ : Aside0 (Kd.R k83 83 w52 w.heap.size (fun k_ => k_ ≠ gb189) v182 t181) := ⟨h0_⟩
 have n1_ : Aside0 (w52.heap[gb180]? = some (.cells #[.int .u8 a0_0, .int .i64 a0_1, .string a0_2, .slice A0_3 l0_3.length c0_3] 25 (0, 0))) := ⟨h1_⟩
 have n2_ : Aside0 (w52.heap[gb189]? = some (.cells #[.int .u8 0, .int .i64 0, .int .u8 0, .string (⟨#[]⟩ : ByteArray)] 83 (0, 0))) := ⟨h2_⟩
 have n3_ : Aside0 (w.heap.size ≤ gb189) := ⟨h3_⟩
 have n4_ : Aside0 (w.heap.size ≤ gb189) := ⟨h4_⟩
 have n5_ : Aside0 (gb180 ≠ gb189) := ⟨h5_⟩
 have n6_ : Aside0 (gb189 ≠ gb180) := ⟨h6_⟩
 have n7_ : Aside0 (Below w.heap.size w w52) := ⟨h7_⟩
 clear BK180
 clear HB
 clear h0_ h1_ h2_ h3_ h4_ h5_ h6_ h7_
 have HO183 := n0_
 have BK180 := n1_
 have BK189 := n2_
 have GW189 := n3_
 have GE189 := n4_
 have NB180_189 := n5_
 have NB189_180 := n6_
 have HB := n7_
 clear n0_ n1_ n2_ n3_ n4_ n5_ n6_ n7_
 have hHeld : w52.cell? ⟨gb180, 0, none⟩ = some (.int .u8 a0_0) ∧ w52.cell? ⟨gb180, 1, none⟩ = some (.int .i64 a0_1) ∧ w52.cell? ⟨gb180, 2, none⟩ = some (.string a0_2) ∧ w52.cell? ⟨gb180, 3, none⟩ = some (.slice A0_3 l0_3.length c0_3) := hS_
 refine norm_ (a' := ?_) ?_ ?_
 rotate_left
 ·simp only [putAll, Act.put, List.setIfInBounds_toArray, List.set_cons_zero, List.set_cons_succ]
  rfl
 refine one_ (i := 8) (N := none) #[true, true, true, true, true, true, true, true, true, false] rfl rfl (one_of HT_.out (by kernel_rfl)) (by decide) (fun K hK => ?_)
 have hs53 : w52.cell? ⟨gb189, 0, none⟩ = some (.int .u8 0) := (blk_cell BK189.out 0).trans rfl
 have hfs53 := blk_frozen BK189.out 0
 have hns53_0 := NB180_189.out
 have hms53_0 := NB189_180.out
 have hs54 : w52.cell? ⟨gb189, 1, none⟩ = some (.int .i64 0) := (blk_cell BK189.out 1).trans rfl
 have hfs54 := blk_frozen BK189.out 1
 have hns54_0 := NB180_189.out
 have hms54_0 := NB189_180.out
 have hs55 : w52.cell? ⟨gb189, 2, none⟩ = some (.int .u8 0) := (blk_cell BK189.out 2).trans rfl
 have hfs55 := blk_frozen BK189.out 2
 have hns55_0 := NB180_189.out
 have hms55_0 := NB189_180.out
 have hs56 : w52.cell? ⟨gb189, 3, none⟩ = some (.string (⟨#[]⟩ : ByteArray)) := (blk_cell BK189.out 3).trans rfl
 have hfs56 := blk_frozen BK189.out 3
 have hns56_0 := NB180_189.out
 have hms56_0 := NB189_180.out
 refine skip_ (w1 := ?_) (by rfl) rfl ?_ ?_
 rotate_left
 ·go_simp
  rfl
 refine hK.out _ _ ⟨((cell_far (p := ⟨gb189, _, none⟩) NB180_189.out _).trans (((cell_far (p := ⟨gb189, _, none⟩) NB180_189.out _).trans (((cell_far (p := ⟨gb189, _, none⟩) NB180_189.out _).trans (((cell_far (p := ⟨gb189, _, none⟩) NB180_189.out _).trans (hHeld.1)))))))), ((cell_far (p := ⟨gb189, _, none⟩) NB180_189.out _).trans (((cell_far (p := ⟨gb189, _, none⟩) NB180_189.out _).trans (((cell_far (p := ⟨gb189, _, none⟩) NB180_189.out _).trans (((cell_far (p := ⟨gb189, _, none⟩) NB180_189.out _).trans (hHeld.2.1)))))))), ((cell_far (p := ⟨gb189, _, none⟩) NB180_189.out _).trans (((cell_far (p := ⟨gb189, _, none⟩) NB180_189.out _).trans (((cell_far (p := ⟨gb189, _, none⟩) NB180_189.out _).trans (((cell_far (p := ⟨gb189, _, none⟩) NB180_189.out _).trans (hHeld.2.2.1)))))))), ((cell_far (p := ⟨gb189, _, none⟩) NB180_189.out _).trans (((cell_far (p := ⟨gb189, _, none⟩) NB180_189.out _).trans (((cell_far (p := ⟨gb189, _, none⟩) NB180_189.out _).trans (((cell_far (p := ⟨gb189, _, none⟩) NB180_189.out _).trans (hHeld.2.2.2))))))))⟩ (fun hHeld => ?_)
 clear hK K
 refine pure_ (i := 9) (N := some 4) (v := ?_) (a' := ?_) #[true, true, true, true, true, true, true, true, true, true] rfl rfl (any_of HT_.out (by kernel_rfl)) (fun _ _ _ h => h) (Or.inl ⟨by rfl, ?_⟩) ?_ ?_
 rotate_left
 ·intro w'
  go_simp
  with_reducible rfl
 rotate_left
 ·simp only [Act.put, List.setIfInBounds_toArray, List.set_cons_zero, List.set_cons_succ, i64_w, i32_w]
  rfl
 refine done_ (done_of HT_.out (by kernel_rfl)) ?_
 have n0_ : Aside0 (Kd.R k83 83 ((((w52.setCell ⟨gb189, 0, none⟩ (.int .u8 t184)).setCell ⟨gb189, 1, none⟩ (.int .i64 t185)).setCell ⟨gb189, 2, none⟩ (.int .u8 t186)).setCell ⟨gb189, 3, none⟩ (.string t187)) w.heap.size (fun k_ => k_ ≠ gb189) v182 t181) := ⟨by (with_reducible repeat (first | apply Kd.R_alloc | apply Kd.R_drewN | apply Kd.R_drew)); exact Kd.R_mono (Kd.R_far (p := ⟨gb189, 3, none⟩) (Kd.R_far (p := ⟨gb189, 2, none⟩) (Kd.R_far (p := ⟨gb189, 1, none⟩) (Kd.R_far (p := ⟨gb189, 0, none⟩) (Kd.R_mono HO183.out (fun k_ hk => (⟨hk, hk⟩ : _ ∧ k_ ≠ gb189))) (fun _ hk => hk.2) (.int .u8 t184)) (fun _ hk => hk.2) (.int .i64 t185)) (fun _ hk => hk.2) (.int .u8 t186)) (fun _ hk => hk.2) (.string t187)) (fun _ hk => hk.1)⟩
 have n1_ : Aside0 (((((w52.setCell ⟨gb189, 0, none⟩ (.int .u8 t184)).setCell ⟨gb189, 1, none⟩ (.int .i64 t185)).setCell ⟨gb189, 2, none⟩ (.int .u8 t186)).setCell ⟨gb189, 3, none⟩ (.string t187)).heap[gb180]? = some (.cells #[.int .u8 a0_0, .int .i64 a0_1, .string a0_2, .slice A0_3 l0_3.length c0_3] 25 (0, 0))) := ⟨by (with_reducible repeat (first | refine blk_drewN ?_ _ | refine blk_drew ?_ | refine blk_alloc ?_ _)); refine blk_far ?_ NB180_189.out _; (with_reducible repeat (first | refine blk_drewN ?_ _ | refine blk_drew ?_ | refine blk_alloc ?_ _)); refine blk_far ?_ NB180_189.out _; (with_reducible repeat (first | refine blk_drewN ?_ _ | refine blk_drew ?_ | refine blk_alloc ?_ _)); refine blk_far ?_ NB180_189.out _; (with_reducible repeat (first | refine blk_drewN ?_ _ | refine blk_drew ?_ | refine blk_alloc ?_ _)); refine blk_far ?_ NB180_189.out _; (with_reducible repeat (first | refine blk_drewN ?_ _ | refine blk_drew ?_ | refine blk_alloc ?_ _)); exact BK180.out⟩
 have n2_ : Aside0 (((((w52.setCell ⟨gb189, 0, none⟩ (.int .u8 t184)).setCell ⟨gb189, 1, none⟩ (.int .i64 t185)).setCell ⟨gb189, 2, none⟩ (.int .u8 t186)).setCell ⟨gb189, 3, none⟩ (.string t187)).heap[gb189]? = some (.cells #[.int .u8 t184, .int .i64 t185, .int .u8 t186, .string t187] 83 (0, 0))) := ⟨by (with_reducible repeat (first | refine blk_drewN ?_ _ | refine blk_drew ?_ | refine blk_alloc ?_ _)); refine blk_put (cs := #[.int .u8 t184, .int .i64 t185, .int .u8 t186, .string (⟨#[]⟩ : ByteArray)]) ?_ 3 _ rfl; (with_reducible repeat (first | refine blk_drewN ?_ _ | refine blk_drew ?_ | refine blk_alloc ?_ _)); refine blk_put (cs := #[.int .u8 t184, .int .i64 t185, .int .u8 0, .string (⟨#[]⟩ : ByteArray)]) ?_ 2 _ rfl; (with_reducible repeat (first | refine blk_drewN ?_ _ | refine blk_drew ?_ | refine blk_alloc ?_ _)); refine blk_put (cs := #[.int .u8 t184, .int .i64 0, .int .u8 0, .string (⟨#[]⟩ : ByteArray)]) ?_ 1 _ rfl; (with_reducible repeat (first | refine blk_drewN ?_ _ | refine blk_drew ?_ | refine blk_alloc ?_ _)); refine blk_put (cs := #[.int .u8 0, .int .i64 0, .int .u8 0, .string (⟨#[]⟩ : ByteArray)]) ?_ 0 _ rfl; (with_reducible repeat (first | refine blk_drewN ?_ _ | refine blk_drew ?_ | refine blk_alloc ?_ _)); exact BK189.out⟩
 have n3_ : Aside0 (Below w.heap.size w ((((w52.setCell ⟨gb189, 0, none⟩ (.int .u8 t184)).setCell ⟨gb189, 1, none⟩ (.int .i64 t185)).setCell ⟨gb189, 2, none⟩ (.int .u8 t186)).setCell ⟨gb189, 3, none⟩ (.string t187))) := ⟨by repeat (first | (with_reducible first | exact HB.out | apply below_alloc | apply pw_below_drewN | apply below_drew1 | refine below_set ?_ GE180.out | refine below_set ?_ GE189.out) | exact HB.out)⟩
 (try clear HO183)
 (try clear BK180)
 (try clear BK189)
 (try clear HB)
 generalize ((((w52.setCell ⟨gb189, 0, none⟩ (.int .u8 t184)).setCell ⟨gb189, 1, none⟩ (.int .i64 t185)).setCell ⟨gb189, 2, none⟩ (.int .u8 t186)).setCell ⟨gb189, 3, none⟩ (.string t187)) = w57 at n0_ n1_ n2_ n3_ ⊢
 have HO183 := n0_
 have BK180 := n1_
 have BK189 := n2_
 have HB := n3_
 clear n0_ n1_ n2_ n3_
 cases t188 with
 | true =>
  obtain ⟨f, hf, rfl, rfl, rfl, rfl⟩ := foundF_some HF1.out
  obtain ⟨a, b, l1, hxs, ha, hb⟩ := ok_two HOK.out hf
  subst hxs
  have hwr : wr (d + 1) ⟨a0_0, a0_1, a0_2, [a, b]⟩ = (((partW (wr d) a (asksOf f).1 ++ (⟨#[32]⟩ : ByteArray)) ++ f.f3) ++ (⟨#[32]⟩ : ByteArray)) ++ partW (wr d) b (asksOf f).2 := by
   simp only [wr]; rw [hf]; rfl
  have hl1 := ha.lt
  have g0 := part_size HNM.out ha (wf_sub HWF.out a (by simp)) (by have := HL.out; omega) (asksOf f).1
  have g1 := part_size HNM.out hb (wf_sub HWF.out b (by simp)) (by have := HL.out; omega) (asksOf f).2
  have gt := form_text (.inl (findL_op hf).2)
  obtain ⟨rk0, rk1⟩ := pair_rank hf
  have HA := Lib.hid ha; have HBB := Lib.hid hb; have HWR := Lib.hid hwr; have HFF := Lib.hid hf
  have HLA : Hid (l - 1 ≤ 200) := Lib.hid (by have := HL.out; omega)
  have HLB : Hid (l1 ≤ 200) := Lib.hid (by have := HL.out; omega)
  clear ha hb hwr hf hl1
  obtain ⟨ad, A3, c3, hAd, q0, q1, q2, q3, hl3, hC3⟩ := at_T25 HR0_3.out 0 (by omega) (by simp)
  obtain ⟨ad', A4, c4, hAd', u0, u1, u2, u3, hl4, hC4⟩ := at_T25 HR0_3.out 1 (by omega) (by simp)
  subst hAd
  injection hAd' with hAd'
  subst hAd'
  change w.cell? _ = some (.int .u8 a.f0) at q0
  change w.cell? _ = some (.int .i64 a.f1) at q1
  change w.cell? _ = some (.string a.f2) at q2
  change w.cell? _ = some (.slice A3 a.f3.length c3) at q3
  change w.cell? _ = some (.int .u8 b.f0) at u0
  change w.cell? _ = some (.int .i64 b.f1) at u1
  change w.cell? _ = some (.string b.f2) at u2
  change w.cell? _ = some (.slice A4 b.f3.length c4) at u3
  change a.f3.length ≤ c3 at hl3
  change b.f3.length ≤ c4 at hl4
  change Kd.C k25 w A3 a.f3.length a.f3 at hC3
  change Kd.C k25 w A4 b.f3.length b.f3 at hC4
  have HC3 := Lib.hid hC3; have HC4 := Lib.hid hC4; have HL3 := Lib.hid hl3; have HL4 := Lib.hid hl4
  clear hC3 hC4 hl3 hl4
  obtain ⟨e0, e1, e2, e3⟩ := box_cells BK180.out
  have e6 : w57.cell? ⟨gb189, 0, none⟩ = some (.int .u8 f.f0) := (blk_cell BK189.out 0).trans rfl
  have e7 : w57.cell? ⟨gb189, 1, none⟩ = some (.int .i64 f.f1) := (blk_cell BK189.out 1).trans rfl
  have e8 : w57.cell? ⟨gb189, 2, none⟩ = some (.int .u8 f.f2) := (blk_cell BK189.out 2).trans rfl
  have e9 : w57.cell? ⟨gb189, 3, none⟩ = some (.string f.f3) := (blk_cell BK189.out 3).trans rfl
  go_wp2_with fail
  refine (asks_any f rk0 rk1 _).mono ?_
  rintro e w3 ⟨rfl, hb3⟩
  have HB3 := Lib.hid (HB.out.trans (hb3.mono HB.out.size))
  have m3 := keep_cell hb3 (Nat.le_refl _) e3
  have m9 := keep_cell hb3 (Nat.le_refl _) e9
  clear hb3 e0 e1 e2 e3 e6 e7 e8 e9
  generalize asksOf f = kk at *
  obtain ⟨k0, k1⟩ := kk
  dsimp only at g0 g1 HWR ⊢
  go_wp2_with fail
  obtain ⟨wy, hwy⟩ : ∃ wy, wy = w3.alloc (.cells #[.int .i64 k0, .int .i64 k1] 88) := ⟨_, rfl⟩
  rw [← hwy]
  have hnew : wy.heap[w3.heap.size]? = some (.cells #[.int .i64 k0, .int .i64 k1] 88 (0, 0)) := by rw [hwy]; exact heap_alloc_new w3 _
  have c0 : wy.cell? ⟨w3.heap.size, 0, none⟩ = some (.int .i64 k0) := (blk_cell hnew 0).trans rfl
  have c1 : wy.cell? ⟨w3.heap.size, 1, none⟩ = some (.int .i64 k1) := (blk_cell hnew 1).trans rfl
  have hba : Below w3.heap.size w3 wy := by rw [hwy]; exact (Below.refl _ _).alloc (Nat.le_refl _) _
  have HY := Lib.hid (HB3.out.trans (hba.mono HB3.out.size))
  replace m3 := keep_cell hba (Nat.le_refl _) m3
  replace m9 := keep_cell hba (Nat.le_refl _) m9
  replace q0 := keep_cell HY.out (Nat.le_refl _) q0
  replace q1 := keep_cell HY.out (Nat.le_refl _) q1
  replace q2 := keep_cell HY.out (Nat.le_refl _) q2
  replace q3 := keep_cell HY.out (Nat.le_refl _) q3
  replace u0 := keep_cell HY.out (Nat.le_refl _) u0
  replace u1 := keep_cell HY.out (Nat.le_refl _) u1
  replace u2 := keep_cell HY.out (Nat.le_refl _) u2
  replace u3 := keep_cell HY.out (Nat.le_refl _) u3
  clear hwy hnew hba BK180 BK189 HB HB3 HO183
  have P0 := Lib.hid (fun (W : World) (hb : Below w.heap.size w W) => HP.out a k0 _ _ A3 c3 W HA.out HLA.out (wf_sub HWF.out a (by simp)) HL3.out (Kd.C_below HC3.out hb) (HV.out.step hb))
  have P1 := Lib.hid (fun (W : World) (hb : Below w.heap.size w W) => HP.out b k1 _ _ A4 c4 W HBB.out HLB.out (wf_sub HWF.out b (by simp)) HL4.out (Kd.C_below HC4.out hb) (HV.out.step hb))
  generalize partW (wr d) a k0 = p0 at *
  generalize partW (wr d) b k1 = p1 at *
  have z1 : (9223372036854775807 < p0.size + 1) = False := eq_false (by omega)
  have z2 : (9223372036854775807 < p0.size + 1 + f.f3.size) = False := eq_false (by omega)
  have z3 : (9223372036854775807 < p0.size + 1 + f.f3.size + 1) = False := eq_false (by omega)
  have z4 : (9223372036854775807 < p0.size + 1 + f.f3.size + 1 + p1.size) = False := eq_false (by omega)
  rw [show (Int.toNat 0 * 4) = 0 from rfl, Addr.add_zero'] at q0
  rw [show (Int.toNat 0 * 4) = 0 from rfl, Addr.add_zero'] at q1
  rw [show (Int.toNat 0 * 4) = 0 from rfl, Addr.add_zero'] at q2
  rw [show (Int.toNat 0 * 4) = 0 from rfl, Addr.add_zero'] at q3
  rw [show (Int.toNat 1 * 4) = 4 from rfl, show ad.add 4 = ⟨ad.block, ad.off + 4, none⟩ from rfl] at u0
  rw [show (Int.toNat 1 * 4) = 4 from rfl, show ad.add 4 = ⟨ad.block, ad.off + 4, none⟩ from rfl] at u1
  rw [show (Int.toNat 1 * 4) = 4 from rfl, show ad.add 4 = ⟨ad.block, ad.off + 4, none⟩ from rfl] at u2
  rw [show (Int.toNat 1 * 4) = 4 from rfl, show ad.add 4 = ⟨ad.block, ad.off + 4, none⟩ from rfl] at u3
  go_region_held3 (fun w' => w'.cell? ⟨gb180, 3, none⟩ = some (.slice (some ad) [a, b].length c0_3) ∧ w'.cell? ⟨gb189, 3, none⟩ = some (.string f.f3) ∧ w'.cell? ⟨w3.heap.size, 0, none⟩ = some (.int .i64 k0) ∧ w'.cell? ⟨w3.heap.size, 1, none⟩ = some (.int .i64 k1) ∧ w'.cell? ad = some (.int .u8 a.f0) ∧ w'.cell? ⟨ad.block, ad.off + 1, none⟩ = some (.int .i64 a.f1) ∧ w'.cell? ⟨ad.block, ad.off + 2, none⟩ = some (.string a.f2) ∧ w'.cell? ⟨ad.block, ad.off + 3, none⟩ = some (.slice A3 a.f3.length c3) ∧ w'.cell? ⟨ad.block, ad.off + 4, none⟩ = some (.int .u8 b.f0) ∧ w'.cell? ⟨ad.block, ad.off + 4 + 1, none⟩ = some (.int .i64 b.f1) ∧ w'.cell? ⟨ad.block, ad.off + 4 + 2, none⟩ = some (.string b.f2) ∧ w'.cell? ⟨ad.block, ad.off + 4 + 3, none⟩ = some (.slice A4 b.f3.length c4)) (first | (exact ⟨xm3, xm9, xc0, xc1, xq0, xq1, xq2, xq3, xu0, xu1, xu2, xu3⟩) | go_keep) (first | (go_at_call 47; ((with_reducible refine ((P0.out _ (by first | exact HZ.out | exact HY.out.drew | exact HY.out)).mono ?_)); rintro e w2 ⟨rfl, hb2⟩; have xm3 := keep_cell hb2 (Nat.le_refl _) (by first | exact xm3 | exact m3); have xm9 := keep_cell hb2 (Nat.le_refl _) (by first | exact xm9 | exact m9); have xc0 := keep_cell hb2 (Nat.le_refl _) (by first | exact xc0 | exact c0); have xc1 := keep_cell hb2 (Nat.le_refl _) (by first | exact xc1 | exact c1); have xq0 := keep_cell hb2 (Nat.le_refl _) (by first | exact xq0 | exact q0); have xq1 := keep_cell hb2 (Nat.le_refl _) (by first | exact xq1 | exact q1); have xq2 := keep_cell hb2 (Nat.le_refl _) (by first | exact xq2 | exact q2); have xq3 := keep_cell hb2 (Nat.le_refl _) (by first | exact xq3 | exact q3); have xu0 := keep_cell hb2 (Nat.le_refl _) (by first | exact xu0 | exact u0); have xu1 := keep_cell hb2 (Nat.le_refl _) (by first | exact xu1 | exact u1); have xu2 := keep_cell hb2 (Nat.le_refl _) (by first | exact xu2 | exact u2); have xu3 := keep_cell hb2 (Nat.le_refl _) (by first | exact xu3 | exact u3); have HZ := Lib.hid (Below.trans (B := w.heap.size) (by first | exact HZ.out | exact HY.out.drew | exact HY.out) (hb2.mono (by first | exact HZ.out.size | exact HY.out.size))); clear hb2)) | (go_at_call 47; ((with_reducible refine ((P1.out _ (by first | exact HZ.out | exact HY.out.drew | exact HY.out)).mono ?_)); rintro e w2 ⟨rfl, hb2⟩; have xm3 := keep_cell hb2 (Nat.le_refl _) (by first | exact xm3 | exact m3); have xm9 := keep_cell hb2 (Nat.le_refl _) (by first | exact xm9 | exact m9); have xc0 := keep_cell hb2 (Nat.le_refl _) (by first | exact xc0 | exact c0); have xc1 := keep_cell hb2 (Nat.le_refl _) (by first | exact xc1 | exact c1); have xq0 := keep_cell hb2 (Nat.le_refl _) (by first | exact xq0 | exact q0); have xq1 := keep_cell hb2 (Nat.le_refl _) (by first | exact xq1 | exact q1); have xq2 := keep_cell hb2 (Nat.le_refl _) (by first | exact xq2 | exact q2); have xq3 := keep_cell hb2 (Nat.le_refl _) (by first | exact xq3 | exact q3); have xu0 := keep_cell hb2 (Nat.le_refl _) (by first | exact xu0 | exact u0); have xu1 := keep_cell hb2 (Nat.le_refl _) (by first | exact xu1 | exact u1); have xu2 := keep_cell hb2 (Nat.le_refl _) (by first | exact xu2 | exact u2); have xu3 := keep_cell hb2 (Nat.le_refl _) (by first | exact xu3 | exact u3); have HZ := Lib.hid (Below.trans (B := w.heap.size) (by first | exact HZ.out | exact HY.out.drew | exact HY.out) (hb2.mono (by first | exact HZ.out.size | exact HY.out.size))); clear hb2)))
  all_goals (go_wp2_with fail; go_ret; refine ⟨?_, HZ.out⟩; rw [HWR.out]; rfl)
 | false =>
  try go_wp2
  have n0_ := Aside0.mk (Kd.R_drew HO183.out)
  have n1_ := Aside0.mk (blk_drew BK180.out)
  have n2_ := Aside0.mk (blk_drew BK189.out)
  have n3_ := Aside0.mk (below_drew1 HB.out)
  clear HO183
  clear BK180
  clear BK189
  clear HB
  have HO183 := n0_
  have BK180 := n1_
  have BK189 := n2_
  have HB := n3_
  clear n0_ n1_ n2_ n3_
  refine start_ (n := 10) (S := fun w' => w'.cell? ⟨gb180, 0, none⟩ = some (.int .u8 a0_0) ∧ w'.cell? ⟨gb180, 1, none⟩ = some (.int .i64 a0_1) ∧ w'.cell? ⟨gb180, 2, none⟩ = some (.string a0_2) ∧ w'.cell? ⟨gb180, 3, none⟩ = some (.slice A0_3 l0_3.length c0_3)) (ds := []) #[false, false, false, false, false, false, false, false, false, false] (by kernel_rfl) rfl rfl ⟨(blk_cell BK180.out 0).trans rfl, (blk_cell BK180.out 1).trans rfl, (blk_cell BK180.out 2).trans rfl, (blk_cell BK180.out 3).trans rfl⟩ (fun hHeld => ?_); refine with_tabW exprs_write.tab5 exprs_write.bits5 (fun HT_ HW_ => ?_)
  generalize w57.drew = w58 at HO183 BK180 BK189 HB hHeld ⊢
  refine pure_ (i := 1) (N := some 41) (v := ?_) (a' := ?_) #[false, true, false, false, false, false, false, false, false, false] rfl rfl (any_of HT_.out (by kernel_rfl)) (fun _ _ _ h => h) (Or.inl ⟨by rfl, ?_⟩) ?_ ?_
  rotate_left
  ·intro w'
   go_simp
   with_reducible rfl
  rotate_left
  ·simp only [Act.put, List.setIfInBounds_toArray, List.set_cons_zero, List.set_cons_succ, i64_w, i32_w]
   rfl
  refine take_ (i := 2) (N := some 42) (v := ?_) (a' := ?_) #[false, true, true, false, false, false, false, false, false, false] rfl rfl (take_ofW HT_.out HW_.out (by kernel_rfl)) (fun _ _ _ h => h) (Or.inl ⟨by rfl, ?_⟩) hHeld ?_ ?_
  rotate_left
  ·rintro w' ⟨s0, s1, s2, s3⟩
   go_simp
   with_reducible rfl
  rotate_left
  ·simp only [Act.put, List.setIfInBounds_toArray, List.set_cons_zero, List.set_cons_succ, i64_w, i32_w]
   rfl
  refine join_ (σ := Value × Nat) 2 #[true, true, true, true, true, true, true, true, false, false] (fun s_ => [(40, s_.1), (43, .tuple #[.agg #[.int .u8 t200, .int .i64 t201, .int .u8 t202, .string t203], .bool t204]), (6, .pointer (some ⟨s_.2, 0, none⟩)), (39, .tuple #[.agg #[.int .u8 t200, .int .i64 t201, .int .u8 t202, .string t203], .bool t204]), (44, .agg #[.int .u8 t200, .int .i64 t201, .int .u8 t202, .string t203]), (45, .bool t204)]) (fun s_ w' => (w'.cell? ⟨gb180, 0, none⟩ = some (.int .u8 a0_0) ∧ w'.cell? ⟨gb180, 1, none⟩ = some (.int .i64 a0_1) ∧ w'.cell? ⟨gb180, 2, none⟩ = some (.string a0_2) ∧ w'.cell? ⟨gb180, 3, none⟩ = some (.slice A0_3 l0_3.length c0_3)) ∧ (Kd.R k83 83 w' w.heap.size (fun k_ => some k_ ≠ (s_.1 : Value).ownBlock ∧ k_ ≠ gb189 ∧ k_ ≠ s_.2) v182 t181) ∧ (Kd.R k83 83 w' w.heap.size (fun k_ => some k_ ≠ (v182 : Value).ownBlock ∧ k_ ≠ gb189 ∧ k_ ≠ s_.2) s_.1 t197) ∧ (w'.heap[gb180]? = some (.cells #[.int .u8 a0_0, .int .i64 a0_1, .string a0_2, .slice A0_3 l0_3.length c0_3] 25 (0, 0))) ∧ (w'.heap[gb189]? = some (.cells #[.int .u8 t184, .int .i64 t185, .int .u8 t186, .string t187] 83 (0, 0))) ∧ (w'.heap[s_.2]? = some (.cells #[.int .u8 0, .int .i64 0, .int .u8 0, .string (⟨#[]⟩ : ByteArray)] 83 (0, 0))) ∧ (w.heap.size ≤ s_.2) ∧ (w.heap.size ≤ s_.2) ∧ (gb180 ≠ s_.2) ∧ (s_.2 ≠ gb180) ∧ (gb189 ≠ s_.2) ∧ (s_.2 ≠ gb189) ∧ (Below w.heap.size w w')) ?_ ?_
  rotate_left
  ·intro hCont
   refine two_ (i := 0) (j := 7) (Ni := some 40) (Nj := some 6) #[true, true, true, false, false, false, false, false, false, false] #[false, true, true, false, false, false, false, true, false, false] rfl rfl rfl rfl (two_of HT_.out (by kernel_rfl)) (by decide) (by decide) (fun K hK => ?_) (fun K hK => ?_)
   ·skip
    refine goes_ Tryd.func48 (by kernel_rfl) rfl #[] (by rfl) rfl rfl (by (try simp only [List.map_toArray, List.map_cons, List.map_nil]); first | done | rfl | (simp only [List.length_drop, List.length_take]; rfl)) ?_
    with_reducible refine (exprs_prefixes.calls  t197 _ A36.out).mono ?_
    rintro e w59 ⟨v198, rfl, ho0, hb⟩
    refine ⟨_, rfl, ?_⟩
    have n0_ := Aside0.mk (Kd.R_elder' (by (with_reducible repeat (first | apply Kd.R_alloc | apply Kd.R_drewN | apply Kd.R_drew)); exact HO183.out) (Kd.R_base ho0) hb)
    have n1_ := Aside0.mk (Kd.R_lower (Kd.R_newB (Kd.R_new' ho0 (Kd.R_lt (by (with_reducible repeat (first | apply Kd.R_alloc | apply Kd.R_drewN | apply Kd.R_drew)); exact HO183.out))) (g := gb189) (o := .cells #[.int .u8 t184, .int .i64 t185, .int .u8 t186, .string t187] 83 (0, 0)) (by (with_reducible repeat (first | refine blk_drewN ?_ _ | refine blk_drew ?_ | refine blk_alloc ?_ _)); exact BK189.out)) (below_size (by repeat (first | (with_reducible first | exact HB.out | apply below_alloc | apply pw_below_drewN | apply below_drew1 | refine below_set ?_ GE180.out | refine below_set ?_ GE189.out) | exact HB.out))))
    have n2_ := Aside0.mk (blk_below (g := gb180) (o := .cells #[.int .u8 a0_0, .int .i64 a0_1, .string a0_2, .slice A0_3 l0_3.length c0_3] 25 (0, 0)) (by (with_reducible repeat (first | refine blk_drewN ?_ _ | refine blk_drew ?_ | refine blk_alloc ?_ _)); exact BK180.out) hb)
    have n3_ := Aside0.mk (blk_below (g := gb189) (o := .cells #[.int .u8 t184, .int .i64 t185, .int .u8 t186, .string t187] 83 (0, 0)) (by (with_reducible repeat (first | refine blk_drewN ?_ _ | refine blk_drew ?_ | refine blk_alloc ?_ _)); exact BK189.out) hb)
    have n4_ := Aside0.mk (below_step (by repeat (first | (with_reducible first | exact HB.out | apply below_alloc | apply pw_below_drewN | apply below_drew1 | refine below_set ?_ GE180.out | refine below_set ?_ GE189.out) | exact HB.out)) hb)
    clear HO183
    clear BK180
    clear BK189
    clear HB
    have HO183 := n0_
    have HO199 := n1_
    have BK180 := n2_
    have BK189 := n3_
    have HB := n4_
    clear n0_ n1_ n2_ n3_ n4_
    (try clear hb)
    (try clear hb2)
    (try clear hk)
    (try clear hi)
    (try clear ho0)
    obtain ⟨Ao60, co60, eo60⟩ := Kd.R_slice HO199.out
    (first | subst eo60 | (injection eo60 with f1_ f2_ f3_; have f4_ := f1_.symm; have f5_ := f3_.symm; clear f1_ f2_ f3_; subst f4_; subst f5_))
    refine hK.out _ _ ⟨(blk_cell BK180.out 0).trans rfl, (blk_cell BK180.out 1).trans rfl, (blk_cell BK180.out 2).trans rfl, (blk_cell BK180.out 3).trans rfl⟩ (fun hHeld => ?_)
    clear hK K
    refine norm_ (a' := ?_) ?_ ?_
    rotate_left
    ·show Act.put _ (some 40) _ = _
     simp only [Act.put, List.setIfInBounds_toArray, List.set_cons_zero, List.set_cons_succ, i64_w, i32_w]
     rfl
    refine two_ (i := 3) (j := 7) (Ni := some 43) (Nj := some 6) #[true, true, true, true, false, false, false, false, false, false] #[true, true, true, false, false, false, false, true, false, false] rfl rfl rfl rfl (two_of HT_.out (by kernel_rfl)) (by decide) (by decide) (fun K hK => ?_) (fun K hK => ?_)
    ·skip
     refine goes_ Tryd.func44 (by kernel_rfl) rfl #[.slice Ao60 t197.length co60, .int .u8 a0_0] (by rfl) rfl rfl (by (try simp only [List.map_toArray, List.map_cons, List.map_nil]); first | done | rfl | (simp only [List.length_drop, List.length_take]; rfl)) ?_
     with_reducible refine (exprs_find.calls k _ _ t197 a0_0 t200 t201 t202 t203 t204 _ ?side1 ?side2 A37.out).mono ?_
     (case side1 => repeat (first | exact (Kd.R_reads' HO199.out).2.2 | (with_reducible refine Kd.C_alloc ?_ _) | (with_reducible refine Kd.C_drewN ?_ _) | (with_reducible refine Kd.C_drew ?_)))
     (case side2 => exact (Kd.R_reads' HO199.out).2.1)
     rintro e w61 ⟨rfl, hb⟩
     refine ⟨_, rfl, ?_⟩
     have n0_ := Aside0.mk (Kd.R_below (by (with_reducible repeat (first | apply Kd.R_alloc | apply Kd.R_drewN | apply Kd.R_drew)); exact HO183.out) hb)
     have n1_ := Aside0.mk (Kd.R_below (by (with_reducible repeat (first | apply Kd.R_alloc | apply Kd.R_drewN | apply Kd.R_drew)); exact HO199.out) hb)
     have n2_ := Aside0.mk (blk_below (g := gb180) (o := .cells #[.int .u8 a0_0, .int .i64 a0_1, .string a0_2, .slice A0_3 l0_3.length c0_3] 25 (0, 0)) (by (with_reducible repeat (first | refine blk_drewN ?_ _ | refine blk_drew ?_ | refine blk_alloc ?_ _)); exact BK180.out) hb)
     have n3_ := Aside0.mk (blk_below (g := gb189) (o := .cells #[.int .u8 t184, .int .i64 t185, .int .u8 t186, .string t187] 83 (0, 0)) (by (with_reducible repeat (first | refine blk_drewN ?_ _ | refine blk_drew ?_ | refine blk_alloc ?_ _)); exact BK189.out) hb)
     have n4_ := Aside0.mk (below_step (by repeat (first | (with_reducible first | exact HB.out | apply below_alloc | apply pw_below_drewN | apply below_drew1 | refine below_set ?_ GE180.out | refine below_set ?_ GE189.out) | exact HB.out)) hb)
     clear HO183
     clear HO199
     clear BK180
     clear BK189
     clear HB
     have HO183 := n0_
     have HO199 := n1_
     have BK180 := n2_
     have BK189 := n3_
     have HB := n4_
     clear n0_ n1_ n2_ n3_ n4_
     (try clear hb)
     (try clear hb2)
     (try clear hk)
     (try clear hi)
     refine hK.out _ _ ⟨(blk_cell BK180.out 0).trans rfl, (blk_cell BK180.out 1).trans rfl, (blk_cell BK180.out 2).trans rfl, (blk_cell BK180.out 3).trans rfl⟩ (fun hHeld => ?_)
     clear hK K
     refine norm_ (a' := ?_) ?_ ?_
     rotate_left
     ·show Act.put _ (some 43) _ = _
      simp only [Act.put, List.setIfInBounds_toArray, List.set_cons_zero, List.set_cons_succ, i64_w, i32_w]
      rfl
     refine pure_ (i := 4) (N := some 39) (v := ?_) (a' := ?_) #[true, true, true, true, true, false, false, false, false, false] rfl rfl (any_of HT_.out (by kernel_rfl)) (fun _ _ _ h => h) (Or.inl ⟨by rfl, ?_⟩) ?_ ?_
     rotate_left
     ·intro w'
      go_simp
      with_reducible rfl
     rotate_left
     ·simp only [Act.put, List.setIfInBounds_toArray, List.set_cons_zero, List.set_cons_succ, i64_w, i32_w]
      rfl
     refine pure_ (i := 5) (N := some 44) (v := ?_) (a' := ?_) #[true, true, true, true, true, true, false, false, false, false] rfl rfl (any_of HT_.out (by kernel_rfl)) (fun _ _ _ h => h) (Or.inl ⟨by rfl, ?_⟩) ?_ ?_
     rotate_left
     ·intro w'
      go_simp
      with_reducible rfl
     rotate_left
     ·simp only [Act.put, List.setIfInBounds_toArray, List.set_cons_zero, List.set_cons_succ, i64_w, i32_w]
      rfl
     refine pure_ (i := 6) (N := some 45) (v := ?_) (a' := ?_) #[true, true, true, true, true, true, true, false, false, false] rfl rfl (any_of HT_.out (by kernel_rfl)) (fun _ _ _ h => h) (Or.inl ⟨by rfl, ?_⟩) ?_ ?_
     rotate_left
     ·intro w'
      go_simp
      with_reducible rfl
     rotate_left
     ·simp only [Act.put, List.setIfInBounds_toArray, List.set_cons_zero, List.set_cons_succ, i64_w, i32_w]
      rfl
     refine one_ (i := 7) (N := some 6) #[true, true, true, true, true, true, true, true, false, false] rfl rfl (one_of HT_.out (by kernel_rfl)) (by decide) (fun K hK => ?_)
     refine box_step ?hg (N := 6) ?hd (cs := #[.int .u8 0, .int .i64 0, .int .u8 0, .string (⟨#[]⟩ : ByteArray)]) (t := 83) ?hr ?_; (case hd => rfl); (case hg => rfl); (case hr => first | (go_simp; done) | (go_simp; rfl))
     intro gb205 hg w62 hbox hb
     have n0_ := Aside0.mk (Kd.R_below (Kd.R_elderB (by (with_reducible repeat (first | apply Kd.R_alloc | apply Kd.R_drewN | apply Kd.R_drew)); exact HO183.out) gb205 (Nat.le_of_eq hg.symm)) hb)
     have n1_ := Aside0.mk (Kd.R_below (Kd.R_elderB (by (with_reducible repeat (first | apply Kd.R_alloc | apply Kd.R_drewN | apply Kd.R_drew)); exact HO199.out) gb205 (Nat.le_of_eq hg.symm)) hb)
     have n2_ := Aside0.mk (blk_below (g := gb180) (o := .cells #[.int .u8 a0_0, .int .i64 a0_1, .string a0_2, .slice A0_3 l0_3.length c0_3] 25 (0, 0)) (by (with_reducible repeat (first | refine blk_drewN ?_ _ | refine blk_drew ?_ | refine blk_alloc ?_ _)); exact BK180.out) hb)
     have n3_ := Aside0.mk (blk_below (g := gb189) (o := .cells #[.int .u8 t184, .int .i64 t185, .int .u8 t186, .string t187] 83 (0, 0)) (by (with_reducible repeat (first | refine blk_drewN ?_ _ | refine blk_drew ?_ | refine blk_alloc ?_ _)); exact BK189.out) hb)
     have n4_ := Aside0.mk (below_step (by repeat (first | (with_reducible first | exact HB.out | apply below_alloc | apply pw_below_drewN | apply below_drew1 | refine below_set ?_ GE180.out | refine below_set ?_ GE189.out) | exact HB.out)) hb)
     have n5_ := Aside0.mk (hbox)
     have n6_ := Aside0.mk ((by rw [hg]; exact (below_size (by repeat (first | (with_reducible first | exact HB.out | apply below_alloc | apply pw_below_drewN | apply below_drew1 | refine below_set ?_ GE180.out | refine below_set ?_ GE189.out) | exact HB.out))) : w.heap.size ≤ gb205))
     have n7_ := Aside0.mk ((by rw [hg]; exact (below_size (by repeat (first | (with_reducible first | exact HB.out | apply below_alloc | apply pw_below_drewN | apply below_drew1 | refine below_set ?_ GE180.out | refine below_set ?_ GE189.out) | exact HB.out))) : w.heap.size ≤ gb205))
     have n8_ := Aside0.mk ((by rw [hg]; exact Nat.ne_of_lt (blk_lt (g := gb180) (o := .cells #[.int .u8 a0_0, .int .i64 a0_1, .string a0_2, .slice A0_3 l0_3.length c0_3] 25 (0, 0)) (by (with_reducible repeat (first | refine blk_drewN ?_ _ | refine blk_drew ?_ | refine blk_alloc ?_ _)); exact BK180.out)) : gb180 ≠ gb205))
     have n9_ := Aside0.mk ((by rw [hg]; exact Nat.ne_of_gt (blk_lt (g := gb180) (o := .cells #[.int .u8 a0_0, .int .i64 a0_1, .string a0_2, .slice A0_3 l0_3.length c0_3] 25 (0, 0)) (by (with_reducible repeat (first | refine blk_drewN ?_ _ | refine blk_drew ?_ | refine blk_alloc ?_ _)); exact BK180.out)) : gb205 ≠ gb180))
     have n10_ := Aside0.mk ((by rw [hg]; exact Nat.ne_of_lt (blk_lt (g := gb189) (o := .cells #[.int .u8 t184, .int .i64 t185, .int .u8 t186, .string t187] 83 (0, 0)) (by (with_reducible repeat (first | refine blk_drewN ?_ _ | refine blk_drew ?_ | refine blk_alloc ?_ _)); exact BK189.out)) : gb189 ≠ gb205))
     have n11_ := Aside0.mk ((by rw [hg]; exact Nat.ne_of_gt (blk_lt (g := gb189) (o := .cells #[.int .u8 t184, .int .i64 t185, .int .u8 t186, .string t187] 83 (0, 0)) (by (with_reducible repeat (first | refine blk_drewN ?_ _ | refine blk_drew ?_ | refine blk_alloc ?_ _)); exact BK189.out)) : gb205 ≠ gb189))
     clear HO183
     clear HO199
     clear BK180
     clear BK189
     clear HB
     have HO183 := n0_
     have HO199 := n1_
     have BK180 := n2_
     have BK189 := n3_
     have HB := n4_
     have BK205 := n5_
     have GW205 := n6_
     have GE205 := n7_
     have NB180_205 := n8_
     have NB205_180 := n9_
     have NB189_205 := n10_
     have NB205_189 := n11_
     clear n0_ n1_ n2_ n3_ n4_ n5_ n6_ n7_ n8_ n9_ n10_ n11_
     clear hb hbox hg
     refine hK.out _ _ ⟨(blk_cell BK180.out 0).trans rfl, (blk_cell BK180.out 1).trans rfl, (blk_cell BK180.out 2).trans rfl, (blk_cell BK180.out 3).trans rfl⟩ (fun hHeld => ?_)
     clear hK K
     refine norm_ (a' := ?_) ?_ ?_
     rotate_left
     ·show Act.put _ (some 6) _ = _
      simp only [Act.put, List.setIfInBounds_toArray, List.set_cons_zero, List.set_cons_succ, i64_w, i32_w]
      rfl
     exact norm_ (by simp only [putAll, Act.put, List.setIfInBounds_toArray, List.set_cons_zero, List.set_cons_succ]) (hCont (.slice Ao60 t197.length co60, gb205) _ ⟨hHeld, (by (with_reducible repeat (first | apply Kd.R_alloc | apply Kd.R_drewN | apply Kd.R_drew)); exact Kd.R_mono HO183.out (fun _ hk => ⟨hk.1.2, ⟨hk.1.1, hk.2⟩⟩)), (by (with_reducible repeat (first | apply Kd.R_alloc | apply Kd.R_drewN | apply Kd.R_drew)); exact Kd.R_mono HO199.out (fun _ hk => ⟨hk.1.1.2, ⟨hk.1.2, hk.2⟩⟩)), (by (with_reducible repeat (first | refine blk_drewN ?_ _ | refine blk_drew ?_ | refine blk_alloc ?_ _)); exact BK180.out), (by (with_reducible repeat (first | refine blk_drewN ?_ _ | refine blk_drew ?_ | refine blk_alloc ?_ _)); exact BK189.out), (by (with_reducible repeat (first | refine blk_drewN ?_ _ | refine blk_drew ?_ | refine blk_alloc ?_ _)); exact BK205.out), GW205.out, GE205.out, NB180_205.out, NB205_180.out, NB189_205.out, NB205_189.out, (by repeat (first | (with_reducible first | exact HB.out | apply below_alloc | apply pw_below_drewN | apply below_drew1 | refine below_set ?_ GE180.out | refine below_set ?_ GE189.out | refine below_set ?_ GE205.out) | exact HB.out))⟩)
    ·skip
     refine box_step ?hg (N := 6) ?hd (cs := #[.int .u8 0, .int .i64 0, .int .u8 0, .string (⟨#[]⟩ : ByteArray)]) (t := 83) ?hr ?_; (case hd => rfl); (case hg => rfl); (case hr => first | (go_simp; done) | (go_simp; rfl))
     intro gb205 hg w60 hbox hb
     have n0_ := Aside0.mk (Kd.R_below (Kd.R_elderB (by (with_reducible repeat (first | apply Kd.R_alloc | apply Kd.R_drewN | apply Kd.R_drew)); exact HO183.out) gb205 (Nat.le_of_eq hg.symm)) hb)
     have n1_ := Aside0.mk (Kd.R_below (Kd.R_elderB (by (with_reducible repeat (first | apply Kd.R_alloc | apply Kd.R_drewN | apply Kd.R_drew)); exact HO199.out) gb205 (Nat.le_of_eq hg.symm)) hb)
     have n2_ := Aside0.mk (blk_below (g := gb180) (o := .cells #[.int .u8 a0_0, .int .i64 a0_1, .string a0_2, .slice A0_3 l0_3.length c0_3] 25 (0, 0)) (by (with_reducible repeat (first | refine blk_drewN ?_ _ | refine blk_drew ?_ | refine blk_alloc ?_ _)); exact BK180.out) hb)
     have n3_ := Aside0.mk (blk_below (g := gb189) (o := .cells #[.int .u8 t184, .int .i64 t185, .int .u8 t186, .string t187] 83 (0, 0)) (by (with_reducible repeat (first | refine blk_drewN ?_ _ | refine blk_drew ?_ | refine blk_alloc ?_ _)); exact BK189.out) hb)
     have n4_ := Aside0.mk (below_step (by repeat (first | (with_reducible first | exact HB.out | apply below_alloc | apply pw_below_drewN | apply below_drew1 | refine below_set ?_ GE180.out | refine below_set ?_ GE189.out) | exact HB.out)) hb)
     have n5_ := Aside0.mk (hbox)
     have n6_ := Aside0.mk ((by rw [hg]; exact (below_size (by repeat (first | (with_reducible first | exact HB.out | apply below_alloc | apply pw_below_drewN | apply below_drew1 | refine below_set ?_ GE180.out | refine below_set ?_ GE189.out) | exact HB.out))) : w.heap.size ≤ gb205))
     have n7_ := Aside0.mk ((by rw [hg]; exact (below_size (by repeat (first | (with_reducible first | exact HB.out | apply below_alloc | apply pw_below_drewN | apply below_drew1 | refine below_set ?_ GE180.out | refine below_set ?_ GE189.out) | exact HB.out))) : w.heap.size ≤ gb205))
     have n8_ := Aside0.mk ((by rw [hg]; exact Nat.ne_of_lt (blk_lt (g := gb180) (o := .cells #[.int .u8 a0_0, .int .i64 a0_1, .string a0_2, .slice A0_3 l0_3.length c0_3] 25 (0, 0)) (by (with_reducible repeat (first | refine blk_drewN ?_ _ | refine blk_drew ?_ | refine blk_alloc ?_ _)); exact BK180.out)) : gb180 ≠ gb205))
     have n9_ := Aside0.mk ((by rw [hg]; exact Nat.ne_of_gt (blk_lt (g := gb180) (o := .cells #[.int .u8 a0_0, .int .i64 a0_1, .string a0_2, .slice A0_3 l0_3.length c0_3] 25 (0, 0)) (by (with_reducible repeat (first | refine blk_drewN ?_ _ | refine blk_drew ?_ | refine blk_alloc ?_ _)); exact BK180.out)) : gb205 ≠ gb180))
     have n10_ := Aside0.mk ((by rw [hg]; exact Nat.ne_of_lt (blk_lt (g := gb189) (o := .cells #[.int .u8 t184, .int .i64 t185, .int .u8 t186, .string t187] 83 (0, 0)) (by (with_reducible repeat (first | refine blk_drewN ?_ _ | refine blk_drew ?_ | refine blk_alloc ?_ _)); exact BK189.out)) : gb189 ≠ gb205))
     have n11_ := Aside0.mk ((by rw [hg]; exact Nat.ne_of_gt (blk_lt (g := gb189) (o := .cells #[.int .u8 t184, .int .i64 t185, .int .u8 t186, .string t187] 83 (0, 0)) (by (with_reducible repeat (first | refine blk_drewN ?_ _ | refine blk_drew ?_ | refine blk_alloc ?_ _)); exact BK189.out)) : gb205 ≠ gb189))
     clear HO183
     clear HO199
     clear BK180
     clear BK189
     clear HB
     have HO183 := n0_
     have HO199 := n1_
     have BK180 := n2_
     have BK189 := n3_
     have HB := n4_
     have BK205 := n5_
     have GW205 := n6_
     have GE205 := n7_
     have NB180_205 := n8_
     have NB205_180 := n9_
     have NB189_205 := n10_
     have NB205_189 := n11_
     clear n0_ n1_ n2_ n3_ n4_ n5_ n6_ n7_ n8_ n9_ n10_ n11_
     clear hb hbox hg
     obtain ⟨Ao61, co61, eo61⟩ := Kd.R_slice HO199.out
     (first | subst eo61 | (injection eo61 with f1_ f2_ f3_; have f4_ := f1_.symm; have f5_ := f3_.symm; clear f1_ f2_ f3_; subst f4_; subst f5_))
     refine hK.out _ _ ⟨(blk_cell BK180.out 0).trans rfl, (blk_cell BK180.out 1).trans rfl, (blk_cell BK180.out 2).trans rfl, (blk_cell BK180.out 3).trans rfl⟩ (fun hHeld => ?_)
     clear hK K
     refine norm_ (a' := ?_) ?_ ?_
     rotate_left
     ·show Act.put _ (some 6) _ = _
      simp only [Act.put, List.setIfInBounds_toArray, List.set_cons_zero, List.set_cons_succ, i64_w, i32_w]
      rfl
     refine one_ (i := 3) (N := some 43) #[true, true, true, true, false, false, false, true, false, false] rfl rfl (one_of HT_.out (by kernel_rfl)) (by decide) (fun K hK => ?_)
     refine goes_ Tryd.func44 (by kernel_rfl) rfl #[.slice Ao61 t197.length co61, .int .u8 a0_0] (by rfl) rfl rfl (by (try simp only [List.map_toArray, List.map_cons, List.map_nil]); first | done | rfl | (simp only [List.length_drop, List.length_take]; rfl)) ?_
     with_reducible refine (exprs_find.calls k _ _ t197 a0_0 t200 t201 t202 t203 t204 _ ?side1 ?side2 A37.out).mono ?_
     (case side1 => repeat (first | exact (Kd.R_reads' HO199.out).2.2 | (with_reducible refine Kd.C_alloc ?_ _) | (with_reducible refine Kd.C_drewN ?_ _) | (with_reducible refine Kd.C_drew ?_)))
     (case side2 => exact (Kd.R_reads' HO199.out).2.1)
     rintro e w62 ⟨rfl, hb⟩
     refine ⟨_, rfl, ?_⟩
     have n0_ := Aside0.mk (Kd.R_below (by (with_reducible repeat (first | apply Kd.R_alloc | apply Kd.R_drewN | apply Kd.R_drew)); exact HO183.out) hb)
     have n1_ := Aside0.mk (Kd.R_below (by (with_reducible repeat (first | apply Kd.R_alloc | apply Kd.R_drewN | apply Kd.R_drew)); exact HO199.out) hb)
     have n2_ := Aside0.mk (blk_below (g := gb180) (o := .cells #[.int .u8 a0_0, .int .i64 a0_1, .string a0_2, .slice A0_3 l0_3.length c0_3] 25 (0, 0)) (by (with_reducible repeat (first | refine blk_drewN ?_ _ | refine blk_drew ?_ | refine blk_alloc ?_ _)); exact BK180.out) hb)
     have n3_ := Aside0.mk (blk_below (g := gb189) (o := .cells #[.int .u8 t184, .int .i64 t185, .int .u8 t186, .string t187] 83 (0, 0)) (by (with_reducible repeat (first | refine blk_drewN ?_ _ | refine blk_drew ?_ | refine blk_alloc ?_ _)); exact BK189.out) hb)
     have n4_ := Aside0.mk (blk_below (g := gb205) (o := .cells #[.int .u8 0, .int .i64 0, .int .u8 0, .string (⟨#[]⟩ : ByteArray)] 83 (0, 0)) (by (with_reducible repeat (first | refine blk_drewN ?_ _ | refine blk_drew ?_ | refine blk_alloc ?_ _)); exact BK205.out) hb)
     have n5_ := Aside0.mk (below_step (by repeat (first | (with_reducible first | exact HB.out | apply below_alloc | apply pw_below_drewN | apply below_drew1 | refine below_set ?_ GE180.out | refine below_set ?_ GE189.out | refine below_set ?_ GE205.out) | exact HB.out)) hb)
     clear HO183
     clear HO199
     clear BK180
     clear BK189
     clear BK205
     clear HB
     have HO183 := n0_
     have HO199 := n1_
     have BK180 := n2_
     have BK189 := n3_
     have BK205 := n4_
     have HB := n5_
     clear n0_ n1_ n2_ n3_ n4_ n5_
     (try clear hb)
     (try clear hb2)
     (try clear hk)
     (try clear hi)
     refine hK.out _ _ ⟨(blk_cell BK180.out 0).trans rfl, (blk_cell BK180.out 1).trans rfl, (blk_cell BK180.out 2).trans rfl, (blk_cell BK180.out 3).trans rfl⟩ (fun hHeld => ?_)
     clear hK K
     refine norm_ (a' := ?_) ?_ ?_
     rotate_left
     ·show Act.put _ (some 43) _ = _
      simp only [Act.put, List.setIfInBounds_toArray, List.set_cons_zero, List.set_cons_succ, i64_w, i32_w]
      rfl
     refine pure_ (i := 4) (N := some 39) (v := ?_) (a' := ?_) #[true, true, true, true, true, false, false, true, false, false] rfl rfl (any_of HT_.out (by kernel_rfl)) (fun _ _ _ h => h) (Or.inl ⟨by rfl, ?_⟩) ?_ ?_
     rotate_left
     ·intro w'
      go_simp
      with_reducible rfl
     rotate_left
     ·simp only [Act.put, List.setIfInBounds_toArray, List.set_cons_zero, List.set_cons_succ, i64_w, i32_w]
      rfl
     refine pure_ (i := 5) (N := some 44) (v := ?_) (a' := ?_) #[true, true, true, true, true, true, false, true, false, false] rfl rfl (any_of HT_.out (by kernel_rfl)) (fun _ _ _ h => h) (Or.inl ⟨by rfl, ?_⟩) ?_ ?_
     rotate_left
     ·intro w'
      go_simp
      with_reducible rfl
     rotate_left
     ·simp only [Act.put, List.setIfInBounds_toArray, List.set_cons_zero, List.set_cons_succ, i64_w, i32_w]
      rfl
     refine pure_ (i := 6) (N := some 45) (v := ?_) (a' := ?_) #[true, true, true, true, true, true, true, true, false, false] rfl rfl (any_of HT_.out (by kernel_rfl)) (fun _ _ _ h => h) (Or.inl ⟨by rfl, ?_⟩) ?_ ?_
     rotate_left
     ·intro w'
      go_simp
      with_reducible rfl
     rotate_left
     ·simp only [Act.put, List.setIfInBounds_toArray, List.set_cons_zero, List.set_cons_succ, i64_w, i32_w]
      rfl
     exact norm_ (by simp only [putAll, Act.put, List.setIfInBounds_toArray, List.set_cons_zero, List.set_cons_succ]) (hCont (.slice Ao61 t197.length co61, gb205) _ ⟨hHeld, (by (with_reducible repeat (first | apply Kd.R_alloc | apply Kd.R_drewN | apply Kd.R_drew)); exact Kd.R_mono HO183.out (fun _ hk => ⟨hk.1.2, ⟨hk.1.1, hk.2⟩⟩)), (by (with_reducible repeat (first | apply Kd.R_alloc | apply Kd.R_drewN | apply Kd.R_drew)); exact Kd.R_mono HO199.out (fun _ hk => ⟨hk.1.1.2, ⟨hk.1.2, hk.2⟩⟩)), (by (with_reducible repeat (first | refine blk_drewN ?_ _ | refine blk_drew ?_ | refine blk_alloc ?_ _)); exact BK180.out), (by (with_reducible repeat (first | refine blk_drewN ?_ _ | refine blk_drew ?_ | refine blk_alloc ?_ _)); exact BK189.out), (by (with_reducible repeat (first | refine blk_drewN ?_ _ | refine blk_drew ?_ | refine blk_alloc ?_ _)); exact BK205.out), GW205.out, GE205.out, NB180_205.out, NB205_180.out, NB189_205.out, NB205_189.out, (by repeat (first | (with_reducible first | exact HB.out | apply below_alloc | apply pw_below_drewN | apply below_drew1 | refine below_set ?_ GE180.out | refine below_set ?_ GE189.out | refine below_set ?_ GE205.out) | exact HB.out))⟩)
   ·skip
    refine box_step ?hg (N := 6) ?hd (cs := #[.int .u8 0, .int .i64 0, .int .u8 0, .string (⟨#[]⟩ : ByteArray)]) (t := 83) ?hr ?_; (case hd => rfl); (case hg => rfl); (case hr => first | (go_simp; done) | (go_simp; rfl))
    intro gb205 hg w59 hbox hb
    have n0_ := Aside0.mk (Kd.R_below (Kd.R_elderB (by (with_reducible repeat (first | apply Kd.R_alloc | apply Kd.R_drewN | apply Kd.R_drew)); exact HO183.out) gb205 (Nat.le_of_eq hg.symm)) hb)
    have n1_ := Aside0.mk (blk_below (g := gb180) (o := .cells #[.int .u8 a0_0, .int .i64 a0_1, .string a0_2, .slice A0_3 l0_3.length c0_3] 25 (0, 0)) (by (with_reducible repeat (first | refine blk_drewN ?_ _ | refine blk_drew ?_ | refine blk_alloc ?_ _)); exact BK180.out) hb)
    have n2_ := Aside0.mk (blk_below (g := gb189) (o := .cells #[.int .u8 t184, .int .i64 t185, .int .u8 t186, .string t187] 83 (0, 0)) (by (with_reducible repeat (first | refine blk_drewN ?_ _ | refine blk_drew ?_ | refine blk_alloc ?_ _)); exact BK189.out) hb)
    have n3_ := Aside0.mk (below_step (by repeat (first | (with_reducible first | exact HB.out | apply below_alloc | apply pw_below_drewN | apply below_drew1 | refine below_set ?_ GE180.out | refine below_set ?_ GE189.out) | exact HB.out)) hb)
    have n4_ := Aside0.mk (hbox)
    have n5_ := Aside0.mk ((by rw [hg]; exact (below_size (by repeat (first | (with_reducible first | exact HB.out | apply below_alloc | apply pw_below_drewN | apply below_drew1 | refine below_set ?_ GE180.out | refine below_set ?_ GE189.out) | exact HB.out))) : w.heap.size ≤ gb205))
    have n6_ := Aside0.mk ((by rw [hg]; exact (below_size (by repeat (first | (with_reducible first | exact HB.out | apply below_alloc | apply pw_below_drewN | apply below_drew1 | refine below_set ?_ GE180.out | refine below_set ?_ GE189.out) | exact HB.out))) : w.heap.size ≤ gb205))
    have n7_ := Aside0.mk ((by rw [hg]; exact Nat.ne_of_lt (blk_lt (g := gb180) (o := .cells #[.int .u8 a0_0, .int .i64 a0_1, .string a0_2, .slice A0_3 l0_3.length c0_3] 25 (0, 0)) (by (with_reducible repeat (first | refine blk_drewN ?_ _ | refine blk_drew ?_ | refine blk_alloc ?_ _)); exact BK180.out)) : gb180 ≠ gb205))
    have n8_ := Aside0.mk ((by rw [hg]; exact Nat.ne_of_gt (blk_lt (g := gb180) (o := .cells #[.int .u8 a0_0, .int .i64 a0_1, .string a0_2, .slice A0_3 l0_3.length c0_3] 25 (0, 0)) (by (with_reducible repeat (first | refine blk_drewN ?_ _ | refine blk_drew ?_ | refine blk_alloc ?_ _)); exact BK180.out)) : gb205 ≠ gb180))
    have n9_ := Aside0.mk ((by rw [hg]; exact Nat.ne_of_lt (blk_lt (g := gb189) (o := .cells #[.int .u8 t184, .int .i64 t185, .int .u8 t186, .string t187] 83 (0, 0)) (by (with_reducible repeat (first | refine blk_drewN ?_ _ | refine blk_drew ?_ | refine blk_alloc ?_ _)); exact BK189.out)) : gb189 ≠ gb205))
    have n10_ := Aside0.mk ((by rw [hg]; exact Nat.ne_of_gt (blk_lt (g := gb189) (o := .cells #[.int .u8 t184, .int .i64 t185, .int .u8 t186, .string t187] 83 (0, 0)) (by (with_reducible repeat (first | refine blk_drewN ?_ _ | refine blk_drew ?_ | refine blk_alloc ?_ _)); exact BK189.out)) : gb205 ≠ gb189))
    clear HO183
    clear BK180
    clear BK189
    clear HB
    have HO183 := n0_
    have BK180 := n1_
    have BK189 := n2_
    have HB := n3_
    have BK205 := n4_
    have GW205 := n5_
    have GE205 := n6_
    have NB180_205 := n7_
    have NB205_180 := n8_
    have NB189_205 := n9_
    have NB205_189 := n10_
    clear n0_ n1_ n2_ n3_ n4_ n5_ n6_ n7_ n8_ n9_ n10_
    clear hb hbox hg
    refine hK.out _ _ ⟨(blk_cell BK180.out 0).trans rfl, (blk_cell BK180.out 1).trans rfl, (blk_cell BK180.out 2).trans rfl, (blk_cell BK180.out 3).trans rfl⟩ (fun hHeld => ?_)
    clear hK K
    refine norm_ (a' := ?_) ?_ ?_
    rotate_left
    ·show Act.put _ (some 6) _ = _
     simp only [Act.put, List.setIfInBounds_toArray, List.set_cons_zero, List.set_cons_succ, i64_w, i32_w]
     rfl
    refine one_ (i := 0) (N := some 40) #[true, true, true, false, false, false, false, true, false, false] rfl rfl (one_of HT_.out (by kernel_rfl)) (by decide) (fun K hK => ?_)
    refine goes_ Tryd.func48 (by kernel_rfl) rfl #[] (by rfl) rfl rfl (by (try simp only [List.map_toArray, List.map_cons, List.map_nil]); first | done | rfl | (simp only [List.length_drop, List.length_take]; rfl)) ?_
    with_reducible refine (exprs_prefixes.calls  t197 _ A36.out).mono ?_
    rintro e w60 ⟨v198, rfl, ho0, hb⟩
    refine ⟨_, rfl, ?_⟩
    have n0_ := Aside0.mk (Kd.R_elder' (by (with_reducible repeat (first | apply Kd.R_alloc | apply Kd.R_drewN | apply Kd.R_drew)); exact HO183.out) (Kd.R_base ho0) hb)
    have n1_ := Aside0.mk (Kd.R_lower (Kd.R_newB (Kd.R_newB (Kd.R_new' ho0 (Kd.R_lt (by (with_reducible repeat (first | apply Kd.R_alloc | apply Kd.R_drewN | apply Kd.R_drew)); exact HO183.out))) (g := gb189) (o := .cells #[.int .u8 t184, .int .i64 t185, .int .u8 t186, .string t187] 83 (0, 0)) (by (with_reducible repeat (first | refine blk_drewN ?_ _ | refine blk_drew ?_ | refine blk_alloc ?_ _)); exact BK189.out)) (g := gb205) (o := .cells #[.int .u8 0, .int .i64 0, .int .u8 0, .string (⟨#[]⟩ : ByteArray)] 83 (0, 0)) (by (with_reducible repeat (first | refine blk_drewN ?_ _ | refine blk_drew ?_ | refine blk_alloc ?_ _)); exact BK205.out)) (below_size (by repeat (first | (with_reducible first | exact HB.out | apply below_alloc | apply pw_below_drewN | apply below_drew1 | refine below_set ?_ GE180.out | refine below_set ?_ GE189.out | refine below_set ?_ GE205.out) | exact HB.out))))
    have n2_ := Aside0.mk (blk_below (g := gb180) (o := .cells #[.int .u8 a0_0, .int .i64 a0_1, .string a0_2, .slice A0_3 l0_3.length c0_3] 25 (0, 0)) (by (with_reducible repeat (first | refine blk_drewN ?_ _ | refine blk_drew ?_ | refine blk_alloc ?_ _)); exact BK180.out) hb)
    have n3_ := Aside0.mk (blk_below (g := gb189) (o := .cells #[.int .u8 t184, .int .i64 t185, .int .u8 t186, .string t187] 83 (0, 0)) (by (with_reducible repeat (first | refine blk_drewN ?_ _ | refine blk_drew ?_ | refine blk_alloc ?_ _)); exact BK189.out) hb)
    have n4_ := Aside0.mk (blk_below (g := gb205) (o := .cells #[.int .u8 0, .int .i64 0, .int .u8 0, .string (⟨#[]⟩ : ByteArray)] 83 (0, 0)) (by (with_reducible repeat (first | refine blk_drewN ?_ _ | refine blk_drew ?_ | refine blk_alloc ?_ _)); exact BK205.out) hb)
    have n5_ := Aside0.mk (below_step (by repeat (first | (with_reducible first | exact HB.out | apply below_alloc | apply pw_below_drewN | apply below_drew1 | refine below_set ?_ GE180.out | refine below_set ?_ GE189.out | refine below_set ?_ GE205.out) | exact HB.out)) hb)
    clear HO183
    clear BK180
    clear BK189
    clear BK205
    clear HB
    have HO183 := n0_
    have HO199 := n1_
    have BK180 := n2_
    have BK189 := n3_
    have BK205 := n4_
    have HB := n5_
    clear n0_ n1_ n2_ n3_ n4_ n5_
    (try clear hb)
    (try clear hb2)
    (try clear hk)
    (try clear hi)
    (try clear ho0)
    obtain ⟨Ao61, co61, eo61⟩ := Kd.R_slice HO199.out
    (first | subst eo61 | (injection eo61 with f1_ f2_ f3_; have f4_ := f1_.symm; have f5_ := f3_.symm; clear f1_ f2_ f3_; subst f4_; subst f5_))
    refine hK.out _ _ ⟨(blk_cell BK180.out 0).trans rfl, (blk_cell BK180.out 1).trans rfl, (blk_cell BK180.out 2).trans rfl, (blk_cell BK180.out 3).trans rfl⟩ (fun hHeld => ?_)
    clear hK K
    refine norm_ (a' := ?_) ?_ ?_
    rotate_left
    ·show Act.put _ (some 40) _ = _
     simp only [Act.put, List.setIfInBounds_toArray, List.set_cons_zero, List.set_cons_succ, i64_w, i32_w]
     rfl
    refine one_ (i := 3) (N := some 43) #[true, true, true, true, false, false, false, true, false, false] rfl rfl (one_of HT_.out (by kernel_rfl)) (by decide) (fun K hK => ?_)
    refine goes_ Tryd.func44 (by kernel_rfl) rfl #[.slice Ao61 t197.length co61, .int .u8 a0_0] (by rfl) rfl rfl (by (try simp only [List.map_toArray, List.map_cons, List.map_nil]); first | done | rfl | (simp only [List.length_drop, List.length_take]; rfl)) ?_
    with_reducible refine (exprs_find.calls k _ _ t197 a0_0 t200 t201 t202 t203 t204 _ ?side1 ?side2 A37.out).mono ?_
    (case side1 => repeat (first | exact (Kd.R_reads' HO199.out).2.2 | (with_reducible refine Kd.C_alloc ?_ _) | (with_reducible refine Kd.C_drewN ?_ _) | (with_reducible refine Kd.C_drew ?_)))
    (case side2 => exact (Kd.R_reads' HO199.out).2.1)
    rintro e w62 ⟨rfl, hb⟩
    refine ⟨_, rfl, ?_⟩
    have n0_ := Aside0.mk (Kd.R_below (by (with_reducible repeat (first | apply Kd.R_alloc | apply Kd.R_drewN | apply Kd.R_drew)); exact HO183.out) hb)
    have n1_ := Aside0.mk (Kd.R_below (by (with_reducible repeat (first | apply Kd.R_alloc | apply Kd.R_drewN | apply Kd.R_drew)); exact HO199.out) hb)
    have n2_ := Aside0.mk (blk_below (g := gb180) (o := .cells #[.int .u8 a0_0, .int .i64 a0_1, .string a0_2, .slice A0_3 l0_3.length c0_3] 25 (0, 0)) (by (with_reducible repeat (first | refine blk_drewN ?_ _ | refine blk_drew ?_ | refine blk_alloc ?_ _)); exact BK180.out) hb)
    have n3_ := Aside0.mk (blk_below (g := gb189) (o := .cells #[.int .u8 t184, .int .i64 t185, .int .u8 t186, .string t187] 83 (0, 0)) (by (with_reducible repeat (first | refine blk_drewN ?_ _ | refine blk_drew ?_ | refine blk_alloc ?_ _)); exact BK189.out) hb)
    have n4_ := Aside0.mk (blk_below (g := gb205) (o := .cells #[.int .u8 0, .int .i64 0, .int .u8 0, .string (⟨#[]⟩ : ByteArray)] 83 (0, 0)) (by (with_reducible repeat (first | refine blk_drewN ?_ _ | refine blk_drew ?_ | refine blk_alloc ?_ _)); exact BK205.out) hb)
    have n5_ := Aside0.mk (below_step (by repeat (first | (with_reducible first | exact HB.out | apply below_alloc | apply pw_below_drewN | apply below_drew1 | refine below_set ?_ GE180.out | refine below_set ?_ GE189.out | refine below_set ?_ GE205.out) | exact HB.out)) hb)
    clear HO183
    clear HO199
    clear BK180
    clear BK189
    clear BK205
    clear HB
    have HO183 := n0_
    have HO199 := n1_
    have BK180 := n2_
    have BK189 := n3_
    have BK205 := n4_
    have HB := n5_
    clear n0_ n1_ n2_ n3_ n4_ n5_
    (try clear hb)
    (try clear hb2)
    (try clear hk)
    (try clear hi)
    refine hK.out _ _ ⟨(blk_cell BK180.out 0).trans rfl, (blk_cell BK180.out 1).trans rfl, (blk_cell BK180.out 2).trans rfl, (blk_cell BK180.out 3).trans rfl⟩ (fun hHeld => ?_)
    clear hK K
    refine norm_ (a' := ?_) ?_ ?_
    rotate_left
    ·show Act.put _ (some 43) _ = _
     simp only [Act.put, List.setIfInBounds_toArray, List.set_cons_zero, List.set_cons_succ, i64_w, i32_w]
     rfl
    refine pure_ (i := 4) (N := some 39) (v := ?_) (a' := ?_) #[true, true, true, true, true, false, false, true, false, false] rfl rfl (any_of HT_.out (by kernel_rfl)) (fun _ _ _ h => h) (Or.inl ⟨by rfl, ?_⟩) ?_ ?_
    rotate_left
    ·intro w'
     go_simp
     with_reducible rfl
    rotate_left
    ·simp only [Act.put, List.setIfInBounds_toArray, List.set_cons_zero, List.set_cons_succ, i64_w, i32_w]
     rfl
    refine pure_ (i := 5) (N := some 44) (v := ?_) (a' := ?_) #[true, true, true, true, true, true, false, true, false, false] rfl rfl (any_of HT_.out (by kernel_rfl)) (fun _ _ _ h => h) (Or.inl ⟨by rfl, ?_⟩) ?_ ?_
    rotate_left
    ·intro w'
     go_simp
     with_reducible rfl
    rotate_left
    ·simp only [Act.put, List.setIfInBounds_toArray, List.set_cons_zero, List.set_cons_succ, i64_w, i32_w]
     rfl
    refine pure_ (i := 6) (N := some 45) (v := ?_) (a' := ?_) #[true, true, true, true, true, true, true, true, false, false] rfl rfl (any_of HT_.out (by kernel_rfl)) (fun _ _ _ h => h) (Or.inl ⟨by rfl, ?_⟩) ?_ ?_
    rotate_left
    ·intro w'
     go_simp
     with_reducible rfl
    rotate_left
    ·simp only [Act.put, List.setIfInBounds_toArray, List.set_cons_zero, List.set_cons_succ, i64_w, i32_w]
     rfl
    exact norm_ (by simp only [putAll, Act.put, List.setIfInBounds_toArray, List.set_cons_zero, List.set_cons_succ]) (hCont (.slice Ao61 t197.length co61, gb205) _ ⟨hHeld, (by (with_reducible repeat (first | apply Kd.R_alloc | apply Kd.R_drewN | apply Kd.R_drew)); exact Kd.R_mono HO183.out (fun _ hk => ⟨hk.2, ⟨hk.1.1, hk.1.2⟩⟩)), (by (with_reducible repeat (first | apply Kd.R_alloc | apply Kd.R_drewN | apply Kd.R_drew)); exact Kd.R_mono HO199.out (fun _ hk => ⟨hk.1.1.2, ⟨hk.1.2, hk.2⟩⟩)), (by (with_reducible repeat (first | refine blk_drewN ?_ _ | refine blk_drew ?_ | refine blk_alloc ?_ _)); exact BK180.out), (by (with_reducible repeat (first | refine blk_drewN ?_ _ | refine blk_drew ?_ | refine blk_alloc ?_ _)); exact BK189.out), (by (with_reducible repeat (first | refine blk_drewN ?_ _ | refine blk_drew ?_ | refine blk_alloc ?_ _)); exact BK205.out), GW205.out, GE205.out, NB180_205.out, NB205_180.out, NB189_205.out, NB205_189.out, (by repeat (first | (with_reducible first | exact HB.out | apply below_alloc | apply pw_below_drewN | apply below_drew1 | refine below_set ?_ GE180.out | refine below_set ?_ GE189.out | refine below_set ?_ GE205.out) | exact HB.out))⟩)
  rintro ⟨v198, gb205⟩ w63 ⟨hS_, h0_, h1_, h2_, h3_, h4_, h5_, h6_, h7_, h8_, h9_, h10_, h11_⟩
  have n0_ : Aside0 (Kd.R k83 83 w63 w.heap.size (fun k_ => some k_ ≠ (v198 : Value).ownBlock ∧ k_ ≠ gb189 ∧ k_ ≠ gb205) v182 t181) := ⟨h0_⟩
  have n1_ : Aside0 (Kd.R k83 83 w63 w.heap.size (fun k_ => some k_ ≠ (v182 : Value).ownBlock ∧ k_ ≠ gb189 ∧ k_ ≠ gb205) v198 t197) := ⟨h1_⟩
  have n2_ : Aside0 (w63.heap[gb180]? = some (.cells #[.int .u8 a0_0, .int .i64 a0_1, .string a0_2, .slice A0_3 l0_3.length c0_3] 25 (0, 0))) := ⟨h2_⟩
  have n3_ : Aside0 (w63.heap[gb189]? = some (.cells #[.int .u8 t184, .int .i64 t185, .int .u8 t186, .string t187] 83 (0, 0))) := ⟨h3_⟩
  have n4_ : Aside0 (w63.heap[gb205]? = some (.cells #[.int .u8 0, .int .i64 0, .int .u8 0, .string (⟨#[]⟩ : ByteArray)] 83 (0, 0))) := ⟨h4_⟩
  have n5_ : Aside0 (w.heap.size ≤ gb205) := ⟨h5_⟩
  have n6_ : Aside0 (w.heap.size ≤ gb205) := ⟨h6_⟩
  have n7_ : Aside0 (gb180 ≠ gb205) := ⟨h7_⟩
  have n8_ : Aside0 (gb205 ≠ gb180) := ⟨h8_⟩
  have n9_ : Aside0 (gb189 ≠ gb205) := ⟨h9_⟩
  have n10_ : Aside0 (gb205 ≠ gb189) := ⟨h10_⟩
  have n11_ : Aside0 (Below w.heap.size w w63) := ⟨h11_⟩
  clear HO183
  clear BK180
  clear BK189
  clear HB
  clear h0_ h1_ h2_ h3_ h4_ h5_ h6_ h7_ h8_ h9_ h10_ h11_
  have HO183 := n0_
  have HO199 := n1_
  have BK180 := n2_
  have BK189 := n3_
  have BK205 := n4_
  have GW205 := n5_
  have GE205 := n6_
  have NB180_205 := n7_
  have NB205_180 := n8_
  have NB189_205 := n9_
  have NB205_189 := n10_
  have HB := n11_
  clear n0_ n1_ n2_ n3_ n4_ n5_ n6_ n7_ n8_ n9_ n10_ n11_
  have hHeld : w63.cell? ⟨gb180, 0, none⟩ = some (.int .u8 a0_0) ∧ w63.cell? ⟨gb180, 1, none⟩ = some (.int .i64 a0_1) ∧ w63.cell? ⟨gb180, 2, none⟩ = some (.string a0_2) ∧ w63.cell? ⟨gb180, 3, none⟩ = some (.slice A0_3 l0_3.length c0_3) := hS_
  refine norm_ (a' := ?_) ?_ ?_
  rotate_left
  ·simp only [putAll, Act.put, List.setIfInBounds_toArray, List.set_cons_zero, List.set_cons_succ]
   rfl
  refine one_ (i := 8) (N := none) #[true, true, true, true, true, true, true, true, true, false] rfl rfl (one_of HT_.out (by kernel_rfl)) (by decide) (fun K hK => ?_)
  have hs64 : w63.cell? ⟨gb205, 0, none⟩ = some (.int .u8 0) := (blk_cell BK205.out 0).trans rfl
  have hfs64 := blk_frozen BK205.out 0
  have hns64_0 := NB180_205.out
  have hns64_1 := NB189_205.out
  have hms64_0 := NB205_180.out
  have hms64_1 := NB205_189.out
  have hs65 : w63.cell? ⟨gb205, 1, none⟩ = some (.int .i64 0) := (blk_cell BK205.out 1).trans rfl
  have hfs65 := blk_frozen BK205.out 1
  have hns65_0 := NB180_205.out
  have hns65_1 := NB189_205.out
  have hms65_0 := NB205_180.out
  have hms65_1 := NB205_189.out
  have hs66 : w63.cell? ⟨gb205, 2, none⟩ = some (.int .u8 0) := (blk_cell BK205.out 2).trans rfl
  have hfs66 := blk_frozen BK205.out 2
  have hns66_0 := NB180_205.out
  have hns66_1 := NB189_205.out
  have hms66_0 := NB205_180.out
  have hms66_1 := NB205_189.out
  have hs67 : w63.cell? ⟨gb205, 3, none⟩ = some (.string (⟨#[]⟩ : ByteArray)) := (blk_cell BK205.out 3).trans rfl
  have hfs67 := blk_frozen BK205.out 3
  have hns67_0 := NB180_205.out
  have hns67_1 := NB189_205.out
  have hms67_0 := NB205_180.out
  have hms67_1 := NB205_189.out
  refine skip_ (w1 := ?_) (by rfl) rfl ?_ ?_
  rotate_left
  ·go_simp
   rfl
  refine hK.out _ _ ⟨((cell_far (p := ⟨gb205, _, none⟩) NB180_205.out _).trans (((cell_far (p := ⟨gb205, _, none⟩) NB180_205.out _).trans (((cell_far (p := ⟨gb205, _, none⟩) NB180_205.out _).trans (((cell_far (p := ⟨gb205, _, none⟩) NB180_205.out _).trans (hHeld.1)))))))), ((cell_far (p := ⟨gb205, _, none⟩) NB180_205.out _).trans (((cell_far (p := ⟨gb205, _, none⟩) NB180_205.out _).trans (((cell_far (p := ⟨gb205, _, none⟩) NB180_205.out _).trans (((cell_far (p := ⟨gb205, _, none⟩) NB180_205.out _).trans (hHeld.2.1)))))))), ((cell_far (p := ⟨gb205, _, none⟩) NB180_205.out _).trans (((cell_far (p := ⟨gb205, _, none⟩) NB180_205.out _).trans (((cell_far (p := ⟨gb205, _, none⟩) NB180_205.out _).trans (((cell_far (p := ⟨gb205, _, none⟩) NB180_205.out _).trans (hHeld.2.2.1)))))))), ((cell_far (p := ⟨gb205, _, none⟩) NB180_205.out _).trans (((cell_far (p := ⟨gb205, _, none⟩) NB180_205.out _).trans (((cell_far (p := ⟨gb205, _, none⟩) NB180_205.out _).trans (((cell_far (p := ⟨gb205, _, none⟩) NB180_205.out _).trans (hHeld.2.2.2))))))))⟩ (fun hHeld => ?_)
  clear hK K
  refine pure_ (i := 9) (N := some 7) (v := ?_) (a' := ?_) #[true, true, true, true, true, true, true, true, true, true] rfl rfl (any_of HT_.out (by kernel_rfl)) (fun _ _ _ h => h) (Or.inl ⟨by rfl, ?_⟩) ?_ ?_
  rotate_left
  ·intro w'
   go_simp
   with_reducible rfl
  rotate_left
  ·simp only [Act.put, List.setIfInBounds_toArray, List.set_cons_zero, List.set_cons_succ, i64_w, i32_w]
   rfl
  refine done_ (done_of HT_.out (by kernel_rfl)) ?_
  have n1_ : Aside0 (((((w63.setCell ⟨gb205, 0, none⟩ (.int .u8 t200)).setCell ⟨gb205, 1, none⟩ (.int .i64 t201)).setCell ⟨gb205, 2, none⟩ (.int .u8 t202)).setCell ⟨gb205, 3, none⟩ (.string t203)).heap[gb180]? = some (.cells #[.int .u8 a0_0, .int .i64 a0_1, .string a0_2, .slice A0_3 l0_3.length c0_3] 25 (0, 0))) := ⟨by (with_reducible repeat (first | refine blk_drewN ?_ _ | refine blk_drew ?_ | refine blk_alloc ?_ _)); refine blk_far ?_ NB180_205.out _; (with_reducible repeat (first | refine blk_drewN ?_ _ | refine blk_drew ?_ | refine blk_alloc ?_ _)); refine blk_far ?_ NB180_205.out _; (with_reducible repeat (first | refine blk_drewN ?_ _ | refine blk_drew ?_ | refine blk_alloc ?_ _)); refine blk_far ?_ NB180_205.out _; (with_reducible repeat (first | refine blk_drewN ?_ _ | refine blk_drew ?_ | refine blk_alloc ?_ _)); refine blk_far ?_ NB180_205.out _; (with_reducible repeat (first | refine blk_drewN ?_ _ | refine blk_drew ?_ | refine blk_alloc ?_ _)); exact BK180.out⟩
  have n2_ : Aside0 (((((w63.setCell ⟨gb205, 0, none⟩ (.int .u8 t200)).setCell ⟨gb205, 1, none⟩ (.int .i64 t201)).setCell ⟨gb205, 2, none⟩ (.int .u8 t202)).setCell ⟨gb205, 3, none⟩ (.string t203)).heap[gb205]? = some (.cells #[.int .u8 t200, .int .i64 t201, .int .u8 t202, .string t203] 83 (0, 0))) := ⟨by (with_reducible repeat (first | refine blk_drewN ?_ _ | refine blk_drew ?_ | refine blk_alloc ?_ _)); refine blk_put (cs := #[.int .u8 t200, .int .i64 t201, .int .u8 t202, .string (⟨#[]⟩ : ByteArray)]) ?_ 3 _ rfl; (with_reducible repeat (first | refine blk_drewN ?_ _ | refine blk_drew ?_ | refine blk_alloc ?_ _)); refine blk_put (cs := #[.int .u8 t200, .int .i64 t201, .int .u8 0, .string (⟨#[]⟩ : ByteArray)]) ?_ 2 _ rfl; (with_reducible repeat (first | refine blk_drewN ?_ _ | refine blk_drew ?_ | refine blk_alloc ?_ _)); refine blk_put (cs := #[.int .u8 t200, .int .i64 0, .int .u8 0, .string (⟨#[]⟩ : ByteArray)]) ?_ 1 _ rfl; (with_reducible repeat (first | refine blk_drewN ?_ _ | refine blk_drew ?_ | refine blk_alloc ?_ _)); refine blk_put (cs := #[.int .u8 0, .int .i64 0, .int .u8 0, .string (⟨#[]⟩ : ByteArray)]) ?_ 0 _ rfl; (with_reducible repeat (first | refine blk_drewN ?_ _ | refine blk_drew ?_ | refine blk_alloc ?_ _)); exact BK205.out⟩
  have n3_ : Aside0 (Below w.heap.size w ((((w63.setCell ⟨gb205, 0, none⟩ (.int .u8 t200)).setCell ⟨gb205, 1, none⟩ (.int .i64 t201)).setCell ⟨gb205, 2, none⟩ (.int .u8 t202)).setCell ⟨gb205, 3, none⟩ (.string t203))) := ⟨by repeat (first | (with_reducible first | exact HB.out | apply below_alloc | apply pw_below_drewN | apply below_drew1 | refine below_set ?_ GE180.out | refine below_set ?_ GE189.out | refine below_set ?_ GE205.out) | exact HB.out)⟩
  generalize ((((w63.setCell ⟨gb205, 0, none⟩ (.int .u8 t200)).setCell ⟨gb205, 1, none⟩ (.int .i64 t201)).setCell ⟨gb205, 2, none⟩ (.int .u8 t202)).setCell ⟨gb205, 3, none⟩ (.string t203)) = wz at n1_ n2_ n3_ ⊢
  clear BK180 BK205 HB
  have BK180 := n1_
  have BK205 := n2_
  have HB := n3_
  clear n1_ n2_ n3_
  have hf0 := foundF_none HF1.out
  have HF0 := Lib.hid hf0
  clear hf0
  cases t204 with
  | true =>
   obtain ⟨f, hf, rfl, rfl, rfl, rfl⟩ := foundF_some HF2.out
   obtain ⟨a, hxs, ha⟩ := ok_one HOK.out HF0.out hf
   subst hxs
   have hwr : wr (d + 1) ⟨a0_0, a0_1, a0_2, [a]⟩ = prefW f (partW (wr d) a 6) := by
    simp only [wr]; rw [HF0.out, hf]; rfl
   have g0 := part_size HNM.out ha (wf_sub HWF.out a (by simp)) (by have := HL.out; omega) 6
   have gt := form_text (.inr (findL_op hf).2)
   have hk := pref_some hf
   have HA := Lib.hid ha; have HWR := Lib.hid hwr
   have HLA : Hid (l - 1 ≤ 200) := Lib.hid (by have := HL.out; omega)
   clear ha hwr hf
   obtain ⟨ad, A3, c3, hAd, q0, q1, q2, q3, hl3, hC3⟩ := at_T25 HR0_3.out 0 (by omega) (by simp)
   subst hAd
   change w.cell? _ = some (.int .u8 a.f0) at q0
   change w.cell? _ = some (.int .i64 a.f1) at q1
   change w.cell? _ = some (.string a.f2) at q2
   change w.cell? _ = some (.slice A3 a.f3.length c3) at q3
   change a.f3.length ≤ c3 at hl3
   change Kd.C k25 w A3 a.f3.length a.f3 at hC3
   have HC3 := Lib.hid hC3; have HL3 := Lib.hid hl3
   clear hC3 hl3
   rw [show (Int.toNat 0 * 4) = 0 from rfl, Addr.add_zero'] at q0
   rw [show (Int.toNat 0 * 4) = 0 from rfl, Addr.add_zero'] at q1
   rw [show (Int.toNat 0 * 4) = 0 from rfl, Addr.add_zero'] at q2
   rw [show (Int.toNat 0 * 4) = 0 from rfl, Addr.add_zero'] at q3
   replace q0 := keep_cell HB.out (Nat.le_refl _) q0
   replace q1 := keep_cell HB.out (Nat.le_refl _) q1
   replace q2 := keep_cell HB.out (Nat.le_refl _) q2
   replace q3 := keep_cell HB.out (Nat.le_refl _) q3
   obtain ⟨e0, e1, e2, e3⟩ := box_cells BK180.out
   have e8 : wz.cell? ⟨gb205, 2, none⟩ = some (.int .u8 f.f2) := (blk_cell BK205.out 2).trans rfl
   have e9 : wz.cell? ⟨gb205, 3, none⟩ = some (.string f.f3) := (blk_cell BK205.out 3).trans rfl
   clear BK180 BK205 HO183
   go_wp2_with fail
   refine (HP.out a 6 _ _ A3 c3 _ HA.out HLA.out (wf_sub HWF.out a (by simp)) HL3.out (Kd.C_below HC3.out HB.out) (HV.out.step HB.out)).mono ?_
   rintro e w3 ⟨rfl, hb3⟩
   have HB3 := Lib.hid (HB.out.trans (hb3.mono HB.out.size))
   have m8 := keep_cell hb3 (Nat.le_refl _) e8
   have m9 := keep_cell hb3 (Nat.le_refl _) e9
   clear hb3 e0 e1 e2 e3 e8 e9 q0 q1 q2 q3 HB
   generalize partW (wr d) a 6 = p0 at *
   have z1 : (9223372036854775807 < f.f3.size + p0.size) = False := eq_false (by omega)
   have z2 : (9223372036854775807 < f.f3.size + 1) = False := eq_false (by omega)
   have z3 : (9223372036854775807 < f.f3.size + 1 + p0.size) = False := eq_false (by omega)
   have hpw : prefW f p0 = if f.f2 = 3 ∧ Lib.hasPrefix p0.data.toList f.f3.data.toList = false then f.f3 ++ p0 else (f.f3 ++ sp) ++ p0 := rfl
   have HPW := Lib.hid hpw
   clear hpw
   rcases hk with hk | hk
   ·have e3 : (f.f2 == 3) = false := by rw [hk]; rfl
    have HK := Lib.hid hk
    clear hk
    go_wp2_with fail
    go_ret
    refine ⟨?_, HB3.out⟩
    rw [HWR.out, HPW.out, if_neg (fun h => by have := HK.out; omega)]
    rfl
   ·have e3 : (f.f2 == 3) = true := by rw [hk]; rfl
    have HK := Lib.hid hk
    clear hk
    go_wp2_with fail
    refine (Tryd.strings_HasPrefix p0 f.f3 _).mono ?_
    rintro e w4 ⟨rfl, rfl⟩
    cases hx : Lib.hasPrefix p0.data.toList f.f3.data.toList with
    | true =>
     have HX := Lib.hid hx
     clear hx
     go_wp2_with fail
     go_ret
     refine ⟨?_, HB3.out⟩
     rw [HWR.out, HPW.out, if_neg (fun h => by rw [HX.out] at h; exact absurd h.2 (by simp))]
     rfl
    | false =>
     have HX := Lib.hid hx
     clear hx
     go_wp2_with fail
     go_ret
     refine ⟨?_, HB3.out⟩
     rw [HWR.out, HPW.out, if_pos ⟨HK.out, HX.out⟩]
     rfl
  | false =>
   have hf := foundF_none HF2.out
   have hcs := ok_leaf HOK.out HF0.out hf
   have HF := Lib.hid hf
   obtain ⟨e0, e1, e2, e3⟩ := box_cells BK180.out
   clear BK180 BK205 HO183 hf
   rcases hcs with ⟨rfl, hn0⟩ | rfl | rfl | ⟨rfl, a, b, c, l1, l2, hxs, ha, hb, hc⟩
   ·have hwr : wr (d + 1) ⟨1, a0_1, a0_2, l0_3⟩ = ⟨(Lib.itoa a0_1).toArray⟩ := rfl
    have HWR := Lib.hid hwr
    have hn1 : a0_1 ≤ 9223372036854775807 := by have := HWF.out; cases this; assumption
    clear hwr
    go_wp2_with fail
    refine (Tryd.strconv_FormatInt_10 a0_1 (by omega) hn1 _ (HV.out.step HB.out)).mono ?_
    rintro e w3 ⟨rfl, kk, os, rfl⟩
    have HB3 := Lib.hid (HB.out.trans ((below_grow wz kk os).mono HB.out.size))
    go_wp2_with fail
    go_ret
    exact ⟨by rw [HWR.out]; rfl, HB3.out⟩
   ·have hwr : wr (d + 1) ⟨2, a0_1, a0_2, l0_3⟩ = boolW (a0_1 == 1) := by
     have e : (a0_1 == 1) = decide (a0_1 = 1) := by by_cases h : a0_1 = 1 <;> simp [h]
     rw [e]; rfl
    have HWR := Lib.hid hwr
    clear hwr
    go_wp2_with fail
    refine (Tryd.strconv_FormatBool (a0_1 == 1) _).mono ?_
    rintro e w3 ⟨rfl, rfl⟩
    go_wp2_with fail
    go_ret
    refine ⟨?_, HB.out⟩
    rw [HWR.out, boolW_is]
    rfl
   ·have hwr : wr (d + 1) ⟨3, a0_1, a0_2, l0_3⟩ = a0_2 := rfl
    have HWR := Lib.hid hwr
    clear hwr
    go_wp2_with fail
    go_ret
    exact ⟨by rw [HWR.out]; rfl, HB.out⟩
   ·subst hxs
    have hwr : wr (d + 1) ⟨17, a0_1, a0_2, [a, b, c]⟩ = ((((⟨#[105, 102, 32]⟩ : ByteArray) ++ partW (wr d) a 0) ++ (⟨#[32, 116, 104, 101, 110, 32]⟩ : ByteArray)) ++ partW (wr d) b 0) ++ (⟨#[32, 101, 108, 115, 101, 32]⟩ : ByteArray) ++ partW (wr d) c 0 := rfl
    have hl1 := ha.lt
    have hl2 := hb.lt
    have g0 := part_size HNM.out ha (wf_sub HWF.out a (by simp)) (by have := HL.out; omega) 0
    have g1 := part_size HNM.out hb (wf_sub HWF.out b (by simp)) (by have := HL.out; omega) 0
    have g2 := part_size HNM.out hc (wf_sub HWF.out c (by simp)) (by have := HL.out; omega) 0
    have HA := Lib.hid ha; have HBB := Lib.hid hb; have HCC := Lib.hid hc; have HWR := Lib.hid hwr
    have HLA : Hid (l - 1 ≤ 200) := Lib.hid (by have := HL.out; omega)
    have HLB : Hid (l1 ≤ 200) := Lib.hid (by have := HL.out; omega)
    have HLC : Hid (l2 ≤ 200) := Lib.hid (by have := HL.out; omega)
    clear ha hb hc hwr hl1 hl2
    obtain ⟨ad0, A3, c3, hAd0, q0, q1, q2, q3, hl3, hC3⟩ := at_T25 HR0_3.out 0 (by omega) (by simp)
    obtain ⟨ad1, A4, c4, hAd1, u0, u1, u2, u3, hl4, hC4⟩ := at_T25 HR0_3.out 1 (by omega) (by simp)
    obtain ⟨ad2, A5, c5, hAd2, v0, v1, v2, v3, hl5, hC5⟩ := at_T25 HR0_3.out 2 (by omega) (by simp)
    subst hAd0
    injection hAd1 with hAd1
    subst hAd1
    injection hAd2 with hAd2
    subst hAd2
    change w.cell? _ = some (.int .u8 a.f0) at q0
    rw [show (Int.toNat 0 * 4) = 0 from rfl, Addr.add_zero'] at q0
    change w.cell? _ = some (.int .i64 a.f1) at q1
    rw [show (Int.toNat 0 * 4) = 0 from rfl, Addr.add_zero'] at q1
    change w.cell? _ = some (.string a.f2) at q2
    rw [show (Int.toNat 0 * 4) = 0 from rfl, Addr.add_zero'] at q2
    change w.cell? _ = some (.slice A3 a.f3.length c3) at q3
    rw [show (Int.toNat 0 * 4) = 0 from rfl, Addr.add_zero'] at q3
    change a.f3.length ≤ c3 at hl3
    change Kd.C k25 w A3 a.f3.length a.f3 at hC3
    change w.cell? _ = some (.int .u8 b.f0) at u0
    rw [show (Int.toNat 1 * 4) = 4 from rfl, show ad0.add 4 = ⟨ad0.block, ad0.off + 4, none⟩ from rfl] at u0
    change w.cell? _ = some (.int .i64 b.f1) at u1
    rw [show (Int.toNat 1 * 4) = 4 from rfl, show ad0.add 4 = ⟨ad0.block, ad0.off + 4, none⟩ from rfl] at u1
    change w.cell? _ = some (.string b.f2) at u2
    rw [show (Int.toNat 1 * 4) = 4 from rfl, show ad0.add 4 = ⟨ad0.block, ad0.off + 4, none⟩ from rfl] at u2
    change w.cell? _ = some (.slice A4 b.f3.length c4) at u3
    rw [show (Int.toNat 1 * 4) = 4 from rfl, show ad0.add 4 = ⟨ad0.block, ad0.off + 4, none⟩ from rfl] at u3
    change b.f3.length ≤ c4 at hl4
    change Kd.C k25 w A4 b.f3.length b.f3 at hC4
    change w.cell? _ = some (.int .u8 c.f0) at v0
    rw [show (Int.toNat 2 * 4) = 8 from rfl, show ad0.add 8 = ⟨ad0.block, ad0.off + 8, none⟩ from rfl] at v0
    change w.cell? _ = some (.int .i64 c.f1) at v1
    rw [show (Int.toNat 2 * 4) = 8 from rfl, show ad0.add 8 = ⟨ad0.block, ad0.off + 8, none⟩ from rfl] at v1
    change w.cell? _ = some (.string c.f2) at v2
    rw [show (Int.toNat 2 * 4) = 8 from rfl, show ad0.add 8 = ⟨ad0.block, ad0.off + 8, none⟩ from rfl] at v2
    change w.cell? _ = some (.slice A5 c.f3.length c5) at v3
    rw [show (Int.toNat 2 * 4) = 8 from rfl, show ad0.add 8 = ⟨ad0.block, ad0.off + 8, none⟩ from rfl] at v3
    change c.f3.length ≤ c5 at hl5
    change Kd.C k25 w A5 c.f3.length c.f3 at hC5
    have HC3 := Lib.hid hC3; have HC4 := Lib.hid hC4; have HC5 := Lib.hid hC5; have HL3 := Lib.hid hl3; have HL4 := Lib.hid hl4; have HL5 := Lib.hid hl5
    clear hC3 hC4 hC5 hl3 hl4 hl5
    replace q0 := keep_cell HB.out (Nat.le_refl _) q0
    replace q1 := keep_cell HB.out (Nat.le_refl _) q1
    replace q2 := keep_cell HB.out (Nat.le_refl _) q2
    replace q3 := keep_cell HB.out (Nat.le_refl _) q3
    replace u0 := keep_cell HB.out (Nat.le_refl _) u0
    replace u1 := keep_cell HB.out (Nat.le_refl _) u1
    replace u2 := keep_cell HB.out (Nat.le_refl _) u2
    replace u3 := keep_cell HB.out (Nat.le_refl _) u3
    replace v0 := keep_cell HB.out (Nat.le_refl _) v0
    replace v1 := keep_cell HB.out (Nat.le_refl _) v1
    replace v2 := keep_cell HB.out (Nat.le_refl _) v2
    replace v3 := keep_cell HB.out (Nat.le_refl _) v3
    have HY := Lib.hid HB.out
    clear HB
    have P0 := Lib.hid (fun (W : World) (hb : Below w.heap.size w W) => HP.out a 0 _ _ A3 c3 W HA.out HLA.out (wf_sub HWF.out a (by simp)) HL3.out (Kd.C_below HC3.out hb) (HV.out.step hb))
    have P1 := Lib.hid (fun (W : World) (hb : Below w.heap.size w W) => HP.out b 0 _ _ A4 c4 W HBB.out HLB.out (wf_sub HWF.out b (by simp)) HL4.out (Kd.C_below HC4.out hb) (HV.out.step hb))
    have P2 := Lib.hid (fun (W : World) (hb : Below w.heap.size w W) => HP.out c 0 _ _ A5 c5 W HCC.out HLC.out (wf_sub HWF.out c (by simp)) HL5.out (Kd.C_below HC5.out hb) (HV.out.step hb))

    go_wp2_with fail
    generalize partW (wr d) a 0 = p0 at *
    generalize partW (wr d) b 0 = p1 at *
    generalize partW (wr d) c 0 = p2 at *
    have z1 : (9223372036854775807 < 3 + p0.size) = False := eq_false (by omega)
    have z2 : (9223372036854775807 < 3 + p0.size + 6) = False := eq_false (by omega)
    have z3 : (9223372036854775807 < 3 + p0.size + 6 + p1.size) = False := eq_false (by omega)
    have z4 : (9223372036854775807 < 3 + p0.size + 6 + p1.size + 6) = False := eq_false (by omega)
    have z5 : (9223372036854775807 < 3 + p0.size + 6 + p1.size + 6 + p2.size) = False := eq_false (by omega)
    go_region_held3 (fun w' => w'.cell? ⟨gb180, 3, none⟩ = some (.slice (some ad0) [a, b, c].length c0_3) ∧ w'.cell? ad0 = some (.int .u8 a.f0) ∧ w'.cell? ⟨ad0.block, ad0.off + 1, none⟩ = some (.int .i64 a.f1) ∧ w'.cell? ⟨ad0.block, ad0.off + 2, none⟩ = some (.string a.f2) ∧ w'.cell? ⟨ad0.block, ad0.off + 3, none⟩ = some (.slice A3 a.f3.length c3) ∧ w'.cell? ⟨ad0.block, ad0.off + 4, none⟩ = some (.int .u8 b.f0) ∧ w'.cell? ⟨ad0.block, ad0.off + 4 + 1, none⟩ = some (.int .i64 b.f1) ∧ w'.cell? ⟨ad0.block, ad0.off + 4 + 2, none⟩ = some (.string b.f2) ∧ w'.cell? ⟨ad0.block, ad0.off + 4 + 3, none⟩ = some (.slice A4 b.f3.length c4) ∧ w'.cell? ⟨ad0.block, ad0.off + 8, none⟩ = some (.int .u8 c.f0) ∧ w'.cell? ⟨ad0.block, ad0.off + 8 + 1, none⟩ = some (.int .i64 c.f1) ∧ w'.cell? ⟨ad0.block, ad0.off + 8 + 2, none⟩ = some (.string c.f2) ∧ w'.cell? ⟨ad0.block, ad0.off + 8 + 3, none⟩ = some (.slice A5 c.f3.length c5)) (first | (exact ⟨xe3, xq0, xq1, xq2, xq3, xu0, xu1, xu2, xu3, xv0, xv1, xv2, xv3⟩) | go_keep) (first | (go_at_call 47; ((with_reducible refine ((P0.out _ (by first | exact HZ.out | exact HY.out.drew | exact HY.out)).mono ?_)); rintro e w2 ⟨rfl, hb2⟩; have xe3 := keep_cell hb2 (Nat.le_refl _) (by first | exact xe3 | exact e3); have xq0 := keep_cell hb2 (Nat.le_refl _) (by first | exact xq0 | exact q0); have xq1 := keep_cell hb2 (Nat.le_refl _) (by first | exact xq1 | exact q1); have xq2 := keep_cell hb2 (Nat.le_refl _) (by first | exact xq2 | exact q2); have xq3 := keep_cell hb2 (Nat.le_refl _) (by first | exact xq3 | exact q3); have xu0 := keep_cell hb2 (Nat.le_refl _) (by first | exact xu0 | exact u0); have xu1 := keep_cell hb2 (Nat.le_refl _) (by first | exact xu1 | exact u1); have xu2 := keep_cell hb2 (Nat.le_refl _) (by first | exact xu2 | exact u2); have xu3 := keep_cell hb2 (Nat.le_refl _) (by first | exact xu3 | exact u3); have xv0 := keep_cell hb2 (Nat.le_refl _) (by first | exact xv0 | exact v0); have xv1 := keep_cell hb2 (Nat.le_refl _) (by first | exact xv1 | exact v1); have xv2 := keep_cell hb2 (Nat.le_refl _) (by first | exact xv2 | exact v2); have xv3 := keep_cell hb2 (Nat.le_refl _) (by first | exact xv3 | exact v3); have HZ := Lib.hid (Below.trans (B := w.heap.size) (by first | exact HZ.out | exact HY.out.drew | exact HY.out) (hb2.mono (by first | exact HZ.out.size | exact HY.out.size))); clear hb2)) | (go_at_call 47; ((with_reducible refine ((P1.out _ (by first | exact HZ.out | exact HY.out.drew | exact HY.out)).mono ?_)); rintro e w2 ⟨rfl, hb2⟩; have xe3 := keep_cell hb2 (Nat.le_refl _) (by first | exact xe3 | exact e3); have xq0 := keep_cell hb2 (Nat.le_refl _) (by first | exact xq0 | exact q0); have xq1 := keep_cell hb2 (Nat.le_refl _) (by first | exact xq1 | exact q1); have xq2 := keep_cell hb2 (Nat.le_refl _) (by first | exact xq2 | exact q2); have xq3 := keep_cell hb2 (Nat.le_refl _) (by first | exact xq3 | exact q3); have xu0 := keep_cell hb2 (Nat.le_refl _) (by first | exact xu0 | exact u0); have xu1 := keep_cell hb2 (Nat.le_refl _) (by first | exact xu1 | exact u1); have xu2 := keep_cell hb2 (Nat.le_refl _) (by first | exact xu2 | exact u2); have xu3 := keep_cell hb2 (Nat.le_refl _) (by first | exact xu3 | exact u3); have xv0 := keep_cell hb2 (Nat.le_refl _) (by first | exact xv0 | exact v0); have xv1 := keep_cell hb2 (Nat.le_refl _) (by first | exact xv1 | exact v1); have xv2 := keep_cell hb2 (Nat.le_refl _) (by first | exact xv2 | exact v2); have xv3 := keep_cell hb2 (Nat.le_refl _) (by first | exact xv3 | exact v3); have HZ := Lib.hid (Below.trans (B := w.heap.size) (by first | exact HZ.out | exact HY.out.drew | exact HY.out) (hb2.mono (by first | exact HZ.out.size | exact HY.out.size))); clear hb2)) | (go_at_call 47; ((with_reducible refine ((P2.out _ (by first | exact HZ.out | exact HY.out.drew | exact HY.out)).mono ?_)); rintro e w2 ⟨rfl, hb2⟩; have xe3 := keep_cell hb2 (Nat.le_refl _) (by first | exact xe3 | exact e3); have xq0 := keep_cell hb2 (Nat.le_refl _) (by first | exact xq0 | exact q0); have xq1 := keep_cell hb2 (Nat.le_refl _) (by first | exact xq1 | exact q1); have xq2 := keep_cell hb2 (Nat.le_refl _) (by first | exact xq2 | exact q2); have xq3 := keep_cell hb2 (Nat.le_refl _) (by first | exact xq3 | exact q3); have xu0 := keep_cell hb2 (Nat.le_refl _) (by first | exact xu0 | exact u0); have xu1 := keep_cell hb2 (Nat.le_refl _) (by first | exact xu1 | exact u1); have xu2 := keep_cell hb2 (Nat.le_refl _) (by first | exact xu2 | exact u2); have xu3 := keep_cell hb2 (Nat.le_refl _) (by first | exact xu3 | exact u3); have xv0 := keep_cell hb2 (Nat.le_refl _) (by first | exact xv0 | exact v0); have xv1 := keep_cell hb2 (Nat.le_refl _) (by first | exact xv1 | exact v1); have xv2 := keep_cell hb2 (Nat.le_refl _) (by first | exact xv2 | exact v2); have xv3 := keep_cell hb2 (Nat.le_refl _) (by first | exact xv3 | exact v3); have HZ := Lib.hid (Below.trans (B := w.heap.size) (by first | exact HZ.out | exact HY.out.drew | exact HY.out) (hb2.mono (by first | exact HZ.out.size | exact HY.out.size))); clear hb2)))
    all_goals (go_wp2_with fail; go_ret; refine ⟨?_, HZ.out⟩; rw [HWR.out]; rfl)
end Go.Proofs.YtbdciibbgiphcaaDoor.V

/- exprs.part, exprs.write at every depth, exprs.Text: walks. -/
namespace Go.Proofs.YtbdciibbgiphcaaDoor.V
set_option linter.unusedVariables false
set_option linter.unusedSimpArgs false
set_option linter.unusedSectionVars false
open Go.RowKit Go.Proofs.YtbdciibbgiphcaaDoorW.PrintWords Go.Proofs.YtbdciibbgiphcaaDoorW.PrintLast Go.Proofs.YtbdciibbgiphcaaDoorW.PrintMore
def WriteIs (nm : ByteArray → Bool) (d : Nat) : Prop := ∀ (x : S25) (l l' : Int) (A : Option Addr) (c : Nat) (W : World), Ok nm d x l l' → l ≤ 200 → WfE x → x.f3.length ≤ c → Kd.C k25 W A x.f3.length x.f3 → VarT W →
  Calls Tryd.prog 31 #[.agg #[.int .u8 x.f0, .int .i64 x.f1, .string x.f2, .slice A x.f3.length c]] W fun e w' => e = .returned (.string (wr d x)) ∧ Below W.heap.size W w'
set_option maxHeartbeats 2000000 in
set_option maxRecDepth 100000 in
theorem part_walk (nm : ByteArray → Bool) (hnm : ∀ s, nm s = true → s.size ≤ 40) (d : Nat) (hw : WriteIs nm d) : PartIs nm d := by
 intro x least l l' A c w hok hl hwf hc hC hv
 have hsz := wr_size hnm hok hwf
 have hlt := hok.lt
 have hs : (wr d x).size ≤ 12000 := by omega
 have HW := Lib.hid (hw x l l' A c _ hok hl hwf hc (Kd.C_below hC ((Below.refl _ _).alloc (Nat.le_refl _) (.cells #[.int .u8 x.f0, .int .i64 x.f1, .string x.f2, .slice A x.f3.length c] 25))) (hv.step ((Below.refl _ _).alloc (Nat.le_refl _) _)))
 clear hw hok hl hwf hC hv hsz hlt
 have hpw : partW (wr d) x least = if rankOf x.f0 < least then ((⟨#[40]⟩ : ByteArray) ++ wr d x) ++ (⟨#[41]⟩ : ByteArray) else wr d x := rfl
 have HPW := Lib.hid hpw
 clear hpw
 generalize wr d x = t at *
 have z1 : (9223372036854775807 < 1 + t.size) = False := eq_false (by omega)
 have z2 : (9223372036854775807 < 1 + t.size + 1) = False := eq_false (by omega)
 have hk := heap_alloc_new w (.cells #[.int .u8 x.f0, .int .i64 x.f1, .string x.f2, .slice A x.f3.length c] 25)
 obtain ⟨e0, e1, e2, e3⟩ := box_cells hk
 have E0 := Lib.hid e0
 clear hk e0 e1 e2 e3
 go_enter Tryd.func47, Tryd.ntmps47
 go_wp2_with fail
 refine HW.out.mono ?_
 rintro e w2 ⟨rfl, hb2⟩
 have HB2 := Lib.hid (((Below.refl w.heap.size w).alloc (Nat.le_refl _) (.cells #[.int .u8 x.f0, .int .i64 x.f1, .string x.f2, .slice A x.f3.length c] 25)).trans (hb2.mono (by simp)))
 have b0 := keep_cell hb2 (Nat.le_refl _) E0.out
 clear hb2
 go_wp2_with fail
 refine (rankOf_any x.f0 _).mono ?_
 rintro e w3 ⟨rfl, hb3⟩
 have HB3 := Lib.hid (HB2.out.trans (hb3.mono HB2.out.size))
 clear hb3
 generalize rankOf x.f0 = rk at *
 by_cases hr : rk < least
 ·go_wp2_with fail
  go_ret
  exact ⟨by rw [HPW.out, if_pos hr]; rfl, HB3.out⟩
 ·go_wp2_with fail
  go_ret
  exact ⟨by rw [HPW.out, if_neg (by omega)]; rfl, HB3.out⟩
theorem no_ok0 {nm : ByteArray → Bool} {x : S25} {l l' : Int} (h : Ok nm 0 x l l') : False := by cases h
theorem write_all (nm : ByteArray → Bool) (hnm : ∀ s, nm s = true → s.size ≤ 40) : ∀ d, WriteIs nm d ∧ PartIs nm d
 | 0 => ⟨fun x l l' A c W h => (no_ok0 h).elim, fun x k l l' A c W h => (no_ok0 h).elim⟩
 | d + 1 => by
  have ih := write_all nm hnm d
  have hw : WriteIs nm (d + 1) := by
   intro x l l' A c W hok hl hwf hc hC hv
   obtain ⟨o, n, s, xs⟩ := x
   exact write_walk nm hnm d ih.2 o n s A c xs l l' W hok hl hwf hc hC hv
  exact ⟨hw, part_walk nm hnm (d + 1) hw⟩
/-- P5.2. -/
def textE (nm : ByteArray → Bool) (x : S25) : ByteArray × Int := if okE nm x = true then (wr 32 x, 0) else (⟨#[]⟩, 1)
set_option maxHeartbeats 2000000 in
set_option maxRecDepth 100000 in
theorem Text_walk (nm : ByteArray → Bool) (hnm : NameIs nm) (hn40 : ∀ s, nm s = true → s.size ≤ 40) (x : S25) (A : Option Addr) (c : Nat) (w : World) (hwf : WfE x) (hc : x.f3.length ≤ c) (hC : Kd.C k25 w A x.f3.length x.f3) (hv : VarT w) :
  Calls Tryd.prog 12 #[.agg #[.int .u8 x.f0, .int .i64 x.f1, .string x.f2, .slice A x.f3.length c]] w fun e w' => e = .returned (.tuple #[.string (textE nm x).1, .int .i64 (textE nm x).2]) ∧ Below w.heap.size w w' := by
 have hb0 : Below w.heap.size w (w.alloc (.cells #[.int .u8 x.f0, .int .i64 x.f1, .string x.f2, .slice A x.f3.length c] 25)) := (Below.refl _ _).alloc (Nat.le_refl _) _
 have HB0 := Lib.hid hb0
 have hk := heap_alloc_new w (.cells #[.int .u8 x.f0, .int .i64 x.f1, .string x.f2, .slice A x.f3.length c] 25)
 have HK := Lib.hid hk
 have HC := Lib.hid hC; have HN := Lib.hid hnm; have HN4 := Lib.hid hn40; have HV := Lib.hid hv; have HWF := Lib.hid hwf
 clear hb0 hk hC hnm hn40 hv hwf
 go_enter Tryd.func12, Tryd.ntmps12
 go_wp2_with fail
 refine (Check_walk nm HN.out x A c _ hc (Kd.C_below HC.out HB0.out)).mono ?_
 rintro e w2 ⟨rfl, hb2⟩
 have HB2 := Lib.hid (HB0.out.trans (hb2.mono HB0.out.size))
 obtain ⟨b0, b1, b2, b3⟩ := box_cells ((hb2.block _ (by simp)).trans HK.out)
 clear hb2
 cases hx : okE nm x with
 | true =>
  obtain ⟨l', hok⟩ := ok_okE hx
  have HX := Lib.hid hx; have HOK := Lib.hid hok
  clear hx hok
  go_wp2_with fail
  refine ((write_all nm HN4.out 32).1 x 200 l' A c _ HOK.out (by omega) HWF.out hc (Kd.C_below HC.out HB2.out) (HV.out.step HB2.out)).mono ?_
  rintro e w3 ⟨rfl, hb3⟩
  have HB3 := Lib.hid (HB2.out.trans (hb3.mono HB2.out.size))
  clear hb3
  go_wp2_with fail
  go_ret2
  exact ⟨by unfold textE; rw [if_pos HX.out]; rfl, HB3.out⟩
 | false =>
  have HX := Lib.hid hx
  clear hx
  go_wp2_with fail
  go_ret2
  exact ⟨by unfold textE; rw [if_neg (by rw [HX.out]; simp)]; rfl, HB2.out⟩
end Go.Proofs.YtbdciibbgiphcaaDoor.V
