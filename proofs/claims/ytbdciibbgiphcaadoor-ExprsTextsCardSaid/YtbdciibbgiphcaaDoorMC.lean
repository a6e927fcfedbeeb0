/- The reference's Digits, Check, ranks and signs. Joined by wip/merge.py (ours) from several texts of this seat. -/
import Derived.Test.YtbdciibbgiphcaaDoorMA
import Derived.Deep.RegionHeld3
import Derived.Lib.ItoaMem
import Derived.Lib.ItoaLen
import Derived.Lib.Hide
import Derived.Test.YtbdciibbgiphcaaDoorMB
/- the reference's Digits: walk. -/
namespace Go.Proofs.YtbdciibbgiphcaaDoor.V
set_option linter.unusedVariables false
set_option linter.unusedSimpArgs false
set_option linter.unusedSectionVars false
open Go.RowKit Go.Proofs.YtbdciibbgiphcaaDoorW.PrintWords Go.Proofs.YtbdciibbgiphcaaDoorW.PrintLast Go.Proofs.YtbdciibbgiphcaaDoorW.PrintMore
def itoB (a : Int) : ByteArray := ⟨(Lib.itoa a).toArray⟩
theorem itoa_step (a : Int) (h : 10 ≤ a) : Lib.itoa a = Lib.itoa (a.tdiv 10) ++ [UInt8.ofNat (48 + (a.tmod 10).toNat)] := by
 obtain ⟨n, rfl⟩ := Int.eq_ofNat_of_zero_le (show 0 ≤ a by omega)
 have e1 : ((n : Int).tdiv 10) = ((n / 10 : Nat) : Int) := by rw [Int.tdiv_eq_ediv_of_nonneg (by omega)]; omega
 have e2 : ((n : Int).tmod 10) = ((n % 10 : Nat) : Int) := by rw [Int.tmod_eq_emod_of_nonneg (by omega)]; omega
 rw [e1, e2, Lib.itoa_nonneg, Lib.itoa_nonneg, Lib.decDigits, dif_neg (by omega), Int.toNat_natCast]
theorem itoa_stepN (a : Int) (h : a ≤ -10) : Lib.itoa a = Lib.itoa (a.tdiv 10) ++ [UInt8.ofNat (48 + (-(a.tmod 10)).toNat)] := by
 obtain ⟨n, hn⟩ := Int.eq_ofNat_of_zero_le (show 0 ≤ -a by omega)
 obtain rfl : a = -(n : Int) := by omega
 have e1 : ((-(n : Int)).tdiv 10) = -((n / 10 : Nat) : Int) := by rw [Int.neg_tdiv, Int.tdiv_eq_ediv_of_nonneg (by omega)]; omega
 have e2 : -((-(n : Int)).tmod 10) = ((n % 10 : Nat) : Int) := by rw [Int.neg_tmod, Int.tmod_eq_emod_of_nonneg (by omega)]; omega
 rw [e1, e2, Lib.itoa_neg _ (by omega), Lib.itoa_neg _ (by omega), Lib.decDigits, dif_neg (by omega), Int.toNat_natCast]
 rfl
theorem itoB_step (a : Int) (h : 10 ≤ a) (c : UInt8) (hc : UInt8.ofNat (48 + (a.tmod 10).toNat) = c) : itoB a = itoB (a.tdiv 10) ++ ⟨#[c]⟩ := by
 apply ByteArray.ext; simp [itoB, itoa_step a h, hc, ByteArray.data_append]
theorem itoB_stepN (a : Int) (h : a ≤ -10) (c : UInt8) (hc : UInt8.ofNat (48 + (-(a.tmod 10)).toNat) = c) : itoB a = itoB (a.tdiv 10) ++ ⟨#[c]⟩ := by
 apply ByteArray.ext; simp [itoB, itoa_stepN a h, hc, ByteArray.data_append]
def small (a : Int) : ByteArray := if a < 0 then ⟨#[45, UInt8.ofNat (48 + (-a).toNat)]⟩ else ⟨#[UInt8.ofNat (48 + a.toNat)]⟩
theorem itoB_small (a : Int) (h : -10 < a) (h1 : a < 10) : itoB a = small a := by
 unfold itoB small Lib.itoa
 by_cases h2 : a < 0
 ·rw [if_pos h2, if_pos h2, Lib.decDigits_one (by omega), show a.natAbs = (-a).toNat by omega]
 ·rw [if_neg h2, if_neg h2, Lib.decDigits_one (by omega)]
set_option maxRecDepth 100000 in
theorem slice_piece (d : Nat) (h : d < 10) : ∀ W : World, (Instr.slice 9 (Value.string { data := #[48, 49, 50, 51, 52, 53, 54, 55, 56, 57] }) (some (Value.int IntKind.i64 (d : Int))) (some (Value.int IntKind.i64 ((d : Int) + 1))) none).run Tryd.prog W = .ok (.string ⟨#[UInt8.ofNat (48 + d)]⟩) W := by
 have : d = 0 ∨ d = 1 ∨ d = 2 ∨ d = 3 ∨ d = 4 ∨ d = 5 ∨ d = 6 ∨ d = 7 ∨ d = 8 ∨ d = 9 := by omega
 rcases this with rfl | rfl | rfl | rfl | rfl | rfl | rfl | rfl | rfl | rfl <;> exact fun W => by go_simp; rfl
theorem wrap_small (x : Int) (h0 : -9223372036854775808 ≤ x) (h1 : x ≤ 9223372036854775807) : IntKind.i64.wrap x = x := by
 have e1 : (2 : Int) ^ 64 = 18446744073709551616 := rfl
 have e2 : (2 : Int) ^ (64 - 1) = 9223372036854775808 := rfl
 simp only [IntKind.wrap, IntKind.bits, IntKind.signed, Bool.true_and, decide_eq_true_eq, e1, e2]; split <;> omega
theorem itoB_size (a : Int) (h0 : -9223372036854775808 ≤ a) (h1 : a ≤ 9223372036854775807) : (itoB a).size ≤ 21 := by
 have := Lib.itoa_length_le a h0 h1
 simpa [itoB, ByteArray.size] using this
set_option maxHeartbeats 8000000 in
set_option maxRecDepth 100000 in
theorem digits_walk : ∀ (m : Nat) (a : Int) (w : World), a.natAbs ≤ m → -9223372036854775808 ≤ a → a ≤ 9223372036854775807 →
  Calls Tryd.prog 53 #[.int .i64 a] w fun e w' => e = .returned (.string (itoB a)) ∧ Below w.heap.size w w' := by
 intro m
 induction m using Nat.strongRecOn with
 | _ m ih =>
 intro a w hm h0 h1
 by_cases ha : -10 < a ∧ a < 10
 ·have hh : a = -9 ∨ a = -8 ∨ a = -7 ∨ a = -6 ∨ a = -5 ∨ a = -4 ∨ a = -3 ∨ a = -2 ∨ a = -1 ∨ a = 0 ∨ a = 1 ∨ a = 2 ∨ a = 3 ∨ a = 4 ∨ a = 5 ∨ a = 6 ∨ a = 7 ∨ a = 8 ∨ a = 9 := by omega
  have hv := itoB_small a ha.1 ha.2
  clear ih hm h0 h1 ha
  rcases hh with rfl | rfl | rfl | rfl | rfl | rfl | rfl | rfl | rfl | rfl | rfl | rfl | rfl | rfl | rfl | rfl | rfl | rfl | rfl <;>
  ·go_enter Tryd.func53, Tryd.ntmps53
   go_wp2_with fail
   go_ret
   exact ⟨by rw [hv]; rfl, Below.refl _ _⟩
 ·by_cases hp : 10 ≤ a
  ·have et := Int.tdiv_eq_ediv_of_nonneg (a := a) (b := 10) (by omega)
   have em := Int.tmod_eq_emod_of_nonneg (a := a) (b := 10) (by omega)
   have r0 : (a.tdiv 10).natAbs < m := by omega
   have r1 : -9223372036854775808 ≤ a.tdiv 10 := by omega
   have r2 : a.tdiv 10 ≤ 9223372036854775807 := by omega
   have r3 := itoB_size _ r1 r2
   obtain ⟨d, hr⟩ := Int.eq_ofNat_of_zero_le (show 0 ≤ a.tmod 10 by omega)
   have hd : d < 10 := by omega
   have q0 : (0 : Int) ≤ (d : Int) := by omega
   have q3 : (d : Int) + 1 ≤ 10 := by omega
   have q4 : IntKind.i64.wrap ((d : Int) + 1) = (d : Int) + 1 := wrap_small _ (by omega) (by omega)
   have q5 : IntKind.i64.wrap (a.tdiv 10) = a.tdiv 10 := wrap_small _ r1 r2
   have IH := Lib.hid (fun w => ih _ r0 (a.tdiv 10) w (Nat.le_refl _) r1 r2)
   have hst : itoB a = itoB (a.tdiv 10) ++ ⟨#[UInt8.ofNat (48 + d)]⟩ := itoB_step a hp _ (by rw [hr]; rfl)
   clear ih hm ha et em
   have g1 : decide (a > -10) = true := decide_eq_true (by omega)
   have g2 : decide (a < 0) = false := decide_eq_false (by omega)
   have g3 : decide (a < 10) = false := decide_eq_false (by omega)
   have g4 : (9223372036854775807 < (itoB (a.tdiv 10)).size + 1) = False := by simp; omega
   have hix := slice_piece d hd
   obtain ⟨c, hc⟩ : ∃ c, c = UInt8.ofNat (48 + d) := ⟨_, rfl⟩
   rw [← hc] at hix hst
   clear hc
   go_enter Tryd.func53, Tryd.ntmps53
   go_wp2_with fail
   go_region_held3 (fun w' => True) (first | trivial | go_keep) (first | (go_at_call 53; refine (IH.out _).mono ?_; rintro e w2 ⟨rfl, hb2⟩))
   go_wp2_with fail
   go_ret
   exact ⟨by rw [hst]; rfl, (Below.refl w.heap.size w).drew.trans hb2⟩
  ·have et := Int.tdiv_eq_ediv_of_nonneg (a := -a) (b := 10) (by omega)
   have em := Int.tmod_eq_emod_of_nonneg (a := -a) (b := 10) (by omega)
   rw [Int.neg_tdiv] at et
   rw [Int.neg_tmod] at em
   have r0 : (a.tdiv 10).natAbs < m := by omega
   have r1 : -9223372036854775808 ≤ a.tdiv 10 := by omega
   have r2 : a.tdiv 10 ≤ 9223372036854775807 := by omega
   have r3 := itoB_size _ r1 r2
   obtain ⟨d, hr⟩ := Int.eq_ofNat_of_zero_le (show 0 ≤ -(a.tmod 10) by omega)
   have hr : a.tmod 10 = -(d : Int) := by omega
   have hd : d < 10 := by omega
   have q0 : (0 : Int) ≤ (d : Int) := by omega
   have q3 : (d : Int) + 1 ≤ 10 := by omega
   have q4 : IntKind.i64.wrap ((d : Int) + 1) = (d : Int) + 1 := wrap_small _ (by omega) (by omega)
   have q6 : IntKind.i64.wrap (d : Int) = (d : Int) := wrap_small _ (by omega) (by omega)
   have q5 : IntKind.i64.wrap (a.tdiv 10) = a.tdiv 10 := wrap_small _ r1 r2
   have IH := Lib.hid (fun w => ih _ r0 (a.tdiv 10) w (Nat.le_refl _) r1 r2)
   have hst : itoB a = itoB (a.tdiv 10) ++ ⟨#[UInt8.ofNat (48 + d)]⟩ := itoB_stepN a (by omega) _ (by rw [hr, Int.neg_neg]; rfl)
   have g1 : decide (a > -10) = false := decide_eq_false (by omega)
   have g2 : decide (a < 0) = true := decide_eq_true (by omega)
   clear ih hm ha et em
   have g4 : (9223372036854775807 < (itoB (a.tdiv 10)).size + 1) = False := by simp; omega
   have hix := slice_piece d hd
   obtain ⟨c, hc⟩ : ∃ c, c = UInt8.ofNat (48 + d) := ⟨_, rfl⟩
   rw [← hc] at hix hst
   clear hc
   go_enter Tryd.func53, Tryd.ntmps53
   go_wp2_with fail
   go_region_held3 (fun w' => True) (first | trivial | go_keep) (first | (go_at_call 53; refine (IH.out _).mono ?_; rintro e w2 ⟨rfl, hb2⟩))
   go_wp2_with fail
   go_ret
   exact ⟨by rw [hst]; rfl, (Below.refl w.heap.size w).drew.trans hb2⟩
def belfryref05_Digits.f (a0 : Int) : Option ByteArray := if -9223372036854775808 ≤ a0 ∧ a0 ≤ 9223372036854775807 then some (itoB a0) else none
theorem belfryref05_Digits.calls (a0 : Int) (r : ByteArray) (w : World) (h : belfryref05_Digits.f a0 = some r) : Calls Tryd.prog 53 #[.int .i64 a0] w fun e w' => e = .returned (.string r) ∧ Below w.heap.size w w' := by
 unfold belfryref05_Digits.f at h
 split at h
 ·next hh => cases h; exact digits_walk _ a0 w (Nat.le_refl _) hh.1 hh.2
 ·cases h
end Go.Proofs.YtbdciibbgiphcaaDoor.V

-- Written for this claim by wip/myprint.py (a program of this session over the kit's printer).
namespace Go.Proofs.YtbdciibbgiphcaaDoor.V
open Go.RowKit Go.Proofs.YtbdciibbgiphcaaDoorW.PrintWords Go.Proofs.YtbdciibbgiphcaaDoorW.PrintLast Go.Proofs.YtbdciibbgiphcaaDoorW.PrintMore
attribute [local go_sem] max2_int min2_int max_two min_two max_three min_three max_four min_four   -- for this text's walks alone
set_option linter.unusedVariables false
set_option linter.unusedSimpArgs false

/-! ### belfryref05_Check: function 15 -/
def belfryref05_Check.f (k : Nat) (a0_0 : Int) (a0_1 : Int) (a0_2 : ByteArray) (l0_3 : List (S25)) : Option (Bool) := (belfryref05_size.f k a0_0 a0_1 a0_2 l0_3 32 200).bind fun t179 => (some (decide (t179 > 0)))
theorem belfryref05_Check.mono : ∀ a0 a1 a2 a3 k, LeO (belfryref05_Check.f k a0 a1 a2 a3) (belfryref05_Check.f (k + 1) a0 a1 a2 a3) := by
 intro a0 a1 a2 a3 k
 unfold belfryref05_Check.f
 repeat' first
   | (with_reducible exact belfryref05_size.mono _ _ _ _ _ _ _)
   | (with_reducible exact LeO.refl _)
   | (with_reducible exact LeO.none _)
   | (with_reducible refine LeO.ite ?_ ?_)
   | (with_reducible refine LeO.bind ?_ (fun _ => ?_))
   | exact belfryref05_size.mono _ _ _ _ _ _ _
   | exact LeO.none _
   | refine LeO.ite ?_ ?_
   | refine LeO.bind ?_ (fun _ => ?_)
set_option maxHeartbeats 8000000 in
set_option maxRecDepth 100000 in
theorem belfryref05_Check.calls (k : Nat) (a0_0 : Int) (a0_1 : Int) (a0_2 : ByteArray) (A0_3 : Option Addr) (c0_3 : Nat) (l0_3 : List (S25)) (r : Bool) (w : World) (hr0_3 : Kd.C k25 w A0_3 l0_3.length l0_3) (hc0_3 : l0_3.length ≤ c0_3) (h : belfryref05_Check.f k a0_0 a0_1 a0_2 l0_3 = some r) :
  Calls Tryd.prog 15 #[.agg #[.int .u8 a0_0, .int .i64 a0_1, .string a0_2, .slice A0_3 l0_3.length c0_3]] w fun e w' => e = .returned (.bool r) ∧ Below w.heap.size w w' := by
 have hu25 := Tryd.underlying25
 have HR0_3 := Aside0.mk hr0_3
 have HC0_3 := Aside0.mk hc0_3
 clear hr0_3 hc0_3
 have HB := Aside0.mk (Below.refl w.heap.size w)
 have H : ((belfryref05_size.f k a0_0 a0_1 a0_2 l0_3 32 200).bind fun t179 => (some (decide (t179 > 0)))) = some r := h
 clear h
 replace H := Option.bind_eq_some_iff.mp H
 obtain ⟨t179, A20, H⟩ := H
 replace H : (some (decide (t179 > 0))) = some r := H
 have A2 := Aside0.mk A20
 clear A20
 obtain rfl := Option.some.inj H
 go_enter Tryd.func15, Tryd.ntmps15
 go_wp2_with (first | ((with_reducible refine gate_dst (N := 1) rfl ?_); refine box_event ?hg (N := 1) ?hd (cs := #[.int .u8 a0_0, .int .i64 a0_1, .string a0_2, .slice A0_3 l0_3.length c0_3]) (t := 25) ?hr ?_; (case hd => rfl); (case hg => rfl); (case hr => first | (go_simp; done) | (go_simp; rfl)); intro gb178 hg w3 hbox hb; have n0_ := Aside0.mk (below_step (by repeat (first | (with_reducible first | exact HB.out | apply below_alloc | apply pw_below_drewN | apply below_drew1) | exact HB.out)) hb); have n1_ := Aside0.mk (hbox); have n2_ := Aside0.mk ((by rw [hg]; exact (below_size (by repeat (first | (with_reducible first | exact HB.out | apply below_alloc | apply pw_below_drewN | apply below_drew1) | exact HB.out))) : w.heap.size ≤ gb178)); have n3_ := Aside0.mk ((by rw [hg]; exact (below_size (by repeat (first | (with_reducible first | exact HB.out | apply below_alloc | apply pw_below_drewN | apply below_drew1) | exact HB.out))) : w.heap.size ≤ gb178)); clear HB; have HB := n0_; have BK178 := n1_; have GW178 := n2_; have GE178 := n3_; clear n0_ n1_ n2_ n3_; clear hb hbox hg; have hcz4_0 : w3.cell? ⟨gb178, 0, none⟩ = some (.int .u8 a0_0) := (blk_cell BK178.out 0).trans rfl; have hcz4_1 : w3.cell? ⟨gb178, 1, none⟩ = some (.int .i64 a0_1) := (blk_cell BK178.out 1).trans rfl; have hcz4_2 : w3.cell? ⟨gb178, 2, none⟩ = some (.string a0_2) := (blk_cell BK178.out 2).trans rfl; have hcz4_3 : w3.cell? ⟨gb178, 3, none⟩ = some (.slice A0_3 l0_3.length c0_3) := (blk_cell BK178.out 3).trans rfl; have hfz4_0 := blk_frozen BK178.out 0; have hfz4_1 := blk_frozen BK178.out 1; have hfz4_2 := blk_frozen BK178.out 2; have hfz4_3 := blk_frozen BK178.out 3) | ((with_reducible refine gate_callee (f := 34) rfl ?_); refine goesL_ (some 4) rfl rfl Tryd.func34 (by kernel_rfl) rfl #[.agg #[.int .u8 a0_0, .int .i64 a0_1, .string a0_2, .slice A0_3 l0_3.length c0_3], .int .i64 32, .int .i64 200] rfl (by (try simp only [List.map_toArray, List.map_cons, List.map_nil]); first | done | rfl | (simp only [List.length_drop, List.length_take]; rfl)) ?_; (with_reducible refine (belfryref05_size.calls k a0_0 a0_1 a0_2 _ _ l0_3 32 200 t179 _ ?side1 ?side2 A2.out).mono ?_); (case side1 => repeat (first | exact (Kd.C_below HR0_3.out HB.out) | (with_reducible refine Kd.C_alloc ?_ _) | (with_reducible refine Kd.C_drewN ?_ _) | (with_reducible refine Kd.C_drew ?_))); (case side2 => exact HC0_3.out); rintro e w5 ⟨rfl, hb⟩; refine ⟨_, rfl, ?_⟩; have n0_ := Aside0.mk (blk_below (g := gb178) (o := .cells #[.int .u8 a0_0, .int .i64 a0_1, .string a0_2, .slice A0_3 l0_3.length c0_3] 25 (0, 0)) (by (with_reducible repeat (first | refine blk_drewN ?_ _ | refine blk_drew ?_ | refine blk_alloc ?_ _)); exact BK178.out) hb); have n1_ := Aside0.mk (below_step (by repeat (first | (with_reducible first | exact HB.out | apply below_alloc | apply pw_below_drewN | apply below_drew1 | refine below_set ?_ GE178.out) | exact HB.out)) hb); clear BK178; clear HB; have BK178 := n0_; have HB := n1_; clear n0_ n1_; (try clear hb); (try clear hb2); (try clear hk); (try clear hi)))
 go_ret
 exact ⟨by first | rfl | (simp [errW_none, errW_some] <;> rfl) | (simp [*, errW_none, errW_some] <;> rfl), by repeat (first | (with_reducible first | exact HB.out | apply below_alloc | apply pw_below_drewN | apply below_drew1 | refine below_set ?_ GE178.out) | exact HB.out)⟩

/-! ### belfryref05_rank: function 52 -/
mutual
def belfryref05_rank.j0 : Nat → Int → Bool → Option (Int)
 | 0, _, _ => none
 | k + 1, x3, x4 => if x4 = true then (some 0) else (if x3 = 16 then (some 1) else (if x3 = 15 then (some 2) else (if x3 = 11 then (belfryref05_rank.j1 k x3 (x3 == 11)) else (if x3 = 12 then (belfryref05_rank.j1 k x3 (x3 == 12)) else (if x3 = 13 then (belfryref05_rank.j1 k x3 (x3 == 13)) else (belfryref05_rank.j1 k x3 (x3 == 14)))))))
def belfryref05_rank.j1 : Nat → Int → Bool → Option (Int)
 | 0, _, _ => none
 | k + 1, x3, x11 => if x11 = true then (some 3) else (if x3 = 6 then (belfryref05_rank.j2 k x3 (x3 == 6)) else (belfryref05_rank.j2 k x3 (x3 == 7)))
def belfryref05_rank.j2 : Nat → Int → Bool → Option (Int)
 | 0, _, _ => none
 | k + 1, x3, x16 => if x16 = true then (some 4) else (if x3 = 8 then (belfryref05_rank.j3 k x3 (x3 == 8)) else (if x3 = 9 then (belfryref05_rank.j3 k x3 (x3 == 9)) else (belfryref05_rank.j3 k x3 (x3 == 10))))
def belfryref05_rank.j3 : Nat → Int → Bool → Option (Int)
 | 0, _, _ => none
 | k + 1, x3, x19 => if x19 = true then (some 5) else (if x3 = 4 then (some 6) else (if x3 = 5 then (some 6) else (if x3 = 19 then (some 6) else (some 7))))
end
def belfryref05_rank.f (k : Nat) (a0 : Int) : Option (Int) := if a0 = 18 then (belfryref05_rank.j0 k a0 (a0 == 18)) else (belfryref05_rank.j0 k a0 (a0 == 17))
theorem belfryref05_rank.mono_l : ∀ k, (∀ y0 y1, LeO (belfryref05_rank.j0 k y0 y1) (belfryref05_rank.j0 (k + 1) y0 y1)) ∧ (∀ y0 y1, LeO (belfryref05_rank.j1 k y0 y1) (belfryref05_rank.j1 (k + 1) y0 y1)) ∧ (∀ y0 y1, LeO (belfryref05_rank.j2 k y0 y1) (belfryref05_rank.j2 (k + 1) y0 y1)) ∧ (∀ y0 y1, LeO (belfryref05_rank.j3 k y0 y1) (belfryref05_rank.j3 (k + 1) y0 y1))
 | 0 => ⟨fun _ _ r h => by simp [belfryref05_rank.j0] at h, fun _ _ r h => by simp [belfryref05_rank.j1] at h, fun _ _ r h => by simp [belfryref05_rank.j2] at h, fun _ _ r h => by simp [belfryref05_rank.j3] at h⟩
 | k + 1 => by
  obtain ⟨ih0, ih1, ih2, ih3⟩ := belfryref05_rank.mono_l k
  refine ⟨?_, ?_, ?_, ?_⟩
  ·intro y0 y1
   unfold belfryref05_rank.j0
   repeat' first
   | (with_reducible exact ih0 _ _)
   | (with_reducible exact ih1 _ _)
   | (with_reducible exact ih2 _ _)
   | (with_reducible exact ih3 _ _)
   | (with_reducible exact LeO.refl _)
   | (with_reducible exact LeO.none _)
   | (with_reducible refine LeO.ite ?_ ?_)
   | (with_reducible refine LeO.bind ?_ (fun _ => ?_))
   | exact ih0 _ _
   | exact ih1 _ _
   | exact ih2 _ _
   | exact ih3 _ _
   | exact LeO.none _
   | refine LeO.ite ?_ ?_
   | refine LeO.bind ?_ (fun _ => ?_)
  ·intro y0 y1
   unfold belfryref05_rank.j1
   repeat' first
   | (with_reducible exact ih0 _ _)
   | (with_reducible exact ih1 _ _)
   | (with_reducible exact ih2 _ _)
   | (with_reducible exact ih3 _ _)
   | (with_reducible exact LeO.refl _)
   | (with_reducible exact LeO.none _)
   | (with_reducible refine LeO.ite ?_ ?_)
   | (with_reducible refine LeO.bind ?_ (fun _ => ?_))
   | exact ih0 _ _
   | exact ih1 _ _
   | exact ih2 _ _
   | exact ih3 _ _
   | exact LeO.none _
   | refine LeO.ite ?_ ?_
   | refine LeO.bind ?_ (fun _ => ?_)
  ·intro y0 y1
   unfold belfryref05_rank.j2
   repeat' first
   | (with_reducible exact ih0 _ _)
   | (with_reducible exact ih1 _ _)
   | (with_reducible exact ih2 _ _)
   | (with_reducible exact ih3 _ _)
   | (with_reducible exact LeO.refl _)
   | (with_reducible exact LeO.none _)
   | (with_reducible refine LeO.ite ?_ ?_)
   | (with_reducible refine LeO.bind ?_ (fun _ => ?_))
   | exact ih0 _ _
   | exact ih1 _ _
   | exact ih2 _ _
   | exact ih3 _ _
   | exact LeO.none _
   | refine LeO.ite ?_ ?_
   | refine LeO.bind ?_ (fun _ => ?_)
  ·intro y0 y1
   unfold belfryref05_rank.j3
   repeat' first
   | (with_reducible exact ih0 _ _)
   | (with_reducible exact ih1 _ _)
   | (with_reducible exact ih2 _ _)
   | (with_reducible exact ih3 _ _)
   | (with_reducible exact LeO.refl _)
   | (with_reducible exact LeO.none _)
   | (with_reducible refine LeO.ite ?_ ?_)
   | (with_reducible refine LeO.bind ?_ (fun _ => ?_))
   | exact ih0 _ _
   | exact ih1 _ _
   | exact ih2 _ _
   | exact ih3 _ _
   | exact LeO.none _
   | refine LeO.ite ?_ ?_
   | refine LeO.bind ?_ (fun _ => ?_)
theorem belfryref05_rank.mono : ∀ a0 k, LeO (belfryref05_rank.f k a0) (belfryref05_rank.f (k + 1) a0) := by
 intro a0 k
 obtain ⟨ih0, ih1, ih2, ih3⟩ := belfryref05_rank.mono_l k
 unfold belfryref05_rank.f
 repeat' first
   | (with_reducible exact ih0 _ _)
   | (with_reducible exact ih1 _ _)
   | (with_reducible exact ih2 _ _)
   | (with_reducible exact ih3 _ _)
   | (with_reducible exact LeO.refl _)
   | (with_reducible exact LeO.none _)
   | (with_reducible refine LeO.ite ?_ ?_)
   | (with_reducible refine LeO.bind ?_ (fun _ => ?_))
   | exact ih0 _ _
   | exact ih1 _ _
   | exact ih2 _ _
   | exact ih3 _ _
   | exact LeO.none _
   | refine LeO.ite ?_ ?_
   | refine LeO.bind ?_ (fun _ => ?_)
set_option maxHeartbeats 8000000 in
set_option maxRecDepth 100000 in
theorem belfryref05_rank.calls (k : Nat) (a0 : Int) (r : Int) (w : World) (h : belfryref05_rank.f k a0 = some r) :
  Calls Tryd.prog 52 #[.int .u8 a0] w fun e w' => e = .returned (.int .i64 r) ∧ Drawn0 w w' := by
 have H : (if a0 = 18 then (belfryref05_rank.j0 k a0 (a0 == 18)) else (belfryref05_rank.j0 k a0 (a0 == 17))) = some r := h
 clear h
 have HC2 := Aside0.mk H
 clear H
 go_enter Tryd.func52, Tryd.ntmps52
 go_upto_if 4 with (fail)
 go_cut [4] (fun v4 wc => ∃ (kq : Nat) (x4_1 : Bool), v4 = .bool x4_1 ∧ Aside0 (belfryref05_rank.j0 kq a0 x4_1 = some r) ∧ Aside0 (kq ≤ k) ∧ Drawn0 w wc)
 case first =>
  have H := HC2.out
  clear HC2
  by_cases c3 : a0 = 18
  ·rw [if_pos c3] at H
   have c3b0 : (a0 == 18) = true := beq_iff_eq.mpr c3
   have c3b1 : (a0 != 18) = false := bne_eq_false_iff_eq.mpr c3
   clear c3
   (first | rw [c3b0] | (simp only [i64_w, i32_w]; rw [c3b0]) | skip)
   have H' := Aside0.mk H
   clear H
   go_wp2
   go_meet
   case rel => exact ⟨_, ((a0 == 18)), (by first | rfl | (simp; done) | (simp [*]; done)), H', ⟨by first | omega | exact Nat.le_refl _⟩, by repeat (first | exact Drawn0.refl _ | apply Drawn0.step)⟩
  ·rw [if_neg c3] at H
   have c3b0 : (a0 == 18) = false := beq_eq_false_iff_ne.mpr c3
   have c3b1 : (a0 != 18) = true := bne_iff_ne.mpr c3
   (first | rw [c3b0] | (simp only [i64_w, i32_w]; rw [c3b0]) | skip)
   have H' := Aside0.mk H
   clear H
   go_wp2
   go_meet
   case rel => exact ⟨_, ((a0 == 17)), (by first | rfl | (simp; done) | (simp [*]; done)), H', ⟨by first | omega | exact Nat.le_refl _⟩, by repeat (first | exact Drawn0.refl _ | apply Drawn0.step)⟩
 case rest =>
  clear HC2
  try clear p2
  try clear c3
  try clear c3b0
  try clear c3b1
  obtain ⟨kq, x4_1, rfl, HA, HJ1, ⟨mc1, rfl⟩⟩ := hcut
  cases kq with
  | zero => exact absurd HA.out (by simp [belfryref05_rank.j0])
  | succ kj1 =>
   have H := HA.out
   clear HA
   simp only [belfryref05_rank.j0] at H
   by_cases c4 : x4_1 = true
   ·subst c4
    have H1 : (some 0) = some r := by rw [if_pos rfl] at H; exact H
    clear H
    have H := H1
    clear H1
    obtain rfl := Option.some.inj H
    go_wp2
    go_ret
    exact ⟨by first | rfl | (simp; done) | (simp [*]; done), by repeat (first | exact Drawn0.refl _ | apply Drawn0.step)⟩
   ·replace c4 := Bool.eq_false_iff.mpr c4
    subst c4
    have H1 : (if a0 = 16 then (some 1) else (if a0 = 15 then (some 2) else (if a0 = 11 then (belfryref05_rank.j1 kj1 a0 (a0 == 11)) else (if a0 = 12 then (belfryref05_rank.j1 kj1 a0 (a0 == 12)) else (if a0 = 13 then (belfryref05_rank.j1 kj1 a0 (a0 == 13)) else (belfryref05_rank.j1 kj1 a0 (a0 == 14))))))) = some r := by rw [if_neg (show ¬ (false = true) by decide)] at H; exact H
    clear H
    have H := H1
    clear H1
    by_cases c5 : a0 = 16
    ·rw [if_pos c5] at H
     have c5b0 : (a0 == 16) = true := beq_iff_eq.mpr c5
     have c5b1 : (a0 != 16) = false := bne_eq_false_iff_eq.mpr c5
     clear c5
     obtain rfl := Option.some.inj H
     go_wp2
     go_ret
     exact ⟨by first | rfl | (simp; done) | (simp [*]; done), by repeat (first | exact Drawn0.refl _ | apply Drawn0.step)⟩
    ·rw [if_neg c5] at H
     have c5b0 : (a0 == 16) = false := beq_eq_false_iff_ne.mpr c5
     have c5b1 : (a0 != 16) = true := bne_iff_ne.mpr c5
     by_cases c6 : a0 = 15
     ·rw [if_pos c6] at H
      have c6b0 : (a0 == 15) = true := beq_iff_eq.mpr c6
      have c6b1 : (a0 != 15) = false := bne_eq_false_iff_eq.mpr c6
      clear c6
      obtain rfl := Option.some.inj H
      go_wp2
      go_ret
      exact ⟨by first | rfl | (simp; done) | (simp [*]; done), by repeat (first | exact Drawn0.refl _ | apply Drawn0.step)⟩
     ·rw [if_neg c6] at H
      have c6b0 : (a0 == 15) = false := beq_eq_false_iff_ne.mpr c6
      have c6b1 : (a0 != 15) = true := bne_iff_ne.mpr c6
      have HC7 := Aside0.mk H
      clear H
      go_upto_if 11 with (fail)
      go_cut [11] (fun v11 wc => ∃ (kq : Nat) (x11_6 : Bool), v11 = .bool x11_6 ∧ Aside0 (belfryref05_rank.j1 kq a0 x11_6 = some r) ∧ Aside0 (kq ≤ kj1) ∧ Drawn0 w wc)
      case first =>
       have H := HC7.out
       clear HC7
       by_cases c8 : a0 = 11
       ·rw [if_pos c8] at H
        have c8b0 : (a0 == 11) = true := beq_iff_eq.mpr c8
        have c8b1 : (a0 != 11) = false := bne_eq_false_iff_eq.mpr c8
        clear c8
        (first | rw [c8b0] | (simp only [i64_w, i32_w]; rw [c8b0]) | skip)
        have H' := Aside0.mk H
        clear H
        go_wp2
        go_meet
        case rel => exact ⟨_, ((a0 == 11)), (by first | rfl | (simp; done) | (simp [*]; done)), H', ⟨by have := HJ1.out; first | omega | exact Nat.le_refl _⟩, by repeat (first | exact Drawn0.refl _ | apply Drawn0.step)⟩
       ·rw [if_neg c8] at H
        have c8b0 : (a0 == 11) = false := beq_eq_false_iff_ne.mpr c8
        have c8b1 : (a0 != 11) = true := bne_iff_ne.mpr c8
        (first | rw [c8b0] | (simp only [i64_w, i32_w]; rw [c8b0]) | skip)
        by_cases c9 : a0 = 12
        ·rw [if_pos c9] at H
         have c9b0 : (a0 == 12) = true := beq_iff_eq.mpr c9
         have c9b1 : (a0 != 12) = false := bne_eq_false_iff_eq.mpr c9
         clear c9
         have H' := Aside0.mk H
         clear H
         go_wp2
         go_meet
         case rel => exact ⟨_, ((a0 == 12)), (by first | rfl | (simp; done) | (simp [*]; done)), H', ⟨by have := HJ1.out; first | omega | exact Nat.le_refl _⟩, by repeat (first | exact Drawn0.refl _ | apply Drawn0.step)⟩
        ·rw [if_neg c9] at H
         have c9b0 : (a0 == 12) = false := beq_eq_false_iff_ne.mpr c9
         have c9b1 : (a0 != 12) = true := bne_iff_ne.mpr c9
         by_cases c10 : a0 = 13
         ·rw [if_pos c10] at H
          have c10b0 : (a0 == 13) = true := beq_iff_eq.mpr c10
          have c10b1 : (a0 != 13) = false := bne_eq_false_iff_eq.mpr c10
          clear c10
          have H' := Aside0.mk H
          clear H
          go_wp2
          go_meet
          case rel => exact ⟨_, ((a0 == 13)), (by first | rfl | (simp; done) | (simp [*]; done)), H', ⟨by have := HJ1.out; first | omega | exact Nat.le_refl _⟩, by repeat (first | exact Drawn0.refl _ | apply Drawn0.step)⟩
         ·rw [if_neg c10] at H
          have c10b0 : (a0 == 13) = false := beq_eq_false_iff_ne.mpr c10
          have c10b1 : (a0 != 13) = true := bne_iff_ne.mpr c10
          have H' := Aside0.mk H
          clear H
          go_wp2
          go_meet
          case rel => exact ⟨_, ((a0 == 14)), (by first | rfl | (simp; done) | (simp [*]; done)), H', ⟨by have := HJ1.out; first | omega | exact Nat.le_refl _⟩, by repeat (first | exact Drawn0.refl _ | apply Drawn0.step)⟩
      case rest =>
       clear HC7
       try clear c1
       try clear p2
       try clear c3
       try clear c3b0
       try clear c3b1
       try clear c4
       try clear c5
       try clear c5b0
       try clear c5b1
       try clear c6
       try clear c6b0
       try clear c6b1
       try clear c8
       try clear c8b0
       try clear c8b1
       try clear c9
       try clear c9b0
       try clear c9b1
       try clear c10
       try clear c10b0
       try clear c10b1
       try clear p2
       obtain ⟨kq, x11_6, rfl, HA, HJ6, ⟨mc6, rfl⟩⟩ := hcut
       cases kq with
       | zero => exact absurd HA.out (by simp [belfryref05_rank.j1])
       | succ kj6 =>
        have H := HA.out
        clear HA
        simp only [belfryref05_rank.j1] at H
        by_cases c11 : x11_6 = true
        ·subst c11
         have H1 : (some 3) = some r := by rw [if_pos rfl] at H; exact H
         clear H
         have H := H1
         clear H1
         obtain rfl := Option.some.inj H
         go_wp2
         go_ret
         exact ⟨by first | rfl | (simp; done) | (simp [*]; done), by repeat (first | exact Drawn0.refl _ | apply Drawn0.step)⟩
        ·replace c11 := Bool.eq_false_iff.mpr c11
         subst c11
         have H1 : (if a0 = 6 then (belfryref05_rank.j2 kj6 a0 (a0 == 6)) else (belfryref05_rank.j2 kj6 a0 (a0 == 7))) = some r := by rw [if_neg (show ¬ (false = true) by decide)] at H; exact H
         clear H
         have H := H1
         clear H1
         have HC12 := Aside0.mk H
         clear H
         go_upto_if 16 with (fail)
         go_cut [16] (fun v16 wc => ∃ (kq : Nat) (x16_11 : Bool), v16 = .bool x16_11 ∧ Aside0 (belfryref05_rank.j2 kq a0 x16_11 = some r) ∧ Aside0 (kq ≤ kj6) ∧ Drawn0 w wc)
         case first =>
          have H := HC12.out
          clear HC12
          by_cases c13 : a0 = 6
          ·rw [if_pos c13] at H
           have c13b0 : (a0 == 6) = true := beq_iff_eq.mpr c13
           have c13b1 : (a0 != 6) = false := bne_eq_false_iff_eq.mpr c13
           clear c13
           (first | rw [c13b0] | (simp only [i64_w, i32_w]; rw [c13b0]) | skip)
           have H' := Aside0.mk H
           clear H
           go_wp2
           go_meet
           case rel => exact ⟨_, ((a0 == 6)), (by first | rfl | (simp; done) | (simp [*]; done)), H', ⟨by have := HJ1.out; have := HJ6.out; first | omega | exact Nat.le_refl _⟩, by repeat (first | exact Drawn0.refl _ | apply Drawn0.step)⟩
          ·rw [if_neg c13] at H
           have c13b0 : (a0 == 6) = false := beq_eq_false_iff_ne.mpr c13
           have c13b1 : (a0 != 6) = true := bne_iff_ne.mpr c13
           (first | rw [c13b0] | (simp only [i64_w, i32_w]; rw [c13b0]) | skip)
           have H' := Aside0.mk H
           clear H
           go_wp2
           go_meet
           case rel => exact ⟨_, ((a0 == 7)), (by first | rfl | (simp; done) | (simp [*]; done)), H', ⟨by have := HJ1.out; have := HJ6.out; first | omega | exact Nat.le_refl _⟩, by repeat (first | exact Drawn0.refl _ | apply Drawn0.step)⟩
         case rest =>
          clear HC12
          try clear c1
          try clear p2
          try clear c3
          try clear c3b0
          try clear c3b1
          try clear c4
          try clear c5
          try clear c5b0
          try clear c5b1
          try clear c6
          try clear c6b0
          try clear c6b1
          try clear c8
          try clear c8b0
          try clear c8b1
          try clear c9
          try clear c9b0
          try clear c9b1
          try clear c10
          try clear c10b0
          try clear c10b1
          try clear c11
          try clear c13
          try clear c13b0
          try clear c13b1
          try clear p2
          obtain ⟨kq, x16_11, rfl, HA, HJ11, ⟨mc11, rfl⟩⟩ := hcut
          cases kq with
          | zero => exact absurd HA.out (by simp [belfryref05_rank.j2])
          | succ kj11 =>
           have H := HA.out
           clear HA
           simp only [belfryref05_rank.j2] at H
           by_cases c14 : x16_11 = true
           ·subst c14
            have H1 : (some 4) = some r := by rw [if_pos rfl] at H; exact H
            clear H
            have H := H1
            clear H1
            obtain rfl := Option.some.inj H
            go_wp2
            go_ret
            exact ⟨by first | rfl | (simp; done) | (simp [*]; done), by repeat (first | exact Drawn0.refl _ | apply Drawn0.step)⟩
           ·replace c14 := Bool.eq_false_iff.mpr c14
            subst c14
            have H1 : (if a0 = 8 then (belfryref05_rank.j3 kj11 a0 (a0 == 8)) else (if a0 = 9 then (belfryref05_rank.j3 kj11 a0 (a0 == 9)) else (belfryref05_rank.j3 kj11 a0 (a0 == 10)))) = some r := by rw [if_neg (show ¬ (false = true) by decide)] at H; exact H
            clear H
            have H := H1
            clear H1
            have HC15 := Aside0.mk H
            clear H
            go_upto_if 19 with (fail)
            go_cut [19] (fun v19 wc => ∃ (kq : Nat) (x19_14 : Bool), v19 = .bool x19_14 ∧ Aside0 (belfryref05_rank.j3 kq a0 x19_14 = some r) ∧ Aside0 (kq ≤ kj11) ∧ Drawn0 w wc)
            case first =>
             have H := HC15.out
             clear HC15
             by_cases c16 : a0 = 8
             ·rw [if_pos c16] at H
              have c16b0 : (a0 == 8) = true := beq_iff_eq.mpr c16
              have c16b1 : (a0 != 8) = false := bne_eq_false_iff_eq.mpr c16
              clear c16
              (first | rw [c16b0] | (simp only [i64_w, i32_w]; rw [c16b0]) | skip)
              have H' := Aside0.mk H
              clear H
              go_wp2
              go_meet
              case rel => exact ⟨_, ((a0 == 8)), (by first | rfl | (simp; done) | (simp [*]; done)), H', ⟨by have := HJ1.out; have := HJ6.out; have := HJ11.out; first | omega | exact Nat.le_refl _⟩, by repeat (first | exact Drawn0.refl _ | apply Drawn0.step)⟩
             ·rw [if_neg c16] at H
              have c16b0 : (a0 == 8) = false := beq_eq_false_iff_ne.mpr c16
              have c16b1 : (a0 != 8) = true := bne_iff_ne.mpr c16
              (first | rw [c16b0] | (simp only [i64_w, i32_w]; rw [c16b0]) | skip)
              by_cases c17 : a0 = 9
              ·rw [if_pos c17] at H
               have c17b0 : (a0 == 9) = true := beq_iff_eq.mpr c17
               have c17b1 : (a0 != 9) = false := bne_eq_false_iff_eq.mpr c17
               clear c17
               have H' := Aside0.mk H
               clear H
               go_wp2
               go_meet
               case rel => exact ⟨_, ((a0 == 9)), (by first | rfl | (simp; done) | (simp [*]; done)), H', ⟨by have := HJ1.out; have := HJ6.out; have := HJ11.out; first | omega | exact Nat.le_refl _⟩, by repeat (first | exact Drawn0.refl _ | apply Drawn0.step)⟩
              ·rw [if_neg c17] at H
               have c17b0 : (a0 == 9) = false := beq_eq_false_iff_ne.mpr c17
               have c17b1 : (a0 != 9) = true := bne_iff_ne.mpr c17
               have H' := Aside0.mk H
               clear H
               go_wp2
               go_meet
               case rel => exact ⟨_, ((a0 == 10)), (by first | rfl | (simp; done) | (simp [*]; done)), H', ⟨by have := HJ1.out; have := HJ6.out; have := HJ11.out; first | omega | exact Nat.le_refl _⟩, by repeat (first | exact Drawn0.refl _ | apply Drawn0.step)⟩
            case rest =>
             clear HC15
             try clear c1
             try clear p2
             try clear c3
             try clear c3b0
             try clear c3b1
             try clear c4
             try clear c5
             try clear c5b0
             try clear c5b1
             try clear c6
             try clear c6b0
             try clear c6b1
             try clear c8
             try clear c8b0
             try clear c8b1
             try clear c9
             try clear c9b0
             try clear c9b1
             try clear c10
             try clear c10b0
             try clear c10b1
             try clear c11
             try clear c13
             try clear c13b0
             try clear c13b1
             try clear c14
             try clear c16
             try clear c16b0
             try clear c16b1
             try clear c17
             try clear c17b0
             try clear c17b1
             try clear p2
             obtain ⟨kq, x19_14, rfl, HA, HJ14, ⟨mc14, rfl⟩⟩ := hcut
             cases kq with
             | zero => exact absurd HA.out (by simp [belfryref05_rank.j3])
             | succ kj14 =>
              have H := HA.out
              clear HA
              simp only [belfryref05_rank.j3] at H
              by_cases c18 : x19_14 = true
              ·subst c18
               have H1 : (some 5) = some r := by rw [if_pos rfl] at H; exact H
               clear H
               have H := H1
               clear H1
               obtain rfl := Option.some.inj H
               go_wp2
               go_ret
               exact ⟨by first | rfl | (simp; done) | (simp [*]; done), by repeat (first | exact Drawn0.refl _ | apply Drawn0.step)⟩
              ·replace c18 := Bool.eq_false_iff.mpr c18
               subst c18
               have H1 : (if a0 = 4 then (some 6) else (if a0 = 5 then (some 6) else (if a0 = 19 then (some 6) else (some 7)))) = some r := by rw [if_neg (show ¬ (false = true) by decide)] at H; exact H
               clear H
               have H := H1
               clear H1
               by_cases c19 : a0 = 4
               ·rw [if_pos c19] at H
                have c19b0 : (a0 == 4) = true := beq_iff_eq.mpr c19
                have c19b1 : (a0 != 4) = false := bne_eq_false_iff_eq.mpr c19
                clear c19
                obtain rfl := Option.some.inj H
                go_wp2
                go_ret
                exact ⟨by first | rfl | (simp; done) | (simp [*]; done), by repeat (first | exact Drawn0.refl _ | apply Drawn0.step)⟩
               ·rw [if_neg c19] at H
                have c19b0 : (a0 == 4) = false := beq_eq_false_iff_ne.mpr c19
                have c19b1 : (a0 != 4) = true := bne_iff_ne.mpr c19
                by_cases c20 : a0 = 5
                ·rw [if_pos c20] at H
                 have c20b0 : (a0 == 5) = true := beq_iff_eq.mpr c20
                 have c20b1 : (a0 != 5) = false := bne_eq_false_iff_eq.mpr c20
                 clear c20
                 obtain rfl := Option.some.inj H
                 go_wp2
                 go_ret
                 exact ⟨by first | rfl | (simp; done) | (simp [*]; done), by repeat (first | exact Drawn0.refl _ | apply Drawn0.step)⟩
                ·rw [if_neg c20] at H
                 have c20b0 : (a0 == 5) = false := beq_eq_false_iff_ne.mpr c20
                 have c20b1 : (a0 != 5) = true := bne_iff_ne.mpr c20
                 by_cases c21 : a0 = 19
                 ·rw [if_pos c21] at H
                  have c21b0 : (a0 == 19) = true := beq_iff_eq.mpr c21
                  have c21b1 : (a0 != 19) = false := bne_eq_false_iff_eq.mpr c21
                  clear c21
                  obtain rfl := Option.some.inj H
                  go_wp2
                  go_ret
                  exact ⟨by first | rfl | (simp; done) | (simp [*]; done), by repeat (first | exact Drawn0.refl _ | apply Drawn0.step)⟩
                 ·rw [if_neg c21] at H
                  have c21b0 : (a0 == 19) = false := beq_eq_false_iff_ne.mpr c21
                  have c21b1 : (a0 != 19) = true := bne_iff_ne.mpr c21
                  obtain rfl := Option.some.inj H
                  go_wp2
                  go_ret
                  exact ⟨by first | rfl | (simp; done) | (simp [*]; done), by repeat (first | exact Drawn0.refl _ | apply Drawn0.step)⟩

/-! ### belfryref05_Digits: function 53 -/
-- BY HAND: function 53 (belfryref05_Digits)

-- in a group: function 54 (belfryref05_part)

/-! ### belfryref05_sign: function 55 -/
def belfryref05_sign.l0 : Nat → Int → List Int → List ByteArray → Int → Option (ByteArray)
 | 0, _, _, _, _ => none
 | k + 1, x0, x3, x4, x5 => if x5 < (x3.length : Int) then (if 0 ≤ x5 then (if (rd x3 x5) = x0 then (if x5 < (x4.length : Int) then (some (rdOf ByteArray.empty x4 x5)) else (none)) else (belfryref05_sign.l0 k x0 x3 x4 (wrap64 (x5 + 1)))) else (none)) else (some (⟨#[]⟩ : ByteArray))
def belfryref05_sign.f (k : Nat) (a0 : Int) : Option (ByteArray) := belfryref05_sign.l0 k a0 (([18, 16, 15, 11, 12, 13, 14, 6, 7, 8, 9, 10] : List Int)) (([(⟨#[45, 62]⟩ : ByteArray), (⟨#[111, 114]⟩ : ByteArray), (⟨#[97, 110, 100]⟩ : ByteArray), (⟨#[61, 61]⟩ : ByteArray), (⟨#[33, 61]⟩ : ByteArray), (⟨#[60]⟩ : ByteArray), (⟨#[60, 61]⟩ : ByteArray), (⟨#[43]⟩ : ByteArray), (⟨#[45]⟩ : ByteArray), (⟨#[42]⟩ : ByteArray), (⟨#[47]⟩ : ByteArray), (⟨#[37]⟩ : ByteArray)] : List ByteArray)) 0
theorem belfryref05_sign.mono_l : ∀ k, (∀ y0 y1 y2 y3, LeO (belfryref05_sign.l0 k y0 y1 y2 y3) (belfryref05_sign.l0 (k + 1) y0 y1 y2 y3))
 | 0 => fun _ _ _ _ r h => by simp [belfryref05_sign.l0] at h
 | k + 1 => by
  have ih0 := belfryref05_sign.mono_l k
  ·intro y0 y1 y2 y3
   unfold belfryref05_sign.l0
   repeat' first
   | (with_reducible exact ih0 _ _ _ _)
   | (with_reducible exact LeO.refl _)
   | (with_reducible exact LeO.none _)
   | (with_reducible refine LeO.ite ?_ ?_)
   | (with_reducible refine LeO.bind ?_ (fun _ => ?_))
   | exact ih0 _ _ _ _
   | exact LeO.none _
   | refine LeO.ite ?_ ?_
   | refine LeO.bind ?_ (fun _ => ?_)
theorem belfryref05_sign.mono : ∀ a0 k, LeO (belfryref05_sign.f k a0) (belfryref05_sign.f (k + 1) a0) := by
 intro a0 k
 have ih0 := belfryref05_sign.mono_l k
 unfold belfryref05_sign.f
 repeat' first
   | (with_reducible exact ih0 _ _ _ _)
   | (with_reducible exact LeO.refl _)
   | (with_reducible exact LeO.none _)
   | (with_reducible refine LeO.ite ?_ ?_)
   | (with_reducible refine LeO.bind ?_ (fun _ => ?_))
   | exact ih0 _ _ _ _
   | exact LeO.none _
   | refine LeO.ite ?_ ?_
   | refine LeO.bind ?_ (fun _ => ?_)
set_option maxHeartbeats 8000000 in
set_option maxRecDepth 100000 in
theorem belfryref05_sign.calls (k : Nat) (a0 : Int) (r : ByteArray) (w : World) (h : belfryref05_sign.f k a0 = some r) :
  Calls Tryd.prog 55 #[.int .u8 a0] w fun e w' => e = .returned (.string r) ∧ Below w.heap.size w w' := by
 have HB := Aside0.mk (Below.refl w.heap.size w)
 have H : (belfryref05_sign.l0 k a0 (([18, 16, 15, 11, 12, 13, 14, 6, 7, 8, 9, 10] : List Int)) (([(⟨#[45, 62]⟩ : ByteArray), (⟨#[111, 114]⟩ : ByteArray), (⟨#[97, 110, 100]⟩ : ByteArray), (⟨#[61, 61]⟩ : ByteArray), (⟨#[33, 61]⟩ : ByteArray), (⟨#[60]⟩ : ByteArray), (⟨#[60, 61]⟩ : ByteArray), (⟨#[43]⟩ : ByteArray), (⟨#[45]⟩ : ByteArray), (⟨#[42]⟩ : ByteArray), (⟨#[47]⟩ : ByteArray), (⟨#[37]⟩ : ByteArray)] : List ByteArray)) 0) = some r := h
 clear h
 obtain ⟨y180, hy180⟩ : ∃ y_ : List Int, y_ = (([18, 16, 15, 11, 12, 13, 14, 6, 7, 8, 9, 10] : List Int)) := ⟨_, rfl⟩
 replace H : (belfryref05_sign.l0 k a0 y180 (([(⟨#[45, 62]⟩ : ByteArray), (⟨#[111, 114]⟩ : ByteArray), (⟨#[97, 110, 100]⟩ : ByteArray), (⟨#[61, 61]⟩ : ByteArray), (⟨#[33, 61]⟩ : ByteArray), (⟨#[60]⟩ : ByteArray), (⟨#[60, 61]⟩ : ByteArray), (⟨#[43]⟩ : ByteArray), (⟨#[45]⟩ : ByteArray), (⟨#[42]⟩ : ByteArray), (⟨#[47]⟩ : ByteArray), (⟨#[37]⟩ : ByteArray)] : List ByteArray)) 0) = some r := by first | (rw [hy180]; with_reducible exact H) | (have H2_ := (Option.bind_some _ _).symm.trans H; rw [hy180]; with_reducible exact H2_) | (have H2_ := (Option.bind_some _ _).symm.trans H; with_reducible exact H2_) | with_reducible exact H | (rw [hy180]; exact H) | exact H
 have Ny180 := Aside0.mk hy180
 clear hy180
 obtain ⟨y183, hy183⟩ : ∃ y_ : List ByteArray, y_ = (([(⟨#[45, 62]⟩ : ByteArray), (⟨#[111, 114]⟩ : ByteArray), (⟨#[97, 110, 100]⟩ : ByteArray), (⟨#[61, 61]⟩ : ByteArray), (⟨#[33, 61]⟩ : ByteArray), (⟨#[60]⟩ : ByteArray), (⟨#[60, 61]⟩ : ByteArray), (⟨#[43]⟩ : ByteArray), (⟨#[45]⟩ : ByteArray), (⟨#[42]⟩ : ByteArray), (⟨#[47]⟩ : ByteArray), (⟨#[37]⟩ : ByteArray)] : List ByteArray)) := ⟨_, rfl⟩
 replace H : (belfryref05_sign.l0 k a0 y180 y183 0) = some r := by first | (rw [hy183]; with_reducible exact H) | (have H2_ := (Option.bind_some _ _).symm.trans H; rw [hy183]; with_reducible exact H2_) | (have H2_ := (Option.bind_some _ _).symm.trans H; with_reducible exact H2_) | with_reducible exact H | (rw [hy183]; exact H) | exact H
 have Ny183 := Aside0.mk hy183
 clear hy183
 have H' := Aside0.mk H
 clear H
 go_enter Tryd.func55, Tryd.ntmps55
 go_wp2_with (first | ((with_reducible refine gate_dst (N := 6) rfl ?_); refine Kd.R_lit (Kd.int .u8) _ 22 ?hg (N := 6) ?hd (xs := ([18, 16, 15, 11, 12, 13, 14, 6, 7, 8, 9, 10] : List Int)) (inner := [.int .u8 18, .int .u8 16, .int .u8 15, .int .u8 11, .int .u8 12, .int .u8 13, .int .u8 14, .int .u8 6, .int .u8 7, .int .u8 8, .int .u8 9, .int .u8 10]) (ok := fun _ => True) (okp := fun _ => True) ?hr ?hp (fun _ hk => hk) trivial (Below.refl _ _) (Nat.le_refl _) (by simp) ?_; (case hd => rfl); (case hg => rfl); (case hr => first | (go_simp; done) | (go_simp; rfl)); (case hp => exact (Reps.one (show Kd.M (Kd.int .u8) _ _ _ 18 [.int .u8 18] from rfl) (Reps.one (show Kd.M (Kd.int .u8) _ _ _ 16 [.int .u8 16] from rfl) (Reps.one (show Kd.M (Kd.int .u8) _ _ _ 15 [.int .u8 15] from rfl) (Reps.one (show Kd.M (Kd.int .u8) _ _ _ 11 [.int .u8 11] from rfl) (Reps.one (show Kd.M (Kd.int .u8) _ _ _ 12 [.int .u8 12] from rfl) (Reps.one (show Kd.M (Kd.int .u8) _ _ _ 13 [.int .u8 13] from rfl) (Reps.one (show Kd.M (Kd.int .u8) _ _ _ 14 [.int .u8 14] from rfl) (Reps.one (show Kd.M (Kd.int .u8) _ _ _ 6 [.int .u8 6] from rfl) (Reps.one (show Kd.M (Kd.int .u8) _ _ _ 7 [.int .u8 7] from rfl) (Reps.one (show Kd.M (Kd.int .u8) _ _ _ 8 [.int .u8 8] from rfl) (Reps.one (show Kd.M (Kd.int .u8) _ _ _ 9 [.int .u8 9] from rfl) (Reps.one (show Kd.M (Kd.int .u8) _ _ _ 10 [.int .u8 10] from rfl) (Reps.none _ _)))))))))))))); intro v181 w2 ho3 hb hg_ hnew_; clear hg_ hnew_; (first | rw [← Ny180.out] at ho3 | (simp only [Int.reduceToNat] at ho3; rw [← Ny180.out] at ho3)); have n0_ := Aside0.mk (Kd.R_lower ho3 (below_size (by repeat (first | (with_reducible first | exact HB.out | apply below_alloc | apply pw_below_drewN | apply below_drew1) | exact HB.out)))); have n1_ := Aside0.mk (below_step (by repeat (first | (with_reducible first | exact HB.out | apply below_alloc | apply pw_below_drewN | apply below_drew1) | exact HB.out)) hb); clear HB; have HO182 := n0_; have HB := n1_; clear n0_ n1_; clear hb ho3) | ((with_reducible refine gate_dst (N := 7) rfl ?_); refine Kd.R_lit Kd.string _ 9 ?hg (N := 7) ?hd (xs := ([(⟨#[45, 62]⟩ : ByteArray), (⟨#[111, 114]⟩ : ByteArray), (⟨#[97, 110, 100]⟩ : ByteArray), (⟨#[61, 61]⟩ : ByteArray), (⟨#[33, 61]⟩ : ByteArray), (⟨#[60]⟩ : ByteArray), (⟨#[60, 61]⟩ : ByteArray), (⟨#[43]⟩ : ByteArray), (⟨#[45]⟩ : ByteArray), (⟨#[42]⟩ : ByteArray), (⟨#[47]⟩ : ByteArray), (⟨#[37]⟩ : ByteArray)] : List ByteArray)) (inner := [.string (⟨#[45, 62]⟩ : ByteArray), .string (⟨#[111, 114]⟩ : ByteArray), .string (⟨#[97, 110, 100]⟩ : ByteArray), .string (⟨#[61, 61]⟩ : ByteArray), .string (⟨#[33, 61]⟩ : ByteArray), .string (⟨#[60]⟩ : ByteArray), .string (⟨#[60, 61]⟩ : ByteArray), .string (⟨#[43]⟩ : ByteArray), .string (⟨#[45]⟩ : ByteArray), .string (⟨#[42]⟩ : ByteArray), .string (⟨#[47]⟩ : ByteArray), .string (⟨#[37]⟩ : ByteArray)]) (ok := fun _ => True) (okp := fun _ => True) ?hr ?hp (fun _ hk => hk) trivial (Below.refl _ _) (Nat.le_refl _) (by simp) ?_; (case hd => rfl); (case hg => rfl); (case hr => first | (go_simp; done) | (go_simp; rfl)); (case hp => exact (Reps.one (show Kd.M Kd.string _ _ _ (⟨#[45, 62]⟩ : ByteArray) [.string (⟨#[45, 62]⟩ : ByteArray)] from rfl) (Reps.one (show Kd.M Kd.string _ _ _ (⟨#[111, 114]⟩ : ByteArray) [.string (⟨#[111, 114]⟩ : ByteArray)] from rfl) (Reps.one (show Kd.M Kd.string _ _ _ (⟨#[97, 110, 100]⟩ : ByteArray) [.string (⟨#[97, 110, 100]⟩ : ByteArray)] from rfl) (Reps.one (show Kd.M Kd.string _ _ _ (⟨#[61, 61]⟩ : ByteArray) [.string (⟨#[61, 61]⟩ : ByteArray)] from rfl) (Reps.one (show Kd.M Kd.string _ _ _ (⟨#[33, 61]⟩ : ByteArray) [.string (⟨#[33, 61]⟩ : ByteArray)] from rfl) (Reps.one (show Kd.M Kd.string _ _ _ (⟨#[60]⟩ : ByteArray) [.string (⟨#[60]⟩ : ByteArray)] from rfl) (Reps.one (show Kd.M Kd.string _ _ _ (⟨#[60, 61]⟩ : ByteArray) [.string (⟨#[60, 61]⟩ : ByteArray)] from rfl) (Reps.one (show Kd.M Kd.string _ _ _ (⟨#[43]⟩ : ByteArray) [.string (⟨#[43]⟩ : ByteArray)] from rfl) (Reps.one (show Kd.M Kd.string _ _ _ (⟨#[45]⟩ : ByteArray) [.string (⟨#[45]⟩ : ByteArray)] from rfl) (Reps.one (show Kd.M Kd.string _ _ _ (⟨#[42]⟩ : ByteArray) [.string (⟨#[42]⟩ : ByteArray)] from rfl) (Reps.one (show Kd.M Kd.string _ _ _ (⟨#[47]⟩ : ByteArray) [.string (⟨#[47]⟩ : ByteArray)] from rfl) (Reps.one (show Kd.M Kd.string _ _ _ (⟨#[37]⟩ : ByteArray) [.string (⟨#[37]⟩ : ByteArray)] from rfl) (Reps.none _ _)))))))))))))); intro v184 w4 ho5 hb hg_ hnew_; clear hg_ hnew_; (first | rw [← Ny183.out] at ho5 | (simp only [Int.reduceToNat] at ho5; rw [← Ny183.out] at ho5)); have n0_ := Aside0.mk (Kd.R_below (by (with_reducible repeat (first | apply Kd.R_alloc | apply Kd.R_drewN | apply Kd.R_drew)); exact HO182.out) hb); have n1_ := Aside0.mk (Kd.R_lower ho5 (below_size (by repeat (first | (with_reducible first | exact HB.out | apply below_alloc | apply pw_below_drewN | apply below_drew1) | exact HB.out)))); have n2_ := Aside0.mk (below_step (by repeat (first | (with_reducible first | exact HB.out | apply below_alloc | apply pw_below_drewN | apply below_drew1) | exact HB.out)) hb); clear HO182; clear HB; have HO182 := n0_; have HO185 := n1_; have HB := n2_; clear n0_ n1_ n2_; clear hb ho5))
 go_loopg [5] k (fun kq v5 w' => ∃ (x5_1 : Int), v5 = .int .i64 x5_1 ∧ Aside0 (belfryref05_sign.l0 kq a0 y180 y183 x5_1 = some r) ∧ Aside0 (kq ≤ k) ∧ Aside0 (Kd.R (Kd.int .u8) 22 w' w.heap.size (fun _ => True) v181 y180) ∧ Aside0 (Kd.R Kd.string 9 w' w.heap.size (fun _ => True) v184 y183) ∧ Aside0 (Below w.heap.size w w'))
 case atStart => exact ⟨(0), (by first | rfl | (simp; done) | (simp [*]; done)), H', ⟨Nat.le_refl _⟩, ⟨by (with_reducible repeat (first | apply Kd.R_alloc | apply Kd.R_drewN | apply Kd.R_drew)); exact HO182.out⟩, ⟨by (with_reducible repeat (first | apply Kd.R_alloc | apply Kd.R_drewN | apply Kd.R_drew)); exact HO185.out⟩, ⟨by repeat (first | (with_reducible first | exact HB.out | apply below_alloc | apply pw_below_drewN | apply below_drew1) | exact HB.out)⟩⟩
 case round =>
  clear H'
  try clear p2
  try clear c5
  obtain ⟨x5_1, rfl, HA, HK1, HO_3, HO_4, HB⟩ := hrel
  cases gk with
  | zero => exact absurd HA.out (by simp [belfryref05_sign.l0])
  | succ k1 =>
   have H := HA.out
   clear HA
   simp only [belfryref05_sign.l0] at H
   by_cases c6 : x5_1 < (y180.length : Int)
   ·rw [if_pos c6] at H
    have c6b0 : decide (x5_1 < (y180.length : Int)) = true := decide_eq_true c6
    clear c6
    by_cases c7 : 0 ≤ x5_1
    ·rw [if_pos c7] at H
     have c7b0 : decide (0 ≤ x5_1) = true := decide_eq_true c7
     clear c7
     by_cases c8 : (rd y180 x5_1) = a0
     ·rw [if_pos c8] at H
      have c8b0 : ((rd y180 x5_1) == a0) = true := beq_iff_eq.mpr c8
      have c8b1 : ((rd y180 x5_1) != a0) = false := bne_eq_false_iff_eq.mpr c8
      clear c8
      by_cases c9 : x5_1 < (y183.length : Int)
      ·rw [if_pos c9] at H
       have c9b0 : decide (x5_1 < (y183.length : Int)) = true := decide_eq_true c9
       clear c9
       obtain rfl := Option.some.inj H
       obtain ⟨Ao10, co10, eo10⟩ := Kd.R_slice HO_3.out
       subst eo10
       have p186 : 0 ≤ (x5_1 : Int) := of_decide_eq_true (by first | (with_reducible assumption) | assumption)
       have q186 : x5_1 < (y180.length : Int) := of_decide_eq_true (by first | (with_reducible assumption) | assumption)
       obtain ⟨ad186, e186, hx186_0⟩ := Kd.at_int (Kd.R_reads' HO_3.out).2.2 x5_1 p186 q186
       cases e186
       replace p186 := eq_true p186
       replace q186 := eq_true q186
       obtain ⟨Ao11, co11, eo11⟩ := Kd.R_slice HO_4.out
       subst eo11
       have p187 : 0 ≤ (x5_1 : Int) := of_decide_eq_true (by first | (with_reducible assumption) | assumption)
       have q187 : x5_1 < (y183.length : Int) := of_decide_eq_true (by first | (with_reducible assumption) | assumption)
       obtain ⟨ad187, e187, hx187_0⟩ := Kd.at_string (Kd.R_reads' HO_4.out).2.2 x5_1 p187 q187
       cases e187
       replace p187 := eq_true p187
       replace q187 := eq_true q187
       go_wp2
       go_ret
       exact ⟨by first | rfl | (simp [errW_none, errW_some] <;> rfl) | (simp [*, errW_none, errW_some] <;> rfl), by repeat (first | (with_reducible first | exact HB.out | apply below_alloc | apply pw_below_drewN | apply below_drew1) | exact HB.out)⟩
      ·rw [if_neg c9] at H
       exact absurd H (by simp)
     ·rw [if_neg c8] at H
      have c8b0 : ((rd y180 x5_1) == a0) = false := beq_eq_false_iff_ne.mpr c8
      have c8b1 : ((rd y180 x5_1) != a0) = true := bne_iff_ne.mpr c8
      have H' := Aside0.mk H
      clear H
      obtain ⟨Ao12, co12, eo12⟩ := Kd.R_slice HO_3.out
      subst eo12
      have p186 : 0 ≤ (x5_1 : Int) := of_decide_eq_true (by first | (with_reducible assumption) | assumption)
      have q186 : x5_1 < (y180.length : Int) := of_decide_eq_true (by first | (with_reducible assumption) | assumption)
      obtain ⟨ad186, e186, hx186_0⟩ := Kd.at_int (Kd.R_reads' HO_3.out).2.2 x5_1 p186 q186
      cases e186
      replace p186 := eq_true p186
      replace q186 := eq_true q186
      go_wp2
      go_roundg k1
      case measure => have := HK1.out; omega
      case rel => exact ⟨(wrap64 (x5_1 + 1)), (by first | rfl | (simp; done) | (simp [*]; done)), H', ⟨by have := HK1.out; omega⟩, ⟨by (with_reducible repeat (first | apply Kd.R_alloc | apply Kd.R_drewN | apply Kd.R_drew)); exact HO_3.out⟩, ⟨by (with_reducible repeat (first | apply Kd.R_alloc | apply Kd.R_drewN | apply Kd.R_drew)); exact HO_4.out⟩, ⟨by repeat (first | (with_reducible first | exact HB.out | apply below_alloc | apply pw_below_drewN | apply below_drew1) | exact HB.out)⟩⟩
    ·rw [if_neg c7] at H
     exact absurd H (by simp)
   ·rw [if_neg c6] at H
    have c6b0 : decide (x5_1 < (y180.length : Int)) = false := decide_eq_false c6
    clear c6
    obtain rfl := Option.some.inj H
    obtain ⟨Ao13, co13, eo13⟩ := Kd.R_slice HO_3.out
    subst eo13
    go_wp2
    go_ret
    exact ⟨by first | rfl | (simp [errW_none, errW_some] <;> rfl) | (simp [*, errW_none, errW_some] <;> rfl), by repeat (first | (with_reducible first | exact HB.out | apply below_alloc | apply pw_below_drewN | apply below_drew1) | exact HB.out)⟩

end Go.Proofs.YtbdciibbgiphcaaDoor.V

-- Written for this claim by wip/myprint.py (a program of this session over the kit's printer).
namespace Go.Proofs.YtbdciibbgiphcaaDoor.V
open Go.RowKit Go.Proofs.YtbdciibbgiphcaaDoorW.PrintWords Go.Proofs.YtbdciibbgiphcaaDoorW.PrintLast Go.Proofs.YtbdciibbgiphcaaDoorW.PrintMore
attribute [local go_sem] max2_int min2_int max_two min_two max_three min_three max_four min_four   -- for this text's walks alone
set_option linter.unusedVariables false
set_option linter.unusedSimpArgs false

/-! ### a group: belfryref05_part, belfryref05_written -/
mutual
def belfryref05_part.f : Nat → Int → Int → ByteArray → List (S25) → Int → Option (ByteArray)
 | 0, _, _, _, _, _ => none
 | k + 1, a0_0, a0_1, a0_2, l0_3, a1 => (belfryref05_written.f k a0_0 a0_1 a0_2 l0_3).bind fun t221 => ((belfryref05_rank.f k a0_0).bind fun t222 => (if t222 < a1 then (if 1 + t221.size ≤ 9223372036854775807 then (if ((⟨#[40]⟩ : ByteArray) ++ t221).size + 1 ≤ 9223372036854775807 then (some (((⟨#[40]⟩ : ByteArray) ++ t221) ++ (⟨#[41]⟩ : ByteArray))) else (none)) else (none)) else (some t221)))
def belfryref05_written.f : Nat → Int → Int → ByteArray → List (S25) → Option (ByteArray)
 | 0, _, _, _, _ => none
 | k + 1, a0_0, a0_1, a0_2, l0_3 => (belfryref05_rank.f k a0_0).bind fun t224 => (if a0_0 = 1 then ((belfryref05_Digits.f a0_1).bind fun t225 => (some t225)) else (if a0_0 = 2 then (if a0_1 = 1 then (some (⟨#[116, 114, 117, 101]⟩ : ByteArray)) else (some (⟨#[102, 97, 108, 115, 101]⟩ : ByteArray))) else (if a0_0 = 3 then (some a0_2) else (if a0_0 = 17 then (if 0 < (l0_3.length : Int) then ((belfryref05_part.f k ((rd_T25 l0_3 0).f0) ((rd_T25 l0_3 0).f1) ((rd_T25 l0_3 0).f2) ((rd_T25 l0_3 0).f3) 0).bind fun t227 => (if 3 + t227.size ≤ 9223372036854775807 then (if ((⟨#[105, 102, 32]⟩ : ByteArray) ++ t227).size + 6 ≤ 9223372036854775807 then (if 1 < (l0_3.length : Int) then ((belfryref05_part.f k ((rd_T25 l0_3 1).f0) ((rd_T25 l0_3 1).f1) ((rd_T25 l0_3 1).f2) ((rd_T25 l0_3 1).f3) 0).bind fun t229 => (if (((⟨#[105, 102, 32]⟩ : ByteArray) ++ t227) ++ (⟨#[32, 116, 104, 101, 110, 32]⟩ : ByteArray)).size + t229.size ≤ 9223372036854775807 then (if ((((⟨#[105, 102, 32]⟩ : ByteArray) ++ t227) ++ (⟨#[32, 116, 104, 101, 110, 32]⟩ : ByteArray)) ++ t229).size + 6 ≤ 9223372036854775807 then (if 2 < (l0_3.length : Int) then ((belfryref05_part.f k ((rd_T25 l0_3 2).f0) ((rd_T25 l0_3 2).f1) ((rd_T25 l0_3 2).f2) ((rd_T25 l0_3 2).f3) 0).bind fun t231 => (if (((((⟨#[105, 102, 32]⟩ : ByteArray) ++ t227) ++ (⟨#[32, 116, 104, 101, 110, 32]⟩ : ByteArray)) ++ t229) ++ (⟨#[32, 101, 108, 115, 101, 32]⟩ : ByteArray)).size + t231.size ≤ 9223372036854775807 then (some ((((((⟨#[105, 102, 32]⟩ : ByteArray) ++ t227) ++ (⟨#[32, 116, 104, 101, 110, 32]⟩ : ByteArray)) ++ t229) ++ (⟨#[32, 101, 108, 115, 101, 32]⟩ : ByteArray)) ++ t231)) else (none))) else (none)) else (none)) else (none))) else (none)) else (none)) else (none))) else (none)) else (if a0_0 = 5 then (if 0 < (l0_3.length : Int) then ((belfryref05_part.f k ((rd_T25 l0_3 0).f0) ((rd_T25 l0_3 0).f1) ((rd_T25 l0_3 0).f2) ((rd_T25 l0_3 0).f3) 6).bind fun t233 => (if 4 + t233.size ≤ 9223372036854775807 then (some ((⟨#[110, 111, 116, 32]⟩ : ByteArray) ++ t233)) else (none))) else (none)) else (if a0_0 = 19 then (if 0 < (l0_3.length : Int) then ((belfryref05_part.f k ((rd_T25 l0_3 0).f0) ((rd_T25 l0_3 0).f1) ((rd_T25 l0_3 0).f2) ((rd_T25 l0_3 0).f3) 6).bind fun t235 => (if 4 + t235.size ≤ 9223372036854775807 then (some ((⟨#[112, 114, 101, 32]⟩ : ByteArray) ++ t235)) else (none))) else (none)) else (if a0_0 = 4 then (if 0 < (l0_3.length : Int) then ((belfryref05_part.f k ((rd_T25 l0_3 0).f0) ((rd_T25 l0_3 0).f1) ((rd_T25 l0_3 0).f2) ((rd_T25 l0_3 0).f3) 6).bind fun t237 => (if 0 < (t237.size : Int) then (if (bt t237 0) = 45 then (if 2 + t237.size ≤ 9223372036854775807 then (some ((⟨#[45, 32]⟩ : ByteArray) ++ t237)) else (none)) else (if 1 + t237.size ≤ 9223372036854775807 then (some ((⟨#[45]⟩ : ByteArray) ++ t237)) else (none))) else (none))) else (none)) else (if a0_0 = 18 then (if 0 < (l0_3.length : Int) then ((belfryref05_part.f k ((rd_T25 l0_3 0).f0) ((rd_T25 l0_3 0).f1) ((rd_T25 l0_3 0).f2) ((rd_T25 l0_3 0).f3) 1).bind fun t239 => (if t239.size + 4 ≤ 9223372036854775807 then (if 1 < (l0_3.length : Int) then ((belfryref05_part.f k ((rd_T25 l0_3 1).f0) ((rd_T25 l0_3 1).f1) ((rd_T25 l0_3 1).f2) ((rd_T25 l0_3 1).f3) 0).bind fun t241 => (if (t239 ++ (⟨#[32, 45, 62, 32]⟩ : ByteArray)).size + t241.size ≤ 9223372036854775807 then (some ((t239 ++ (⟨#[32, 45, 62, 32]⟩ : ByteArray)) ++ t241)) else (none))) else (none)) else (none))) else (none)) else (if t224 = 3 then (if 0 < (l0_3.length : Int) then ((belfryref05_part.f k ((rd_T25 l0_3 0).f0) ((rd_T25 l0_3 0).f1) ((rd_T25 l0_3 0).f2) ((rd_T25 l0_3 0).f3) 4).bind fun t243 => (if t243.size + 1 ≤ 9223372036854775807 then ((belfryref05_sign.f k a0_0).bind fun t244 => (if (t243 ++ (⟨#[32]⟩ : ByteArray)).size + t244.size ≤ 9223372036854775807 then (if ((t243 ++ (⟨#[32]⟩ : ByteArray)) ++ t244).size + 1 ≤ 9223372036854775807 then (if 1 < (l0_3.length : Int) then ((belfryref05_part.f k ((rd_T25 l0_3 1).f0) ((rd_T25 l0_3 1).f1) ((rd_T25 l0_3 1).f2) ((rd_T25 l0_3 1).f3) (wrap64 (t224 + 1))).bind fun t246 => (if (((t243 ++ (⟨#[32]⟩ : ByteArray)) ++ t244) ++ (⟨#[32]⟩ : ByteArray)).size + t246.size ≤ 9223372036854775807 then (some ((((t243 ++ (⟨#[32]⟩ : ByteArray)) ++ t244) ++ (⟨#[32]⟩ : ByteArray)) ++ t246)) else (none))) else (none)) else (none)) else (none))) else (none))) else (none)) else (if 0 < (l0_3.length : Int) then ((belfryref05_part.f k ((rd_T25 l0_3 0).f0) ((rd_T25 l0_3 0).f1) ((rd_T25 l0_3 0).f2) ((rd_T25 l0_3 0).f3) t224).bind fun t248 => (if t248.size + 1 ≤ 9223372036854775807 then ((belfryref05_sign.f k a0_0).bind fun t249 => (if (t248 ++ (⟨#[32]⟩ : ByteArray)).size + t249.size ≤ 9223372036854775807 then (if ((t248 ++ (⟨#[32]⟩ : ByteArray)) ++ t249).size + 1 ≤ 9223372036854775807 then (if 1 < (l0_3.length : Int) then ((belfryref05_part.f k ((rd_T25 l0_3 1).f0) ((rd_T25 l0_3 1).f1) ((rd_T25 l0_3 1).f2) ((rd_T25 l0_3 1).f3) (wrap64 (t224 + 1))).bind fun t251 => (if (((t248 ++ (⟨#[32]⟩ : ByteArray)) ++ t249) ++ (⟨#[32]⟩ : ByteArray)).size + t251.size ≤ 9223372036854775807 then (some ((((t248 ++ (⟨#[32]⟩ : ByteArray)) ++ t249) ++ (⟨#[32]⟩ : ByteArray)) ++ t251)) else (none))) else (none)) else (none)) else (none))) else (none))) else (none)))))))))))
end
theorem belfryref05_part.mono_g : ∀ k, (∀ y0 y1 y2 y3 y4, LeO (belfryref05_part.f k y0 y1 y2 y3 y4) (belfryref05_part.f (k + 1) y0 y1 y2 y3 y4)) ∧ (∀ y0 y1 y2 y3, LeO (belfryref05_written.f k y0 y1 y2 y3) (belfryref05_written.f (k + 1) y0 y1 y2 y3))
 | 0 => ⟨fun _ _ _ _ _ r h => by simp [belfryref05_part.f] at h, fun _ _ _ _ r h => by simp [belfryref05_written.f] at h⟩
 | k + 1 => by
  obtain ⟨ih0, ih1⟩ := belfryref05_part.mono_g k
  refine ⟨?_, ?_⟩
  ·intro y0 y1 y2 y3 y4
   unfold belfryref05_part.f
   repeat' first
   | (with_reducible exact ih0 _ _ _ _ _)
   | (with_reducible exact ih1 _ _ _ _)
   | (with_reducible exact belfryref05_rank.mono _ _)
   | (with_reducible exact belfryref05_sign.mono _ _)
   | (with_reducible exact LeO.refl _)
   | (with_reducible exact LeO.none _)
   | (with_reducible refine LeO.ite ?_ ?_)
   | (with_reducible refine LeO.bind ?_ (fun _ => ?_))
   | exact ih0 _ _ _ _ _
   | exact ih1 _ _ _ _
   | exact belfryref05_rank.mono _ _
   | exact belfryref05_sign.mono _ _
   | exact LeO.none _
   | refine LeO.ite ?_ ?_
   | refine LeO.bind ?_ (fun _ => ?_)
  ·intro y0 y1 y2 y3
   unfold belfryref05_written.f
   repeat' first
   | (with_reducible exact ih0 _ _ _ _ _)
   | (with_reducible exact ih1 _ _ _ _)
   | (with_reducible exact belfryref05_rank.mono _ _)
   | (with_reducible exact belfryref05_sign.mono _ _)
   | (with_reducible exact LeO.refl _)
   | (with_reducible exact LeO.none _)
   | (with_reducible refine LeO.ite ?_ ?_)
   | (with_reducible refine LeO.bind ?_ (fun _ => ?_))
   | exact ih0 _ _ _ _ _
   | exact ih1 _ _ _ _
   | exact belfryref05_rank.mono _ _
   | exact belfryref05_sign.mono _ _
   | exact LeO.none _
   | refine LeO.ite ?_ ?_
   | refine LeO.bind ?_ (fun _ => ?_)
theorem belfryref05_part.mono : ∀ a0 a1 a2 a3 a4 k, LeO (belfryref05_part.f k a0 a1 a2 a3 a4) (belfryref05_part.f (k + 1) a0 a1 a2 a3 a4) := by
 intro a0 a1 a2 a3 a4 k
 obtain ⟨ih0, ih1⟩ := belfryref05_part.mono_g k
 exact ih0 a0 a1 a2 a3 a4
theorem belfryref05_written.mono : ∀ a0 a1 a2 a3 k, LeO (belfryref05_written.f k a0 a1 a2 a3) (belfryref05_written.f (k + 1) a0 a1 a2 a3) := by
 intro a0 a1 a2 a3 k
 obtain ⟨ih0, ih1⟩ := belfryref05_part.mono_g k
 exact ih1 a0 a1 a2 a3
/-! ### belfryref05_part: function 54 -/
end Go.Proofs.YtbdciibbgiphcaaDoor.V
