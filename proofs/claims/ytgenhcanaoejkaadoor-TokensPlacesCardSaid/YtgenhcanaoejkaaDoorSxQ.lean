-- Written for this claim by wip/myprint.py (a program of this session over the kit's printer).
import Derived.Test.YtgenhcanaoejkaaDoorSx0
import Derived.Test.YtgenhcanaoejkaaDoorExt
import Derived.Test.YtgenhcanaoejkaaDoorSxP
namespace Go.Proofs.YtgenhcanaoejkaaDoor.S
open Go.RowKit Go.Proofs.YtgenhcanaoejkaaDoorW.PrintWords Go.Proofs.YtgenhcanaoejkaaDoorW.PrintLast Go.Proofs.YtgenhcanaoejkaaDoorW.PrintMore
attribute [local go_sem] max2_int min2_int max_two min_two max_three min_three max_four min_four   -- for this text's walks alone
set_option linter.unusedVariables false
set_option linter.unusedSimpArgs false

set_option maxHeartbeats 8000000 in
set_option maxRecDepth 100000 in
theorem belfrylaw04_TokensPlaces.calls (k : Nat) (a0 : ByteArray) (r : Bool) (w : World) (hvw : VarOk w) (hrt : r = true) (h : belfrylaw04_TokensPlaces.f k a0 = some r) :
    Calls Tryd.prog 4 #[.string a0] w fun e w' => e = .returned (.bool r) ∧ Below w.heap.size w w' := by
  have HB := Aside0.mk (Below.refl w.heap.size w)
  have H : ((belfrylaw04_alive.f).bind fun t149 => (if t149 = true then (belfrylaw04_TokensPlaces.j0 k a0 (decide ((a0.size : Int) > 65536))) else (belfrylaw04_TokensPlaces.j0 k a0 true))) = some r := h
  clear h
  have HC2 := Aside0.mk H
  clear H
  go_enter Tryd.func4, Tryd.ntmps4
  go_upto_region 1 with (fail)
  repeat (go_quiet (fail); go_upto_region 1 with (fail))
  go_cut [17] (fun v17 wc => ∃ (kq : Nat) (x17_1 : Bool), v17 = .bool x17_1 ∧ Aside0 (belfrylaw04_TokensPlaces.j0 kq a0 x17_1 = some r) ∧ Aside0 (kq ≤ k) ∧ Aside0 (Below w.heap.size w wc))
  case first =>
    have H := HC2.out
    clear HC2
    replace H := Option.bind_eq_some_iff.mp H
    obtain ⟨t149, A30, H⟩ := H
    replace H : (if t149 = true then (belfrylaw04_TokensPlaces.j0 k a0 (decide ((a0.size : Int) > 65536))) else (belfrylaw04_TokensPlaces.j0 k a0 true)) = some r := H
    have A3 := Aside0.mk A30
    clear A30
    by_cases c4 : t149 = true
    · subst c4
      have H1 : (belfrylaw04_TokensPlaces.j0 k a0 (decide ((a0.size : Int) > 65536))) = some r := by rw [if_pos rfl] at H; exact H
      clear H
      have H := H1
      clear H1
      have H' := Aside0.mk H
      clear H
      go_wp2_with (first | (go_at_call 15; (refine (belfrylaw04_alive.callsB true _ hvw (by repeat (first | (with_reducible first | exact HB.out | apply below_alloc | apply pw_below_drewN | apply below_drew1) | exact HB.out)) A3.out).mono ?_); rintro e w5 ⟨rfl, hb⟩; have n0_ := Aside0.mk (below_step (by repeat (first | (with_reducible first | exact HB.out | apply below_alloc | apply pw_below_drewN | apply below_drew1) | exact HB.out)) hb); clear HB; have HB := n0_; clear n0_; (try clear hb); (try clear hb2); (try clear hk); (try clear hi)))
      repeat (go_quiet (first | (go_at_call 15; (refine (belfrylaw04_alive.callsB true _ hvw (by repeat (first | (with_reducible first | exact HB.out | apply below_alloc | apply pw_below_drewN | apply below_drew1) | exact HB.out)) A3.out).mono ?_); rintro e w5 ⟨rfl, hb⟩; have n0_ := Aside0.mk (below_step (by repeat (first | (with_reducible first | exact HB.out | apply below_alloc | apply pw_below_drewN | apply below_drew1) | exact HB.out)) hb); clear HB; have HB := n0_; clear n0_; (try clear hb); (try clear hb2); (try clear hk); (try clear hi))); try go_wp2_with (first | (go_at_call 15; (refine (belfrylaw04_alive.callsB true _ hvw (by repeat (first | (with_reducible first | exact HB.out | apply below_alloc | apply pw_below_drewN | apply below_drew1) | exact HB.out)) A3.out).mono ?_); rintro e w5 ⟨rfl, hb⟩; have n0_ := Aside0.mk (below_step (by repeat (first | (with_reducible first | exact HB.out | apply below_alloc | apply pw_below_drewN | apply below_drew1) | exact HB.out)) hb); clear HB; have HB := n0_; clear n0_; (try clear hb); (try clear hb2); (try clear hk); (try clear hi))))
      go_meet
      case rel => exact ⟨_, (decide ((a0.size : Int) > 65536)), (by first | rfl | (simp; done) | (simp [*]; done)), H', ⟨by first | omega | exact Nat.le_refl _⟩, ⟨by repeat (first | (with_reducible first | exact HB.out | apply below_alloc | apply pw_below_drewN | apply below_drew1) | exact HB.out)⟩⟩
    · replace c4 := Bool.eq_false_iff.mpr c4
      subst c4
      have H1 : (belfrylaw04_TokensPlaces.j0 k a0 true) = some r := by rw [if_neg (show ¬ (false = true) by decide)] at H; exact H
      clear H
      have H := H1
      clear H1
      have H' := Aside0.mk H
      clear H
      go_wp2_with (first | (go_at_call 15; (refine (belfrylaw04_alive.callsB false _ hvw (by repeat (first | (with_reducible first | exact HB.out | apply below_alloc | apply pw_below_drewN | apply below_drew1) | exact HB.out)) A3.out).mono ?_); rintro e w6 ⟨rfl, hb⟩; have n0_ := Aside0.mk (below_step (by repeat (first | (with_reducible first | exact HB.out | apply below_alloc | apply pw_below_drewN | apply below_drew1) | exact HB.out)) hb); clear HB; have HB := n0_; clear n0_; (try clear hb); (try clear hb2); (try clear hk); (try clear hi)))
      repeat (go_quiet (first | (go_at_call 15; (refine (belfrylaw04_alive.callsB false _ hvw (by repeat (first | (with_reducible first | exact HB.out | apply below_alloc | apply pw_below_drewN | apply below_drew1) | exact HB.out)) A3.out).mono ?_); rintro e w6 ⟨rfl, hb⟩; have n0_ := Aside0.mk (below_step (by repeat (first | (with_reducible first | exact HB.out | apply below_alloc | apply pw_below_drewN | apply below_drew1) | exact HB.out)) hb); clear HB; have HB := n0_; clear n0_; (try clear hb); (try clear hb2); (try clear hk); (try clear hi))); try go_wp2_with (first | (go_at_call 15; (refine (belfrylaw04_alive.callsB false _ hvw (by repeat (first | (with_reducible first | exact HB.out | apply below_alloc | apply pw_below_drewN | apply below_drew1) | exact HB.out)) A3.out).mono ?_); rintro e w6 ⟨rfl, hb⟩; have n0_ := Aside0.mk (below_step (by repeat (first | (with_reducible first | exact HB.out | apply below_alloc | apply pw_below_drewN | apply below_drew1) | exact HB.out)) hb); clear HB; have HB := n0_; clear n0_; (try clear hb); (try clear hb2); (try clear hk); (try clear hi))))
      go_meet
      case rel => exact ⟨_, (true), (by first | rfl | (simp; done) | (simp [*]; done)), H', ⟨by first | omega | exact Nat.le_refl _⟩, ⟨by repeat (first | (with_reducible first | exact HB.out | apply below_alloc | apply pw_below_drewN | apply below_drew1) | exact HB.out)⟩⟩
  case rest =>
    clear HC2
    try clear p2
    try clear c4
    obtain ⟨kq, x17_1, rfl, HA, HJ1, HB⟩ := hcut
    cases kq with
    | zero => exact absurd HA.out (by simp [belfrylaw04_TokensPlaces.j0])
    | succ kj1 =>
      have H := HA.out
      clear HA
      simp only [belfrylaw04_TokensPlaces.j0] at H
      by_cases c7 : x17_1 = true
      · subst c7
        have H1 : ((belfrylaw04_alive.f).bind fun t150 => (some t150)) = some r := by rw [if_pos rfl] at H; exact H
        clear H
        have H := H1
        clear H1
        replace H := Option.bind_eq_some_iff.mp H
        obtain ⟨t150, A80, H⟩ := H
        replace H : (some t150) = some r := H
        have A8 := Aside0.mk A80
        clear A80
        obtain rfl := Option.some.inj H
        try (exact absurd hrt (by decide))
        all_goals go_wp2_with (first | (go_at_call 15; (refine (belfrylaw04_alive.callsB t150 _ hvw (by repeat (first | (with_reducible first | exact HB.out | apply below_alloc | apply pw_below_drewN | apply below_drew1) | exact HB.out)) A8.out).mono ?_); rintro e w9 ⟨rfl, hb⟩; have n0_ := Aside0.mk (below_step (by repeat (first | (with_reducible first | exact HB.out | apply below_alloc | apply pw_below_drewN | apply below_drew1) | exact HB.out)) hb); clear HB; have HB := n0_; clear n0_; (try clear hb); (try clear hb2); (try clear hk); (try clear hi)))
        all_goals repeat (go_quiet (first | (go_at_call 15; (refine (belfrylaw04_alive.callsB t150 _ hvw (by repeat (first | (with_reducible first | exact HB.out | apply below_alloc | apply pw_below_drewN | apply below_drew1) | exact HB.out)) A8.out).mono ?_); rintro e w9 ⟨rfl, hb⟩; have n0_ := Aside0.mk (below_step (by repeat (first | (with_reducible first | exact HB.out | apply below_alloc | apply pw_below_drewN | apply below_drew1) | exact HB.out)) hb); clear HB; have HB := n0_; clear n0_; (try clear hb); (try clear hb2); (try clear hk); (try clear hi))); try go_wp2_with (first | (go_at_call 15; (refine (belfrylaw04_alive.callsB t150 _ hvw (by repeat (first | (with_reducible first | exact HB.out | apply below_alloc | apply pw_below_drewN | apply below_drew1) | exact HB.out)) A8.out).mono ?_); rintro e w9 ⟨rfl, hb⟩; have n0_ := Aside0.mk (below_step (by repeat (first | (with_reducible first | exact HB.out | apply below_alloc | apply pw_below_drewN | apply below_drew1) | exact HB.out)) hb); clear HB; have HB := n0_; clear n0_; (try clear hb); (try clear hb2); (try clear hk); (try clear hi))))
        all_goals go_ret
        all_goals exact ⟨by first | rfl | (simp [errW_none, errW_some] <;> rfl) | (simp [*, errW_none, errW_some] <;> rfl), by repeat (first | (with_reducible first | exact HB.out | apply below_alloc | apply pw_below_drewN | apply below_drew1) | exact HB.out)⟩
      · replace c7 := Bool.eq_false_iff.mpr c7
        subst c7
        have H1 : ((tokens_Read.f a0).bind fun bt151 => (if bt151.2.2 = 0 then (belfrylaw04_TokensPlaces.l0 kj1 a0 bt151.1 bt151.2.1 0 0) else (if bt151.2.2 = 5 then (if bt151.2.1 ≥ 0 then (if bt151.2.1 < (a0.size : Int) then (some ((bt151.1.length : Int) == 0)) else (some false)) else (some false)) else (some false)))) = some r := by rw [if_neg (show ¬ (false = true) by decide)] at H; exact H
        clear H
        have H := H1
        clear H1
        replace H := Option.bind_eq_some_iff.mp H
        obtain ⟨⟨t151, t152, t153⟩, A100, H⟩ := H
        replace H : (if t153 = 0 then (belfrylaw04_TokensPlaces.l0 kj1 a0 t151 t152 0 0) else (if t153 = 5 then (if t152 ≥ 0 then (if t152 < (a0.size : Int) then (some ((t151.length : Int) == 0)) else (some false)) else (some false)) else (some false))) = some r := H
        have A10 := Aside0.mk A100
        clear A100
        by_cases c11 : t153 = 0
        · rw [if_pos c11] at H
          have c11b0 : (t153 == 0) = true := beq_iff_eq.mpr c11
          have c11b1 : (t153 != 0) = false := bne_eq_false_iff_eq.mpr c11
          clear c11
          have H' := Aside0.mk H
          clear H
          go_wp2_with (first | (go_at_call 16; (with_reducible refine (tokens_Read.calls a0 t151 t152 t153 _ A10.out).mono ?_); rintro e w12 ⟨v154, rfl, ho0, hb⟩; have n0_ := Aside0.mk (Kd.R_lower ho0 (below_size (by repeat (first | (with_reducible first | exact HB.out | apply below_alloc | apply pw_below_drewN | apply below_drew1) | exact HB.out)))); have n1_ := Aside0.mk (below_step (by repeat (first | (with_reducible first | exact HB.out | apply below_alloc | apply pw_below_drewN | apply below_drew1) | exact HB.out)) hb); clear HB; have HO155 := n0_; have HB := n1_; clear n0_ n1_; (try clear hb); (try clear hb2); (try clear hk); (try clear hi); (try clear ho0)))
          repeat (go_quiet (first | (go_at_call 16; (with_reducible refine (tokens_Read.calls a0 t151 t152 t153 _ A10.out).mono ?_); rintro e w12 ⟨v154, rfl, ho0, hb⟩; have n0_ := Aside0.mk (Kd.R_lower ho0 (below_size (by repeat (first | (with_reducible first | exact HB.out | apply below_alloc | apply pw_below_drewN | apply below_drew1) | exact HB.out)))); have n1_ := Aside0.mk (below_step (by repeat (first | (with_reducible first | exact HB.out | apply below_alloc | apply pw_below_drewN | apply below_drew1) | exact HB.out)) hb); clear HB; have HO155 := n0_; have HB := n1_; clear n0_ n1_; (try clear hb); (try clear hb2); (try clear hk); (try clear hi); (try clear ho0))); try go_wp2_with (first | (go_at_call 16; (with_reducible refine (tokens_Read.calls a0 t151 t152 t153 _ A10.out).mono ?_); rintro e w12 ⟨v154, rfl, ho0, hb⟩; have n0_ := Aside0.mk (Kd.R_lower ho0 (below_size (by repeat (first | (with_reducible first | exact HB.out | apply below_alloc | apply pw_below_drewN | apply below_drew1) | exact HB.out)))); have n1_ := Aside0.mk (below_step (by repeat (first | (with_reducible first | exact HB.out | apply below_alloc | apply pw_below_drewN | apply below_drew1) | exact HB.out)) hb); clear HB; have HO155 := n0_; have HB := n1_; clear n0_ n1_; (try clear hb); (try clear hb2); (try clear hk); (try clear hi); (try clear ho0))))
          go_loopg [6, 7] kj1 (fun kq v6 v7 w' => ∃ (x6_2 : Int) (x7_2 : Int), v6 = .int .i64 x6_2 ∧ v7 = .int .i64 x7_2 ∧ Aside0 (belfrylaw04_TokensPlaces.l0 kq a0 t151 t152 x6_2 x7_2 = some r) ∧ Aside0 (kq ≤ kj1) ∧ Aside0 (Kd.R k32 32 w' w.heap.size (fun _ => True) v154 t151) ∧ Aside0 (Below w.heap.size w w'))
          case atStart => exact ⟨(0), (0), (by first | rfl | (simp; done) | (simp [*]; done)), (by first | rfl | (simp; done) | (simp [*]; done)), H', ⟨Nat.le_refl _⟩, ⟨by (with_reducible repeat (first | apply Kd.R_alloc | apply Kd.R_drewN | apply Kd.R_drew)); exact HO155.out⟩, ⟨by repeat (first | (with_reducible first | exact HB.out | apply below_alloc | apply pw_below_drewN | apply below_drew1) | exact HB.out)⟩⟩
          case round =>
            clear H'
            try clear c1
            try clear p2
            try clear c4
            try clear c7
            try clear c11
            try clear c11b0
            try clear c11b1
            try clear p2
            obtain ⟨x6_2, x7_2, rfl, rfl, HA, HK2, HO_3, HB⟩ := hrel
            cases gk with
            | zero => exact absurd HA.out (by simp [belfrylaw04_TokensPlaces.l0])
            | succ k2 =>
              have H := HA.out
              clear HA
              simp only [belfrylaw04_TokensPlaces.l0] at H
              by_cases c13 : x7_2 ≤ (t151.length : Int)
              · rw [if_pos c13] at H
                have c13b0 : decide (x7_2 ≤ (t151.length : Int)) = true := decide_eq_true c13
                clear c13
                have HC14 := Aside0.mk H
                clear H
                obtain ⟨Ao15, co15, eo15⟩ := Kd.R_slice HO_3.out
                subst eo15
                go_upto_if 55 with (fail)
                repeat (go_quiet (fail); go_upto_if 55 with (fail))
                go_cut [8] (fun v8 wc => ∃ (kq : Nat) (x8_13 : Int), v8 = .int .i64 x8_13 ∧ Aside0 (belfrylaw04_TokensPlaces.j2 kq a0 t151 t152 x6_2 x7_2 x8_13 = some r) ∧ Aside0 (kq ≤ k2) ∧ Aside0 (Kd.R k32 32 wc w.heap.size (fun _ => True) (.slice Ao15 t151.length co15) t151) ∧ Aside0 (Below w.heap.size w wc))
                case first =>
                  have H := HC14.out
                  clear HC14
                  by_cases c16 : x7_2 < (t151.length : Int)
                  · rw [if_pos c16] at H
                    have c16b0 : decide (x7_2 < (t151.length : Int)) = true := decide_eq_true c16
                    clear c16
                    (first | rw [c16b0] | (simp only [i64_w, i32_w]; rw [c16b0]) | skip)
                    by_cases c17 : 0 ≤ x7_2
                    · rw [if_pos c17] at H
                      have c17b0 : decide (0 ≤ x7_2) = true := decide_eq_true c17
                      clear c17
                      by_cases c18 : ((rd_T32 t151 x7_2).f2) < x6_2
                      · rw [if_pos c18] at H
                        have c18b0 : decide (((rd_T32 t151 x7_2).f2) < x6_2) = true := decide_eq_true c18
                        clear c18
                        obtain rfl := Option.some.inj H
                        try (exact absurd hrt (by decide))
                        all_goals have p156 : 0 ≤ (x7_2 : Int) := of_decide_eq_true (by first | (with_reducible assumption) | assumption)
                        all_goals have q156 : x7_2 < (t151.length : Int) := of_decide_eq_true (by first | (with_reducible assumption) | assumption)
                        all_goals obtain ⟨ad156, e156, hx156_0, hx156_1, hx156_2⟩ := at_T32 (Kd.R_reads' HO_3.out).2.2 x7_2 p156 q156
                        all_goals cases e156
                        all_goals replace p156 := eq_true p156
                        all_goals replace q156 := eq_true q156
                        all_goals go_wp2
                        all_goals repeat (go_quiet (fail); try go_wp2)
                        all_goals go_ret
                        all_goals exact ⟨by first | rfl | (simp [errW_none, errW_some] <;> rfl) | (simp [*, errW_none, errW_some] <;> rfl), by repeat (first | (with_reducible first | exact HB.out | apply below_alloc | apply pw_below_drewN | apply below_drew1) | exact HB.out)⟩
                      · rw [if_neg c18] at H
                        have c18b0 : decide (((rd_T32 t151 x7_2).f2) < x6_2) = false := decide_eq_false c18
                        clear c18
                        by_cases c19 : ((rd_T32 t151 x7_2).f1).toList = ([] : List UInt8)
                        · rw [if_pos c19] at H
                          have c19b0 : (((rd_T32 t151 x7_2).f1).toList == ([] : List UInt8)) = true := beq_iff_eq.mpr c19
                          have c19b1 : (((rd_T32 t151 x7_2).f1).toList != ([] : List UInt8)) = false := bne_eq_false_iff_eq.mpr c19
                          clear c19
                          obtain rfl := Option.some.inj H
                          try (exact absurd hrt (by decide))
                          all_goals have p156 : 0 ≤ (x7_2 : Int) := of_decide_eq_true (by first | (with_reducible assumption) | assumption)
                          all_goals have q156 : x7_2 < (t151.length : Int) := of_decide_eq_true (by first | (with_reducible assumption) | assumption)
                          all_goals obtain ⟨ad156, e156, hx156_0, hx156_1, hx156_2⟩ := at_T32 (Kd.R_reads' HO_3.out).2.2 x7_2 p156 q156
                          all_goals cases e156
                          all_goals replace p156 := eq_true p156
                          all_goals replace q156 := eq_true q156
                          all_goals have p157 : 0 ≤ (x7_2 : Int) := of_decide_eq_true (by first | (with_reducible assumption) | assumption)
                          all_goals have q157 : x7_2 < (t151.length : Int) := of_decide_eq_true (by first | (with_reducible assumption) | assumption)
                          all_goals obtain ⟨ad157, e157, hx157_0, hx157_1, hx157_2⟩ := at_T32 (Kd.R_reads' HO_3.out).2.2 x7_2 p157 q157
                          all_goals obtain rfl : ad156 = ad157 := (by injection e157)
                          all_goals replace p157 := eq_true p157
                          all_goals replace q157 := eq_true q157
                          all_goals go_wp2
                          all_goals repeat (go_quiet (fail); try go_wp2)
                          all_goals go_ret
                          all_goals exact ⟨by first | rfl | (simp [errW_none, errW_some] <;> rfl) | (simp [*, errW_none, errW_some] <;> rfl), by repeat (first | (with_reducible first | exact HB.out | apply below_alloc | apply pw_below_drewN | apply below_drew1) | exact HB.out)⟩
                        · rw [if_neg c19] at H
                          have c19b0 : (((rd_T32 t151 x7_2).f1).toList == ([] : List UInt8)) = false := beq_eq_false_iff_ne.mpr c19
                          have c19b1 : (((rd_T32 t151 x7_2).f1).toList != ([] : List UInt8)) = true := bne_iff_ne.mpr c19
                          by_cases c20 : (wrap64 ((a0.size : Int) - ((rd_T32 t151 x7_2).f2))) < (((rd_T32 t151 x7_2).f1).size : Int)
                          · rw [if_pos c20] at H
                            have c20b0 : decide ((wrap64 ((a0.size : Int) - ((rd_T32 t151 x7_2).f2))) < (((rd_T32 t151 x7_2).f1).size : Int)) = true := decide_eq_true c20
                            clear c20
                            obtain rfl := Option.some.inj H
                            try (exact absurd hrt (by decide))
                            all_goals have p156 : 0 ≤ (x7_2 : Int) := of_decide_eq_true (by first | (with_reducible assumption) | assumption)
                            all_goals have q156 : x7_2 < (t151.length : Int) := of_decide_eq_true (by first | (with_reducible assumption) | assumption)
                            all_goals obtain ⟨ad156, e156, hx156_0, hx156_1, hx156_2⟩ := at_T32 (Kd.R_reads' HO_3.out).2.2 x7_2 p156 q156
                            all_goals cases e156
                            all_goals replace p156 := eq_true p156
                            all_goals replace q156 := eq_true q156
                            all_goals have p157 : 0 ≤ (x7_2 : Int) := of_decide_eq_true (by first | (with_reducible assumption) | assumption)
                            all_goals have q157 : x7_2 < (t151.length : Int) := of_decide_eq_true (by first | (with_reducible assumption) | assumption)
                            all_goals obtain ⟨ad157, e157, hx157_0, hx157_1, hx157_2⟩ := at_T32 (Kd.R_reads' HO_3.out).2.2 x7_2 p157 q157
                            all_goals obtain rfl : ad156 = ad157 := (by injection e157)
                            all_goals replace p157 := eq_true p157
                            all_goals replace q157 := eq_true q157
                            all_goals have p158 : 0 ≤ (x7_2 : Int) := of_decide_eq_true (by first | (with_reducible assumption) | assumption)
                            all_goals have q158 : x7_2 < (t151.length : Int) := of_decide_eq_true (by first | (with_reducible assumption) | assumption)
                            all_goals obtain ⟨ad158, e158, hx158_0, hx158_1, hx158_2⟩ := at_T32 (Kd.R_reads' HO_3.out).2.2 x7_2 p158 q158
                            all_goals obtain rfl : ad156 = ad158 := (by injection e158)
                            all_goals replace p158 := eq_true p158
                            all_goals replace q158 := eq_true q158
                            all_goals go_wp2
                            all_goals repeat (go_quiet (fail); try go_wp2)
                            all_goals go_ret
                            all_goals exact ⟨by first | rfl | (simp [errW_none, errW_some] <;> rfl) | (simp [*, errW_none, errW_some] <;> rfl), by repeat (first | (with_reducible first | exact HB.out | apply below_alloc | apply pw_below_drewN | apply below_drew1) | exact HB.out)⟩
                          · rw [if_neg c20] at H
                            have c20b0 : decide ((wrap64 ((a0.size : Int) - ((rd_T32 t151 x7_2).f2))) < (((rd_T32 t151 x7_2).f1).size : Int)) = false := decide_eq_false c20
                            clear c20
                            by_cases c21 : 0 ≤ ((rd_T32 t151 x7_2).f2)
                            · rw [if_pos c21] at H
                              have c21b0 := eq_true c21
                              have c21b1 : decide (0 ≤ ((rd_T32 t151 x7_2).f2)) = true := decide_eq_true c21
                              clear c21
                              by_cases c22 : ((rd_T32 t151 x7_2).f2) ≤ (wrap64 (((rd_T32 t151 x7_2).f2) + (((rd_T32 t151 x7_2).f1).size : Int)))
                              · rw [if_pos c22] at H
                                have c22b0 := eq_true c22
                                have c22b1 : decide (((rd_T32 t151 x7_2).f2) ≤ (wrap64 (((rd_T32 t151 x7_2).f2) + (((rd_T32 t151 x7_2).f1).size : Int)))) = true := decide_eq_true c22
                                by_cases c23 : (wrap64 (((rd_T32 t151 x7_2).f2) + (((rd_T32 t151 x7_2).f1).size : Int))) ≤ (a0.size : Int)
                                · rw [if_pos c23] at H
                                  have c23b0 := eq_true c23
                                  have c23b1 : decide ((wrap64 (((rd_T32 t151 x7_2).f2) + (((rd_T32 t151 x7_2).f1).size : Int))) ≤ (a0.size : Int)) = true := decide_eq_true c23
                                  by_cases c24 : (a0.extract (((rd_T32 t151 x7_2).f2) : Int).toNat ((wrap64 (((rd_T32 t151 x7_2).f2) + (((rd_T32 t151 x7_2).f1).size : Int))) : Int).toNat).toList = ((rd_T32 t151 x7_2).f1).toList
                                  · rw [if_pos c24] at H
                                    have c24b0 : ((a0.extract (((rd_T32 t151 x7_2).f2) : Int).toNat ((wrap64 (((rd_T32 t151 x7_2).f2) + (((rd_T32 t151 x7_2).f1).size : Int))) : Int).toNat).toList == ((rd_T32 t151 x7_2).f1).toList) = true := beq_iff_eq.mpr c24
                                    have c24b1 : ((a0.extract (((rd_T32 t151 x7_2).f2) : Int).toNat ((wrap64 (((rd_T32 t151 x7_2).f2) + (((rd_T32 t151 x7_2).f1).size : Int))) : Int).toNat).toList != ((rd_T32 t151 x7_2).f1).toList) = false := bne_eq_false_iff_eq.mpr c24
                                    clear c24
                                    by_cases c25 : ((rd_T32 t151 x7_2).f0) < 1
                                    · rw [if_pos c25] at H
                                      have c25b0 : decide (((rd_T32 t151 x7_2).f0) < 1) = true := decide_eq_true c25
                                      clear c25
                                      obtain rfl := Option.some.inj H
                                      try (exact absurd hrt (by decide))
                                      all_goals have p156 : 0 ≤ (x7_2 : Int) := of_decide_eq_true (by first | (with_reducible assumption) | assumption)
                                      all_goals have q156 : x7_2 < (t151.length : Int) := of_decide_eq_true (by first | (with_reducible assumption) | assumption)
                                      all_goals obtain ⟨ad156, e156, hx156_0, hx156_1, hx156_2⟩ := at_T32 (Kd.R_reads' HO_3.out).2.2 x7_2 p156 q156
                                      all_goals cases e156
                                      all_goals replace p156 := eq_true p156
                                      all_goals replace q156 := eq_true q156
                                      all_goals have p157 : 0 ≤ (x7_2 : Int) := of_decide_eq_true (by first | (with_reducible assumption) | assumption)
                                      all_goals have q157 : x7_2 < (t151.length : Int) := of_decide_eq_true (by first | (with_reducible assumption) | assumption)
                                      all_goals obtain ⟨ad157, e157, hx157_0, hx157_1, hx157_2⟩ := at_T32 (Kd.R_reads' HO_3.out).2.2 x7_2 p157 q157
                                      all_goals obtain rfl : ad156 = ad157 := (by injection e157)
                                      all_goals replace p157 := eq_true p157
                                      all_goals replace q157 := eq_true q157
                                      all_goals have p158 : 0 ≤ (x7_2 : Int) := of_decide_eq_true (by first | (with_reducible assumption) | assumption)
                                      all_goals have q158 : x7_2 < (t151.length : Int) := of_decide_eq_true (by first | (with_reducible assumption) | assumption)
                                      all_goals obtain ⟨ad158, e158, hx158_0, hx158_1, hx158_2⟩ := at_T32 (Kd.R_reads' HO_3.out).2.2 x7_2 p158 q158
                                      all_goals obtain rfl : ad156 = ad158 := (by injection e158)
                                      all_goals replace p158 := eq_true p158
                                      all_goals replace q158 := eq_true q158
                                      all_goals have p159 : 0 ≤ (x7_2 : Int) := of_decide_eq_true (by first | (with_reducible assumption) | assumption)
                                      all_goals have q159 : x7_2 < (t151.length : Int) := of_decide_eq_true (by first | (with_reducible assumption) | assumption)
                                      all_goals obtain ⟨ad159, e159, hx159_0, hx159_1, hx159_2⟩ := at_T32 (Kd.R_reads' HO_3.out).2.2 x7_2 p159 q159
                                      all_goals obtain rfl : ad156 = ad159 := (by injection e159)
                                      all_goals replace p159 := eq_true p159
                                      all_goals replace q159 := eq_true q159
                                      all_goals have p160 : 0 ≤ (x7_2 : Int) := of_decide_eq_true (by first | (with_reducible assumption) | assumption)
                                      all_goals have q160 : x7_2 < (t151.length : Int) := of_decide_eq_true (by first | (with_reducible assumption) | assumption)
                                      all_goals obtain ⟨ad160, e160, hx160_0, hx160_1, hx160_2⟩ := at_T32 (Kd.R_reads' HO_3.out).2.2 x7_2 p160 q160
                                      all_goals obtain rfl : ad156 = ad160 := (by injection e160)
                                      all_goals replace p160 := eq_true p160
                                      all_goals replace q160 := eq_true q160
                                      all_goals have p161 : 0 ≤ (x7_2 : Int) := of_decide_eq_true (by first | (with_reducible assumption) | assumption)
                                      all_goals have q161 : x7_2 < (t151.length : Int) := of_decide_eq_true (by first | (with_reducible assumption) | assumption)
                                      all_goals obtain ⟨ad161, e161, hx161_0, hx161_1, hx161_2⟩ := at_T32 (Kd.R_reads' HO_3.out).2.2 x7_2 p161 q161
                                      all_goals obtain rfl : ad156 = ad161 := (by injection e161)
                                      all_goals replace p161 := eq_true p161
                                      all_goals replace q161 := eq_true q161
                                      all_goals go_wp2
                                      all_goals repeat (go_quiet (fail); try go_wp2)
                                      all_goals go_ret
                                      all_goals exact ⟨by first | rfl | (simp [errW_none, errW_some] <;> rfl) | (simp [*, errW_none, errW_some] <;> rfl), by repeat (first | (with_reducible first | exact HB.out | apply below_alloc | apply pw_below_drewN | apply below_drew1) | exact HB.out)⟩
                                    · rw [if_neg c25] at H
                                      have c25b0 : decide (((rd_T32 t151 x7_2).f0) < 1) = false := decide_eq_false c25
                                      clear c25
                                      by_cases c26 : ((rd_T32 t151 x7_2).f0) > 3
                                      · rw [if_pos c26] at H
                                        have c26b0 : decide (3 < ((rd_T32 t151 x7_2).f0)) = true := decide_eq_true c26
                                        clear c26
                                        obtain rfl := Option.some.inj H
                                        try (exact absurd hrt (by decide))
                                        all_goals have p156 : 0 ≤ (x7_2 : Int) := of_decide_eq_true (by first | (with_reducible assumption) | assumption)
                                        all_goals have q156 : x7_2 < (t151.length : Int) := of_decide_eq_true (by first | (with_reducible assumption) | assumption)
                                        all_goals obtain ⟨ad156, e156, hx156_0, hx156_1, hx156_2⟩ := at_T32 (Kd.R_reads' HO_3.out).2.2 x7_2 p156 q156
                                        all_goals cases e156
                                        all_goals replace p156 := eq_true p156
                                        all_goals replace q156 := eq_true q156
                                        all_goals have p157 : 0 ≤ (x7_2 : Int) := of_decide_eq_true (by first | (with_reducible assumption) | assumption)
                                        all_goals have q157 : x7_2 < (t151.length : Int) := of_decide_eq_true (by first | (with_reducible assumption) | assumption)
                                        all_goals obtain ⟨ad157, e157, hx157_0, hx157_1, hx157_2⟩ := at_T32 (Kd.R_reads' HO_3.out).2.2 x7_2 p157 q157
                                        all_goals obtain rfl : ad156 = ad157 := (by injection e157)
                                        all_goals replace p157 := eq_true p157
                                        all_goals replace q157 := eq_true q157
                                        all_goals have p158 : 0 ≤ (x7_2 : Int) := of_decide_eq_true (by first | (with_reducible assumption) | assumption)
                                        all_goals have q158 : x7_2 < (t151.length : Int) := of_decide_eq_true (by first | (with_reducible assumption) | assumption)
                                        all_goals obtain ⟨ad158, e158, hx158_0, hx158_1, hx158_2⟩ := at_T32 (Kd.R_reads' HO_3.out).2.2 x7_2 p158 q158
                                        all_goals obtain rfl : ad156 = ad158 := (by injection e158)
                                        all_goals replace p158 := eq_true p158
                                        all_goals replace q158 := eq_true q158
                                        all_goals have p159 : 0 ≤ (x7_2 : Int) := of_decide_eq_true (by first | (with_reducible assumption) | assumption)
                                        all_goals have q159 : x7_2 < (t151.length : Int) := of_decide_eq_true (by first | (with_reducible assumption) | assumption)
                                        all_goals obtain ⟨ad159, e159, hx159_0, hx159_1, hx159_2⟩ := at_T32 (Kd.R_reads' HO_3.out).2.2 x7_2 p159 q159
                                        all_goals obtain rfl : ad156 = ad159 := (by injection e159)
                                        all_goals replace p159 := eq_true p159
                                        all_goals replace q159 := eq_true q159
                                        all_goals have p160 : 0 ≤ (x7_2 : Int) := of_decide_eq_true (by first | (with_reducible assumption) | assumption)
                                        all_goals have q160 : x7_2 < (t151.length : Int) := of_decide_eq_true (by first | (with_reducible assumption) | assumption)
                                        all_goals obtain ⟨ad160, e160, hx160_0, hx160_1, hx160_2⟩ := at_T32 (Kd.R_reads' HO_3.out).2.2 x7_2 p160 q160
                                        all_goals obtain rfl : ad156 = ad160 := (by injection e160)
                                        all_goals replace p160 := eq_true p160
                                        all_goals replace q160 := eq_true q160
                                        all_goals have p161 : 0 ≤ (x7_2 : Int) := of_decide_eq_true (by first | (with_reducible assumption) | assumption)
                                        all_goals have q161 : x7_2 < (t151.length : Int) := of_decide_eq_true (by first | (with_reducible assumption) | assumption)
                                        all_goals obtain ⟨ad161, e161, hx161_0, hx161_1, hx161_2⟩ := at_T32 (Kd.R_reads' HO_3.out).2.2 x7_2 p161 q161
                                        all_goals obtain rfl : ad156 = ad161 := (by injection e161)
                                        all_goals replace p161 := eq_true p161
                                        all_goals replace q161 := eq_true q161
                                        all_goals have p162 : 0 ≤ (x7_2 : Int) := of_decide_eq_true (by first | (with_reducible assumption) | assumption)
                                        all_goals have q162 : x7_2 < (t151.length : Int) := of_decide_eq_true (by first | (with_reducible assumption) | assumption)
                                        all_goals obtain ⟨ad162, e162, hx162_0, hx162_1, hx162_2⟩ := at_T32 (Kd.R_reads' HO_3.out).2.2 x7_2 p162 q162
                                        all_goals obtain rfl : ad156 = ad162 := (by injection e162)
                                        all_goals replace p162 := eq_true p162
                                        all_goals replace q162 := eq_true q162
                                        all_goals go_wp2
                                        all_goals repeat (go_quiet (fail); try go_wp2)
                                        all_goals go_ret
                                        all_goals exact ⟨by first | rfl | (simp [errW_none, errW_some] <;> rfl) | (simp [*, errW_none, errW_some] <;> rfl), by repeat (first | (with_reducible first | exact HB.out | apply below_alloc | apply pw_below_drewN | apply below_drew1) | exact HB.out)⟩
                                      · rw [if_neg c26] at H
                                        have c26b0 : decide (3 < ((rd_T32 t151 x7_2).f0)) = false := decide_eq_false c26
                                        clear c26
                                        have H' := Aside0.mk H
                                        clear H
                                        have p156 : 0 ≤ (x7_2 : Int) := of_decide_eq_true (by first | (with_reducible assumption) | assumption)
                                        have q156 : x7_2 < (t151.length : Int) := of_decide_eq_true (by first | (with_reducible assumption) | assumption)
                                        obtain ⟨ad156, e156, hx156_0, hx156_1, hx156_2⟩ := at_T32 (Kd.R_reads' HO_3.out).2.2 x7_2 p156 q156
                                        cases e156
                                        replace p156 := eq_true p156
                                        replace q156 := eq_true q156
                                        have p157 : 0 ≤ (x7_2 : Int) := of_decide_eq_true (by first | (with_reducible assumption) | assumption)
                                        have q157 : x7_2 < (t151.length : Int) := of_decide_eq_true (by first | (with_reducible assumption) | assumption)
                                        obtain ⟨ad157, e157, hx157_0, hx157_1, hx157_2⟩ := at_T32 (Kd.R_reads' HO_3.out).2.2 x7_2 p157 q157
                                        obtain rfl : ad156 = ad157 := (by injection e157)
                                        replace p157 := eq_true p157
                                        replace q157 := eq_true q157
                                        have p158 : 0 ≤ (x7_2 : Int) := of_decide_eq_true (by first | (with_reducible assumption) | assumption)
                                        have q158 : x7_2 < (t151.length : Int) := of_decide_eq_true (by first | (with_reducible assumption) | assumption)
                                        obtain ⟨ad158, e158, hx158_0, hx158_1, hx158_2⟩ := at_T32 (Kd.R_reads' HO_3.out).2.2 x7_2 p158 q158
                                        obtain rfl : ad156 = ad158 := (by injection e158)
                                        replace p158 := eq_true p158
                                        replace q158 := eq_true q158
                                        have p159 : 0 ≤ (x7_2 : Int) := of_decide_eq_true (by first | (with_reducible assumption) | assumption)
                                        have q159 : x7_2 < (t151.length : Int) := of_decide_eq_true (by first | (with_reducible assumption) | assumption)
                                        obtain ⟨ad159, e159, hx159_0, hx159_1, hx159_2⟩ := at_T32 (Kd.R_reads' HO_3.out).2.2 x7_2 p159 q159
                                        obtain rfl : ad156 = ad159 := (by injection e159)
                                        replace p159 := eq_true p159
                                        replace q159 := eq_true q159
                                        have p160 : 0 ≤ (x7_2 : Int) := of_decide_eq_true (by first | (with_reducible assumption) | assumption)
                                        have q160 : x7_2 < (t151.length : Int) := of_decide_eq_true (by first | (with_reducible assumption) | assumption)
                                        obtain ⟨ad160, e160, hx160_0, hx160_1, hx160_2⟩ := at_T32 (Kd.R_reads' HO_3.out).2.2 x7_2 p160 q160
                                        obtain rfl : ad156 = ad160 := (by injection e160)
                                        replace p160 := eq_true p160
                                        replace q160 := eq_true q160
                                        have p161 : 0 ≤ (x7_2 : Int) := of_decide_eq_true (by first | (with_reducible assumption) | assumption)
                                        have q161 : x7_2 < (t151.length : Int) := of_decide_eq_true (by first | (with_reducible assumption) | assumption)
                                        obtain ⟨ad161, e161, hx161_0, hx161_1, hx161_2⟩ := at_T32 (Kd.R_reads' HO_3.out).2.2 x7_2 p161 q161
                                        obtain rfl : ad156 = ad161 := (by injection e161)
                                        replace p161 := eq_true p161
                                        replace q161 := eq_true q161
                                        have p162 : 0 ≤ (x7_2 : Int) := of_decide_eq_true (by first | (with_reducible assumption) | assumption)
                                        have q162 : x7_2 < (t151.length : Int) := of_decide_eq_true (by first | (with_reducible assumption) | assumption)
                                        obtain ⟨ad162, e162, hx162_0, hx162_1, hx162_2⟩ := at_T32 (Kd.R_reads' HO_3.out).2.2 x7_2 p162 q162
                                        obtain rfl : ad156 = ad162 := (by injection e162)
                                        replace p162 := eq_true p162
                                        replace q162 := eq_true q162
                                        go_wp2
                                        repeat (go_quiet (fail); try go_wp2)
                                        go_meet
                                        case rel => exact ⟨_, ((rd_T32 t151 x7_2).f2), (by first | rfl | (simp; done) | (simp [*]; done)), H', ⟨by have := HJ1.out; have := HK2.out; first | omega | exact Nat.le_refl _⟩, ⟨by (with_reducible repeat (first | apply Kd.R_alloc | apply Kd.R_drewN | apply Kd.R_drew)); exact HO_3.out⟩, ⟨by repeat (first | (with_reducible first | exact HB.out | apply below_alloc | apply pw_below_drewN | apply below_drew1) | exact HB.out)⟩⟩
                                  · rw [if_neg c24] at H
                                    have c24b0 : ((a0.extract (((rd_T32 t151 x7_2).f2) : Int).toNat ((wrap64 (((rd_T32 t151 x7_2).f2) + (((rd_T32 t151 x7_2).f1).size : Int))) : Int).toNat).toList == ((rd_T32 t151 x7_2).f1).toList) = false := beq_eq_false_iff_ne.mpr c24
                                    have c24b1 : ((a0.extract (((rd_T32 t151 x7_2).f2) : Int).toNat ((wrap64 (((rd_T32 t151 x7_2).f2) + (((rd_T32 t151 x7_2).f1).size : Int))) : Int).toNat).toList != ((rd_T32 t151 x7_2).f1).toList) = true := bne_iff_ne.mpr c24
                                    obtain rfl := Option.some.inj H
                                    try (exact absurd hrt (by decide))
                                    all_goals have p156 : 0 ≤ (x7_2 : Int) := of_decide_eq_true (by first | (with_reducible assumption) | assumption)
                                    all_goals have q156 : x7_2 < (t151.length : Int) := of_decide_eq_true (by first | (with_reducible assumption) | assumption)
                                    all_goals obtain ⟨ad156, e156, hx156_0, hx156_1, hx156_2⟩ := at_T32 (Kd.R_reads' HO_3.out).2.2 x7_2 p156 q156
                                    all_goals cases e156
                                    all_goals replace p156 := eq_true p156
                                    all_goals replace q156 := eq_true q156
                                    all_goals have p157 : 0 ≤ (x7_2 : Int) := of_decide_eq_true (by first | (with_reducible assumption) | assumption)
                                    all_goals have q157 : x7_2 < (t151.length : Int) := of_decide_eq_true (by first | (with_reducible assumption) | assumption)
                                    all_goals obtain ⟨ad157, e157, hx157_0, hx157_1, hx157_2⟩ := at_T32 (Kd.R_reads' HO_3.out).2.2 x7_2 p157 q157
                                    all_goals obtain rfl : ad156 = ad157 := (by injection e157)
                                    all_goals replace p157 := eq_true p157
                                    all_goals replace q157 := eq_true q157
                                    all_goals have p158 : 0 ≤ (x7_2 : Int) := of_decide_eq_true (by first | (with_reducible assumption) | assumption)
                                    all_goals have q158 : x7_2 < (t151.length : Int) := of_decide_eq_true (by first | (with_reducible assumption) | assumption)
                                    all_goals obtain ⟨ad158, e158, hx158_0, hx158_1, hx158_2⟩ := at_T32 (Kd.R_reads' HO_3.out).2.2 x7_2 p158 q158
                                    all_goals obtain rfl : ad156 = ad158 := (by injection e158)
                                    all_goals replace p158 := eq_true p158
                                    all_goals replace q158 := eq_true q158
                                    all_goals have p159 : 0 ≤ (x7_2 : Int) := of_decide_eq_true (by first | (with_reducible assumption) | assumption)
                                    all_goals have q159 : x7_2 < (t151.length : Int) := of_decide_eq_true (by first | (with_reducible assumption) | assumption)
                                    all_goals obtain ⟨ad159, e159, hx159_0, hx159_1, hx159_2⟩ := at_T32 (Kd.R_reads' HO_3.out).2.2 x7_2 p159 q159
                                    all_goals obtain rfl : ad156 = ad159 := (by injection e159)
                                    all_goals replace p159 := eq_true p159
                                    all_goals replace q159 := eq_true q159
                                    all_goals have p160 : 0 ≤ (x7_2 : Int) := of_decide_eq_true (by first | (with_reducible assumption) | assumption)
                                    all_goals have q160 : x7_2 < (t151.length : Int) := of_decide_eq_true (by first | (with_reducible assumption) | assumption)
                                    all_goals obtain ⟨ad160, e160, hx160_0, hx160_1, hx160_2⟩ := at_T32 (Kd.R_reads' HO_3.out).2.2 x7_2 p160 q160
                                    all_goals obtain rfl : ad156 = ad160 := (by injection e160)
                                    all_goals replace p160 := eq_true p160
                                    all_goals replace q160 := eq_true q160
                                    all_goals go_wp2
                                    all_goals repeat (go_quiet (fail); try go_wp2)
                                    all_goals go_ret
                                    all_goals exact ⟨by first | rfl | (simp [errW_none, errW_some] <;> rfl) | (simp [*, errW_none, errW_some] <;> rfl), by repeat (first | (with_reducible first | exact HB.out | apply below_alloc | apply pw_below_drewN | apply below_drew1) | exact HB.out)⟩
                                · rw [if_neg c23] at H
                                  exact absurd H (by simp)
                              · rw [if_neg c22] at H
                                exact absurd H (by simp)
                            · rw [if_neg c21] at H
                              exact absurd H (by simp)
                    · rw [if_neg c17] at H
                      exact absurd H (by simp)
                  · rw [if_neg c16] at H
                    have c16b0 : decide (x7_2 < (t151.length : Int)) = false := decide_eq_false c16
                    clear c16
                    (first | rw [c16b0] | (simp only [i64_w, i32_w]; rw [c16b0]) | skip)
                    have H' := Aside0.mk H
                    clear H
                    go_wp2
                    repeat (go_quiet (fail); try go_wp2)
                    go_meet
                    case rel => exact ⟨_, ((a0.size : Int)), (by first | rfl | (simp; done) | (simp [*]; done)), H', ⟨by have := HJ1.out; have := HK2.out; first | omega | exact Nat.le_refl _⟩, ⟨by (with_reducible repeat (first | apply Kd.R_alloc | apply Kd.R_drewN | apply Kd.R_drew)); exact HO_3.out⟩, ⟨by repeat (first | (with_reducible first | exact HB.out | apply below_alloc | apply pw_below_drewN | apply below_drew1) | exact HB.out)⟩⟩
                case rest =>
                  clear HC14
                  try clear c1
                  try clear p1
                  try clear q1
                  try clear hx1
                  try clear c2
                  try clear p2
                  try clear c4
                  try clear p6
                  try clear c7
                  try clear c11
                  try clear c11b0
                  try clear c11b1
                  try clear c13
                  try clear c13b0
                  try clear p15
                  try clear q15
                  try clear hx15
                  try clear c16
                  try clear c16b0
                  try clear p16
                  try clear q16
                  try clear hx16
                  try clear c17
                  try clear c17b0
                  try clear c18
                  try clear c18b0
                  try clear c19
                  try clear c19b0
                  try clear c19b1
                  try clear c20
                  try clear c20b0
                  try clear c21
                  try clear c21b0
                  try clear c21b1
                  try clear c22
                  try clear c22b0
                  try clear c22b1
                  try clear c23
                  try clear c23b0
                  try clear c23b1
                  try clear c24
                  try clear c24b0
                  try clear c24b1
                  try clear c25
                  try clear c25b0
                  try clear c26
                  try clear c26b0
                  try clear hx156_0
                  try clear hx156_1
                  try clear hx156_2
                  try clear hx157_0
                  try clear hx157_1
                  try clear hx157_2
                  try clear hx158_0
                  try clear hx158_1
                  try clear hx158_2
                  try clear hx159_0
                  try clear hx159_1
                  try clear hx159_2
                  try clear hx160_0
                  try clear hx160_1
                  try clear hx160_2
                  try clear hx161_0
                  try clear hx161_1
                  try clear hx161_2
                  try clear hx162_0
                  try clear hx162_1
                  try clear hx162_2
                  try clear p156
                  try clear p157
                  try clear p158
                  try clear p159
                  try clear p160
                  try clear p161
                  try clear p162
                  try clear p2
                  try clear q156
                  try clear q157
                  try clear q158
                  try clear q159
                  try clear q160
                  try clear q161
                  try clear q162
                  obtain ⟨kq, x8_13, rfl, HA, HJ13, HO_3, HB⟩ := hcut
                  cases kq with
                  | zero => exact absurd HA.out (by simp [belfrylaw04_TokensPlaces.j2])
                  | succ kj13 =>
                    have H := HA.out
                    clear HA
                    simp only [belfrylaw04_TokensPlaces.j2] at H
                    have H' := Aside0.mk H
                    clear H
                    go_wp2
                    repeat (go_quiet (fail); try go_wp2)
                    go_loopg [9, 10] kj13 (fun kq v9 v10 w' => ∃ (x9_4 : Bool) (x10_4 : Int), v9 = .bool x9_4 ∧ v10 = .int .i64 x10_4 ∧ Aside0 (belfrylaw04_TokensPlaces.l1 kq a0 t151 t152 x6_2 x7_2 x8_13 x9_4 x10_4 = some r) ∧ Aside0 (kq ≤ kj13) ∧ Aside0 (Kd.R k32 32 w' w.heap.size (fun _ => True) (.slice Ao15 t151.length co15) t151) ∧ Aside0 (Below w.heap.size w w'))
                    case atStart => exact ⟨(false), (x6_2), (by first | rfl | (simp; done) | (simp [*]; done)), (by first | rfl | (simp; done) | (simp [*]; done)), H', ⟨Nat.le_refl _⟩, ⟨by (with_reducible repeat (first | apply Kd.R_alloc | apply Kd.R_drewN | apply Kd.R_drew)); exact HO_3.out⟩, ⟨by repeat (first | (with_reducible first | exact HB.out | apply below_alloc | apply pw_below_drewN | apply below_drew1) | exact HB.out)⟩⟩
                    case round =>
                      clear H'
                      try clear c1
                      try clear p1
                      try clear q1
                      try clear hx1
                      try clear c2
                      try clear p2
                      try clear c4
                      try clear p6
                      try clear c7
                      try clear c11
                      try clear c11b0
                      try clear c11b1
                      try clear c13
                      try clear c13b0
                      try clear p15
                      try clear q15
                      try clear hx15
                      try clear c16
                      try clear c16b0
                      try clear p16
                      try clear q16
                      try clear hx16
                      try clear c17
                      try clear c17b0
                      try clear c18
                      try clear c18b0
                      try clear c19
                      try clear c19b0
                      try clear c19b1
                      try clear c20
                      try clear c20b0
                      try clear c21
                      try clear c21b0
                      try clear c21b1
                      try clear c22
                      try clear c22b0
                      try clear c22b1
                      try clear c23
                      try clear c23b0
                      try clear c23b1
                      try clear c24
                      try clear c24b0
                      try clear c24b1
                      try clear c25
                      try clear c25b0
                      try clear c26
                      try clear c26b0
                      try clear hx156_0
                      try clear hx156_1
                      try clear hx156_2
                      try clear hx157_0
                      try clear hx157_1
                      try clear hx157_2
                      try clear hx158_0
                      try clear hx158_1
                      try clear hx158_2
                      try clear hx159_0
                      try clear hx159_1
                      try clear hx159_2
                      try clear hx160_0
                      try clear hx160_1
                      try clear hx160_2
                      try clear hx161_0
                      try clear hx161_1
                      try clear hx161_2
                      try clear hx162_0
                      try clear hx162_1
                      try clear hx162_2
                      try clear p1
                      try clear p15
                      try clear p156
                      try clear p157
                      try clear p158
                      try clear p159
                      try clear p16
                      try clear p160
                      try clear p161
                      try clear p162
                      try clear p2
                      try clear p6
                      try clear q1
                      try clear q15
                      try clear q156
                      try clear q157
                      try clear q158
                      try clear q159
                      try clear q16
                      try clear q160
                      try clear q161
                      try clear q162
                      obtain ⟨x9_4, x10_4, rfl, rfl, HA, HK4, HO_3, HB⟩ := hrel
                      cases gk with
                      | zero => exact absurd HA.out (by simp [belfrylaw04_TokensPlaces.l1])
                      | succ k4 =>
                        have H := HA.out
                        clear HA
                        simp only [belfrylaw04_TokensPlaces.l1] at H
                        by_cases c27 : x10_4 < x8_13
                        · rw [if_pos c27] at H
                          have c27b0 : decide (x10_4 < x8_13) = true := decide_eq_true c27
                          clear c27
                          by_cases c28 : 0 ≤ x10_4
                          · rw [if_pos c28] at H
                            have c28b0 : decide (0 ≤ x10_4) = true := decide_eq_true c28
                            clear c28
                            by_cases c29 : x10_4 < (a0.size : Int)
                            · rw [if_pos c29] at H
                              have c29b0 : decide (x10_4 < (a0.size : Int)) = true := decide_eq_true c29
                              clear c29
                              by_cases c31 : (bt a0 x10_4) = 10
                              · rw [if_pos c31] at H
                                have c31b0 : ((bt a0 x10_4) == 10) = true := beq_iff_eq.mpr c31
                                have c31b1 : ((bt a0 x10_4) != 10) = false := bne_eq_false_iff_eq.mpr c31
                                clear c31
                                have H' := Aside0.mk H
                                clear H
                                have p30 : 0 ≤ (x10_4 : Int) := of_decide_eq_true (by first | (with_reducible assumption) | assumption)
                                have q30 : x10_4 < (a0.size : Int) := of_decide_eq_true (by first | (with_reducible assumption) | assumption)
                                have hx30 := bt_at a0 x10_4
                                replace p30 := eq_true p30
                                replace q30 := eq_true q30
                                go_wp2
                                repeat (go_quiet (fail); try go_wp2)
                                go_roundg k4
                                case measure => have := HJ1.out; have := HK2.out; have := HJ13.out; have := HK4.out; omega
                                case rel => exact ⟨(false), (wrap64 (x10_4 + 1)), (by first | rfl | (simp; done) | (simp [*]; done)), (by first | rfl | (simp; done) | (simp [*]; done)), H', ⟨by have := HJ1.out; have := HK2.out; have := HJ13.out; have := HK4.out; omega⟩, ⟨by (with_reducible repeat (first | apply Kd.R_alloc | apply Kd.R_drewN | apply Kd.R_drew)); exact HO_3.out⟩, ⟨by repeat (first | (with_reducible first | exact HB.out | apply below_alloc | apply pw_below_drewN | apply below_drew1) | exact HB.out)⟩⟩
                              · rw [if_neg c31] at H
                                have c31b0 : ((bt a0 x10_4) == 10) = false := beq_eq_false_iff_ne.mpr c31
                                have c31b1 : ((bt a0 x10_4) != 10) = true := bne_iff_ne.mpr c31
                                by_cases c32 : x9_4 = true
                                · subst c32
                                  have H1 : (belfrylaw04_TokensPlaces.l1 k4 a0 t151 t152 x6_2 x7_2 x8_13 true (wrap64 (x10_4 + 1))) = some r := by rw [if_pos rfl] at H; exact H
                                  clear H
                                  have H := H1
                                  clear H1
                                  have H' := Aside0.mk H
                                  clear H
                                  have p30 : 0 ≤ (x10_4 : Int) := of_decide_eq_true (by first | (with_reducible assumption) | assumption)
                                  have q30 : x10_4 < (a0.size : Int) := of_decide_eq_true (by first | (with_reducible assumption) | assumption)
                                  have hx30 := bt_at a0 x10_4
                                  replace p30 := eq_true p30
                                  replace q30 := eq_true q30
                                  go_wp2
                                  repeat (go_quiet (fail); try go_wp2)
                                  go_roundg k4
                                  case measure => have := HJ1.out; have := HK2.out; have := HJ13.out; have := HK4.out; omega
                                  case rel => exact ⟨(true), (wrap64 (x10_4 + 1)), (by first | rfl | (simp; done) | (simp [*]; done)), (by first | rfl | (simp; done) | (simp [*]; done)), H', ⟨by have := HJ1.out; have := HK2.out; have := HJ13.out; have := HK4.out; omega⟩, ⟨by (with_reducible repeat (first | apply Kd.R_alloc | apply Kd.R_drewN | apply Kd.R_drew)); exact HO_3.out⟩, ⟨by repeat (first | (with_reducible first | exact HB.out | apply below_alloc | apply pw_below_drewN | apply below_drew1) | exact HB.out)⟩⟩
                                · replace c32 := Bool.eq_false_iff.mpr c32
                                  subst c32
                                  have H1 : (if (wrap64 (x10_4 + 1)) < (a0.size : Int) then (if (bt a0 x10_4) = 45 then (if 0 ≤ (wrap64 (x10_4 + 1)) then (if ((bt a0 (wrap64 (x10_4 + 1))) = 45) then (belfrylaw04_TokensPlaces.l1 k4 a0 t151 t152 x6_2 x7_2 x8_13 ((bt a0 (wrap64 (x10_4 + 1))) == 45) (wrap64 (x10_4 + 1))) else (if (bt a0 x10_4) = 32 then (belfrylaw04_TokensPlaces.l1 k4 a0 t151 t152 x6_2 x7_2 x8_13 ((bt a0 (wrap64 (x10_4 + 1))) == 45) (wrap64 (x10_4 + 1))) else (if (bt a0 x10_4) = 9 then (belfrylaw04_TokensPlaces.l1 k4 a0 t151 t152 x6_2 x7_2 x8_13 ((bt a0 (wrap64 (x10_4 + 1))) == 45) (wrap64 (x10_4 + 1))) else (if (bt a0 x10_4) = 13 then (belfrylaw04_TokensPlaces.l1 k4 a0 t151 t152 x6_2 x7_2 x8_13 ((bt a0 (wrap64 (x10_4 + 1))) == 45) (wrap64 (x10_4 + 1))) else (some false))))) else (none)) else (if (bt a0 x10_4) = 32 then (belfrylaw04_TokensPlaces.l1 k4 a0 t151 t152 x6_2 x7_2 x8_13 false (wrap64 (x10_4 + 1))) else (if (bt a0 x10_4) = 9 then (belfrylaw04_TokensPlaces.l1 k4 a0 t151 t152 x6_2 x7_2 x8_13 false (wrap64 (x10_4 + 1))) else (if (bt a0 x10_4) = 13 then (belfrylaw04_TokensPlaces.l1 k4 a0 t151 t152 x6_2 x7_2 x8_13 false (wrap64 (x10_4 + 1))) else (some false))))) else (if (bt a0 x10_4) = 32 then (belfrylaw04_TokensPlaces.l1 k4 a0 t151 t152 x6_2 x7_2 x8_13 false (wrap64 (x10_4 + 1))) else (if (bt a0 x10_4) = 9 then (belfrylaw04_TokensPlaces.l1 k4 a0 t151 t152 x6_2 x7_2 x8_13 false (wrap64 (x10_4 + 1))) else (if (bt a0 x10_4) = 13 then (belfrylaw04_TokensPlaces.l1 k4 a0 t151 t152 x6_2 x7_2 x8_13 false (wrap64 (x10_4 + 1))) else (some false))))) = some r := by rw [if_neg (show ¬ (false = true) by decide)] at H; exact H
                                  clear H
                                  have H := H1
                                  clear H1
                                  by_cases c33 : (wrap64 (x10_4 + 1)) < (a0.size : Int)
                                  · rw [if_pos c33] at H
                                    have c33b0 : decide ((wrap64 (x10_4 + 1)) < (a0.size : Int)) = true := decide_eq_true c33
                                    clear c33
                                    by_cases c35 : (bt a0 x10_4) = 45
                                    · rw [if_pos c35] at H
                                      have c35b0 : ((bt a0 x10_4) == 45) = true := beq_iff_eq.mpr c35
                                      have c35b1 : ((bt a0 x10_4) != 45) = false := bne_eq_false_iff_eq.mpr c35
                                      clear c35
                                      obtain ⟨ji36, hji36⟩ : ∃ j_ : Int, (wrap64 (x10_4 + 1)) = j_ := ⟨_, rfl⟩
                                      replace H : (if 0 ≤ (ji36) then (if ((bt a0 (ji36)) = 45) then (belfrylaw04_TokensPlaces.l1 k4 a0 t151 t152 x6_2 x7_2 x8_13 ((bt a0 (ji36)) == 45) ji36) else (if (bt a0 x10_4) = 32 then (belfrylaw04_TokensPlaces.l1 k4 a0 t151 t152 x6_2 x7_2 x8_13 ((bt a0 (ji36)) == 45) ji36) else (if (bt a0 x10_4) = 9 then (belfrylaw04_TokensPlaces.l1 k4 a0 t151 t152 x6_2 x7_2 x8_13 ((bt a0 (ji36)) == 45) ji36) else (if (bt a0 x10_4) = 13 then (belfrylaw04_TokensPlaces.l1 k4 a0 t151 t152 x6_2 x7_2 x8_13 ((bt a0 (ji36)) == 45) ji36) else (some false))))) else (none)) = some r := by first | (rw [hji36] at H; exact H) | (simp only [hji36] at H ⊢; exact H)
                                      (try rw [hji36] at c33b0)
                                      have hji36w : (IntKind.i64.wrap (x10_4 + 1)) = ji36 := (i64_w _).trans hji36
                                      by_cases c37 : 0 ≤ (ji36)
                                      · rw [if_pos c37] at H
                                        have c37b0 : decide (0 ≤ (ji36)) = true := decide_eq_true c37
                                        clear c37
                                        by_cases c39 : ((bt a0 (ji36)) = 45)
                                        · rw [if_pos c39] at H
                                          have c39b0 : ((bt a0 (ji36)) == 45) = true := beq_iff_eq.mpr c39
                                          have c39b1 : ((bt a0 (ji36)) != 45) = false := bne_eq_false_iff_eq.mpr c39
                                          clear c39
                                          have H' := Aside0.mk H
                                          clear H
                                          have p30 : 0 ≤ (x10_4 : Int) := of_decide_eq_true (by first | (with_reducible assumption) | assumption)
                                          have q30 : x10_4 < (a0.size : Int) := of_decide_eq_true (by first | (with_reducible assumption) | assumption)
                                          have hx30 := bt_at a0 x10_4
                                          replace p30 := eq_true p30
                                          replace q30 := eq_true q30
                                          have p34 : 0 ≤ (x10_4 : Int) := of_decide_eq_true (by first | (with_reducible assumption) | assumption)
                                          have q34 : x10_4 < (a0.size : Int) := of_decide_eq_true (by first | (with_reducible assumption) | assumption)
                                          have hx34 := bt_at a0 x10_4
                                          replace p34 := eq_true p34
                                          replace q34 := eq_true q34
                                          have p38 : 0 ≤ ((ji36) : Int) := of_decide_eq_true (by first | (with_reducible assumption) | assumption)
                                          have q38 : (ji36) < (a0.size : Int) := of_decide_eq_true (by first | (with_reducible assumption) | assumption)
                                          have hx38 := bt_at a0 (ji36)
                                          replace p38 := eq_true p38
                                          replace q38 := eq_true q38
                                          go_wp2
                                          repeat (go_quiet (fail); try go_wp2)
                                          go_roundg k4
                                          case measure => have := HJ1.out; have := HK2.out; have := HJ13.out; have := HK4.out; omega
                                          case rel => exact ⟨(((bt a0 (ji36)) == 45)), (ji36), (by first | (rw [c39b0]; done) | rfl | (simp; done) | (simp only [← hji36] <;> (first | rfl | simp)) | (simp [*]; done)), (by first | rfl | (simp; done) | (simp only [← hji36] <;> (first | rfl | simp)) | (simp [*]; done)), H', ⟨by have := HJ1.out; have := HK2.out; have := HJ13.out; have := HK4.out; omega⟩, ⟨by (with_reducible repeat (first | apply Kd.R_alloc | apply Kd.R_drewN | apply Kd.R_drew)); exact HO_3.out⟩, ⟨by repeat (first | (with_reducible first | exact HB.out | apply below_alloc | apply pw_below_drewN | apply below_drew1) | exact HB.out)⟩⟩
                                        · rw [if_neg c39] at H
                                          have c39b0 : ((bt a0 (ji36)) == 45) = false := beq_eq_false_iff_ne.mpr c39
                                          have c39b1 : ((bt a0 (ji36)) != 45) = true := bne_iff_ne.mpr c39
                                          by_cases c41 : (bt a0 x10_4) = 32
                                          · rw [if_pos c41] at H
                                            have c41b0 : ((bt a0 x10_4) == 32) = true := beq_iff_eq.mpr c41
                                            have c41b1 : ((bt a0 x10_4) != 32) = false := bne_eq_false_iff_eq.mpr c41
                                            clear c41
                                            have H' := Aside0.mk H
                                            clear H
                                            have p30 : 0 ≤ (x10_4 : Int) := of_decide_eq_true (by first | (with_reducible assumption) | assumption)
                                            have q30 : x10_4 < (a0.size : Int) := of_decide_eq_true (by first | (with_reducible assumption) | assumption)
                                            have hx30 := bt_at a0 x10_4
                                            replace p30 := eq_true p30
                                            replace q30 := eq_true q30
                                            have p34 : 0 ≤ (x10_4 : Int) := of_decide_eq_true (by first | (with_reducible assumption) | assumption)
                                            have q34 : x10_4 < (a0.size : Int) := of_decide_eq_true (by first | (with_reducible assumption) | assumption)
                                            have hx34 := bt_at a0 x10_4
                                            replace p34 := eq_true p34
                                            replace q34 := eq_true q34
                                            have p38 : 0 ≤ ((ji36) : Int) := of_decide_eq_true (by first | (with_reducible assumption) | assumption)
                                            have q38 : (ji36) < (a0.size : Int) := of_decide_eq_true (by first | (with_reducible assumption) | assumption)
                                            have hx38 := bt_at a0 (ji36)
                                            replace p38 := eq_true p38
                                            replace q38 := eq_true q38
                                            have p40 : 0 ≤ (x10_4 : Int) := of_decide_eq_true (by first | (with_reducible assumption) | assumption)
                                            have q40 : x10_4 < (a0.size : Int) := of_decide_eq_true (by first | (with_reducible assumption) | assumption)
                                            have hx40 := bt_at a0 x10_4
                                            replace p40 := eq_true p40
                                            replace q40 := eq_true q40
                                            go_wp2
                                            repeat (go_quiet (fail); try go_wp2)
                                            go_roundg k4
                                            case measure => have := HJ1.out; have := HK2.out; have := HJ13.out; have := HK4.out; omega
                                            case rel => exact ⟨(((bt a0 (ji36)) == 45)), (ji36), (by first | (rw [c39b0]; done) | rfl | (simp; done) | (simp only [← hji36] <;> (first | rfl | simp)) | (simp [*]; done)), (by first | rfl | (simp; done) | (simp only [← hji36] <;> (first | rfl | simp)) | (simp [*]; done)), H', ⟨by have := HJ1.out; have := HK2.out; have := HJ13.out; have := HK4.out; omega⟩, ⟨by (with_reducible repeat (first | apply Kd.R_alloc | apply Kd.R_drewN | apply Kd.R_drew)); exact HO_3.out⟩, ⟨by repeat (first | (with_reducible first | exact HB.out | apply below_alloc | apply pw_below_drewN | apply below_drew1) | exact HB.out)⟩⟩
                                          · rw [if_neg c41] at H
                                            have c41b0 : ((bt a0 x10_4) == 32) = false := beq_eq_false_iff_ne.mpr c41
                                            have c41b1 : ((bt a0 x10_4) != 32) = true := bne_iff_ne.mpr c41
                                            by_cases c43 : (bt a0 x10_4) = 9
                                            · rw [if_pos c43] at H
                                              have c43b0 : ((bt a0 x10_4) == 9) = true := beq_iff_eq.mpr c43
                                              have c43b1 : ((bt a0 x10_4) != 9) = false := bne_eq_false_iff_eq.mpr c43
                                              clear c43
                                              have H' := Aside0.mk H
                                              clear H
                                              have p30 : 0 ≤ (x10_4 : Int) := of_decide_eq_true (by first | (with_reducible assumption) | assumption)
                                              have q30 : x10_4 < (a0.size : Int) := of_decide_eq_true (by first | (with_reducible assumption) | assumption)
                                              have hx30 := bt_at a0 x10_4
                                              replace p30 := eq_true p30
                                              replace q30 := eq_true q30
                                              have p34 : 0 ≤ (x10_4 : Int) := of_decide_eq_true (by first | (with_reducible assumption) | assumption)
                                              have q34 : x10_4 < (a0.size : Int) := of_decide_eq_true (by first | (with_reducible assumption) | assumption)
                                              have hx34 := bt_at a0 x10_4
                                              replace p34 := eq_true p34
                                              replace q34 := eq_true q34
                                              have p38 : 0 ≤ ((ji36) : Int) := of_decide_eq_true (by first | (with_reducible assumption) | assumption)
                                              have q38 : (ji36) < (a0.size : Int) := of_decide_eq_true (by first | (with_reducible assumption) | assumption)
                                              have hx38 := bt_at a0 (ji36)
                                              replace p38 := eq_true p38
                                              replace q38 := eq_true q38
                                              have p40 : 0 ≤ (x10_4 : Int) := of_decide_eq_true (by first | (with_reducible assumption) | assumption)
                                              have q40 : x10_4 < (a0.size : Int) := of_decide_eq_true (by first | (with_reducible assumption) | assumption)
                                              have hx40 := bt_at a0 x10_4
                                              replace p40 := eq_true p40
                                              replace q40 := eq_true q40
                                              have p42 : 0 ≤ (x10_4 : Int) := of_decide_eq_true (by first | (with_reducible assumption) | assumption)
                                              have q42 : x10_4 < (a0.size : Int) := of_decide_eq_true (by first | (with_reducible assumption) | assumption)
                                              have hx42 := bt_at a0 x10_4
                                              replace p42 := eq_true p42
                                              replace q42 := eq_true q42
                                              go_wp2
                                              repeat (go_quiet (fail); try go_wp2)
                                              go_roundg k4
                                              case measure => have := HJ1.out; have := HK2.out; have := HJ13.out; have := HK4.out; omega
                                              case rel => exact ⟨(((bt a0 (ji36)) == 45)), (ji36), (by first | (rw [c39b0]; done) | rfl | (simp; done) | (simp only [← hji36] <;> (first | rfl | simp)) | (simp [*]; done)), (by first | rfl | (simp; done) | (simp only [← hji36] <;> (first | rfl | simp)) | (simp [*]; done)), H', ⟨by have := HJ1.out; have := HK2.out; have := HJ13.out; have := HK4.out; omega⟩, ⟨by (with_reducible repeat (first | apply Kd.R_alloc | apply Kd.R_drewN | apply Kd.R_drew)); exact HO_3.out⟩, ⟨by repeat (first | (with_reducible first | exact HB.out | apply below_alloc | apply pw_below_drewN | apply below_drew1) | exact HB.out)⟩⟩
                                            · rw [if_neg c43] at H
                                              have c43b0 : ((bt a0 x10_4) == 9) = false := beq_eq_false_iff_ne.mpr c43
                                              have c43b1 : ((bt a0 x10_4) != 9) = true := bne_iff_ne.mpr c43
                                              by_cases c45 : (bt a0 x10_4) = 13
                                              · rw [if_pos c45] at H
                                                have c45b0 : ((bt a0 x10_4) == 13) = true := beq_iff_eq.mpr c45
                                                have c45b1 : ((bt a0 x10_4) != 13) = false := bne_eq_false_iff_eq.mpr c45
                                                clear c45
                                                have H' := Aside0.mk H
                                                clear H
                                                have p30 : 0 ≤ (x10_4 : Int) := of_decide_eq_true (by first | (with_reducible assumption) | assumption)
                                                have q30 : x10_4 < (a0.size : Int) := of_decide_eq_true (by first | (with_reducible assumption) | assumption)
                                                have hx30 := bt_at a0 x10_4
                                                replace p30 := eq_true p30
                                                replace q30 := eq_true q30
                                                have p34 : 0 ≤ (x10_4 : Int) := of_decide_eq_true (by first | (with_reducible assumption) | assumption)
                                                have q34 : x10_4 < (a0.size : Int) := of_decide_eq_true (by first | (with_reducible assumption) | assumption)
                                                have hx34 := bt_at a0 x10_4
                                                replace p34 := eq_true p34
                                                replace q34 := eq_true q34
                                                have p38 : 0 ≤ ((ji36) : Int) := of_decide_eq_true (by first | (with_reducible assumption) | assumption)
                                                have q38 : (ji36) < (a0.size : Int) := of_decide_eq_true (by first | (with_reducible assumption) | assumption)
                                                have hx38 := bt_at a0 (ji36)
                                                replace p38 := eq_true p38
                                                replace q38 := eq_true q38
                                                have p40 : 0 ≤ (x10_4 : Int) := of_decide_eq_true (by first | (with_reducible assumption) | assumption)
                                                have q40 : x10_4 < (a0.size : Int) := of_decide_eq_true (by first | (with_reducible assumption) | assumption)
                                                have hx40 := bt_at a0 x10_4
                                                replace p40 := eq_true p40
                                                replace q40 := eq_true q40
                                                have p42 : 0 ≤ (x10_4 : Int) := of_decide_eq_true (by first | (with_reducible assumption) | assumption)
                                                have q42 : x10_4 < (a0.size : Int) := of_decide_eq_true (by first | (with_reducible assumption) | assumption)
                                                have hx42 := bt_at a0 x10_4
                                                replace p42 := eq_true p42
                                                replace q42 := eq_true q42
                                                have p44 : 0 ≤ (x10_4 : Int) := of_decide_eq_true (by first | (with_reducible assumption) | assumption)
                                                have q44 : x10_4 < (a0.size : Int) := of_decide_eq_true (by first | (with_reducible assumption) | assumption)
                                                have hx44 := bt_at a0 x10_4
                                                replace p44 := eq_true p44
                                                replace q44 := eq_true q44
                                                go_wp2
                                                repeat (go_quiet (fail); try go_wp2)
                                                go_roundg k4
                                                case measure => have := HJ1.out; have := HK2.out; have := HJ13.out; have := HK4.out; omega
                                                case rel => exact ⟨(((bt a0 (ji36)) == 45)), (ji36), (by first | (rw [c39b0]; done) | rfl | (simp; done) | (simp only [← hji36] <;> (first | rfl | simp)) | (simp [*]; done)), (by first | rfl | (simp; done) | (simp only [← hji36] <;> (first | rfl | simp)) | (simp [*]; done)), H', ⟨by have := HJ1.out; have := HK2.out; have := HJ13.out; have := HK4.out; omega⟩, ⟨by (with_reducible repeat (first | apply Kd.R_alloc | apply Kd.R_drewN | apply Kd.R_drew)); exact HO_3.out⟩, ⟨by repeat (first | (with_reducible first | exact HB.out | apply below_alloc | apply pw_below_drewN | apply below_drew1) | exact HB.out)⟩⟩
                                              · rw [if_neg c45] at H
                                                have c45b0 : ((bt a0 x10_4) == 13) = false := beq_eq_false_iff_ne.mpr c45
                                                have c45b1 : ((bt a0 x10_4) != 13) = true := bne_iff_ne.mpr c45
                                                obtain rfl := Option.some.inj H
                                                try (exact absurd hrt (by decide))
                                                all_goals have p30 : 0 ≤ (x10_4 : Int) := of_decide_eq_true (by first | (with_reducible assumption) | assumption)
                                                all_goals have q30 : x10_4 < (a0.size : Int) := of_decide_eq_true (by first | (with_reducible assumption) | assumption)
                                                all_goals have hx30 := bt_at a0 x10_4
                                                all_goals replace p30 := eq_true p30
                                                all_goals replace q30 := eq_true q30
                                                all_goals have p34 : 0 ≤ (x10_4 : Int) := of_decide_eq_true (by first | (with_reducible assumption) | assumption)
                                                all_goals have q34 : x10_4 < (a0.size : Int) := of_decide_eq_true (by first | (with_reducible assumption) | assumption)
                                                all_goals have hx34 := bt_at a0 x10_4
                                                all_goals replace p34 := eq_true p34
                                                all_goals replace q34 := eq_true q34
                                                all_goals have p38 : 0 ≤ ((ji36) : Int) := of_decide_eq_true (by first | (with_reducible assumption) | assumption)
                                                all_goals have q38 : (ji36) < (a0.size : Int) := of_decide_eq_true (by first | (with_reducible assumption) | assumption)
                                                all_goals have hx38 := bt_at a0 (ji36)
                                                all_goals replace p38 := eq_true p38
                                                all_goals replace q38 := eq_true q38
                                                all_goals have p40 : 0 ≤ (x10_4 : Int) := of_decide_eq_true (by first | (with_reducible assumption) | assumption)
                                                all_goals have q40 : x10_4 < (a0.size : Int) := of_decide_eq_true (by first | (with_reducible assumption) | assumption)
                                                all_goals have hx40 := bt_at a0 x10_4
                                                all_goals replace p40 := eq_true p40
                                                all_goals replace q40 := eq_true q40
                                                all_goals have p42 : 0 ≤ (x10_4 : Int) := of_decide_eq_true (by first | (with_reducible assumption) | assumption)
                                                all_goals have q42 : x10_4 < (a0.size : Int) := of_decide_eq_true (by first | (with_reducible assumption) | assumption)
                                                all_goals have hx42 := bt_at a0 x10_4
                                                all_goals replace p42 := eq_true p42
                                                all_goals replace q42 := eq_true q42
                                                all_goals have p44 : 0 ≤ (x10_4 : Int) := of_decide_eq_true (by first | (with_reducible assumption) | assumption)
                                                all_goals have q44 : x10_4 < (a0.size : Int) := of_decide_eq_true (by first | (with_reducible assumption) | assumption)
                                                all_goals have hx44 := bt_at a0 x10_4
                                                all_goals replace p44 := eq_true p44
                                                all_goals replace q44 := eq_true q44
                                                all_goals go_wp2
                                                all_goals repeat (go_quiet (fail); try go_wp2)
                                                all_goals go_ret
                                                all_goals exact ⟨by first | rfl | (simp [errW_none, errW_some] <;> rfl) | (simp only [← hji36]; first | rfl | (simp [errW_none, errW_some] <;> rfl)) | (simp [*, errW_none, errW_some] <;> rfl), by repeat (first | (with_reducible first | exact HB.out | apply below_alloc | apply pw_below_drewN | apply below_drew1) | exact HB.out)⟩
                                      · rw [if_neg c37] at H
                                        exact absurd H (by simp)
                                    · rw [if_neg c35] at H
                                      have c35b0 : ((bt a0 x10_4) == 45) = false := beq_eq_false_iff_ne.mpr c35
                                      have c35b1 : ((bt a0 x10_4) != 45) = true := bne_iff_ne.mpr c35
                                      by_cases c47 : (bt a0 x10_4) = 32
                                      · rw [if_pos c47] at H
                                        have c47b0 : ((bt a0 x10_4) == 32) = true := beq_iff_eq.mpr c47
                                        have c47b1 : ((bt a0 x10_4) != 32) = false := bne_eq_false_iff_eq.mpr c47
                                        clear c47
                                        have H' := Aside0.mk H
                                        clear H
                                        have p30 : 0 ≤ (x10_4 : Int) := of_decide_eq_true (by first | (with_reducible assumption) | assumption)
                                        have q30 : x10_4 < (a0.size : Int) := of_decide_eq_true (by first | (with_reducible assumption) | assumption)
                                        have hx30 := bt_at a0 x10_4
                                        replace p30 := eq_true p30
                                        replace q30 := eq_true q30
                                        have p34 : 0 ≤ (x10_4 : Int) := of_decide_eq_true (by first | (with_reducible assumption) | assumption)
                                        have q34 : x10_4 < (a0.size : Int) := of_decide_eq_true (by first | (with_reducible assumption) | assumption)
                                        have hx34 := bt_at a0 x10_4
                                        replace p34 := eq_true p34
                                        replace q34 := eq_true q34
                                        have p46 : 0 ≤ (x10_4 : Int) := of_decide_eq_true (by first | (with_reducible assumption) | assumption)
                                        have q46 : x10_4 < (a0.size : Int) := of_decide_eq_true (by first | (with_reducible assumption) | assumption)
                                        have hx46 := bt_at a0 x10_4
                                        replace p46 := eq_true p46
                                        replace q46 := eq_true q46
                                        go_wp2
                                        repeat (go_quiet (fail); try go_wp2)
                                        go_roundg k4
                                        case measure => have := HJ1.out; have := HK2.out; have := HJ13.out; have := HK4.out; omega
                                        case rel => exact ⟨(false), (wrap64 (x10_4 + 1)), (by first | rfl | (simp; done) | (simp [*]; done)), (by first | rfl | (simp; done) | (simp [*]; done)), H', ⟨by have := HJ1.out; have := HK2.out; have := HJ13.out; have := HK4.out; omega⟩, ⟨by (with_reducible repeat (first | apply Kd.R_alloc | apply Kd.R_drewN | apply Kd.R_drew)); exact HO_3.out⟩, ⟨by repeat (first | (with_reducible first | exact HB.out | apply below_alloc | apply pw_below_drewN | apply below_drew1) | exact HB.out)⟩⟩
                                      · rw [if_neg c47] at H
                                        have c47b0 : ((bt a0 x10_4) == 32) = false := beq_eq_false_iff_ne.mpr c47
                                        have c47b1 : ((bt a0 x10_4) != 32) = true := bne_iff_ne.mpr c47
                                        by_cases c49 : (bt a0 x10_4) = 9
                                        · rw [if_pos c49] at H
                                          have c49b0 : ((bt a0 x10_4) == 9) = true := beq_iff_eq.mpr c49
                                          have c49b1 : ((bt a0 x10_4) != 9) = false := bne_eq_false_iff_eq.mpr c49
                                          clear c49
                                          have H' := Aside0.mk H
                                          clear H
                                          have p30 : 0 ≤ (x10_4 : Int) := of_decide_eq_true (by first | (with_reducible assumption) | assumption)
                                          have q30 : x10_4 < (a0.size : Int) := of_decide_eq_true (by first | (with_reducible assumption) | assumption)
                                          have hx30 := bt_at a0 x10_4
                                          replace p30 := eq_true p30
                                          replace q30 := eq_true q30
                                          have p34 : 0 ≤ (x10_4 : Int) := of_decide_eq_true (by first | (with_reducible assumption) | assumption)
                                          have q34 : x10_4 < (a0.size : Int) := of_decide_eq_true (by first | (with_reducible assumption) | assumption)
                                          have hx34 := bt_at a0 x10_4
                                          replace p34 := eq_true p34
                                          replace q34 := eq_true q34
                                          have p46 : 0 ≤ (x10_4 : Int) := of_decide_eq_true (by first | (with_reducible assumption) | assumption)
                                          have q46 : x10_4 < (a0.size : Int) := of_decide_eq_true (by first | (with_reducible assumption) | assumption)
                                          have hx46 := bt_at a0 x10_4
                                          replace p46 := eq_true p46
                                          replace q46 := eq_true q46
                                          have p48 : 0 ≤ (x10_4 : Int) := of_decide_eq_true (by first | (with_reducible assumption) | assumption)
                                          have q48 : x10_4 < (a0.size : Int) := of_decide_eq_true (by first | (with_reducible assumption) | assumption)
                                          have hx48 := bt_at a0 x10_4
                                          replace p48 := eq_true p48
                                          replace q48 := eq_true q48
                                          go_wp2
                                          repeat (go_quiet (fail); try go_wp2)
                                          go_roundg k4
                                          case measure => have := HJ1.out; have := HK2.out; have := HJ13.out; have := HK4.out; omega
                                          case rel => exact ⟨(false), (wrap64 (x10_4 + 1)), (by first | rfl | (simp; done) | (simp [*]; done)), (by first | rfl | (simp; done) | (simp [*]; done)), H', ⟨by have := HJ1.out; have := HK2.out; have := HJ13.out; have := HK4.out; omega⟩, ⟨by (with_reducible repeat (first | apply Kd.R_alloc | apply Kd.R_drewN | apply Kd.R_drew)); exact HO_3.out⟩, ⟨by repeat (first | (with_reducible first | exact HB.out | apply below_alloc | apply pw_below_drewN | apply below_drew1) | exact HB.out)⟩⟩
                                        · rw [if_neg c49] at H
                                          have c49b0 : ((bt a0 x10_4) == 9) = false := beq_eq_false_iff_ne.mpr c49
                                          have c49b1 : ((bt a0 x10_4) != 9) = true := bne_iff_ne.mpr c49
                                          by_cases c51 : (bt a0 x10_4) = 13
                                          · rw [if_pos c51] at H
                                            have c51b0 : ((bt a0 x10_4) == 13) = true := beq_iff_eq.mpr c51
                                            have c51b1 : ((bt a0 x10_4) != 13) = false := bne_eq_false_iff_eq.mpr c51
                                            clear c51
                                            have H' := Aside0.mk H
                                            clear H
                                            have p30 : 0 ≤ (x10_4 : Int) := of_decide_eq_true (by first | (with_reducible assumption) | assumption)
                                            have q30 : x10_4 < (a0.size : Int) := of_decide_eq_true (by first | (with_reducible assumption) | assumption)
                                            have hx30 := bt_at a0 x10_4
                                            replace p30 := eq_true p30
                                            replace q30 := eq_true q30
                                            have p34 : 0 ≤ (x10_4 : Int) := of_decide_eq_true (by first | (with_reducible assumption) | assumption)
                                            have q34 : x10_4 < (a0.size : Int) := of_decide_eq_true (by first | (with_reducible assumption) | assumption)
                                            have hx34 := bt_at a0 x10_4
                                            replace p34 := eq_true p34
                                            replace q34 := eq_true q34
                                            have p46 : 0 ≤ (x10_4 : Int) := of_decide_eq_true (by first | (with_reducible assumption) | assumption)
                                            have q46 : x10_4 < (a0.size : Int) := of_decide_eq_true (by first | (with_reducible assumption) | assumption)
                                            have hx46 := bt_at a0 x10_4
                                            replace p46 := eq_true p46
                                            replace q46 := eq_true q46
                                            have p48 : 0 ≤ (x10_4 : Int) := of_decide_eq_true (by first | (with_reducible assumption) | assumption)
                                            have q48 : x10_4 < (a0.size : Int) := of_decide_eq_true (by first | (with_reducible assumption) | assumption)
                                            have hx48 := bt_at a0 x10_4
                                            replace p48 := eq_true p48
                                            replace q48 := eq_true q48
                                            have p50 : 0 ≤ (x10_4 : Int) := of_decide_eq_true (by first | (with_reducible assumption) | assumption)
                                            have q50 : x10_4 < (a0.size : Int) := of_decide_eq_true (by first | (with_reducible assumption) | assumption)
                                            have hx50 := bt_at a0 x10_4
                                            replace p50 := eq_true p50
                                            replace q50 := eq_true q50
                                            go_wp2
                                            repeat (go_quiet (fail); try go_wp2)
                                            go_roundg k4
                                            case measure => have := HJ1.out; have := HK2.out; have := HJ13.out; have := HK4.out; omega
                                            case rel => exact ⟨(false), (wrap64 (x10_4 + 1)), (by first | rfl | (simp; done) | (simp [*]; done)), (by first | rfl | (simp; done) | (simp [*]; done)), H', ⟨by have := HJ1.out; have := HK2.out; have := HJ13.out; have := HK4.out; omega⟩, ⟨by (with_reducible repeat (first | apply Kd.R_alloc | apply Kd.R_drewN | apply Kd.R_drew)); exact HO_3.out⟩, ⟨by repeat (first | (with_reducible first | exact HB.out | apply below_alloc | apply pw_below_drewN | apply below_drew1) | exact HB.out)⟩⟩
                                          · rw [if_neg c51] at H
                                            have c51b0 : ((bt a0 x10_4) == 13) = false := beq_eq_false_iff_ne.mpr c51
                                            have c51b1 : ((bt a0 x10_4) != 13) = true := bne_iff_ne.mpr c51
                                            obtain rfl := Option.some.inj H
                                            try (exact absurd hrt (by decide))
                                            all_goals have p30 : 0 ≤ (x10_4 : Int) := of_decide_eq_true (by first | (with_reducible assumption) | assumption)
                                            all_goals have q30 : x10_4 < (a0.size : Int) := of_decide_eq_true (by first | (with_reducible assumption) | assumption)
                                            all_goals have hx30 := bt_at a0 x10_4
                                            all_goals replace p30 := eq_true p30
                                            all_goals replace q30 := eq_true q30
                                            all_goals have p34 : 0 ≤ (x10_4 : Int) := of_decide_eq_true (by first | (with_reducible assumption) | assumption)
                                            all_goals have q34 : x10_4 < (a0.size : Int) := of_decide_eq_true (by first | (with_reducible assumption) | assumption)
                                            all_goals have hx34 := bt_at a0 x10_4
                                            all_goals replace p34 := eq_true p34
                                            all_goals replace q34 := eq_true q34
                                            all_goals have p46 : 0 ≤ (x10_4 : Int) := of_decide_eq_true (by first | (with_reducible assumption) | assumption)
                                            all_goals have q46 : x10_4 < (a0.size : Int) := of_decide_eq_true (by first | (with_reducible assumption) | assumption)
                                            all_goals have hx46 := bt_at a0 x10_4
                                            all_goals replace p46 := eq_true p46
                                            all_goals replace q46 := eq_true q46
                                            all_goals have p48 : 0 ≤ (x10_4 : Int) := of_decide_eq_true (by first | (with_reducible assumption) | assumption)
                                            all_goals have q48 : x10_4 < (a0.size : Int) := of_decide_eq_true (by first | (with_reducible assumption) | assumption)
                                            all_goals have hx48 := bt_at a0 x10_4
                                            all_goals replace p48 := eq_true p48
                                            all_goals replace q48 := eq_true q48
                                            all_goals have p50 : 0 ≤ (x10_4 : Int) := of_decide_eq_true (by first | (with_reducible assumption) | assumption)
                                            all_goals have q50 : x10_4 < (a0.size : Int) := of_decide_eq_true (by first | (with_reducible assumption) | assumption)
                                            all_goals have hx50 := bt_at a0 x10_4
                                            all_goals replace p50 := eq_true p50
                                            all_goals replace q50 := eq_true q50
                                            all_goals go_wp2
                                            all_goals repeat (go_quiet (fail); try go_wp2)
                                            all_goals go_ret
                                            all_goals exact ⟨by first | rfl | (simp [errW_none, errW_some] <;> rfl) | (simp [*, errW_none, errW_some] <;> rfl), by repeat (first | (with_reducible first | exact HB.out | apply below_alloc | apply pw_below_drewN | apply below_drew1) | exact HB.out)⟩
                                  · rw [if_neg c33] at H
                                    have c33b0 : decide ((wrap64 (x10_4 + 1)) < (a0.size : Int)) = false := decide_eq_false c33
                                    clear c33
                                    by_cases c53 : (bt a0 x10_4) = 32
                                    · rw [if_pos c53] at H
                                      have c53b0 : ((bt a0 x10_4) == 32) = true := beq_iff_eq.mpr c53
                                      have c53b1 : ((bt a0 x10_4) != 32) = false := bne_eq_false_iff_eq.mpr c53
                                      clear c53
                                      have H' := Aside0.mk H
                                      clear H
                                      have p30 : 0 ≤ (x10_4 : Int) := of_decide_eq_true (by first | (with_reducible assumption) | assumption)
                                      have q30 : x10_4 < (a0.size : Int) := of_decide_eq_true (by first | (with_reducible assumption) | assumption)
                                      have hx30 := bt_at a0 x10_4
                                      replace p30 := eq_true p30
                                      replace q30 := eq_true q30
                                      have p52 : 0 ≤ (x10_4 : Int) := of_decide_eq_true (by first | (with_reducible assumption) | assumption)
                                      have q52 : x10_4 < (a0.size : Int) := of_decide_eq_true (by first | (with_reducible assumption) | assumption)
                                      have hx52 := bt_at a0 x10_4
                                      replace p52 := eq_true p52
                                      replace q52 := eq_true q52
                                      go_wp2
                                      repeat (go_quiet (fail); try go_wp2)
                                      go_roundg k4
                                      case measure => have := HJ1.out; have := HK2.out; have := HJ13.out; have := HK4.out; omega
                                      case rel => exact ⟨(false), (wrap64 (x10_4 + 1)), (by first | rfl | (simp; done) | (simp [*]; done)), (by first | rfl | (simp; done) | (simp [*]; done)), H', ⟨by have := HJ1.out; have := HK2.out; have := HJ13.out; have := HK4.out; omega⟩, ⟨by (with_reducible repeat (first | apply Kd.R_alloc | apply Kd.R_drewN | apply Kd.R_drew)); exact HO_3.out⟩, ⟨by repeat (first | (with_reducible first | exact HB.out | apply below_alloc | apply pw_below_drewN | apply below_drew1) | exact HB.out)⟩⟩
                                    · rw [if_neg c53] at H
                                      have c53b0 : ((bt a0 x10_4) == 32) = false := beq_eq_false_iff_ne.mpr c53
                                      have c53b1 : ((bt a0 x10_4) != 32) = true := bne_iff_ne.mpr c53
                                      by_cases c55 : (bt a0 x10_4) = 9
                                      · rw [if_pos c55] at H
                                        have c55b0 : ((bt a0 x10_4) == 9) = true := beq_iff_eq.mpr c55
                                        have c55b1 : ((bt a0 x10_4) != 9) = false := bne_eq_false_iff_eq.mpr c55
                                        clear c55
                                        have H' := Aside0.mk H
                                        clear H
                                        have p30 : 0 ≤ (x10_4 : Int) := of_decide_eq_true (by first | (with_reducible assumption) | assumption)
                                        have q30 : x10_4 < (a0.size : Int) := of_decide_eq_true (by first | (with_reducible assumption) | assumption)
                                        have hx30 := bt_at a0 x10_4
                                        replace p30 := eq_true p30
                                        replace q30 := eq_true q30
                                        have p52 : 0 ≤ (x10_4 : Int) := of_decide_eq_true (by first | (with_reducible assumption) | assumption)
                                        have q52 : x10_4 < (a0.size : Int) := of_decide_eq_true (by first | (with_reducible assumption) | assumption)
                                        have hx52 := bt_at a0 x10_4
                                        replace p52 := eq_true p52
                                        replace q52 := eq_true q52
                                        have p54 : 0 ≤ (x10_4 : Int) := of_decide_eq_true (by first | (with_reducible assumption) | assumption)
                                        have q54 : x10_4 < (a0.size : Int) := of_decide_eq_true (by first | (with_reducible assumption) | assumption)
                                        have hx54 := bt_at a0 x10_4
                                        replace p54 := eq_true p54
                                        replace q54 := eq_true q54
                                        go_wp2
                                        repeat (go_quiet (fail); try go_wp2)
                                        go_roundg k4
                                        case measure => have := HJ1.out; have := HK2.out; have := HJ13.out; have := HK4.out; omega
                                        case rel => exact ⟨(false), (wrap64 (x10_4 + 1)), (by first | rfl | (simp; done) | (simp [*]; done)), (by first | rfl | (simp; done) | (simp [*]; done)), H', ⟨by have := HJ1.out; have := HK2.out; have := HJ13.out; have := HK4.out; omega⟩, ⟨by (with_reducible repeat (first | apply Kd.R_alloc | apply Kd.R_drewN | apply Kd.R_drew)); exact HO_3.out⟩, ⟨by repeat (first | (with_reducible first | exact HB.out | apply below_alloc | apply pw_below_drewN | apply below_drew1) | exact HB.out)⟩⟩
                                      · rw [if_neg c55] at H
                                        have c55b0 : ((bt a0 x10_4) == 9) = false := beq_eq_false_iff_ne.mpr c55
                                        have c55b1 : ((bt a0 x10_4) != 9) = true := bne_iff_ne.mpr c55
                                        by_cases c57 : (bt a0 x10_4) = 13
                                        · rw [if_pos c57] at H
                                          have c57b0 : ((bt a0 x10_4) == 13) = true := beq_iff_eq.mpr c57
                                          have c57b1 : ((bt a0 x10_4) != 13) = false := bne_eq_false_iff_eq.mpr c57
                                          clear c57
                                          have H' := Aside0.mk H
                                          clear H
                                          have p30 : 0 ≤ (x10_4 : Int) := of_decide_eq_true (by first | (with_reducible assumption) | assumption)
                                          have q30 : x10_4 < (a0.size : Int) := of_decide_eq_true (by first | (with_reducible assumption) | assumption)
                                          have hx30 := bt_at a0 x10_4
                                          replace p30 := eq_true p30
                                          replace q30 := eq_true q30
                                          have p52 : 0 ≤ (x10_4 : Int) := of_decide_eq_true (by first | (with_reducible assumption) | assumption)
                                          have q52 : x10_4 < (a0.size : Int) := of_decide_eq_true (by first | (with_reducible assumption) | assumption)
                                          have hx52 := bt_at a0 x10_4
                                          replace p52 := eq_true p52
                                          replace q52 := eq_true q52
                                          have p54 : 0 ≤ (x10_4 : Int) := of_decide_eq_true (by first | (with_reducible assumption) | assumption)
                                          have q54 : x10_4 < (a0.size : Int) := of_decide_eq_true (by first | (with_reducible assumption) | assumption)
                                          have hx54 := bt_at a0 x10_4
                                          replace p54 := eq_true p54
                                          replace q54 := eq_true q54
                                          have p56 : 0 ≤ (x10_4 : Int) := of_decide_eq_true (by first | (with_reducible assumption) | assumption)
                                          have q56 : x10_4 < (a0.size : Int) := of_decide_eq_true (by first | (with_reducible assumption) | assumption)
                                          have hx56 := bt_at a0 x10_4
                                          replace p56 := eq_true p56
                                          replace q56 := eq_true q56
                                          go_wp2
                                          repeat (go_quiet (fail); try go_wp2)
                                          go_roundg k4
                                          case measure => have := HJ1.out; have := HK2.out; have := HJ13.out; have := HK4.out; omega
                                          case rel => exact ⟨(false), (wrap64 (x10_4 + 1)), (by first | rfl | (simp; done) | (simp [*]; done)), (by first | rfl | (simp; done) | (simp [*]; done)), H', ⟨by have := HJ1.out; have := HK2.out; have := HJ13.out; have := HK4.out; omega⟩, ⟨by (with_reducible repeat (first | apply Kd.R_alloc | apply Kd.R_drewN | apply Kd.R_drew)); exact HO_3.out⟩, ⟨by repeat (first | (with_reducible first | exact HB.out | apply below_alloc | apply pw_below_drewN | apply below_drew1) | exact HB.out)⟩⟩
                                        · rw [if_neg c57] at H
                                          have c57b0 : ((bt a0 x10_4) == 13) = false := beq_eq_false_iff_ne.mpr c57
                                          have c57b1 : ((bt a0 x10_4) != 13) = true := bne_iff_ne.mpr c57
                                          obtain rfl := Option.some.inj H
                                          try (exact absurd hrt (by decide))
                                          all_goals have p30 : 0 ≤ (x10_4 : Int) := of_decide_eq_true (by first | (with_reducible assumption) | assumption)
                                          all_goals have q30 : x10_4 < (a0.size : Int) := of_decide_eq_true (by first | (with_reducible assumption) | assumption)
                                          all_goals have hx30 := bt_at a0 x10_4
                                          all_goals replace p30 := eq_true p30
                                          all_goals replace q30 := eq_true q30
                                          all_goals have p52 : 0 ≤ (x10_4 : Int) := of_decide_eq_true (by first | (with_reducible assumption) | assumption)
                                          all_goals have q52 : x10_4 < (a0.size : Int) := of_decide_eq_true (by first | (with_reducible assumption) | assumption)
                                          all_goals have hx52 := bt_at a0 x10_4
                                          all_goals replace p52 := eq_true p52
                                          all_goals replace q52 := eq_true q52
                                          all_goals have p54 : 0 ≤ (x10_4 : Int) := of_decide_eq_true (by first | (with_reducible assumption) | assumption)
                                          all_goals have q54 : x10_4 < (a0.size : Int) := of_decide_eq_true (by first | (with_reducible assumption) | assumption)
                                          all_goals have hx54 := bt_at a0 x10_4
                                          all_goals replace p54 := eq_true p54
                                          all_goals replace q54 := eq_true q54
                                          all_goals have p56 : 0 ≤ (x10_4 : Int) := of_decide_eq_true (by first | (with_reducible assumption) | assumption)
                                          all_goals have q56 : x10_4 < (a0.size : Int) := of_decide_eq_true (by first | (with_reducible assumption) | assumption)
                                          all_goals have hx56 := bt_at a0 x10_4
                                          all_goals replace p56 := eq_true p56
                                          all_goals replace q56 := eq_true q56
                                          all_goals go_wp2
                                          all_goals repeat (go_quiet (fail); try go_wp2)
                                          all_goals go_ret
                                          all_goals exact ⟨by first | rfl | (simp [errW_none, errW_some] <;> rfl) | (simp [*, errW_none, errW_some] <;> rfl), by repeat (first | (with_reducible first | exact HB.out | apply below_alloc | apply pw_below_drewN | apply below_drew1) | exact HB.out)⟩
                            · rw [if_neg c29] at H
                              exact absurd H (by simp)
                          · rw [if_neg c28] at H
                            exact absurd H (by simp)
                        · rw [if_neg c27] at H
                          have c27b0 : decide (x10_4 < x8_13) = false := decide_eq_false c27
                          clear c27
                          by_cases c58 : x7_2 < (t151.length : Int)
                          · rw [if_pos c58] at H
                            have c58b0 : decide (x7_2 < (t151.length : Int)) = true := decide_eq_true c58
                            clear c58
                            by_cases c59 : 0 ≤ x7_2
                            · rw [if_pos c59] at H
                              have c59b0 : decide (0 ≤ x7_2) = true := decide_eq_true c59
                              clear c59
                              have H' := Aside0.mk H
                              clear H
                              have p163 : 0 ≤ (x7_2 : Int) := of_decide_eq_true (by first | (with_reducible assumption) | assumption)
                              have q163 : x7_2 < (t151.length : Int) := of_decide_eq_true (by first | (with_reducible assumption) | assumption)
                              obtain ⟨ad163, e163, hx163_0, hx163_1, hx163_2⟩ := at_T32 (Kd.R_reads' HO_3.out).2.2 x7_2 p163 q163
                              cases e163
                              replace p163 := eq_true p163
                              replace q163 := eq_true q163
                              go_wp2
                              repeat (go_quiet (fail); try go_wp2)
                              go_roundg k4
                              case measure => have := HJ1.out; have := HK2.out; have := HJ13.out; have := HK4.out; omega
                              case rel => exact ⟨(wrap64 (x8_13 + (((rd_T32 t151 x7_2).f1).size : Int))), (wrap64 (x7_2 + 1)), (by first | rfl | (simp; done) | (simp [*]; done)), (by first | rfl | (simp; done) | (simp [*]; done)), H', ⟨by have := HJ1.out; have := HK2.out; have := HJ13.out; have := HK4.out; omega⟩, ⟨by (with_reducible repeat (first | apply Kd.R_alloc | apply Kd.R_drewN | apply Kd.R_drew)); exact HO_3.out⟩, ⟨by repeat (first | (with_reducible first | exact HB.out | apply below_alloc | apply pw_below_drewN | apply below_drew1) | exact HB.out)⟩⟩
                            · rw [if_neg c59] at H
                              exact absurd H (by simp)
                          · rw [if_neg c58] at H
                            have c58b0 : decide (x7_2 < (t151.length : Int)) = false := decide_eq_false c58
                            clear c58
                            have H' := Aside0.mk H
                            clear H
                            go_wp2
                            repeat (go_quiet (fail); try go_wp2)
                            go_roundg k4
                            case measure => have := HJ1.out; have := HK2.out; have := HJ13.out; have := HK4.out; omega
                            case rel => exact ⟨(x6_2), (wrap64 (x7_2 + 1)), (by first | rfl | (simp; done) | (simp [*]; done)), (by first | rfl | (simp; done) | (simp [*]; done)), H', ⟨by have := HJ1.out; have := HK2.out; have := HJ13.out; have := HK4.out; omega⟩, ⟨by (with_reducible repeat (first | apply Kd.R_alloc | apply Kd.R_drewN | apply Kd.R_drew)); exact HO_3.out⟩, ⟨by repeat (first | (with_reducible first | exact HB.out | apply below_alloc | apply pw_below_drewN | apply below_drew1) | exact HB.out)⟩⟩
              · rw [if_neg c13] at H
                have c13b0 : decide (x7_2 ≤ (t151.length : Int)) = false := decide_eq_false c13
                clear c13
                obtain rfl := Option.some.inj H
                try (exact absurd hrt (by decide))
                all_goals obtain ⟨Ao60, co60, eo60⟩ := Kd.R_slice HO_3.out
                all_goals subst eo60
                all_goals go_wp2
                all_goals repeat (go_quiet (fail); try go_wp2)
                all_goals go_ret
                all_goals exact ⟨by first | rfl | (simp [errW_none, errW_some] <;> rfl) | (simp [*, errW_none, errW_some] <;> rfl), by repeat (first | (with_reducible first | exact HB.out | apply below_alloc | apply pw_below_drewN | apply below_drew1) | exact HB.out)⟩
        · rw [if_neg c11] at H
          have c11b0 : (t153 == 0) = false := beq_eq_false_iff_ne.mpr c11
          have c11b1 : (t153 != 0) = true := bne_iff_ne.mpr c11
          by_cases c61 : t153 = 5
          · rw [if_pos c61] at H
            have c61b0 : (t153 == 5) = true := beq_iff_eq.mpr c61
            have c61b1 : (t153 != 5) = false := bne_eq_false_iff_eq.mpr c61
            clear c61
            by_cases c62 : t152 ≥ 0
            · rw [if_pos c62] at H
              have c62b0 : decide (0 ≤ t152) = true := decide_eq_true c62
              clear c62
              by_cases c63 : t152 < (a0.size : Int)
              · rw [if_pos c63] at H
                have c63b0 : decide (t152 < (a0.size : Int)) = true := decide_eq_true c63
                clear c63
                obtain rfl := Option.some.inj H
                try (exact absurd hrt (by decide))
                all_goals go_wp2_with (first | (go_at_call 16; (with_reducible refine (tokens_Read.calls a0 t151 t152 t153 _ A10.out).mono ?_); rintro e w64 ⟨v154, rfl, ho0, hb⟩; have n0_ := Aside0.mk (Kd.R_lower ho0 (below_size (by repeat (first | (with_reducible first | exact HB.out | apply below_alloc | apply pw_below_drewN | apply below_drew1) | exact HB.out)))); have n1_ := Aside0.mk (below_step (by repeat (first | (with_reducible first | exact HB.out | apply below_alloc | apply pw_below_drewN | apply below_drew1) | exact HB.out)) hb); clear HB; have HO155 := n0_; have HB := n1_; clear n0_ n1_; (try clear hb); (try clear hb2); (try clear hk); (try clear hi); (try clear ho0); obtain ⟨Ao65, co65, eo65⟩ := Kd.R_slice HO155.out; subst eo65))
                all_goals repeat (go_quiet (first | (go_at_call 16; (with_reducible refine (tokens_Read.calls a0 t151 t152 t153 _ A10.out).mono ?_); rintro e w64 ⟨v154, rfl, ho0, hb⟩; have n0_ := Aside0.mk (Kd.R_lower ho0 (below_size (by repeat (first | (with_reducible first | exact HB.out | apply below_alloc | apply pw_below_drewN | apply below_drew1) | exact HB.out)))); have n1_ := Aside0.mk (below_step (by repeat (first | (with_reducible first | exact HB.out | apply below_alloc | apply pw_below_drewN | apply below_drew1) | exact HB.out)) hb); clear HB; have HO155 := n0_; have HB := n1_; clear n0_ n1_; (try clear hb); (try clear hb2); (try clear hk); (try clear hi); (try clear ho0); obtain ⟨Ao65, co65, eo65⟩ := Kd.R_slice HO155.out; subst eo65)); try go_wp2_with (first | (go_at_call 16; (with_reducible refine (tokens_Read.calls a0 t151 t152 t153 _ A10.out).mono ?_); rintro e w64 ⟨v154, rfl, ho0, hb⟩; have n0_ := Aside0.mk (Kd.R_lower ho0 (below_size (by repeat (first | (with_reducible first | exact HB.out | apply below_alloc | apply pw_below_drewN | apply below_drew1) | exact HB.out)))); have n1_ := Aside0.mk (below_step (by repeat (first | (with_reducible first | exact HB.out | apply below_alloc | apply pw_below_drewN | apply below_drew1) | exact HB.out)) hb); clear HB; have HO155 := n0_; have HB := n1_; clear n0_ n1_; (try clear hb); (try clear hb2); (try clear hk); (try clear hi); (try clear ho0); obtain ⟨Ao65, co65, eo65⟩ := Kd.R_slice HO155.out; subst eo65)))
                all_goals go_ret
                all_goals exact ⟨by first | rfl | (simp [errW_none, errW_some] <;> rfl) | (simp [*, errW_none, errW_some] <;> rfl), by repeat (first | (with_reducible first | exact HB.out | apply below_alloc | apply pw_below_drewN | apply below_drew1) | exact HB.out)⟩
              · rw [if_neg c63] at H
                have c63b0 : decide (t152 < (a0.size : Int)) = false := decide_eq_false c63
                clear c63
                obtain rfl := Option.some.inj H
                try (exact absurd hrt (by decide))
                all_goals go_wp2_with (first | (go_at_call 16; (with_reducible refine (tokens_Read.calls a0 t151 t152 t153 _ A10.out).mono ?_); rintro e w66 ⟨v154, rfl, ho0, hb⟩; have n0_ := Aside0.mk (Kd.R_lower ho0 (below_size (by repeat (first | (with_reducible first | exact HB.out | apply below_alloc | apply pw_below_drewN | apply below_drew1) | exact HB.out)))); have n1_ := Aside0.mk (below_step (by repeat (first | (with_reducible first | exact HB.out | apply below_alloc | apply pw_below_drewN | apply below_drew1) | exact HB.out)) hb); clear HB; have HO155 := n0_; have HB := n1_; clear n0_ n1_; (try clear hb); (try clear hb2); (try clear hk); (try clear hi); (try clear ho0)))
                all_goals repeat (go_quiet (first | (go_at_call 16; (with_reducible refine (tokens_Read.calls a0 t151 t152 t153 _ A10.out).mono ?_); rintro e w66 ⟨v154, rfl, ho0, hb⟩; have n0_ := Aside0.mk (Kd.R_lower ho0 (below_size (by repeat (first | (with_reducible first | exact HB.out | apply below_alloc | apply pw_below_drewN | apply below_drew1) | exact HB.out)))); have n1_ := Aside0.mk (below_step (by repeat (first | (with_reducible first | exact HB.out | apply below_alloc | apply pw_below_drewN | apply below_drew1) | exact HB.out)) hb); clear HB; have HO155 := n0_; have HB := n1_; clear n0_ n1_; (try clear hb); (try clear hb2); (try clear hk); (try clear hi); (try clear ho0))); try go_wp2_with (first | (go_at_call 16; (with_reducible refine (tokens_Read.calls a0 t151 t152 t153 _ A10.out).mono ?_); rintro e w66 ⟨v154, rfl, ho0, hb⟩; have n0_ := Aside0.mk (Kd.R_lower ho0 (below_size (by repeat (first | (with_reducible first | exact HB.out | apply below_alloc | apply pw_below_drewN | apply below_drew1) | exact HB.out)))); have n1_ := Aside0.mk (below_step (by repeat (first | (with_reducible first | exact HB.out | apply below_alloc | apply pw_below_drewN | apply below_drew1) | exact HB.out)) hb); clear HB; have HO155 := n0_; have HB := n1_; clear n0_ n1_; (try clear hb); (try clear hb2); (try clear hk); (try clear hi); (try clear ho0))))
                all_goals go_ret
                all_goals exact ⟨by first | rfl | (simp [errW_none, errW_some] <;> rfl) | (simp [*, errW_none, errW_some] <;> rfl), by repeat (first | (with_reducible first | exact HB.out | apply below_alloc | apply pw_below_drewN | apply below_drew1) | exact HB.out)⟩
            · rw [if_neg c62] at H
              have c62b0 : decide (0 ≤ t152) = false := decide_eq_false c62
              clear c62
              obtain rfl := Option.some.inj H
              try (exact absurd hrt (by decide))
              all_goals go_wp2_with (first | (go_at_call 16; (with_reducible refine (tokens_Read.calls a0 t151 t152 t153 _ A10.out).mono ?_); rintro e w67 ⟨v154, rfl, ho0, hb⟩; have n0_ := Aside0.mk (Kd.R_lower ho0 (below_size (by repeat (first | (with_reducible first | exact HB.out | apply below_alloc | apply pw_below_drewN | apply below_drew1) | exact HB.out)))); have n1_ := Aside0.mk (below_step (by repeat (first | (with_reducible first | exact HB.out | apply below_alloc | apply pw_below_drewN | apply below_drew1) | exact HB.out)) hb); clear HB; have HO155 := n0_; have HB := n1_; clear n0_ n1_; (try clear hb); (try clear hb2); (try clear hk); (try clear hi); (try clear ho0)))
              all_goals repeat (go_quiet (first | (go_at_call 16; (with_reducible refine (tokens_Read.calls a0 t151 t152 t153 _ A10.out).mono ?_); rintro e w67 ⟨v154, rfl, ho0, hb⟩; have n0_ := Aside0.mk (Kd.R_lower ho0 (below_size (by repeat (first | (with_reducible first | exact HB.out | apply below_alloc | apply pw_below_drewN | apply below_drew1) | exact HB.out)))); have n1_ := Aside0.mk (below_step (by repeat (first | (with_reducible first | exact HB.out | apply below_alloc | apply pw_below_drewN | apply below_drew1) | exact HB.out)) hb); clear HB; have HO155 := n0_; have HB := n1_; clear n0_ n1_; (try clear hb); (try clear hb2); (try clear hk); (try clear hi); (try clear ho0))); try go_wp2_with (first | (go_at_call 16; (with_reducible refine (tokens_Read.calls a0 t151 t152 t153 _ A10.out).mono ?_); rintro e w67 ⟨v154, rfl, ho0, hb⟩; have n0_ := Aside0.mk (Kd.R_lower ho0 (below_size (by repeat (first | (with_reducible first | exact HB.out | apply below_alloc | apply pw_below_drewN | apply below_drew1) | exact HB.out)))); have n1_ := Aside0.mk (below_step (by repeat (first | (with_reducible first | exact HB.out | apply below_alloc | apply pw_below_drewN | apply below_drew1) | exact HB.out)) hb); clear HB; have HO155 := n0_; have HB := n1_; clear n0_ n1_; (try clear hb); (try clear hb2); (try clear hk); (try clear hi); (try clear ho0))))
              all_goals go_ret
              all_goals exact ⟨by first | rfl | (simp [errW_none, errW_some] <;> rfl) | (simp [*, errW_none, errW_some] <;> rfl), by repeat (first | (with_reducible first | exact HB.out | apply below_alloc | apply pw_below_drewN | apply below_drew1) | exact HB.out)⟩
          · rw [if_neg c61] at H
            have c61b0 : (t153 == 5) = false := beq_eq_false_iff_ne.mpr c61
            have c61b1 : (t153 != 5) = true := bne_iff_ne.mpr c61
            obtain rfl := Option.some.inj H
            try (exact absurd hrt (by decide))
            all_goals go_wp2_with (first | (go_at_call 16; (with_reducible refine (tokens_Read.calls a0 t151 t152 t153 _ A10.out).mono ?_); rintro e w68 ⟨v154, rfl, ho0, hb⟩; have n0_ := Aside0.mk (Kd.R_lower ho0 (below_size (by repeat (first | (with_reducible first | exact HB.out | apply below_alloc | apply pw_below_drewN | apply below_drew1) | exact HB.out)))); have n1_ := Aside0.mk (below_step (by repeat (first | (with_reducible first | exact HB.out | apply below_alloc | apply pw_below_drewN | apply below_drew1) | exact HB.out)) hb); clear HB; have HO155 := n0_; have HB := n1_; clear n0_ n1_; (try clear hb); (try clear hb2); (try clear hk); (try clear hi); (try clear ho0)))
            all_goals repeat (go_quiet (first | (go_at_call 16; (with_reducible refine (tokens_Read.calls a0 t151 t152 t153 _ A10.out).mono ?_); rintro e w68 ⟨v154, rfl, ho0, hb⟩; have n0_ := Aside0.mk (Kd.R_lower ho0 (below_size (by repeat (first | (with_reducible first | exact HB.out | apply below_alloc | apply pw_below_drewN | apply below_drew1) | exact HB.out)))); have n1_ := Aside0.mk (below_step (by repeat (first | (with_reducible first | exact HB.out | apply below_alloc | apply pw_below_drewN | apply below_drew1) | exact HB.out)) hb); clear HB; have HO155 := n0_; have HB := n1_; clear n0_ n1_; (try clear hb); (try clear hb2); (try clear hk); (try clear hi); (try clear ho0))); try go_wp2_with (first | (go_at_call 16; (with_reducible refine (tokens_Read.calls a0 t151 t152 t153 _ A10.out).mono ?_); rintro e w68 ⟨v154, rfl, ho0, hb⟩; have n0_ := Aside0.mk (Kd.R_lower ho0 (below_size (by repeat (first | (with_reducible first | exact HB.out | apply below_alloc | apply pw_below_drewN | apply below_drew1) | exact HB.out)))); have n1_ := Aside0.mk (below_step (by repeat (first | (with_reducible first | exact HB.out | apply below_alloc | apply pw_below_drewN | apply below_drew1) | exact HB.out)) hb); clear HB; have HO155 := n0_; have HB := n1_; clear n0_ n1_; (try clear hb); (try clear hb2); (try clear hk); (try clear hi); (try clear ho0))))
            all_goals go_ret
            all_goals exact ⟨by first | rfl | (simp [errW_none, errW_some] <;> rfl) | (simp [*, errW_none, errW_some] <;> rfl), by repeat (first | (with_reducible first | exact HB.out | apply below_alloc | apply pw_below_drewN | apply below_drew1) | exact HB.out)⟩

/-- THE ONE PURE STATEMENT of belfrylaw04_TokensPlaces: yours. -/
theorem belfrylaw04_TokensPlaces.walk (P : belfrylaw04_TokensPlaces.Pure) (a0 : ByteArray) (w : World) (hvw : VarOk w) (w0 : a0.size ≤ 140737488351232) :
    Calls Tryd.prog 4 #[.string a0] w fun e w' => e = .returned (.bool true) ∧ Below w.heap.size w w' := by
  obtain ⟨k, h⟩ := P a0 w0
  refine (belfrylaw04_TokensPlaces.calls k a0 true w hvw rfl h).mono ?_
  rintro e w' ⟨rfl, hd⟩
  exact ⟨rfl, hd⟩

end Go.Proofs.YtgenhcanaoejkaaDoor.S
