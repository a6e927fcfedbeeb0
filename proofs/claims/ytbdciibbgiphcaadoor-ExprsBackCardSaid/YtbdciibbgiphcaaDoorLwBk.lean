/- ExprsBack: the law's walk. -/
import Derived.Test.YtbdciibbgiphcaaDoorNH
import Derived.Test.YtbdciibbgiphcaaDoorNS
import Derived.Test.YtbdciibbgiphcaaDoorRtU
import Derived.Deep.RegionHeld3
import Derived.Lib.Hide
namespace Go.Proofs.YtbdciibbgiphcaaDoor.V
set_option linter.unusedVariables false
set_option linter.unusedSimpArgs false
set_option linter.unusedSectionVars false
open Go.RowKit Go.Proofs.YtbdciibbgiphcaaDoorW.PrintWords Go.Proofs.YtbdciibbgiphcaaDoorW.PrintLast Go.Proofs.YtbdciibbgiphcaaDoorW.PrintMore
set_option maxHeartbeats 8000000 in
set_option maxRecDepth 100000 in
theorem exprsBack_walk (x : S25) (hwf : WfE x) (hs : SmE x) (A : Option Addr) (c : Nat) (s : ByteArray) (w : World) (hc : x.f3.length ≤ c) (hC : Kd.C k25 w A x.f3.length x.f3) (hv : VarOk w) (ht : VarT w) :
    Calls Tryd.prog 4 #[.agg #[.int .u8 x.f0, .int .i64 x.f1, .string x.f2, .slice A x.f3.length c], .string s] w fun e w' => e = .returned (.bool true) ∧ Below w.heap.size w w' := by
  have HB0 := Lib.hid ((Below.refl w.heap.size w).alloc (Nat.le_refl _) (.cells #[.int .u8 x.f0, .int .i64 x.f1, .string x.f2, .slice A x.f3.length c] 25))
  have HX0 := Lib.hid (heap_alloc_new w (.cells #[.int .u8 x.f0, .int .i64 x.f1, .string x.f2, .slice A x.f3.length c] 25))
  obtain ⟨sv, hsv⟩ := exprSize_any hs
  have HSV := Lib.hid hsv
  obtain ⟨K, hK⟩ := (same_refl hwf).rounds
  have HK := Lib.hid hK
  obtain ⟨y, b, hy, hyb⟩ := read_any s
  have HRS := Lib.hid hy; have HYB := Lib.hid hyb
  have HC := Lib.hid hC; have HV := Lib.hid hv; have HT := Lib.hid ht; have HWF := Lib.hid hwf
  clear hC hv ht hwf hs hsv hK hy hyb
  go_enter Tryd.func4, Tryd.ntmps4
  go_wp2_with fail
  refine (alive_law _ (HV.out.step HB0.out) (HT.out.step HB0.out)).mono ?_
  rintro e w1 ⟨rfl, hb1⟩
  have HB1 := Lib.hid (HB0.out.trans (hb1.mono HB0.out.size))
  have HX1 := Lib.hid ((hb1.block _ (blk_lt HX0.out)).trans HX0.out)
  clear hb1 HX0 HB0
  have b0 := blk_cell HX1.out 0; have b1 := blk_cell HX1.out 1; have b2 := blk_cell HX1.out 2; have b3 := blk_cell HX1.out 3
  dsimp at b0 b1 b2 b3
  go_wp2_with fail
  refine (HSV.out A c _ hc (Kd.C_below HC.out HB1.out)).mono ?_
  rintro e w2 ⟨rfl, hb2⟩
  have HB2 := Lib.hid (HB1.out.trans (hb2.mono HB1.out.size))
  have HX2 := Lib.hid ((hb2.block _ (blk_lt HX1.out)).trans HX1.out)
  clear hb2 HX1 HB1 b0 b1 b2 b3 HSV
  have b0 := blk_cell HX2.out 0; have b1 := blk_cell HX2.out 1; have b2 := blk_cell HX2.out 2; have b3 := blk_cell HX2.out 3
  dsimp at b0 b1 b2 b3
  by_cases hgt : sv > 20000
  · have g1 : decide (sv > 20000) = true := decide_eq_true hgt
    go_wp2_with fail
    refine (alive_law _ (HV.out.step HB2.out) (HT.out.step HB2.out)).mono ?_
    rintro e w3 ⟨rfl, hb3⟩
    have HB3 := Lib.hid (HB2.out.trans (hb3.mono HB2.out.size))
    go_wp2_with fail
    go_ret
    exact ⟨rfl, HB3.out⟩
  have g1 : decide (sv > 20000) = false := decide_eq_false hgt
  by_cases hln : (s.size : Int) > 5000
  · have g2 : decide ((s.size : Int) > 5000) = true := decide_eq_true hln
    go_wp2_with fail
    refine (alive_law _ (HV.out.step HB2.out) (HT.out.step HB2.out)).mono ?_
    rintro e w3 ⟨rfl, hb3⟩
    have HB3 := Lib.hid (HB2.out.trans (hb3.mono HB2.out.size))
    go_wp2_with fail
    go_ret
    exact ⟨rfl, HB3.out⟩
  have g2 : decide ((s.size : Int) > 5000) = false := decide_eq_false hln
  go_wp2_with fail
  refine (Text_walk nameOk name_is nameOk40 x A c _ HWF.out hc (Kd.C_below HC.out HB2.out) (HT.out.step HB2.out)).mono ?_
  rintro e w3 ⟨rfl, hb3⟩
  have HB3 := Lib.hid (HB2.out.trans (hb3.mono HB2.out.size))
  have HX3 := Lib.hid ((hb3.block _ (blk_lt HX2.out)).trans HX2.out)
  clear hb3 HX2 HB2 b0 b1 b2 b3
  have b0 := blk_cell HX3.out 0; have b1 := blk_cell HX3.out 1; have b2 := blk_cell HX3.out 2; have b3 := blk_cell HX3.out 3
  dsimp at b0 b1 b2 b3
  cases hx : okE nameOk x with
  | false =>
    have HTX := Lib.hid (show textE nameOk x = (⟨#[]⟩, 1) from if_neg (by rw [hx]; decide))
    rw [HTX.out]
    go_wp2_with fail
    refine (Check_walk nameOk name_is x A c _ hc (Kd.C_below HC.out HB3.out)).mono ?_
    rw [hx]
    rintro e w4 ⟨rfl, hb4⟩
    have HB4 := Lib.hid (HB3.out.trans (hb4.mono HB3.out.size))
    have HX4 := Lib.hid ((hb4.block _ (blk_lt HX3.out)).trans HX3.out)
    clear hb4 HX3 HB3 b0 b1 b2 b3
    have b0 := blk_cell HX4.out 0; have b1 := blk_cell HX4.out 1; have b2 := blk_cell HX4.out 2; have b3 := blk_cell HX4.out 3
    dsimp at b0 b1 b2 b3
    cases hbb : b with
    | false =>
      rw [hbb] at HRS HYB
      go_wp2_with fail
      refine (read_law s y false _ (HV.out.step HB4.out) HRS.out).mono ?_
      rintro e wa ⟨A1, c1, rfl, hl1, hF1, hba⟩
      have HBa := Lib.hid (HB4.out.trans (hba.mono HB4.out.size))
      have HBb := Lib.hid (HBa.out.alloc HBa.out.size (.cells #[.int .u8 y.f0, .int .i64 y.f1, .string y.f2, .slice A1 y.f3.length c1] 25))
      clear hba
      go_wp2_with fail
      go_ret
      exact ⟨rfl, HBb.out⟩
    | true =>
      rw [hbb] at HRS HYB
      go_wp2_with fail
      refine (read_law s y true _ (HV.out.step HB4.out) HRS.out).mono ?_
      rintro e wa ⟨A1, c1, rfl, hl1, hF1, hba⟩
      obtain ⟨hok, hwy⟩ := HYB.out (by first | rfl | trivial)
      have HWY := Lib.hid hwy; have HOK := Lib.hid hok
      have HRY := Lib.hid (written_read hok hwy)
      obtain ⟨K2, hK2⟩ := (same_refl hwy).rounds
      have HK2 := Lib.hid hK2
      have HTY := Lib.hid (show textE nameOk y = (wr 32 y, 0) from if_pos hok)
      have HBa := Lib.hid (HB4.out.trans (hba.mono HB4.out.size))
      have HFb := Lib.hid (Kd.F_alloc hF1 (.cells #[.int .u8 y.f0, .int .i64 y.f1, .string y.f2, .slice A1 y.f3.length c1] 25))
      have HYb := Lib.hid (heap_alloc_new wa (.cells #[.int .u8 y.f0, .int .i64 y.f1, .string y.f2, .slice A1 y.f3.length c1] 25))
      have HBb := Lib.hid (HBa.out.alloc HBa.out.size (.cells #[.int .u8 y.f0, .int .i64 y.f1, .string y.f2, .slice A1 y.f3.length c1] 25))
      clear hba hF1 hok hwy hK2 HB4 HBa
      have y0 := blk_cell HYb.out 0; have y1 := blk_cell HYb.out 1; have y2 := blk_cell HYb.out 2; have y3 := blk_cell HYb.out 3
      dsimp at y0 y1 y2 y3
      go_wp2_with fail
      refine (Text_walk nameOk name_is nameOk40 y A1 c1 _ HWY.out hl1 (Kd.F_now HFb.out) (HT.out.step HBb.out)).mono ?_
      rintro e wc ⟨rfl, hbc⟩
      rw [HTY.out]
      have HBc := Lib.hid (HBb.out.trans (hbc.mono HBb.out.size))
      have HYc := Lib.hid ((hbc.block _ (blk_lt HYb.out)).trans HYb.out)
      have HFc := Lib.hid (Kd.F_below HFb.out hbc)
      clear hbc HYb HFb HBb y0 y1 y2 y3
      have y0 := blk_cell HYc.out 0; have y1 := blk_cell HYc.out 1; have y2 := blk_cell HYc.out 2; have y3 := blk_cell HYc.out 3
      dsimp at y0 y1 y2 y3
      go_wp2_with fail
      refine (read_law (wr 32 y) y true _ (HV.out.step HBc.out) HRY.out).mono ?_
      rintro e wd ⟨A2, c2, rfl, hl2, hF2, hbd⟩
      have HBd := Lib.hid (HBc.out.trans (hbd.mono HBc.out.size))
      have HYd := Lib.hid ((hbd.block _ (blk_lt HYc.out)).trans HYc.out)
      have HFd := Lib.hid (Kd.F_below HFc.out hbd)
      have HZe := Lib.hid (heap_alloc_new wd (.cells #[.int .u8 y.f0, .int .i64 y.f1, .string y.f2, .slice A2 y.f3.length c2] 25))
      have HFe := Lib.hid (Kd.F_alloc HFd.out (.cells #[.int .u8 y.f0, .int .i64 y.f1, .string y.f2, .slice A2 y.f3.length c2] 25))
      have HGe := Lib.hid (Kd.F_alloc hF2 (.cells #[.int .u8 y.f0, .int .i64 y.f1, .string y.f2, .slice A2 y.f3.length c2] 25))
      have HYe := Lib.hid (blk_alloc HYd.out (.cells #[.int .u8 y.f0, .int .i64 y.f1, .string y.f2, .slice A2 y.f3.length c2] 25))
      have HBe := Lib.hid (HBd.out.alloc HBd.out.size (.cells #[.int .u8 y.f0, .int .i64 y.f1, .string y.f2, .slice A2 y.f3.length c2] 25))
      clear hbd hF2 HYc HFc HBc HYd HFd HBd y0 y1 y2 y3
      have y0 := blk_cell HYe.out 0; have y1 := blk_cell HYe.out 1; have y2 := blk_cell HYe.out 2; have y3 := blk_cell HYe.out 3
      dsimp at y0 y1 y2 y3
      go_wp2_with fail
      refine (Check_walk nameOk name_is y A1 c1 _ hl1 (Kd.F_now HFe.out)).mono ?_
      rw [HOK.out]
      rintro e wf ⟨rfl, hbf⟩
      have HBf := Lib.hid (HBe.out.trans (hbf.mono HBe.out.size))
      have HYf := Lib.hid ((hbf.block _ (blk_lt HYe.out)).trans HYe.out)
      have HZf := Lib.hid ((hbf.block _ (blk_lt HZe.out)).trans HZe.out)
      have HFf := Lib.hid (Kd.F_below HFe.out hbf)
      have HGf := Lib.hid (Kd.F_below HGe.out hbf)
      clear hbf HYe HZe HFe HGe HBe y0 y1 y2 y3
      have y0 := blk_cell HYf.out 0; have y1 := blk_cell HYf.out 1; have y2 := blk_cell HYf.out 2; have y3 := blk_cell HYf.out 3
      dsimp at y0 y1 y2 y3
      have z0 := blk_cell HZf.out 0; have z1 := blk_cell HZf.out 1; have z2 := blk_cell HZf.out 2; have z3 := blk_cell HZf.out 3
      dsimp at z0 z1 z2 z3
      go_wp2_with fail
      refine (belfrylaw01_SameExpr.calls K2 _ _ _ _ _ _ _ _ _ _ _ _ _ _ (Kd.F_now HGf.out) hl2 (Kd.F_now HFf.out) hl1 HK2.out).mono ?_
      rintro e wg ⟨rfl, hbg⟩
      have HBg := Lib.hid (HBf.out.trans (hbg.mono HBf.out.size))
      clear hbg
      go_wp2_with fail
      go_ret
      exact ⟨rfl, HBg.out⟩
  | true =>
    have HTX := Lib.hid (show textE nameOk x = (wr 32 x, 0) from if_pos hx)
    rw [HTX.out]
    go_wp2_with fail
    refine (Check_walk nameOk name_is x A c _ hc (Kd.C_below HC.out HB3.out)).mono ?_
    rw [hx]
    rintro e w4 ⟨rfl, hb4⟩
    have HB4 := Lib.hid (HB3.out.trans (hb4.mono HB3.out.size))
    have HX4 := Lib.hid ((hb4.block _ (blk_lt HX3.out)).trans HX3.out)
    clear hb4 HX3 HB3 b0 b1 b2 b3
    have b0 := blk_cell HX4.out 0; have b1 := blk_cell HX4.out 1; have b2 := blk_cell HX4.out 2; have b3 := blk_cell HX4.out 3
    dsimp at b0 b1 b2 b3
    have HRX := Lib.hid (written_read hx HWF.out)
    go_wp2_with fail
    refine (read_law (wr 32 x) x true _ (HV.out.step HB4.out) HRX.out).mono ?_
    rintro e w5 ⟨A0, c0, rfl, hl0, hF0, hb5⟩
    have HB5 := Lib.hid (HB4.out.trans (hb5.mono HB4.out.size))
    have HX5 := Lib.hid ((hb5.block _ (blk_lt HX4.out)).trans HX4.out)
    have HF6 := Lib.hid (Kd.F_alloc hF0 (.cells #[.int .u8 x.f0, .int .i64 x.f1, .string x.f2, .slice A0 x.f3.length c0] 25))
    have HQ6 := Lib.hid (heap_alloc_new w5 (.cells #[.int .u8 x.f0, .int .i64 x.f1, .string x.f2, .slice A0 x.f3.length c0] 25))
    have HX6 := Lib.hid (blk_alloc HX5.out (.cells #[.int .u8 x.f0, .int .i64 x.f1, .string x.f2, .slice A0 x.f3.length c0] 25))
    have HB6 := Lib.hid (HB5.out.alloc HB5.out.size (.cells #[.int .u8 x.f0, .int .i64 x.f1, .string x.f2, .slice A0 x.f3.length c0] 25))
    clear hb5 hF0 HX4 HX5 HB4 HB5 b0 b1 b2 b3
    have b0 := blk_cell HX6.out 0; have b1 := blk_cell HX6.out 1; have b2 := blk_cell HX6.out 2; have b3 := blk_cell HX6.out 3
    dsimp at b0 b1 b2 b3
    have q0 := blk_cell HQ6.out 0; have q1 := blk_cell HQ6.out 1; have q2 := blk_cell HQ6.out 2; have q3 := blk_cell HQ6.out 3
    dsimp at q0 q1 q2 q3
    go_wp2_with fail
    refine (belfrylaw01_SameExpr.calls K _ _ _ _ _ _ _ _ _ _ _ _ _ _ (Kd.F_now HF6.out) hl0 (Kd.C_below HC.out HB6.out) hc HK.out).mono ?_
    rintro e w7 ⟨rfl, hb7⟩
    have HB7 := Lib.hid (HB6.out.trans (hb7.mono HB6.out.size))
    clear hb7 HX6 HQ6 HF6 HB6 b0 b1 b2 b3 q0 q1 q2 q3
    cases hbb : b with
    | false =>
      rw [hbb] at HRS HYB
      go_wp2_with fail
      refine (read_law s y false _ (HV.out.step HB7.out) HRS.out).mono ?_
      rintro e wa ⟨A1, c1, rfl, hl1, hF1, hba⟩
      have HBa := Lib.hid (HB7.out.trans (hba.mono HB7.out.size))
      have HBb := Lib.hid (HBa.out.alloc HBa.out.size (.cells #[.int .u8 y.f0, .int .i64 y.f1, .string y.f2, .slice A1 y.f3.length c1] 25))
      clear hba
      go_wp2_with fail
      go_ret
      exact ⟨rfl, HBb.out⟩
    | true =>
      rw [hbb] at HRS HYB
      go_wp2_with fail
      refine (read_law s y true _ (HV.out.step HB7.out) HRS.out).mono ?_
      rintro e wa ⟨A1, c1, rfl, hl1, hF1, hba⟩
      obtain ⟨hok, hwy⟩ := HYB.out (by first | rfl | trivial)
      have HWY := Lib.hid hwy; have HOK := Lib.hid hok
      have HRY := Lib.hid (written_read hok hwy)
      obtain ⟨K2, hK2⟩ := (same_refl hwy).rounds
      have HK2 := Lib.hid hK2
      have HTY := Lib.hid (show textE nameOk y = (wr 32 y, 0) from if_pos hok)
      have HBa := Lib.hid (HB7.out.trans (hba.mono HB7.out.size))
      have HFb := Lib.hid (Kd.F_alloc hF1 (.cells #[.int .u8 y.f0, .int .i64 y.f1, .string y.f2, .slice A1 y.f3.length c1] 25))
      have HYb := Lib.hid (heap_alloc_new wa (.cells #[.int .u8 y.f0, .int .i64 y.f1, .string y.f2, .slice A1 y.f3.length c1] 25))
      have HBb := Lib.hid (HBa.out.alloc HBa.out.size (.cells #[.int .u8 y.f0, .int .i64 y.f1, .string y.f2, .slice A1 y.f3.length c1] 25))
      clear hba hF1 hok hwy hK2 HB7 HBa
      have y0 := blk_cell HYb.out 0; have y1 := blk_cell HYb.out 1; have y2 := blk_cell HYb.out 2; have y3 := blk_cell HYb.out 3
      dsimp at y0 y1 y2 y3
      go_wp2_with fail
      refine (Text_walk nameOk name_is nameOk40 y A1 c1 _ HWY.out hl1 (Kd.F_now HFb.out) (HT.out.step HBb.out)).mono ?_
      rintro e wc ⟨rfl, hbc⟩
      rw [HTY.out]
      have HBc := Lib.hid (HBb.out.trans (hbc.mono HBb.out.size))
      have HYc := Lib.hid ((hbc.block _ (blk_lt HYb.out)).trans HYb.out)
      have HFc := Lib.hid (Kd.F_below HFb.out hbc)
      clear hbc HYb HFb HBb y0 y1 y2 y3
      have y0 := blk_cell HYc.out 0; have y1 := blk_cell HYc.out 1; have y2 := blk_cell HYc.out 2; have y3 := blk_cell HYc.out 3
      dsimp at y0 y1 y2 y3
      go_wp2_with fail
      refine (read_law (wr 32 y) y true _ (HV.out.step HBc.out) HRY.out).mono ?_
      rintro e wd ⟨A2, c2, rfl, hl2, hF2, hbd⟩
      have HBd := Lib.hid (HBc.out.trans (hbd.mono HBc.out.size))
      have HYd := Lib.hid ((hbd.block _ (blk_lt HYc.out)).trans HYc.out)
      have HFd := Lib.hid (Kd.F_below HFc.out hbd)
      have HZe := Lib.hid (heap_alloc_new wd (.cells #[.int .u8 y.f0, .int .i64 y.f1, .string y.f2, .slice A2 y.f3.length c2] 25))
      have HFe := Lib.hid (Kd.F_alloc HFd.out (.cells #[.int .u8 y.f0, .int .i64 y.f1, .string y.f2, .slice A2 y.f3.length c2] 25))
      have HGe := Lib.hid (Kd.F_alloc hF2 (.cells #[.int .u8 y.f0, .int .i64 y.f1, .string y.f2, .slice A2 y.f3.length c2] 25))
      have HYe := Lib.hid (blk_alloc HYd.out (.cells #[.int .u8 y.f0, .int .i64 y.f1, .string y.f2, .slice A2 y.f3.length c2] 25))
      have HBe := Lib.hid (HBd.out.alloc HBd.out.size (.cells #[.int .u8 y.f0, .int .i64 y.f1, .string y.f2, .slice A2 y.f3.length c2] 25))
      clear hbd hF2 HYc HFc HBc HYd HFd HBd y0 y1 y2 y3
      have y0 := blk_cell HYe.out 0; have y1 := blk_cell HYe.out 1; have y2 := blk_cell HYe.out 2; have y3 := blk_cell HYe.out 3
      dsimp at y0 y1 y2 y3
      go_wp2_with fail
      refine (Check_walk nameOk name_is y A1 c1 _ hl1 (Kd.F_now HFe.out)).mono ?_
      rw [HOK.out]
      rintro e wf ⟨rfl, hbf⟩
      have HBf := Lib.hid (HBe.out.trans (hbf.mono HBe.out.size))
      have HYf := Lib.hid ((hbf.block _ (blk_lt HYe.out)).trans HYe.out)
      have HZf := Lib.hid ((hbf.block _ (blk_lt HZe.out)).trans HZe.out)
      have HFf := Lib.hid (Kd.F_below HFe.out hbf)
      have HGf := Lib.hid (Kd.F_below HGe.out hbf)
      clear hbf HYe HZe HFe HGe HBe y0 y1 y2 y3
      have y0 := blk_cell HYf.out 0; have y1 := blk_cell HYf.out 1; have y2 := blk_cell HYf.out 2; have y3 := blk_cell HYf.out 3
      dsimp at y0 y1 y2 y3
      have z0 := blk_cell HZf.out 0; have z1 := blk_cell HZf.out 1; have z2 := blk_cell HZf.out 2; have z3 := blk_cell HZf.out 3
      dsimp at z0 z1 z2 z3
      go_wp2_with fail
      refine (belfrylaw01_SameExpr.calls K2 _ _ _ _ _ _ _ _ _ _ _ _ _ _ (Kd.F_now HGf.out) hl2 (Kd.F_now HFf.out) hl1 HK2.out).mono ?_
      rintro e wg ⟨rfl, hbg⟩
      have HBg := Lib.hid (HBf.out.trans (hbg.mono HBf.out.size))
      clear hbg
      go_wp2_with fail
      go_ret
      exact ⟨rfl, HBg.out⟩
end Go.Proofs.YtbdciibbgiphcaaDoor.V
