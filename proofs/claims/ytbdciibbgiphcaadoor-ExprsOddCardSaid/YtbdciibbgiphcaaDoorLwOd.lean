/- ExprsOdd: the law's walk. -/
import Derived.Test.YtbdciibbgiphcaaDoorNH
import Derived.Test.YtbdciibbgiphcaaDoorNS
import Derived.Test.YtbdciibbgiphcaaDoorOdL
import Derived.Test.YtbdciibbgiphcaaDoorOdW
import Derived.Deep.RegionHeld3
import Derived.Lib.Hide
namespace Go.Proofs.YtbdciibbgiphcaaDoor.V
set_option linter.unusedVariables false
set_option linter.unusedSimpArgs false
set_option linter.unusedSectionVars false
open Go.RowKit Go.Proofs.YtbdciibbgiphcaaDoorW.PrintWords Go.Proofs.YtbdciibbgiphcaaDoorW.PrintLast Go.Proofs.YtbdciibbgiphcaaDoorW.PrintMore
set_option maxHeartbeats 8000000 in
set_option maxRecDepth 100000 in
theorem exprsOdd_walk (x : S25) (hwf : WfE x) (hs : SmE x) (A : Option Addr) (c : Nat) (wh way : Nat) (hwh : wh ≤ 255) (hway : way ≤ 255) (w : World) (hc : x.f3.length ≤ c) (hC : Kd.C k25 w A x.f3.length x.f3) (hv : VarOk w) (ht : VarT w) :
    Calls Tryd.prog 8 #[.agg #[.int .u8 x.f0, .int .i64 x.f1, .string x.f2, .slice A x.f3.length c], .int .u8 wh, .int .u8 way] w fun e w' => e = .returned (.bool true) ∧ Below w.heap.size w w' := by
  have hb0 : Below w.heap.size w (w.alloc (.cells #[.int .u8 x.f0, .int .i64 x.f1, .string x.f2, .slice A x.f3.length c] 25)) := (Below.refl _ _).alloc (Nat.le_refl _) _
  have HB0 := Lib.hid hb0
  have hk := heap_alloc_new w (.cells #[.int .u8 x.f0, .int .i64 x.f1, .string x.f2, .slice A x.f3.length c] 25)
  have HK := Lib.hid hk
  obtain ⟨sv, hsv⟩ := exprSize_any hs
  have HSV := Lib.hid hsv
  have HC := Lib.hid hC; have HV := Lib.hid hv; have HT := Lib.hid ht; have HWF := Lib.hid hwf
  clear hb0 hk hC hv ht hwf hs hsv
  go_enter Tryd.func8, Tryd.ntmps8
  go_wp2_with fail
  refine (alive_law _ (HV.out.step HB0.out) (HT.out.step HB0.out)).mono ?_
  rintro e w1 ⟨rfl, hb1⟩
  have HB1 := Lib.hid (HB0.out.trans (hb1.mono HB0.out.size))
  have HK1 := kp2 hb1 HK.out
  obtain ⟨b0, b1, b2, b3⟩ := box_cells HK1.out
  clear hb1 HK HB0
  go_wp2_with fail
  refine (HSV.out A c _ hc (Kd.C_below HC.out HB1.out)).mono ?_
  rintro e w2 ⟨rfl, hb2⟩
  have HB2 := Lib.hid (HB1.out.trans (hb2.mono HB1.out.size))
  have HK2 := kp2 hb2 HK1.out
  clear b0 b1 b2 b3
  obtain ⟨b0, b1, b2, b3⟩ := box_cells HK2.out
  clear hb2 HB1 HK1
  by_cases hgt : sv > 5000
  · have g1 : decide (sv > 5000) = true := decide_eq_true hgt
    go_wp2_with fail
    refine (alive_law _ (HV.out.step HB2.out) (HT.out.step HB2.out)).mono ?_
    rintro e w3 ⟨rfl, hb3⟩
    have HB3 := Lib.hid (HB2.out.trans (hb3.mono HB2.out.size))
    clear hb3
    go_wp2_with fail
    go_ret
    exact ⟨rfl, HB3.out⟩
  · have g1 : decide (sv > 5000) = false := decide_eq_false hgt
    go_wp2_with fail
    refine (Check_walk nameOk name_is x A c _ hc (Kd.C_below HC.out HB2.out)).mono ?_
    rintro e w3 ⟨rfl, hb3⟩
    have HB3 := Lib.hid (HB2.out.trans (hb3.mono HB2.out.size))
    have HK3 := kp2 hb3 HK2.out
    clear b0 b1 b2 b3
    obtain ⟨b0, b1, b2, b3⟩ := box_cells HK3.out
    clear hb3 HB2 HK2
    cases hx : okE nameOk x with
    | false =>
      go_wp2_with fail
      refine (alive_law _ (HV.out.step HB3.out) (HT.out.step HB3.out)).mono ?_
      rintro e w4 ⟨rfl, hb4⟩
      have HB4 := Lib.hid (HB3.out.trans (hb4.mono HB3.out.size))
      clear hb4
      go_wp2_with fail
      go_ret
      exact ⟨rfl, HB4.out⟩
    | true =>
      obtain ⟨l', hok⟩ := ok_okE hx
      have HS3 := Lib.hid (s3_ok hok)
      obtain ⟨y, hy⟩ : ∃ y, y = oddP ((wh : Int) % 5) 8 x way := ⟨_, rfl⟩
      obtain ⟨hlaw, htx⟩ := odd_law hx ((wh : Int) % 5) 8 way
      have hyw := wf_odd 8 x way ((wh : Int) % 5) HWF.out HS3.out
      rw [← hy] at hlaw htx hyw
      have HYW := Lib.hid hyw
      have HLAW := Lib.hid hlaw; have HTX := Lib.hid htx; have HY := Lib.hid hy
      have hww : wrap64 (way : Int) = way := w64 (by omega) (by omega)
      clear hok hlaw htx hyw hy
      go_wp2_with fail
      refine (odd_all 8 (by omega) x wh way A c w w3 HS3.out (by omega) (by omega) (by omega) hc HC.out HB3.out).mono ?_
      rintro e w4 ⟨A4, c4, rfl, hl4, hF4, hb4⟩
      rw [← HY.out] at hl4 hF4 ⊢
      unfold trV
      have hC4 := Kd.F_now hF4
      have HB4 := Lib.hid (HB3.out.trans (hb4.mono HB3.out.size))
      have HC4 := Lib.hid hC4; have HL4 := Lib.hid hl4
      have HK4 := Lib.hid (heap_alloc_new w4 (.cells #[.int .u8 y.f0, .int .i64 y.f1, .string y.f2, .slice A4 y.f3.length c4] 25))
      have HB5 := Lib.hid (show Below w4.heap.size w4 (w4.alloc (.cells #[.int .u8 y.f0, .int .i64 y.f1, .string y.f2, .slice A4 y.f3.length c4] 25)) from (Below.refl _ _).alloc (Nat.le_refl _) _)
      have hs4 := HB4.out.size
      clear hb4 hC4 hF4 b0 b1 b2 b3 HB3 HK3 HSV HY HS3
      go_wp2_with fail
      refine (Text_walk nameOk name_is nameOk40 y A4 c4 _ HYW.out HL4.out (Kd.C_below HC4.out HB5.out) (HT.out.step (HB4.out.trans (HB5.out.mono HB4.out.size)))).mono ?_
      rw [HTX.out]
      rintro e w6 ⟨rfl, hb6⟩
      have HB6 := Lib.hid (HB5.out.trans (hb6.mono HB5.out.size))
      have HK6 := kp2 hb6 HK4.out
      obtain ⟨b0, b1, b2, b3⟩ := box_cells HK6.out
      clear hb6 HK4 HB5
      go_wp2_with fail
      refine (Check_walk nameOk name_is y A4 c4 _ HL4.out (Kd.C_below HC4.out HB6.out)).mono ?_
      rw [HLAW.out]
      rintro e w7 ⟨rfl, hb7⟩
      have HB7 := Lib.hid (HB4.out.trans ((HB6.out.trans (hb7.mono HB6.out.size)).mono HB4.out.size))
      clear hb7 b0 b1 b2 b3 HK6
      go_wp2_with fail
      go_ret
      exact ⟨rfl, HB7.out⟩
end Go.Proofs.YtbdciibbgiphcaaDoor.V
