/- ExprsBrackets: the law's walk. -/
import Derived.Test.YtbdciibbgiphcaaDoorNH
import Derived.Test.YtbdciibbgiphcaaDoorNS
import Derived.Test.YtbdciibbgiphcaaDoorFuW
import Derived.Test.YtbdciibbgiphcaaDoorFuP
import Derived.Deep.RegionHeld3
import Derived.Lib.Hide
import Derived.Laws.Concat
namespace Go.Proofs.YtbdciibbgiphcaaDoor.V
set_option linter.unusedVariables false
set_option linter.unusedSimpArgs false
set_option linter.unusedSectionVars false
open Go.RowKit Go.Proofs.YtbdciibbgiphcaaDoorW.PrintWords Go.Proofs.YtbdciibbgiphcaaDoorW.PrintLast Go.Proofs.YtbdciibbgiphcaaDoorW.PrintMore
set_option maxHeartbeats 16000000 in
set_option maxRecDepth 100000 in
theorem exprsBrackets_walk (x : S25) (hwf : WfE x) (hs : SmE x) (A : Option Addr) (c : Nat) (wh : Nat) (hwh : wh ≤ 255) (w : World) (hc : x.f3.length ≤ c) (hC : Kd.C k25 w A x.f3.length x.f3) (hv : VarOk w) (ht : VarT w) :
    Calls Tryd.prog 5 #[.agg #[.int .u8 x.f0, .int .i64 x.f1, .string x.f2, .slice A x.f3.length c], .int .u8 wh] w fun e w' => e = .returned (.bool true) ∧ Below w.heap.size w w' := by
  have HB0 := Lib.hid ((Below.refl w.heap.size w).alloc (Nat.le_refl _) (.cells #[.int .u8 x.f0, .int .i64 x.f1, .string x.f2, .slice A x.f3.length c] 25))
  have HX0 := Lib.hid (heap_alloc_new w (.cells #[.int .u8 x.f0, .int .i64 x.f1, .string x.f2, .slice A x.f3.length c] 25))
  obtain ⟨sv, hsv⟩ := exprSize_any hs
  have HSV := Lib.hid hsv
  obtain ⟨K, hK⟩ := (same_refl hwf).rounds
  have HK := Lib.hid hK
  have HC := Lib.hid hC; have HV := Lib.hid hv; have HT := Lib.hid ht; have HWF := Lib.hid hwf
  clear hC hv ht hwf hs hsv hK
  go_enter Tryd.func5, Tryd.ntmps5
  go_wp2_with fail
  refine (alive_law _ (HV.out.step HB0.out) (HT.out.step HB0.out)).mono ?_
  rintro e w1 ⟨rfl, hb⟩
  have HB1 := Lib.hid (HB0.out.trans (hb.mono HB0.out.size))
  have HX1 := Lib.hid ((hb.block _ (blk_lt HX0.out)).trans HX0.out)
  clear hb HB0 HX0
  have x0 := blk_cell HX1.out 0; have x1 := blk_cell HX1.out 1; have x2 := blk_cell HX1.out 2; have x3 := blk_cell HX1.out 3
  dsimp at x0 x1 x2 x3
  go_wp2_with fail
  refine (HSV.out A c _ hc (Kd.C_below HC.out HB1.out)).mono ?_
  rintro e w2 ⟨rfl, hb⟩
  have HB2 := Lib.hid (HB1.out.trans (hb.mono HB1.out.size))
  have HX2 := Lib.hid ((hb.block _ (blk_lt HX1.out)).trans HX1.out)
  clear hb HB1 HX1
  clear x0 x1 x2 x3
  clear HSV
  have x0 := blk_cell HX2.out 0; have x1 := blk_cell HX2.out 1; have x2 := blk_cell HX2.out 2; have x3 := blk_cell HX2.out 3
  dsimp at x0 x1 x2 x3
  by_cases hgt : sv > 20000
  · have g1 : decide (sv > 20000) = true := decide_eq_true hgt
    go_wp2_with fail
    refine (alive_law _ (HV.out.step HB2.out) (HT.out.step HB2.out)).mono ?_
    rintro e wz ⟨rfl, hb⟩
    have HB3 := Lib.hid (HB2.out.trans (hb.mono HB2.out.size))
    have HX3 := Lib.hid ((hb.block _ (blk_lt HX2.out)).trans HX2.out)
    clear hb HB2 HX2
    clear x0 x1 x2 x3
    go_wp2_with fail
    go_ret
    exact ⟨rfl, HB3.out⟩
  have g1 : decide (sv > 20000) = false := decide_eq_false hgt
  go_wp2_with fail
  refine (Check_walk nameOk name_is x A c _ hc (Kd.C_below HC.out HB2.out)).mono ?_
  rintro e w3 ⟨rfl, hb⟩
  have HB3 := Lib.hid (HB2.out.trans (hb.mono HB2.out.size))
  have HX3 := Lib.hid ((hb.block _ (blk_lt HX2.out)).trans HX2.out)
  clear hb HB2 HX2
  clear x0 x1 x2 x3
  have x0 := blk_cell HX3.out 0; have x1 := blk_cell HX3.out 1; have x2 := blk_cell HX3.out 2; have x3 := blk_cell HX3.out 3
  dsimp at x0 x1 x2 x3
  cases hx : okE nameOk x with
  | false =>
    go_wp2_with fail
    refine (alive_law _ (HV.out.step HB3.out) (HT.out.step HB3.out)).mono ?_
    rintro e wz ⟨rfl, hb⟩
    have HB4 := Lib.hid (HB3.out.trans (hb.mono HB3.out.size))
    have HX4 := Lib.hid ((hb.block _ (blk_lt HX3.out)).trans HX3.out)
    clear hb HB3 HX3
    clear x0 x1 x2 x3
    go_wp2_with fail
    go_ret
    exact ⟨rfl, HB4.out⟩
  | true =>
    obtain ⟨lz, hok⟩ := ok_okE hx
    have hlz := hok.lt
    have hts := wr_size (nm := nameOk) nameOk40 hok HWF.out
    have hfs := full_size hok HWF.out
    obtain ⟨kf, hkf⟩ := (full_ev hok HWF.out (Int.le_refl _)).rounds
    obtain ⟨T, hT1, hT2, hT3⟩ := parse_behind hx HWF.out
    have hr1 := read_br hx HWF.out
    have hr2 := read_full hx HWF.out
    have htx : textE nameOk x = (wr 32 x, 0) := if_pos hx
    generalize wr 32 x = tx at hts hT1 hr1 htx
    generalize fullP 32 x = fx at hfs hkf hr2
    have ad1 : ∀ w : World, (Op.stringOp .add ⟨#[40]⟩ tx).run Tryd.prog w = .ok (.string ((⟨#[40]⟩ : ByteArray) ++ tx)) w := fun w => run_string_add_sum w _ _ (by show 1 + tx.size ≤ _; omega)
    have ad2 : ∀ w : World, (Op.stringOp .add ((⟨#[40]⟩ : ByteArray) ++ tx) ⟨#[41]⟩).run Tryd.prog w = .ok (.string (((⟨#[40]⟩ : ByteArray) ++ tx) ++ (⟨#[41]⟩ : ByteArray))) w := fun w => run_string_add_sum w _ _ (by rw [size_app]; show 1 + tx.size + 1 ≤ _; omega)
    have ad3 : ∀ w : World, (Op.stringOp .add ⟨#[40, 40]⟩ fx).run Tryd.prog w = .ok (.string ((⟨#[40, 40]⟩ : ByteArray) ++ fx)) w := fun w => run_string_add_sum w _ _ (by show 2 + fx.size ≤ _; omega)
    have ad4 : ∀ w : World, (Op.stringOp .add ((⟨#[40, 40]⟩ : ByteArray) ++ fx) ⟨#[41, 41]⟩).run Tryd.prog w = .ok (.string (((⟨#[40, 40]⟩ : ByteArray) ++ fx) ++ (⟨#[41, 41]⟩ : ByteArray))) w := fun w => run_string_add_sum w _ _ (by rw [size_app]; show 2 + fx.size + 2 ≤ _; omega)
    have HKF := Lib.hid hkf; have HT1 := Lib.hid hT1; have HT2 := Lib.hid hT2; have HT3 := Lib.hid hT3; have HR1 := Lib.hid hr1; have HR2 := Lib.hid hr2; have HTX := Lib.hid htx; have HX := Lib.hid hx
    clear hok hlz hts hfs hkf hT1 hT2 hT3 hr1 hr2 htx
    go_wp2_with fail
    refine (Text_walk nameOk name_is nameOk40 x A c _ HWF.out hc (Kd.C_below HC.out HB3.out) (HT.out.step HB3.out)).mono ?_
    rw [HTX.out]
    rintro e w4 ⟨rfl, hb⟩
    have HB4 := Lib.hid (HB3.out.trans (hb.mono HB3.out.size))
    have HX4 := Lib.hid ((hb.block _ (blk_lt HX3.out)).trans HX3.out)
    clear hb HB3 HX3
    clear x0 x1 x2 x3
    have x0 := blk_cell HX4.out 0; have x1 := blk_cell HX4.out 1; have x2 := blk_cell HX4.out 2; have x3 := blk_cell HX4.out 3
    dsimp at x0 x1 x2 x3
    go_wp2_with fail
    refine (read_law (((⟨#[40]⟩ : ByteArray) ++ tx) ++ (⟨#[41]⟩ : ByteArray)) x true _ (HV.out.step HB4.out) HR1.out).mono ?_
    rintro e w5 ⟨Ay, cy, rfl, hly, hFy, hb⟩
    have HB5 := Lib.hid (HB4.out.trans (hb.mono HB4.out.size))
    have HX5 := Lib.hid ((hb.block _ (blk_lt HX4.out)).trans HX4.out)
    clear hb HB4 HX4
    clear x0 x1 x2 x3
    have HB6 := Lib.hid (HB5.out.alloc HB5.out.size (.cells #[.int .u8 x.f0, .int .i64 x.f1, .string x.f2, .slice Ay x.f3.length cy] 25))
    have HY6 := Lib.hid (heap_alloc_new w5 (.cells #[.int .u8 x.f0, .int .i64 x.f1, .string x.f2, .slice Ay x.f3.length cy] 25))
    have HX6 := Lib.hid (blk_alloc HX5.out (.cells #[.int .u8 x.f0, .int .i64 x.f1, .string x.f2, .slice Ay x.f3.length cy] 25))
    clear HB5 HX5
    have HFY6 := Lib.hid (Kd.F_alloc hFy (.cells #[.int .u8 x.f0, .int .i64 x.f1, .string x.f2, .slice Ay x.f3.length cy] 25))
    clear hFy
    have x0 := blk_cell HX6.out 0; have x1 := blk_cell HX6.out 1; have x2 := blk_cell HX6.out 2; have x3 := blk_cell HX6.out 3
    dsimp at x0 x1 x2 x3
    go_wp2_with fail
    refine (belfrylaw05_full.calls kf _ _ _ A c _ fx _ (HT.out.step HB6.out) (Kd.C_below HC.out HB6.out) hc HKF.out).mono ?_
    rintro e w6 ⟨rfl, hb⟩
    have HB7 := Lib.hid (HB6.out.trans (hb.mono HB6.out.size))
    have HX7 := Lib.hid ((hb.block _ (blk_lt HX6.out)).trans HX6.out)
    have HY7 := Lib.hid ((hb.block _ (blk_lt HY6.out)).trans HY6.out)
    have HFY7 := Lib.hid (Kd.F_below HFY6.out hb)
    clear hb HB6 HX6 HY6 HFY6
    clear x0 x1 x2 x3
    have x0 := blk_cell HX7.out 0; have x1 := blk_cell HX7.out 1; have x2 := blk_cell HX7.out 2; have x3 := blk_cell HX7.out 3
    dsimp at x0 x1 x2 x3
    go_wp2_with fail
    refine (read_law (((⟨#[40, 40]⟩ : ByteArray) ++ fx) ++ (⟨#[41, 41]⟩ : ByteArray)) x true _ (HV.out.step HB7.out) HR2.out).mono ?_
    rintro e w7 ⟨Az, cz, rfl, hlz, hFz, hb⟩
    have HB8 := Lib.hid (HB7.out.trans (hb.mono HB7.out.size))
    have HX8 := Lib.hid ((hb.block _ (blk_lt HX7.out)).trans HX7.out)
    have HY8 := Lib.hid ((hb.block _ (blk_lt HY7.out)).trans HY7.out)
    have HFY8 := Lib.hid (Kd.F_below HFY7.out hb)
    clear hb HB7 HX7 HY7 HFY7
    clear x0 x1 x2 x3
    have HB9 := Lib.hid (HB8.out.alloc HB8.out.size (.cells #[.int .u8 x.f0, .int .i64 x.f1, .string x.f2, .slice Az x.f3.length cz] 25))
    have HZ9 := Lib.hid (heap_alloc_new w7 (.cells #[.int .u8 x.f0, .int .i64 x.f1, .string x.f2, .slice Az x.f3.length cz] 25))
    have HX9 := Lib.hid (blk_alloc HX8.out (.cells #[.int .u8 x.f0, .int .i64 x.f1, .string x.f2, .slice Az x.f3.length cz] 25))
    have HY9 := Lib.hid (blk_alloc HY8.out (.cells #[.int .u8 x.f0, .int .i64 x.f1, .string x.f2, .slice Az x.f3.length cz] 25))
    have HFY9 := Lib.hid (Kd.F_alloc HFY8.out (.cells #[.int .u8 x.f0, .int .i64 x.f1, .string x.f2, .slice Az x.f3.length cz] 25))
    clear HB8 HX8 HY8 HFY8
    have HFZ9 := Lib.hid (Kd.F_alloc hFz (.cells #[.int .u8 x.f0, .int .i64 x.f1, .string x.f2, .slice Az x.f3.length cz] 25))
    clear hFz
    go_wp2_with fail
    refine (tokens_Read.calls tx T 0 0 _ HT1.out).mono ?_
    rintro e w8 ⟨v0, rfl, hR, hb⟩
    obtain ⟨A1, c1, rfl, hl1, hC1⟩ := Kd.R_reads hR
    clear hC1
    have HTK := Lib.hid (readTok_ok HT1.out)
    have HR8 := Lib.hid hR; have HBE := Lib.hid hb
    clear hR
    clear hb
    have hsplit : (wh : Int) % 7 = 0 ∨ (wh : Int) % 7 = 1 ∨ (wh : Int) % 7 = 2 ∨ (wh : Int) % 7 = 3 ∨ (wh : Int) % 7 = 4 ∨ (wh : Int) % 7 = 5 ∨ (wh : Int) % 7 = 6 := by omega
    rcases hsplit with h7 | h7 | h7 | h7 | h7 | h7 | h7
    · have hp : parseT nameOk numT (T ++ [(⟨3, ⟨#[59]⟩, 0⟩ : S45)]) 0 = some (x, (T.length : Int), 0) := HT3.out 0
      have HP0 := Lib.hid hp
      clear hp
      go_wp2_with ((with_reducible refine gate_builtin (b := .append) (xs := #[.tmp 80, .tmp 84]) rfl ?_); at_builtin; refine Hid.out ?_)
      refine Lib.hid ?_
      refine Kd.R_append k45 (w0 := (w7.alloc (.cells #[.int .u8 x.f0, .int .i64 x.f1, .string x.f2, .slice Az x.f3.length cz] 25))) (w7.alloc (.cells #[.int .u8 x.f0, .int .i64 x.f1, .string x.f2, .slice Az x.f3.length cz] 25)).heap.size rfl _ _ 38 45 (.agg #[.int .u8 0, .string ⟨#[]⟩, .int .i64 0]) 32 rfl Tryd.underlying38 info45 rfl (by decide) (by omega) (.slice (A1) T.length c1) T (⟨3, ⟨#[59]⟩, 0⟩ : S45) [.int .u8 3, .string ⟨#[59]⟩, .int .i64 0] (fun _ => True) (fun _ => False) rfl (by first | rfl | (go_simp; done) | (go_simp; rfl)) (k45_mkM _ _ _ (⟨3, ⟨#[59]⟩, 0⟩ : S45)) (fun _ hk => hk.elim) (fun _ _ => trivial) (by (with_reducible repeat (first | apply Kd.R_alloc | apply Kd.R_drewN | apply Kd.R_drew)); exact HR8.out) (by repeat (first | (with_reducible first | exact HBE.out | apply below_alloc | apply pw_below_drewN | apply below_drew1) | exact HBE.out)) (below_size (by repeat (first | (with_reducible first | exact HBE.out | apply below_alloc | apply pw_below_drewN | apply below_drew1) | exact HBE.out))) (by have := HT2.out; omega) ?_
      intro v9 w9 ho hb9 hg9 hat9
      clear hg9 hat9
      obtain ⟨T9, hT9⟩ : ∃ T9, T9 = T ++ [(⟨3, ⟨#[59]⟩, 0⟩ : S45)] := ⟨_, rfl⟩
      have HP := Lib.hid (show parseT nameOk numT T9 0 = some (x, (T.length : Int), 0) by rw [hT9]; exact HP0.out)
      rw [← hT9] at ho
      have HT9 := Lib.hid hT9
      clear hT9 HP0
      obtain ⟨A9, c9, rfl, hl9, hC9⟩ := Kd.R_reads ho
      have HC9 := Lib.hid hC9
      clear hC9 ho
      have HB10 := Lib.hid (HB9.out.trans (hb9.mono HB9.out.size))
      have HX10 := Lib.hid ((hb9.block _ (blk_lt HX9.out)).trans HX9.out)
      have HY10 := Lib.hid ((hb9.block _ (blk_lt HY9.out)).trans HY9.out)
      have HZ10 := Lib.hid ((hb9.block _ (blk_lt HZ9.out)).trans HZ9.out)
      have HFY10 := Lib.hid (Kd.F_below HFY9.out hb9)
      have HFZ10 := Lib.hid (Kd.F_below HFZ9.out hb9)
      clear hb9 HB9 HX9 HY9 HZ9 HFY9 HFZ9
      go_wp2_with fail
      refine (parse_walk (T := T9) A9 c9 0 w9 HC9.out ⟨HV.out.step HB10.out, fun t ht => by rw [HT9.out] at ht; rcases List.mem_append.1 ht with h | h; exact HTK.out t h; rw [List.mem_singleton] at h; subst h; decide⟩ (Int.le_refl _) (Int.natCast_nonneg _) _ _ _ HP.out).mono ?_
      rintro e w10 ⟨Av, cv, rfl, hlv, hFv, hb⟩
      have HB11 := Lib.hid (HB10.out.trans (hb.mono HB10.out.size))
      have HX11 := Lib.hid ((hb.block _ (blk_lt HX10.out)).trans HX10.out)
      have HY11 := Lib.hid ((hb.block _ (blk_lt HY10.out)).trans HY10.out)
      have HZ11 := Lib.hid ((hb.block _ (blk_lt HZ10.out)).trans HZ10.out)
      have HFY11 := Lib.hid (Kd.F_below HFY10.out hb)
      have HFZ11 := Lib.hid (Kd.F_below HFZ10.out hb)
      clear hb HB10 HX10 HY10 HZ10 HFY10 HFZ10
      have HB12 := Lib.hid (HB11.out.alloc HB11.out.size (.cells #[.int .u8 x.f0, .int .i64 x.f1, .string x.f2, .slice Av x.f3.length cv] 25))
      have HV12 := Lib.hid (heap_alloc_new w10 (.cells #[.int .u8 x.f0, .int .i64 x.f1, .string x.f2, .slice Av x.f3.length cv] 25))
      have HX12 := Lib.hid (blk_alloc HX11.out (.cells #[.int .u8 x.f0, .int .i64 x.f1, .string x.f2, .slice Av x.f3.length cv] 25))
      have HY12 := Lib.hid (blk_alloc HY11.out (.cells #[.int .u8 x.f0, .int .i64 x.f1, .string x.f2, .slice Av x.f3.length cv] 25))
      have HZ12 := Lib.hid (blk_alloc HZ11.out (.cells #[.int .u8 x.f0, .int .i64 x.f1, .string x.f2, .slice Av x.f3.length cv] 25))
      have HFY12 := Lib.hid (Kd.F_alloc HFY11.out (.cells #[.int .u8 x.f0, .int .i64 x.f1, .string x.f2, .slice Av x.f3.length cv] 25))
      have HFZ12 := Lib.hid (Kd.F_alloc HFZ11.out (.cells #[.int .u8 x.f0, .int .i64 x.f1, .string x.f2, .slice Av x.f3.length cv] 25))
      clear HB11 HX11 HY11 HZ11 HFY11 HFZ11
      have HFV12 := Lib.hid (Kd.F_alloc hFv (.cells #[.int .u8 x.f0, .int .i64 x.f1, .string x.f2, .slice Av x.f3.length cv] 25))
      clear hFv
      have x0 := blk_cell HX12.out 0; have x1 := blk_cell HX12.out 1; have x2 := blk_cell HX12.out 2; have x3 := blk_cell HX12.out 3
      dsimp at x0 x1 x2 x3
      have y0 := blk_cell HY12.out 0; have y1 := blk_cell HY12.out 1; have y2 := blk_cell HY12.out 2; have y3 := blk_cell HY12.out 3
      dsimp at y0 y1 y2 y3
      have z0 := blk_cell HZ12.out 0; have z1 := blk_cell HZ12.out 1; have z2 := blk_cell HZ12.out 2; have z3 := blk_cell HZ12.out 3
      dsimp at z0 z1 z2 z3
      have v0 := blk_cell HV12.out 0; have v1 := blk_cell HV12.out 1; have v2 := blk_cell HV12.out 2; have v3 := blk_cell HV12.out 3
      dsimp at v0 v1 v2 v3
      go_wp2_with fail
      refine (belfrylaw01_SameExpr.calls K _ _ _ _ _ _ _ _ _ _ _ _ _ _ (Kd.F_now HFY12.out) hly (Kd.C_below HC.out HB12.out) hc HK.out).mono ?_
      rintro e w11 ⟨rfl, hb⟩
      have HB13 := Lib.hid (HB12.out.trans (hb.mono HB12.out.size))
      have HX13 := Lib.hid ((hb.block _ (blk_lt HX12.out)).trans HX12.out)
      have HY13 := Lib.hid ((hb.block _ (blk_lt HY12.out)).trans HY12.out)
      have HZ13 := Lib.hid ((hb.block _ (blk_lt HZ12.out)).trans HZ12.out)
      have HV13 := Lib.hid ((hb.block _ (blk_lt HV12.out)).trans HV12.out)
      have HFY13 := Lib.hid (Kd.F_below HFY12.out hb)
      have HFZ13 := Lib.hid (Kd.F_below HFZ12.out hb)
      have HFV13 := Lib.hid (Kd.F_below HFV12.out hb)
      clear hb HB12 HX12 HY12 HZ12 HV12 HFY12 HFZ12 HFV12
      clear x0 x1 x2 x3
      clear y0 y1 y2 y3
      clear z0 z1 z2 z3
      clear v0 v1 v2 v3
      have x0 := blk_cell HX13.out 0; have x1 := blk_cell HX13.out 1; have x2 := blk_cell HX13.out 2; have x3 := blk_cell HX13.out 3
      dsimp at x0 x1 x2 x3
      have y0 := blk_cell HY13.out 0; have y1 := blk_cell HY13.out 1; have y2 := blk_cell HY13.out 2; have y3 := blk_cell HY13.out 3
      dsimp at y0 y1 y2 y3
      have z0 := blk_cell HZ13.out 0; have z1 := blk_cell HZ13.out 1; have z2 := blk_cell HZ13.out 2; have z3 := blk_cell HZ13.out 3
      dsimp at z0 z1 z2 z3
      have v0 := blk_cell HV13.out 0; have v1 := blk_cell HV13.out 1; have v2 := blk_cell HV13.out 2; have v3 := blk_cell HV13.out 3
      dsimp at v0 v1 v2 v3
      go_wp2_with fail
      refine (belfrylaw01_SameExpr.calls K _ _ _ _ _ _ _ _ _ _ _ _ _ _ (Kd.F_now HFZ13.out) hlz (Kd.C_below HC.out HB13.out) hc HK.out).mono ?_
      rintro e w12 ⟨rfl, hb⟩
      have HB14 := Lib.hid (HB13.out.trans (hb.mono HB13.out.size))
      have HX14 := Lib.hid ((hb.block _ (blk_lt HX13.out)).trans HX13.out)
      have HY14 := Lib.hid ((hb.block _ (blk_lt HY13.out)).trans HY13.out)
      have HZ14 := Lib.hid ((hb.block _ (blk_lt HZ13.out)).trans HZ13.out)
      have HV14 := Lib.hid ((hb.block _ (blk_lt HV13.out)).trans HV13.out)
      have HFY14 := Lib.hid (Kd.F_below HFY13.out hb)
      have HFZ14 := Lib.hid (Kd.F_below HFZ13.out hb)
      have HFV14 := Lib.hid (Kd.F_below HFV13.out hb)
      clear hb HB13 HX13 HY13 HZ13 HV13 HFY13 HFZ13 HFV13
      clear x0 x1 x2 x3
      clear y0 y1 y2 y3
      clear z0 z1 z2 z3
      clear v0 v1 v2 v3
      have x0 := blk_cell HX14.out 0; have x1 := blk_cell HX14.out 1; have x2 := blk_cell HX14.out 2; have x3 := blk_cell HX14.out 3
      dsimp at x0 x1 x2 x3
      have y0 := blk_cell HY14.out 0; have y1 := blk_cell HY14.out 1; have y2 := blk_cell HY14.out 2; have y3 := blk_cell HY14.out 3
      dsimp at y0 y1 y2 y3
      have z0 := blk_cell HZ14.out 0; have z1 := blk_cell HZ14.out 1; have z2 := blk_cell HZ14.out 2; have z3 := blk_cell HZ14.out 3
      dsimp at z0 z1 z2 z3
      have v0 := blk_cell HV14.out 0; have v1 := blk_cell HV14.out 1; have v2 := blk_cell HV14.out 2; have v3 := blk_cell HV14.out 3
      dsimp at v0 v1 v2 v3
      go_wp2_with fail
      refine (belfrylaw01_SameExpr.calls K _ _ _ _ _ _ _ _ _ _ _ _ _ _ (Kd.F_now HFV14.out) hlv (Kd.C_below HC.out HB14.out) hc HK.out).mono ?_
      rintro e w13 ⟨rfl, hb⟩
      have HB15 := Lib.hid (HB14.out.trans (hb.mono HB14.out.size))
      have HX15 := Lib.hid ((hb.block _ (blk_lt HX14.out)).trans HX14.out)
      have HY15 := Lib.hid ((hb.block _ (blk_lt HY14.out)).trans HY14.out)
      have HZ15 := Lib.hid ((hb.block _ (blk_lt HZ14.out)).trans HZ14.out)
      have HV15 := Lib.hid ((hb.block _ (blk_lt HV14.out)).trans HV14.out)
      have HFY15 := Lib.hid (Kd.F_below HFY14.out hb)
      have HFZ15 := Lib.hid (Kd.F_below HFZ14.out hb)
      have HFV15 := Lib.hid (Kd.F_below HFV14.out hb)
      clear hb HB14 HX14 HY14 HZ14 HV14 HFY14 HFZ14 HFV14
      clear x0 x1 x2 x3
      clear y0 y1 y2 y3
      clear z0 z1 z2 z3
      clear v0 v1 v2 v3
      go_wp2_with fail
      go_ret
      exact ⟨rfl, HB15.out⟩
    · have hp : parseT nameOk numT (T ++ [(⟨3, ⟨#[41]⟩, 0⟩ : S45)]) 0 = some (x, (T.length : Int), 0) := HT3.out 1
      have HP0 := Lib.hid hp
      clear hp
      go_wp2_with ((with_reducible refine gate_builtin (b := .append) (xs := #[.tmp 80, .tmp 84]) rfl ?_); at_builtin; refine Hid.out ?_)
      refine Lib.hid ?_
      refine Kd.R_append k45 (w0 := (w7.alloc (.cells #[.int .u8 x.f0, .int .i64 x.f1, .string x.f2, .slice Az x.f3.length cz] 25))) (w7.alloc (.cells #[.int .u8 x.f0, .int .i64 x.f1, .string x.f2, .slice Az x.f3.length cz] 25)).heap.size rfl _ _ 38 45 (.agg #[.int .u8 0, .string ⟨#[]⟩, .int .i64 0]) 32 rfl Tryd.underlying38 info45 rfl (by decide) (by omega) (.slice (A1) T.length c1) T (⟨3, ⟨#[41]⟩, 0⟩ : S45) [.int .u8 3, .string ⟨#[41]⟩, .int .i64 0] (fun _ => True) (fun _ => False) rfl (by first | rfl | (go_simp; done) | (go_simp; rfl)) (k45_mkM _ _ _ (⟨3, ⟨#[41]⟩, 0⟩ : S45)) (fun _ hk => hk.elim) (fun _ _ => trivial) (by (with_reducible repeat (first | apply Kd.R_alloc | apply Kd.R_drewN | apply Kd.R_drew)); exact HR8.out) (by repeat (first | (with_reducible first | exact HBE.out | apply below_alloc | apply pw_below_drewN | apply below_drew1) | exact HBE.out)) (below_size (by repeat (first | (with_reducible first | exact HBE.out | apply below_alloc | apply pw_below_drewN | apply below_drew1) | exact HBE.out))) (by have := HT2.out; omega) ?_
      intro v9 w9 ho hb9 hg9 hat9
      clear hg9 hat9
      obtain ⟨T9, hT9⟩ : ∃ T9, T9 = T ++ [(⟨3, ⟨#[41]⟩, 0⟩ : S45)] := ⟨_, rfl⟩
      have HP := Lib.hid (show parseT nameOk numT T9 0 = some (x, (T.length : Int), 0) by rw [hT9]; exact HP0.out)
      rw [← hT9] at ho
      have HT9 := Lib.hid hT9
      clear hT9 HP0
      obtain ⟨A9, c9, rfl, hl9, hC9⟩ := Kd.R_reads ho
      have HC9 := Lib.hid hC9
      clear hC9 ho
      have HB10 := Lib.hid (HB9.out.trans (hb9.mono HB9.out.size))
      have HX10 := Lib.hid ((hb9.block _ (blk_lt HX9.out)).trans HX9.out)
      have HY10 := Lib.hid ((hb9.block _ (blk_lt HY9.out)).trans HY9.out)
      have HZ10 := Lib.hid ((hb9.block _ (blk_lt HZ9.out)).trans HZ9.out)
      have HFY10 := Lib.hid (Kd.F_below HFY9.out hb9)
      have HFZ10 := Lib.hid (Kd.F_below HFZ9.out hb9)
      clear hb9 HB9 HX9 HY9 HZ9 HFY9 HFZ9
      go_wp2_with fail
      refine (parse_walk (T := T9) A9 c9 0 w9 HC9.out ⟨HV.out.step HB10.out, fun t ht => by rw [HT9.out] at ht; rcases List.mem_append.1 ht with h | h; exact HTK.out t h; rw [List.mem_singleton] at h; subst h; decide⟩ (Int.le_refl _) (Int.natCast_nonneg _) _ _ _ HP.out).mono ?_
      rintro e w10 ⟨Av, cv, rfl, hlv, hFv, hb⟩
      have HB11 := Lib.hid (HB10.out.trans (hb.mono HB10.out.size))
      have HX11 := Lib.hid ((hb.block _ (blk_lt HX10.out)).trans HX10.out)
      have HY11 := Lib.hid ((hb.block _ (blk_lt HY10.out)).trans HY10.out)
      have HZ11 := Lib.hid ((hb.block _ (blk_lt HZ10.out)).trans HZ10.out)
      have HFY11 := Lib.hid (Kd.F_below HFY10.out hb)
      have HFZ11 := Lib.hid (Kd.F_below HFZ10.out hb)
      clear hb HB10 HX10 HY10 HZ10 HFY10 HFZ10
      have HB12 := Lib.hid (HB11.out.alloc HB11.out.size (.cells #[.int .u8 x.f0, .int .i64 x.f1, .string x.f2, .slice Av x.f3.length cv] 25))
      have HV12 := Lib.hid (heap_alloc_new w10 (.cells #[.int .u8 x.f0, .int .i64 x.f1, .string x.f2, .slice Av x.f3.length cv] 25))
      have HX12 := Lib.hid (blk_alloc HX11.out (.cells #[.int .u8 x.f0, .int .i64 x.f1, .string x.f2, .slice Av x.f3.length cv] 25))
      have HY12 := Lib.hid (blk_alloc HY11.out (.cells #[.int .u8 x.f0, .int .i64 x.f1, .string x.f2, .slice Av x.f3.length cv] 25))
      have HZ12 := Lib.hid (blk_alloc HZ11.out (.cells #[.int .u8 x.f0, .int .i64 x.f1, .string x.f2, .slice Av x.f3.length cv] 25))
      have HFY12 := Lib.hid (Kd.F_alloc HFY11.out (.cells #[.int .u8 x.f0, .int .i64 x.f1, .string x.f2, .slice Av x.f3.length cv] 25))
      have HFZ12 := Lib.hid (Kd.F_alloc HFZ11.out (.cells #[.int .u8 x.f0, .int .i64 x.f1, .string x.f2, .slice Av x.f3.length cv] 25))
      clear HB11 HX11 HY11 HZ11 HFY11 HFZ11
      have HFV12 := Lib.hid (Kd.F_alloc hFv (.cells #[.int .u8 x.f0, .int .i64 x.f1, .string x.f2, .slice Av x.f3.length cv] 25))
      clear hFv
      have x0 := blk_cell HX12.out 0; have x1 := blk_cell HX12.out 1; have x2 := blk_cell HX12.out 2; have x3 := blk_cell HX12.out 3
      dsimp at x0 x1 x2 x3
      have y0 := blk_cell HY12.out 0; have y1 := blk_cell HY12.out 1; have y2 := blk_cell HY12.out 2; have y3 := blk_cell HY12.out 3
      dsimp at y0 y1 y2 y3
      have z0 := blk_cell HZ12.out 0; have z1 := blk_cell HZ12.out 1; have z2 := blk_cell HZ12.out 2; have z3 := blk_cell HZ12.out 3
      dsimp at z0 z1 z2 z3
      have v0 := blk_cell HV12.out 0; have v1 := blk_cell HV12.out 1; have v2 := blk_cell HV12.out 2; have v3 := blk_cell HV12.out 3
      dsimp at v0 v1 v2 v3
      go_wp2_with fail
      refine (belfrylaw01_SameExpr.calls K _ _ _ _ _ _ _ _ _ _ _ _ _ _ (Kd.F_now HFY12.out) hly (Kd.C_below HC.out HB12.out) hc HK.out).mono ?_
      rintro e w11 ⟨rfl, hb⟩
      have HB13 := Lib.hid (HB12.out.trans (hb.mono HB12.out.size))
      have HX13 := Lib.hid ((hb.block _ (blk_lt HX12.out)).trans HX12.out)
      have HY13 := Lib.hid ((hb.block _ (blk_lt HY12.out)).trans HY12.out)
      have HZ13 := Lib.hid ((hb.block _ (blk_lt HZ12.out)).trans HZ12.out)
      have HV13 := Lib.hid ((hb.block _ (blk_lt HV12.out)).trans HV12.out)
      have HFY13 := Lib.hid (Kd.F_below HFY12.out hb)
      have HFZ13 := Lib.hid (Kd.F_below HFZ12.out hb)
      have HFV13 := Lib.hid (Kd.F_below HFV12.out hb)
      clear hb HB12 HX12 HY12 HZ12 HV12 HFY12 HFZ12 HFV12
      clear x0 x1 x2 x3
      clear y0 y1 y2 y3
      clear z0 z1 z2 z3
      clear v0 v1 v2 v3
      have x0 := blk_cell HX13.out 0; have x1 := blk_cell HX13.out 1; have x2 := blk_cell HX13.out 2; have x3 := blk_cell HX13.out 3
      dsimp at x0 x1 x2 x3
      have y0 := blk_cell HY13.out 0; have y1 := blk_cell HY13.out 1; have y2 := blk_cell HY13.out 2; have y3 := blk_cell HY13.out 3
      dsimp at y0 y1 y2 y3
      have z0 := blk_cell HZ13.out 0; have z1 := blk_cell HZ13.out 1; have z2 := blk_cell HZ13.out 2; have z3 := blk_cell HZ13.out 3
      dsimp at z0 z1 z2 z3
      have v0 := blk_cell HV13.out 0; have v1 := blk_cell HV13.out 1; have v2 := blk_cell HV13.out 2; have v3 := blk_cell HV13.out 3
      dsimp at v0 v1 v2 v3
      go_wp2_with fail
      refine (belfrylaw01_SameExpr.calls K _ _ _ _ _ _ _ _ _ _ _ _ _ _ (Kd.F_now HFZ13.out) hlz (Kd.C_below HC.out HB13.out) hc HK.out).mono ?_
      rintro e w12 ⟨rfl, hb⟩
      have HB14 := Lib.hid (HB13.out.trans (hb.mono HB13.out.size))
      have HX14 := Lib.hid ((hb.block _ (blk_lt HX13.out)).trans HX13.out)
      have HY14 := Lib.hid ((hb.block _ (blk_lt HY13.out)).trans HY13.out)
      have HZ14 := Lib.hid ((hb.block _ (blk_lt HZ13.out)).trans HZ13.out)
      have HV14 := Lib.hid ((hb.block _ (blk_lt HV13.out)).trans HV13.out)
      have HFY14 := Lib.hid (Kd.F_below HFY13.out hb)
      have HFZ14 := Lib.hid (Kd.F_below HFZ13.out hb)
      have HFV14 := Lib.hid (Kd.F_below HFV13.out hb)
      clear hb HB13 HX13 HY13 HZ13 HV13 HFY13 HFZ13 HFV13
      clear x0 x1 x2 x3
      clear y0 y1 y2 y3
      clear z0 z1 z2 z3
      clear v0 v1 v2 v3
      have x0 := blk_cell HX14.out 0; have x1 := blk_cell HX14.out 1; have x2 := blk_cell HX14.out 2; have x3 := blk_cell HX14.out 3
      dsimp at x0 x1 x2 x3
      have y0 := blk_cell HY14.out 0; have y1 := blk_cell HY14.out 1; have y2 := blk_cell HY14.out 2; have y3 := blk_cell HY14.out 3
      dsimp at y0 y1 y2 y3
      have z0 := blk_cell HZ14.out 0; have z1 := blk_cell HZ14.out 1; have z2 := blk_cell HZ14.out 2; have z3 := blk_cell HZ14.out 3
      dsimp at z0 z1 z2 z3
      have v0 := blk_cell HV14.out 0; have v1 := blk_cell HV14.out 1; have v2 := blk_cell HV14.out 2; have v3 := blk_cell HV14.out 3
      dsimp at v0 v1 v2 v3
      go_wp2_with fail
      refine (belfrylaw01_SameExpr.calls K _ _ _ _ _ _ _ _ _ _ _ _ _ _ (Kd.F_now HFV14.out) hlv (Kd.C_below HC.out HB14.out) hc HK.out).mono ?_
      rintro e w13 ⟨rfl, hb⟩
      have HB15 := Lib.hid (HB14.out.trans (hb.mono HB14.out.size))
      have HX15 := Lib.hid ((hb.block _ (blk_lt HX14.out)).trans HX14.out)
      have HY15 := Lib.hid ((hb.block _ (blk_lt HY14.out)).trans HY14.out)
      have HZ15 := Lib.hid ((hb.block _ (blk_lt HZ14.out)).trans HZ14.out)
      have HV15 := Lib.hid ((hb.block _ (blk_lt HV14.out)).trans HV14.out)
      have HFY15 := Lib.hid (Kd.F_below HFY14.out hb)
      have HFZ15 := Lib.hid (Kd.F_below HFZ14.out hb)
      have HFV15 := Lib.hid (Kd.F_below HFV14.out hb)
      clear hb HB14 HX14 HY14 HZ14 HV14 HFY14 HFZ14 HFV14
      clear x0 x1 x2 x3
      clear y0 y1 y2 y3
      clear z0 z1 z2 z3
      clear v0 v1 v2 v3
      go_wp2_with fail
      go_ret
      exact ⟨rfl, HB15.out⟩
    · have hp : parseT nameOk numT (T ++ [(⟨1, ⟨#[116, 104, 101, 110]⟩, 0⟩ : S45)]) 0 = some (x, (T.length : Int), 0) := HT3.out 2
      have HP0 := Lib.hid hp
      clear hp
      go_wp2_with ((with_reducible refine gate_builtin (b := .append) (xs := #[.tmp 80, .tmp 84]) rfl ?_); at_builtin; refine Hid.out ?_)
      refine Lib.hid ?_
      refine Kd.R_append k45 (w0 := (w7.alloc (.cells #[.int .u8 x.f0, .int .i64 x.f1, .string x.f2, .slice Az x.f3.length cz] 25))) (w7.alloc (.cells #[.int .u8 x.f0, .int .i64 x.f1, .string x.f2, .slice Az x.f3.length cz] 25)).heap.size rfl _ _ 38 45 (.agg #[.int .u8 0, .string ⟨#[]⟩, .int .i64 0]) 32 rfl Tryd.underlying38 info45 rfl (by decide) (by omega) (.slice (A1) T.length c1) T (⟨1, ⟨#[116, 104, 101, 110]⟩, 0⟩ : S45) [.int .u8 1, .string ⟨#[116, 104, 101, 110]⟩, .int .i64 0] (fun _ => True) (fun _ => False) rfl (by first | rfl | (go_simp; done) | (go_simp; rfl)) (k45_mkM _ _ _ (⟨1, ⟨#[116, 104, 101, 110]⟩, 0⟩ : S45)) (fun _ hk => hk.elim) (fun _ _ => trivial) (by (with_reducible repeat (first | apply Kd.R_alloc | apply Kd.R_drewN | apply Kd.R_drew)); exact HR8.out) (by repeat (first | (with_reducible first | exact HBE.out | apply below_alloc | apply pw_below_drewN | apply below_drew1) | exact HBE.out)) (below_size (by repeat (first | (with_reducible first | exact HBE.out | apply below_alloc | apply pw_below_drewN | apply below_drew1) | exact HBE.out))) (by have := HT2.out; omega) ?_
      intro v9 w9 ho hb9 hg9 hat9
      clear hg9 hat9
      obtain ⟨T9, hT9⟩ : ∃ T9, T9 = T ++ [(⟨1, ⟨#[116, 104, 101, 110]⟩, 0⟩ : S45)] := ⟨_, rfl⟩
      have HP := Lib.hid (show parseT nameOk numT T9 0 = some (x, (T.length : Int), 0) by rw [hT9]; exact HP0.out)
      rw [← hT9] at ho
      have HT9 := Lib.hid hT9
      clear hT9 HP0
      obtain ⟨A9, c9, rfl, hl9, hC9⟩ := Kd.R_reads ho
      have HC9 := Lib.hid hC9
      clear hC9 ho
      have HB10 := Lib.hid (HB9.out.trans (hb9.mono HB9.out.size))
      have HX10 := Lib.hid ((hb9.block _ (blk_lt HX9.out)).trans HX9.out)
      have HY10 := Lib.hid ((hb9.block _ (blk_lt HY9.out)).trans HY9.out)
      have HZ10 := Lib.hid ((hb9.block _ (blk_lt HZ9.out)).trans HZ9.out)
      have HFY10 := Lib.hid (Kd.F_below HFY9.out hb9)
      have HFZ10 := Lib.hid (Kd.F_below HFZ9.out hb9)
      clear hb9 HB9 HX9 HY9 HZ9 HFY9 HFZ9
      go_wp2_with fail
      refine (parse_walk (T := T9) A9 c9 0 w9 HC9.out ⟨HV.out.step HB10.out, fun t ht => by rw [HT9.out] at ht; rcases List.mem_append.1 ht with h | h; exact HTK.out t h; rw [List.mem_singleton] at h; subst h; decide⟩ (Int.le_refl _) (Int.natCast_nonneg _) _ _ _ HP.out).mono ?_
      rintro e w10 ⟨Av, cv, rfl, hlv, hFv, hb⟩
      have HB11 := Lib.hid (HB10.out.trans (hb.mono HB10.out.size))
      have HX11 := Lib.hid ((hb.block _ (blk_lt HX10.out)).trans HX10.out)
      have HY11 := Lib.hid ((hb.block _ (blk_lt HY10.out)).trans HY10.out)
      have HZ11 := Lib.hid ((hb.block _ (blk_lt HZ10.out)).trans HZ10.out)
      have HFY11 := Lib.hid (Kd.F_below HFY10.out hb)
      have HFZ11 := Lib.hid (Kd.F_below HFZ10.out hb)
      clear hb HB10 HX10 HY10 HZ10 HFY10 HFZ10
      have HB12 := Lib.hid (HB11.out.alloc HB11.out.size (.cells #[.int .u8 x.f0, .int .i64 x.f1, .string x.f2, .slice Av x.f3.length cv] 25))
      have HV12 := Lib.hid (heap_alloc_new w10 (.cells #[.int .u8 x.f0, .int .i64 x.f1, .string x.f2, .slice Av x.f3.length cv] 25))
      have HX12 := Lib.hid (blk_alloc HX11.out (.cells #[.int .u8 x.f0, .int .i64 x.f1, .string x.f2, .slice Av x.f3.length cv] 25))
      have HY12 := Lib.hid (blk_alloc HY11.out (.cells #[.int .u8 x.f0, .int .i64 x.f1, .string x.f2, .slice Av x.f3.length cv] 25))
      have HZ12 := Lib.hid (blk_alloc HZ11.out (.cells #[.int .u8 x.f0, .int .i64 x.f1, .string x.f2, .slice Av x.f3.length cv] 25))
      have HFY12 := Lib.hid (Kd.F_alloc HFY11.out (.cells #[.int .u8 x.f0, .int .i64 x.f1, .string x.f2, .slice Av x.f3.length cv] 25))
      have HFZ12 := Lib.hid (Kd.F_alloc HFZ11.out (.cells #[.int .u8 x.f0, .int .i64 x.f1, .string x.f2, .slice Av x.f3.length cv] 25))
      clear HB11 HX11 HY11 HZ11 HFY11 HFZ11
      have HFV12 := Lib.hid (Kd.F_alloc hFv (.cells #[.int .u8 x.f0, .int .i64 x.f1, .string x.f2, .slice Av x.f3.length cv] 25))
      clear hFv
      have x0 := blk_cell HX12.out 0; have x1 := blk_cell HX12.out 1; have x2 := blk_cell HX12.out 2; have x3 := blk_cell HX12.out 3
      dsimp at x0 x1 x2 x3
      have y0 := blk_cell HY12.out 0; have y1 := blk_cell HY12.out 1; have y2 := blk_cell HY12.out 2; have y3 := blk_cell HY12.out 3
      dsimp at y0 y1 y2 y3
      have z0 := blk_cell HZ12.out 0; have z1 := blk_cell HZ12.out 1; have z2 := blk_cell HZ12.out 2; have z3 := blk_cell HZ12.out 3
      dsimp at z0 z1 z2 z3
      have v0 := blk_cell HV12.out 0; have v1 := blk_cell HV12.out 1; have v2 := blk_cell HV12.out 2; have v3 := blk_cell HV12.out 3
      dsimp at v0 v1 v2 v3
      go_wp2_with fail
      refine (belfrylaw01_SameExpr.calls K _ _ _ _ _ _ _ _ _ _ _ _ _ _ (Kd.F_now HFY12.out) hly (Kd.C_below HC.out HB12.out) hc HK.out).mono ?_
      rintro e w11 ⟨rfl, hb⟩
      have HB13 := Lib.hid (HB12.out.trans (hb.mono HB12.out.size))
      have HX13 := Lib.hid ((hb.block _ (blk_lt HX12.out)).trans HX12.out)
      have HY13 := Lib.hid ((hb.block _ (blk_lt HY12.out)).trans HY12.out)
      have HZ13 := Lib.hid ((hb.block _ (blk_lt HZ12.out)).trans HZ12.out)
      have HV13 := Lib.hid ((hb.block _ (blk_lt HV12.out)).trans HV12.out)
      have HFY13 := Lib.hid (Kd.F_below HFY12.out hb)
      have HFZ13 := Lib.hid (Kd.F_below HFZ12.out hb)
      have HFV13 := Lib.hid (Kd.F_below HFV12.out hb)
      clear hb HB12 HX12 HY12 HZ12 HV12 HFY12 HFZ12 HFV12
      clear x0 x1 x2 x3
      clear y0 y1 y2 y3
      clear z0 z1 z2 z3
      clear v0 v1 v2 v3
      have x0 := blk_cell HX13.out 0; have x1 := blk_cell HX13.out 1; have x2 := blk_cell HX13.out 2; have x3 := blk_cell HX13.out 3
      dsimp at x0 x1 x2 x3
      have y0 := blk_cell HY13.out 0; have y1 := blk_cell HY13.out 1; have y2 := blk_cell HY13.out 2; have y3 := blk_cell HY13.out 3
      dsimp at y0 y1 y2 y3
      have z0 := blk_cell HZ13.out 0; have z1 := blk_cell HZ13.out 1; have z2 := blk_cell HZ13.out 2; have z3 := blk_cell HZ13.out 3
      dsimp at z0 z1 z2 z3
      have v0 := blk_cell HV13.out 0; have v1 := blk_cell HV13.out 1; have v2 := blk_cell HV13.out 2; have v3 := blk_cell HV13.out 3
      dsimp at v0 v1 v2 v3
      go_wp2_with fail
      refine (belfrylaw01_SameExpr.calls K _ _ _ _ _ _ _ _ _ _ _ _ _ _ (Kd.F_now HFZ13.out) hlz (Kd.C_below HC.out HB13.out) hc HK.out).mono ?_
      rintro e w12 ⟨rfl, hb⟩
      have HB14 := Lib.hid (HB13.out.trans (hb.mono HB13.out.size))
      have HX14 := Lib.hid ((hb.block _ (blk_lt HX13.out)).trans HX13.out)
      have HY14 := Lib.hid ((hb.block _ (blk_lt HY13.out)).trans HY13.out)
      have HZ14 := Lib.hid ((hb.block _ (blk_lt HZ13.out)).trans HZ13.out)
      have HV14 := Lib.hid ((hb.block _ (blk_lt HV13.out)).trans HV13.out)
      have HFY14 := Lib.hid (Kd.F_below HFY13.out hb)
      have HFZ14 := Lib.hid (Kd.F_below HFZ13.out hb)
      have HFV14 := Lib.hid (Kd.F_below HFV13.out hb)
      clear hb HB13 HX13 HY13 HZ13 HV13 HFY13 HFZ13 HFV13
      clear x0 x1 x2 x3
      clear y0 y1 y2 y3
      clear z0 z1 z2 z3
      clear v0 v1 v2 v3
      have x0 := blk_cell HX14.out 0; have x1 := blk_cell HX14.out 1; have x2 := blk_cell HX14.out 2; have x3 := blk_cell HX14.out 3
      dsimp at x0 x1 x2 x3
      have y0 := blk_cell HY14.out 0; have y1 := blk_cell HY14.out 1; have y2 := blk_cell HY14.out 2; have y3 := blk_cell HY14.out 3
      dsimp at y0 y1 y2 y3
      have z0 := blk_cell HZ14.out 0; have z1 := blk_cell HZ14.out 1; have z2 := blk_cell HZ14.out 2; have z3 := blk_cell HZ14.out 3
      dsimp at z0 z1 z2 z3
      have v0 := blk_cell HV14.out 0; have v1 := blk_cell HV14.out 1; have v2 := blk_cell HV14.out 2; have v3 := blk_cell HV14.out 3
      dsimp at v0 v1 v2 v3
      go_wp2_with fail
      refine (belfrylaw01_SameExpr.calls K _ _ _ _ _ _ _ _ _ _ _ _ _ _ (Kd.F_now HFV14.out) hlv (Kd.C_below HC.out HB14.out) hc HK.out).mono ?_
      rintro e w13 ⟨rfl, hb⟩
      have HB15 := Lib.hid (HB14.out.trans (hb.mono HB14.out.size))
      have HX15 := Lib.hid ((hb.block _ (blk_lt HX14.out)).trans HX14.out)
      have HY15 := Lib.hid ((hb.block _ (blk_lt HY14.out)).trans HY14.out)
      have HZ15 := Lib.hid ((hb.block _ (blk_lt HZ14.out)).trans HZ14.out)
      have HV15 := Lib.hid ((hb.block _ (blk_lt HV14.out)).trans HV14.out)
      have HFY15 := Lib.hid (Kd.F_below HFY14.out hb)
      have HFZ15 := Lib.hid (Kd.F_below HFZ14.out hb)
      have HFV15 := Lib.hid (Kd.F_below HFV14.out hb)
      clear hb HB14 HX14 HY14 HZ14 HV14 HFY14 HFZ14 HFV14
      clear x0 x1 x2 x3
      clear y0 y1 y2 y3
      clear z0 z1 z2 z3
      clear v0 v1 v2 v3
      go_wp2_with fail
      go_ret
      exact ⟨rfl, HB15.out⟩
    · have hp : parseT nameOk numT (T ++ [(⟨1, ⟨#[101, 108, 115, 101]⟩, 0⟩ : S45)]) 0 = some (x, (T.length : Int), 0) := HT3.out 3
      have HP0 := Lib.hid hp
      clear hp
      go_wp2_with ((with_reducible refine gate_builtin (b := .append) (xs := #[.tmp 80, .tmp 84]) rfl ?_); at_builtin; refine Hid.out ?_)
      refine Lib.hid ?_
      refine Kd.R_append k45 (w0 := (w7.alloc (.cells #[.int .u8 x.f0, .int .i64 x.f1, .string x.f2, .slice Az x.f3.length cz] 25))) (w7.alloc (.cells #[.int .u8 x.f0, .int .i64 x.f1, .string x.f2, .slice Az x.f3.length cz] 25)).heap.size rfl _ _ 38 45 (.agg #[.int .u8 0, .string ⟨#[]⟩, .int .i64 0]) 32 rfl Tryd.underlying38 info45 rfl (by decide) (by omega) (.slice (A1) T.length c1) T (⟨1, ⟨#[101, 108, 115, 101]⟩, 0⟩ : S45) [.int .u8 1, .string ⟨#[101, 108, 115, 101]⟩, .int .i64 0] (fun _ => True) (fun _ => False) rfl (by first | rfl | (go_simp; done) | (go_simp; rfl)) (k45_mkM _ _ _ (⟨1, ⟨#[101, 108, 115, 101]⟩, 0⟩ : S45)) (fun _ hk => hk.elim) (fun _ _ => trivial) (by (with_reducible repeat (first | apply Kd.R_alloc | apply Kd.R_drewN | apply Kd.R_drew)); exact HR8.out) (by repeat (first | (with_reducible first | exact HBE.out | apply below_alloc | apply pw_below_drewN | apply below_drew1) | exact HBE.out)) (below_size (by repeat (first | (with_reducible first | exact HBE.out | apply below_alloc | apply pw_below_drewN | apply below_drew1) | exact HBE.out))) (by have := HT2.out; omega) ?_
      intro v9 w9 ho hb9 hg9 hat9
      clear hg9 hat9
      obtain ⟨T9, hT9⟩ : ∃ T9, T9 = T ++ [(⟨1, ⟨#[101, 108, 115, 101]⟩, 0⟩ : S45)] := ⟨_, rfl⟩
      have HP := Lib.hid (show parseT nameOk numT T9 0 = some (x, (T.length : Int), 0) by rw [hT9]; exact HP0.out)
      rw [← hT9] at ho
      have HT9 := Lib.hid hT9
      clear hT9 HP0
      obtain ⟨A9, c9, rfl, hl9, hC9⟩ := Kd.R_reads ho
      have HC9 := Lib.hid hC9
      clear hC9 ho
      have HB10 := Lib.hid (HB9.out.trans (hb9.mono HB9.out.size))
      have HX10 := Lib.hid ((hb9.block _ (blk_lt HX9.out)).trans HX9.out)
      have HY10 := Lib.hid ((hb9.block _ (blk_lt HY9.out)).trans HY9.out)
      have HZ10 := Lib.hid ((hb9.block _ (blk_lt HZ9.out)).trans HZ9.out)
      have HFY10 := Lib.hid (Kd.F_below HFY9.out hb9)
      have HFZ10 := Lib.hid (Kd.F_below HFZ9.out hb9)
      clear hb9 HB9 HX9 HY9 HZ9 HFY9 HFZ9
      go_wp2_with fail
      refine (parse_walk (T := T9) A9 c9 0 w9 HC9.out ⟨HV.out.step HB10.out, fun t ht => by rw [HT9.out] at ht; rcases List.mem_append.1 ht with h | h; exact HTK.out t h; rw [List.mem_singleton] at h; subst h; decide⟩ (Int.le_refl _) (Int.natCast_nonneg _) _ _ _ HP.out).mono ?_
      rintro e w10 ⟨Av, cv, rfl, hlv, hFv, hb⟩
      have HB11 := Lib.hid (HB10.out.trans (hb.mono HB10.out.size))
      have HX11 := Lib.hid ((hb.block _ (blk_lt HX10.out)).trans HX10.out)
      have HY11 := Lib.hid ((hb.block _ (blk_lt HY10.out)).trans HY10.out)
      have HZ11 := Lib.hid ((hb.block _ (blk_lt HZ10.out)).trans HZ10.out)
      have HFY11 := Lib.hid (Kd.F_below HFY10.out hb)
      have HFZ11 := Lib.hid (Kd.F_below HFZ10.out hb)
      clear hb HB10 HX10 HY10 HZ10 HFY10 HFZ10
      have HB12 := Lib.hid (HB11.out.alloc HB11.out.size (.cells #[.int .u8 x.f0, .int .i64 x.f1, .string x.f2, .slice Av x.f3.length cv] 25))
      have HV12 := Lib.hid (heap_alloc_new w10 (.cells #[.int .u8 x.f0, .int .i64 x.f1, .string x.f2, .slice Av x.f3.length cv] 25))
      have HX12 := Lib.hid (blk_alloc HX11.out (.cells #[.int .u8 x.f0, .int .i64 x.f1, .string x.f2, .slice Av x.f3.length cv] 25))
      have HY12 := Lib.hid (blk_alloc HY11.out (.cells #[.int .u8 x.f0, .int .i64 x.f1, .string x.f2, .slice Av x.f3.length cv] 25))
      have HZ12 := Lib.hid (blk_alloc HZ11.out (.cells #[.int .u8 x.f0, .int .i64 x.f1, .string x.f2, .slice Av x.f3.length cv] 25))
      have HFY12 := Lib.hid (Kd.F_alloc HFY11.out (.cells #[.int .u8 x.f0, .int .i64 x.f1, .string x.f2, .slice Av x.f3.length cv] 25))
      have HFZ12 := Lib.hid (Kd.F_alloc HFZ11.out (.cells #[.int .u8 x.f0, .int .i64 x.f1, .string x.f2, .slice Av x.f3.length cv] 25))
      clear HB11 HX11 HY11 HZ11 HFY11 HFZ11
      have HFV12 := Lib.hid (Kd.F_alloc hFv (.cells #[.int .u8 x.f0, .int .i64 x.f1, .string x.f2, .slice Av x.f3.length cv] 25))
      clear hFv
      have x0 := blk_cell HX12.out 0; have x1 := blk_cell HX12.out 1; have x2 := blk_cell HX12.out 2; have x3 := blk_cell HX12.out 3
      dsimp at x0 x1 x2 x3
      have y0 := blk_cell HY12.out 0; have y1 := blk_cell HY12.out 1; have y2 := blk_cell HY12.out 2; have y3 := blk_cell HY12.out 3
      dsimp at y0 y1 y2 y3
      have z0 := blk_cell HZ12.out 0; have z1 := blk_cell HZ12.out 1; have z2 := blk_cell HZ12.out 2; have z3 := blk_cell HZ12.out 3
      dsimp at z0 z1 z2 z3
      have v0 := blk_cell HV12.out 0; have v1 := blk_cell HV12.out 1; have v2 := blk_cell HV12.out 2; have v3 := blk_cell HV12.out 3
      dsimp at v0 v1 v2 v3
      go_wp2_with fail
      refine (belfrylaw01_SameExpr.calls K _ _ _ _ _ _ _ _ _ _ _ _ _ _ (Kd.F_now HFY12.out) hly (Kd.C_below HC.out HB12.out) hc HK.out).mono ?_
      rintro e w11 ⟨rfl, hb⟩
      have HB13 := Lib.hid (HB12.out.trans (hb.mono HB12.out.size))
      have HX13 := Lib.hid ((hb.block _ (blk_lt HX12.out)).trans HX12.out)
      have HY13 := Lib.hid ((hb.block _ (blk_lt HY12.out)).trans HY12.out)
      have HZ13 := Lib.hid ((hb.block _ (blk_lt HZ12.out)).trans HZ12.out)
      have HV13 := Lib.hid ((hb.block _ (blk_lt HV12.out)).trans HV12.out)
      have HFY13 := Lib.hid (Kd.F_below HFY12.out hb)
      have HFZ13 := Lib.hid (Kd.F_below HFZ12.out hb)
      have HFV13 := Lib.hid (Kd.F_below HFV12.out hb)
      clear hb HB12 HX12 HY12 HZ12 HV12 HFY12 HFZ12 HFV12
      clear x0 x1 x2 x3
      clear y0 y1 y2 y3
      clear z0 z1 z2 z3
      clear v0 v1 v2 v3
      have x0 := blk_cell HX13.out 0; have x1 := blk_cell HX13.out 1; have x2 := blk_cell HX13.out 2; have x3 := blk_cell HX13.out 3
      dsimp at x0 x1 x2 x3
      have y0 := blk_cell HY13.out 0; have y1 := blk_cell HY13.out 1; have y2 := blk_cell HY13.out 2; have y3 := blk_cell HY13.out 3
      dsimp at y0 y1 y2 y3
      have z0 := blk_cell HZ13.out 0; have z1 := blk_cell HZ13.out 1; have z2 := blk_cell HZ13.out 2; have z3 := blk_cell HZ13.out 3
      dsimp at z0 z1 z2 z3
      have v0 := blk_cell HV13.out 0; have v1 := blk_cell HV13.out 1; have v2 := blk_cell HV13.out 2; have v3 := blk_cell HV13.out 3
      dsimp at v0 v1 v2 v3
      go_wp2_with fail
      refine (belfrylaw01_SameExpr.calls K _ _ _ _ _ _ _ _ _ _ _ _ _ _ (Kd.F_now HFZ13.out) hlz (Kd.C_below HC.out HB13.out) hc HK.out).mono ?_
      rintro e w12 ⟨rfl, hb⟩
      have HB14 := Lib.hid (HB13.out.trans (hb.mono HB13.out.size))
      have HX14 := Lib.hid ((hb.block _ (blk_lt HX13.out)).trans HX13.out)
      have HY14 := Lib.hid ((hb.block _ (blk_lt HY13.out)).trans HY13.out)
      have HZ14 := Lib.hid ((hb.block _ (blk_lt HZ13.out)).trans HZ13.out)
      have HV14 := Lib.hid ((hb.block _ (blk_lt HV13.out)).trans HV13.out)
      have HFY14 := Lib.hid (Kd.F_below HFY13.out hb)
      have HFZ14 := Lib.hid (Kd.F_below HFZ13.out hb)
      have HFV14 := Lib.hid (Kd.F_below HFV13.out hb)
      clear hb HB13 HX13 HY13 HZ13 HV13 HFY13 HFZ13 HFV13
      clear x0 x1 x2 x3
      clear y0 y1 y2 y3
      clear z0 z1 z2 z3
      clear v0 v1 v2 v3
      have x0 := blk_cell HX14.out 0; have x1 := blk_cell HX14.out 1; have x2 := blk_cell HX14.out 2; have x3 := blk_cell HX14.out 3
      dsimp at x0 x1 x2 x3
      have y0 := blk_cell HY14.out 0; have y1 := blk_cell HY14.out 1; have y2 := blk_cell HY14.out 2; have y3 := blk_cell HY14.out 3
      dsimp at y0 y1 y2 y3
      have z0 := blk_cell HZ14.out 0; have z1 := blk_cell HZ14.out 1; have z2 := blk_cell HZ14.out 2; have z3 := blk_cell HZ14.out 3
      dsimp at z0 z1 z2 z3
      have v0 := blk_cell HV14.out 0; have v1 := blk_cell HV14.out 1; have v2 := blk_cell HV14.out 2; have v3 := blk_cell HV14.out 3
      dsimp at v0 v1 v2 v3
      go_wp2_with fail
      refine (belfrylaw01_SameExpr.calls K _ _ _ _ _ _ _ _ _ _ _ _ _ _ (Kd.F_now HFV14.out) hlv (Kd.C_below HC.out HB14.out) hc HK.out).mono ?_
      rintro e w13 ⟨rfl, hb⟩
      have HB15 := Lib.hid (HB14.out.trans (hb.mono HB14.out.size))
      have HX15 := Lib.hid ((hb.block _ (blk_lt HX14.out)).trans HX14.out)
      have HY15 := Lib.hid ((hb.block _ (blk_lt HY14.out)).trans HY14.out)
      have HZ15 := Lib.hid ((hb.block _ (blk_lt HZ14.out)).trans HZ14.out)
      have HV15 := Lib.hid ((hb.block _ (blk_lt HV14.out)).trans HV14.out)
      have HFY15 := Lib.hid (Kd.F_below HFY14.out hb)
      have HFZ15 := Lib.hid (Kd.F_below HFZ14.out hb)
      have HFV15 := Lib.hid (Kd.F_below HFV14.out hb)
      clear hb HB14 HX14 HY14 HZ14 HV14 HFY14 HFZ14 HFV14
      clear x0 x1 x2 x3
      clear y0 y1 y2 y3
      clear z0 z1 z2 z3
      clear v0 v1 v2 v3
      go_wp2_with fail
      go_ret
      exact ⟨rfl, HB15.out⟩
    · have hp : parseT nameOk numT (T ++ [(⟨3, ⟨#[61]⟩, 0⟩ : S45)]) 0 = some (x, (T.length : Int), 0) := HT3.out 4
      have HP0 := Lib.hid hp
      clear hp
      go_wp2_with ((with_reducible refine gate_builtin (b := .append) (xs := #[.tmp 80, .tmp 84]) rfl ?_); at_builtin; refine Hid.out ?_)
      refine Lib.hid ?_
      refine Kd.R_append k45 (w0 := (w7.alloc (.cells #[.int .u8 x.f0, .int .i64 x.f1, .string x.f2, .slice Az x.f3.length cz] 25))) (w7.alloc (.cells #[.int .u8 x.f0, .int .i64 x.f1, .string x.f2, .slice Az x.f3.length cz] 25)).heap.size rfl _ _ 38 45 (.agg #[.int .u8 0, .string ⟨#[]⟩, .int .i64 0]) 32 rfl Tryd.underlying38 info45 rfl (by decide) (by omega) (.slice (A1) T.length c1) T (⟨3, ⟨#[61]⟩, 0⟩ : S45) [.int .u8 3, .string ⟨#[61]⟩, .int .i64 0] (fun _ => True) (fun _ => False) rfl (by first | rfl | (go_simp; done) | (go_simp; rfl)) (k45_mkM _ _ _ (⟨3, ⟨#[61]⟩, 0⟩ : S45)) (fun _ hk => hk.elim) (fun _ _ => trivial) (by (with_reducible repeat (first | apply Kd.R_alloc | apply Kd.R_drewN | apply Kd.R_drew)); exact HR8.out) (by repeat (first | (with_reducible first | exact HBE.out | apply below_alloc | apply pw_below_drewN | apply below_drew1) | exact HBE.out)) (below_size (by repeat (first | (with_reducible first | exact HBE.out | apply below_alloc | apply pw_below_drewN | apply below_drew1) | exact HBE.out))) (by have := HT2.out; omega) ?_
      intro v9 w9 ho hb9 hg9 hat9
      clear hg9 hat9
      obtain ⟨T9, hT9⟩ : ∃ T9, T9 = T ++ [(⟨3, ⟨#[61]⟩, 0⟩ : S45)] := ⟨_, rfl⟩
      have HP := Lib.hid (show parseT nameOk numT T9 0 = some (x, (T.length : Int), 0) by rw [hT9]; exact HP0.out)
      rw [← hT9] at ho
      have HT9 := Lib.hid hT9
      clear hT9 HP0
      obtain ⟨A9, c9, rfl, hl9, hC9⟩ := Kd.R_reads ho
      have HC9 := Lib.hid hC9
      clear hC9 ho
      have HB10 := Lib.hid (HB9.out.trans (hb9.mono HB9.out.size))
      have HX10 := Lib.hid ((hb9.block _ (blk_lt HX9.out)).trans HX9.out)
      have HY10 := Lib.hid ((hb9.block _ (blk_lt HY9.out)).trans HY9.out)
      have HZ10 := Lib.hid ((hb9.block _ (blk_lt HZ9.out)).trans HZ9.out)
      have HFY10 := Lib.hid (Kd.F_below HFY9.out hb9)
      have HFZ10 := Lib.hid (Kd.F_below HFZ9.out hb9)
      clear hb9 HB9 HX9 HY9 HZ9 HFY9 HFZ9
      go_wp2_with fail
      refine (parse_walk (T := T9) A9 c9 0 w9 HC9.out ⟨HV.out.step HB10.out, fun t ht => by rw [HT9.out] at ht; rcases List.mem_append.1 ht with h | h; exact HTK.out t h; rw [List.mem_singleton] at h; subst h; decide⟩ (Int.le_refl _) (Int.natCast_nonneg _) _ _ _ HP.out).mono ?_
      rintro e w10 ⟨Av, cv, rfl, hlv, hFv, hb⟩
      have HB11 := Lib.hid (HB10.out.trans (hb.mono HB10.out.size))
      have HX11 := Lib.hid ((hb.block _ (blk_lt HX10.out)).trans HX10.out)
      have HY11 := Lib.hid ((hb.block _ (blk_lt HY10.out)).trans HY10.out)
      have HZ11 := Lib.hid ((hb.block _ (blk_lt HZ10.out)).trans HZ10.out)
      have HFY11 := Lib.hid (Kd.F_below HFY10.out hb)
      have HFZ11 := Lib.hid (Kd.F_below HFZ10.out hb)
      clear hb HB10 HX10 HY10 HZ10 HFY10 HFZ10
      have HB12 := Lib.hid (HB11.out.alloc HB11.out.size (.cells #[.int .u8 x.f0, .int .i64 x.f1, .string x.f2, .slice Av x.f3.length cv] 25))
      have HV12 := Lib.hid (heap_alloc_new w10 (.cells #[.int .u8 x.f0, .int .i64 x.f1, .string x.f2, .slice Av x.f3.length cv] 25))
      have HX12 := Lib.hid (blk_alloc HX11.out (.cells #[.int .u8 x.f0, .int .i64 x.f1, .string x.f2, .slice Av x.f3.length cv] 25))
      have HY12 := Lib.hid (blk_alloc HY11.out (.cells #[.int .u8 x.f0, .int .i64 x.f1, .string x.f2, .slice Av x.f3.length cv] 25))
      have HZ12 := Lib.hid (blk_alloc HZ11.out (.cells #[.int .u8 x.f0, .int .i64 x.f1, .string x.f2, .slice Av x.f3.length cv] 25))
      have HFY12 := Lib.hid (Kd.F_alloc HFY11.out (.cells #[.int .u8 x.f0, .int .i64 x.f1, .string x.f2, .slice Av x.f3.length cv] 25))
      have HFZ12 := Lib.hid (Kd.F_alloc HFZ11.out (.cells #[.int .u8 x.f0, .int .i64 x.f1, .string x.f2, .slice Av x.f3.length cv] 25))
      clear HB11 HX11 HY11 HZ11 HFY11 HFZ11
      have HFV12 := Lib.hid (Kd.F_alloc hFv (.cells #[.int .u8 x.f0, .int .i64 x.f1, .string x.f2, .slice Av x.f3.length cv] 25))
      clear hFv
      have x0 := blk_cell HX12.out 0; have x1 := blk_cell HX12.out 1; have x2 := blk_cell HX12.out 2; have x3 := blk_cell HX12.out 3
      dsimp at x0 x1 x2 x3
      have y0 := blk_cell HY12.out 0; have y1 := blk_cell HY12.out 1; have y2 := blk_cell HY12.out 2; have y3 := blk_cell HY12.out 3
      dsimp at y0 y1 y2 y3
      have z0 := blk_cell HZ12.out 0; have z1 := blk_cell HZ12.out 1; have z2 := blk_cell HZ12.out 2; have z3 := blk_cell HZ12.out 3
      dsimp at z0 z1 z2 z3
      have v0 := blk_cell HV12.out 0; have v1 := blk_cell HV12.out 1; have v2 := blk_cell HV12.out 2; have v3 := blk_cell HV12.out 3
      dsimp at v0 v1 v2 v3
      go_wp2_with fail
      refine (belfrylaw01_SameExpr.calls K _ _ _ _ _ _ _ _ _ _ _ _ _ _ (Kd.F_now HFY12.out) hly (Kd.C_below HC.out HB12.out) hc HK.out).mono ?_
      rintro e w11 ⟨rfl, hb⟩
      have HB13 := Lib.hid (HB12.out.trans (hb.mono HB12.out.size))
      have HX13 := Lib.hid ((hb.block _ (blk_lt HX12.out)).trans HX12.out)
      have HY13 := Lib.hid ((hb.block _ (blk_lt HY12.out)).trans HY12.out)
      have HZ13 := Lib.hid ((hb.block _ (blk_lt HZ12.out)).trans HZ12.out)
      have HV13 := Lib.hid ((hb.block _ (blk_lt HV12.out)).trans HV12.out)
      have HFY13 := Lib.hid (Kd.F_below HFY12.out hb)
      have HFZ13 := Lib.hid (Kd.F_below HFZ12.out hb)
      have HFV13 := Lib.hid (Kd.F_below HFV12.out hb)
      clear hb HB12 HX12 HY12 HZ12 HV12 HFY12 HFZ12 HFV12
      clear x0 x1 x2 x3
      clear y0 y1 y2 y3
      clear z0 z1 z2 z3
      clear v0 v1 v2 v3
      have x0 := blk_cell HX13.out 0; have x1 := blk_cell HX13.out 1; have x2 := blk_cell HX13.out 2; have x3 := blk_cell HX13.out 3
      dsimp at x0 x1 x2 x3
      have y0 := blk_cell HY13.out 0; have y1 := blk_cell HY13.out 1; have y2 := blk_cell HY13.out 2; have y3 := blk_cell HY13.out 3
      dsimp at y0 y1 y2 y3
      have z0 := blk_cell HZ13.out 0; have z1 := blk_cell HZ13.out 1; have z2 := blk_cell HZ13.out 2; have z3 := blk_cell HZ13.out 3
      dsimp at z0 z1 z2 z3
      have v0 := blk_cell HV13.out 0; have v1 := blk_cell HV13.out 1; have v2 := blk_cell HV13.out 2; have v3 := blk_cell HV13.out 3
      dsimp at v0 v1 v2 v3
      go_wp2_with fail
      refine (belfrylaw01_SameExpr.calls K _ _ _ _ _ _ _ _ _ _ _ _ _ _ (Kd.F_now HFZ13.out) hlz (Kd.C_below HC.out HB13.out) hc HK.out).mono ?_
      rintro e w12 ⟨rfl, hb⟩
      have HB14 := Lib.hid (HB13.out.trans (hb.mono HB13.out.size))
      have HX14 := Lib.hid ((hb.block _ (blk_lt HX13.out)).trans HX13.out)
      have HY14 := Lib.hid ((hb.block _ (blk_lt HY13.out)).trans HY13.out)
      have HZ14 := Lib.hid ((hb.block _ (blk_lt HZ13.out)).trans HZ13.out)
      have HV14 := Lib.hid ((hb.block _ (blk_lt HV13.out)).trans HV13.out)
      have HFY14 := Lib.hid (Kd.F_below HFY13.out hb)
      have HFZ14 := Lib.hid (Kd.F_below HFZ13.out hb)
      have HFV14 := Lib.hid (Kd.F_below HFV13.out hb)
      clear hb HB13 HX13 HY13 HZ13 HV13 HFY13 HFZ13 HFV13
      clear x0 x1 x2 x3
      clear y0 y1 y2 y3
      clear z0 z1 z2 z3
      clear v0 v1 v2 v3
      have x0 := blk_cell HX14.out 0; have x1 := blk_cell HX14.out 1; have x2 := blk_cell HX14.out 2; have x3 := blk_cell HX14.out 3
      dsimp at x0 x1 x2 x3
      have y0 := blk_cell HY14.out 0; have y1 := blk_cell HY14.out 1; have y2 := blk_cell HY14.out 2; have y3 := blk_cell HY14.out 3
      dsimp at y0 y1 y2 y3
      have z0 := blk_cell HZ14.out 0; have z1 := blk_cell HZ14.out 1; have z2 := blk_cell HZ14.out 2; have z3 := blk_cell HZ14.out 3
      dsimp at z0 z1 z2 z3
      have v0 := blk_cell HV14.out 0; have v1 := blk_cell HV14.out 1; have v2 := blk_cell HV14.out 2; have v3 := blk_cell HV14.out 3
      dsimp at v0 v1 v2 v3
      go_wp2_with fail
      refine (belfrylaw01_SameExpr.calls K _ _ _ _ _ _ _ _ _ _ _ _ _ _ (Kd.F_now HFV14.out) hlv (Kd.C_below HC.out HB14.out) hc HK.out).mono ?_
      rintro e w13 ⟨rfl, hb⟩
      have HB15 := Lib.hid (HB14.out.trans (hb.mono HB14.out.size))
      have HX15 := Lib.hid ((hb.block _ (blk_lt HX14.out)).trans HX14.out)
      have HY15 := Lib.hid ((hb.block _ (blk_lt HY14.out)).trans HY14.out)
      have HZ15 := Lib.hid ((hb.block _ (blk_lt HZ14.out)).trans HZ14.out)
      have HV15 := Lib.hid ((hb.block _ (blk_lt HV14.out)).trans HV14.out)
      have HFY15 := Lib.hid (Kd.F_below HFY14.out hb)
      have HFZ15 := Lib.hid (Kd.F_below HFZ14.out hb)
      have HFV15 := Lib.hid (Kd.F_below HFV14.out hb)
      clear hb HB14 HX14 HY14 HZ14 HV14 HFY14 HFZ14 HFV14
      clear x0 x1 x2 x3
      clear y0 y1 y2 y3
      clear z0 z1 z2 z3
      clear v0 v1 v2 v3
      go_wp2_with fail
      go_ret
      exact ⟨rfl, HB15.out⟩
    · have hp : parseT nameOk numT (T ++ [(⟨1, ⟨#[120]⟩, 0⟩ : S45)]) 0 = some (x, (T.length : Int), 0) := HT3.out 5
      have HP0 := Lib.hid hp
      clear hp
      go_wp2_with ((with_reducible refine gate_builtin (b := .append) (xs := #[.tmp 80, .tmp 84]) rfl ?_); at_builtin; refine Hid.out ?_)
      refine Lib.hid ?_
      refine Kd.R_append k45 (w0 := (w7.alloc (.cells #[.int .u8 x.f0, .int .i64 x.f1, .string x.f2, .slice Az x.f3.length cz] 25))) (w7.alloc (.cells #[.int .u8 x.f0, .int .i64 x.f1, .string x.f2, .slice Az x.f3.length cz] 25)).heap.size rfl _ _ 38 45 (.agg #[.int .u8 0, .string ⟨#[]⟩, .int .i64 0]) 32 rfl Tryd.underlying38 info45 rfl (by decide) (by omega) (.slice (A1) T.length c1) T (⟨1, ⟨#[120]⟩, 0⟩ : S45) [.int .u8 1, .string ⟨#[120]⟩, .int .i64 0] (fun _ => True) (fun _ => False) rfl (by first | rfl | (go_simp; done) | (go_simp; rfl)) (k45_mkM _ _ _ (⟨1, ⟨#[120]⟩, 0⟩ : S45)) (fun _ hk => hk.elim) (fun _ _ => trivial) (by (with_reducible repeat (first | apply Kd.R_alloc | apply Kd.R_drewN | apply Kd.R_drew)); exact HR8.out) (by repeat (first | (with_reducible first | exact HBE.out | apply below_alloc | apply pw_below_drewN | apply below_drew1) | exact HBE.out)) (below_size (by repeat (first | (with_reducible first | exact HBE.out | apply below_alloc | apply pw_below_drewN | apply below_drew1) | exact HBE.out))) (by have := HT2.out; omega) ?_
      intro v9 w9 ho hb9 hg9 hat9
      clear hg9 hat9
      obtain ⟨T9, hT9⟩ : ∃ T9, T9 = T ++ [(⟨1, ⟨#[120]⟩, 0⟩ : S45)] := ⟨_, rfl⟩
      have HP := Lib.hid (show parseT nameOk numT T9 0 = some (x, (T.length : Int), 0) by rw [hT9]; exact HP0.out)
      rw [← hT9] at ho
      have HT9 := Lib.hid hT9
      clear hT9 HP0
      obtain ⟨A9, c9, rfl, hl9, hC9⟩ := Kd.R_reads ho
      have HC9 := Lib.hid hC9
      clear hC9 ho
      have HB10 := Lib.hid (HB9.out.trans (hb9.mono HB9.out.size))
      have HX10 := Lib.hid ((hb9.block _ (blk_lt HX9.out)).trans HX9.out)
      have HY10 := Lib.hid ((hb9.block _ (blk_lt HY9.out)).trans HY9.out)
      have HZ10 := Lib.hid ((hb9.block _ (blk_lt HZ9.out)).trans HZ9.out)
      have HFY10 := Lib.hid (Kd.F_below HFY9.out hb9)
      have HFZ10 := Lib.hid (Kd.F_below HFZ9.out hb9)
      clear hb9 HB9 HX9 HY9 HZ9 HFY9 HFZ9
      go_wp2_with fail
      refine (parse_walk (T := T9) A9 c9 0 w9 HC9.out ⟨HV.out.step HB10.out, fun t ht => by rw [HT9.out] at ht; rcases List.mem_append.1 ht with h | h; exact HTK.out t h; rw [List.mem_singleton] at h; subst h; decide⟩ (Int.le_refl _) (Int.natCast_nonneg _) _ _ _ HP.out).mono ?_
      rintro e w10 ⟨Av, cv, rfl, hlv, hFv, hb⟩
      have HB11 := Lib.hid (HB10.out.trans (hb.mono HB10.out.size))
      have HX11 := Lib.hid ((hb.block _ (blk_lt HX10.out)).trans HX10.out)
      have HY11 := Lib.hid ((hb.block _ (blk_lt HY10.out)).trans HY10.out)
      have HZ11 := Lib.hid ((hb.block _ (blk_lt HZ10.out)).trans HZ10.out)
      have HFY11 := Lib.hid (Kd.F_below HFY10.out hb)
      have HFZ11 := Lib.hid (Kd.F_below HFZ10.out hb)
      clear hb HB10 HX10 HY10 HZ10 HFY10 HFZ10
      have HB12 := Lib.hid (HB11.out.alloc HB11.out.size (.cells #[.int .u8 x.f0, .int .i64 x.f1, .string x.f2, .slice Av x.f3.length cv] 25))
      have HV12 := Lib.hid (heap_alloc_new w10 (.cells #[.int .u8 x.f0, .int .i64 x.f1, .string x.f2, .slice Av x.f3.length cv] 25))
      have HX12 := Lib.hid (blk_alloc HX11.out (.cells #[.int .u8 x.f0, .int .i64 x.f1, .string x.f2, .slice Av x.f3.length cv] 25))
      have HY12 := Lib.hid (blk_alloc HY11.out (.cells #[.int .u8 x.f0, .int .i64 x.f1, .string x.f2, .slice Av x.f3.length cv] 25))
      have HZ12 := Lib.hid (blk_alloc HZ11.out (.cells #[.int .u8 x.f0, .int .i64 x.f1, .string x.f2, .slice Av x.f3.length cv] 25))
      have HFY12 := Lib.hid (Kd.F_alloc HFY11.out (.cells #[.int .u8 x.f0, .int .i64 x.f1, .string x.f2, .slice Av x.f3.length cv] 25))
      have HFZ12 := Lib.hid (Kd.F_alloc HFZ11.out (.cells #[.int .u8 x.f0, .int .i64 x.f1, .string x.f2, .slice Av x.f3.length cv] 25))
      clear HB11 HX11 HY11 HZ11 HFY11 HFZ11
      have HFV12 := Lib.hid (Kd.F_alloc hFv (.cells #[.int .u8 x.f0, .int .i64 x.f1, .string x.f2, .slice Av x.f3.length cv] 25))
      clear hFv
      have x0 := blk_cell HX12.out 0; have x1 := blk_cell HX12.out 1; have x2 := blk_cell HX12.out 2; have x3 := blk_cell HX12.out 3
      dsimp at x0 x1 x2 x3
      have y0 := blk_cell HY12.out 0; have y1 := blk_cell HY12.out 1; have y2 := blk_cell HY12.out 2; have y3 := blk_cell HY12.out 3
      dsimp at y0 y1 y2 y3
      have z0 := blk_cell HZ12.out 0; have z1 := blk_cell HZ12.out 1; have z2 := blk_cell HZ12.out 2; have z3 := blk_cell HZ12.out 3
      dsimp at z0 z1 z2 z3
      have v0 := blk_cell HV12.out 0; have v1 := blk_cell HV12.out 1; have v2 := blk_cell HV12.out 2; have v3 := blk_cell HV12.out 3
      dsimp at v0 v1 v2 v3
      go_wp2_with fail
      refine (belfrylaw01_SameExpr.calls K _ _ _ _ _ _ _ _ _ _ _ _ _ _ (Kd.F_now HFY12.out) hly (Kd.C_below HC.out HB12.out) hc HK.out).mono ?_
      rintro e w11 ⟨rfl, hb⟩
      have HB13 := Lib.hid (HB12.out.trans (hb.mono HB12.out.size))
      have HX13 := Lib.hid ((hb.block _ (blk_lt HX12.out)).trans HX12.out)
      have HY13 := Lib.hid ((hb.block _ (blk_lt HY12.out)).trans HY12.out)
      have HZ13 := Lib.hid ((hb.block _ (blk_lt HZ12.out)).trans HZ12.out)
      have HV13 := Lib.hid ((hb.block _ (blk_lt HV12.out)).trans HV12.out)
      have HFY13 := Lib.hid (Kd.F_below HFY12.out hb)
      have HFZ13 := Lib.hid (Kd.F_below HFZ12.out hb)
      have HFV13 := Lib.hid (Kd.F_below HFV12.out hb)
      clear hb HB12 HX12 HY12 HZ12 HV12 HFY12 HFZ12 HFV12
      clear x0 x1 x2 x3
      clear y0 y1 y2 y3
      clear z0 z1 z2 z3
      clear v0 v1 v2 v3
      have x0 := blk_cell HX13.out 0; have x1 := blk_cell HX13.out 1; have x2 := blk_cell HX13.out 2; have x3 := blk_cell HX13.out 3
      dsimp at x0 x1 x2 x3
      have y0 := blk_cell HY13.out 0; have y1 := blk_cell HY13.out 1; have y2 := blk_cell HY13.out 2; have y3 := blk_cell HY13.out 3
      dsimp at y0 y1 y2 y3
      have z0 := blk_cell HZ13.out 0; have z1 := blk_cell HZ13.out 1; have z2 := blk_cell HZ13.out 2; have z3 := blk_cell HZ13.out 3
      dsimp at z0 z1 z2 z3
      have v0 := blk_cell HV13.out 0; have v1 := blk_cell HV13.out 1; have v2 := blk_cell HV13.out 2; have v3 := blk_cell HV13.out 3
      dsimp at v0 v1 v2 v3
      go_wp2_with fail
      refine (belfrylaw01_SameExpr.calls K _ _ _ _ _ _ _ _ _ _ _ _ _ _ (Kd.F_now HFZ13.out) hlz (Kd.C_below HC.out HB13.out) hc HK.out).mono ?_
      rintro e w12 ⟨rfl, hb⟩
      have HB14 := Lib.hid (HB13.out.trans (hb.mono HB13.out.size))
      have HX14 := Lib.hid ((hb.block _ (blk_lt HX13.out)).trans HX13.out)
      have HY14 := Lib.hid ((hb.block _ (blk_lt HY13.out)).trans HY13.out)
      have HZ14 := Lib.hid ((hb.block _ (blk_lt HZ13.out)).trans HZ13.out)
      have HV14 := Lib.hid ((hb.block _ (blk_lt HV13.out)).trans HV13.out)
      have HFY14 := Lib.hid (Kd.F_below HFY13.out hb)
      have HFZ14 := Lib.hid (Kd.F_below HFZ13.out hb)
      have HFV14 := Lib.hid (Kd.F_below HFV13.out hb)
      clear hb HB13 HX13 HY13 HZ13 HV13 HFY13 HFZ13 HFV13
      clear x0 x1 x2 x3
      clear y0 y1 y2 y3
      clear z0 z1 z2 z3
      clear v0 v1 v2 v3
      have x0 := blk_cell HX14.out 0; have x1 := blk_cell HX14.out 1; have x2 := blk_cell HX14.out 2; have x3 := blk_cell HX14.out 3
      dsimp at x0 x1 x2 x3
      have y0 := blk_cell HY14.out 0; have y1 := blk_cell HY14.out 1; have y2 := blk_cell HY14.out 2; have y3 := blk_cell HY14.out 3
      dsimp at y0 y1 y2 y3
      have z0 := blk_cell HZ14.out 0; have z1 := blk_cell HZ14.out 1; have z2 := blk_cell HZ14.out 2; have z3 := blk_cell HZ14.out 3
      dsimp at z0 z1 z2 z3
      have v0 := blk_cell HV14.out 0; have v1 := blk_cell HV14.out 1; have v2 := blk_cell HV14.out 2; have v3 := blk_cell HV14.out 3
      dsimp at v0 v1 v2 v3
      go_wp2_with fail
      refine (belfrylaw01_SameExpr.calls K _ _ _ _ _ _ _ _ _ _ _ _ _ _ (Kd.F_now HFV14.out) hlv (Kd.C_below HC.out HB14.out) hc HK.out).mono ?_
      rintro e w13 ⟨rfl, hb⟩
      have HB15 := Lib.hid (HB14.out.trans (hb.mono HB14.out.size))
      have HX15 := Lib.hid ((hb.block _ (blk_lt HX14.out)).trans HX14.out)
      have HY15 := Lib.hid ((hb.block _ (blk_lt HY14.out)).trans HY14.out)
      have HZ15 := Lib.hid ((hb.block _ (blk_lt HZ14.out)).trans HZ14.out)
      have HV15 := Lib.hid ((hb.block _ (blk_lt HV14.out)).trans HV14.out)
      have HFY15 := Lib.hid (Kd.F_below HFY14.out hb)
      have HFZ15 := Lib.hid (Kd.F_below HFZ14.out hb)
      have HFV15 := Lib.hid (Kd.F_below HFV14.out hb)
      clear hb HB14 HX14 HY14 HZ14 HV14 HFY14 HFZ14 HFV14
      clear x0 x1 x2 x3
      clear y0 y1 y2 y3
      clear z0 z1 z2 z3
      clear v0 v1 v2 v3
      go_wp2_with fail
      go_ret
      exact ⟨rfl, HB15.out⟩
    · have hp : parseT nameOk numT (T ++ [(⟨2, ⟨#[49]⟩, 0⟩ : S45)]) 0 = some (x, (T.length : Int), 0) := HT3.out 6
      have HP0 := Lib.hid hp
      clear hp
      go_wp2_with ((with_reducible refine gate_builtin (b := .append) (xs := #[.tmp 80, .tmp 84]) rfl ?_); at_builtin; refine Hid.out ?_)
      refine Lib.hid ?_
      refine Kd.R_append k45 (w0 := (w7.alloc (.cells #[.int .u8 x.f0, .int .i64 x.f1, .string x.f2, .slice Az x.f3.length cz] 25))) (w7.alloc (.cells #[.int .u8 x.f0, .int .i64 x.f1, .string x.f2, .slice Az x.f3.length cz] 25)).heap.size rfl _ _ 38 45 (.agg #[.int .u8 0, .string ⟨#[]⟩, .int .i64 0]) 32 rfl Tryd.underlying38 info45 rfl (by decide) (by omega) (.slice (A1) T.length c1) T (⟨2, ⟨#[49]⟩, 0⟩ : S45) [.int .u8 2, .string ⟨#[49]⟩, .int .i64 0] (fun _ => True) (fun _ => False) rfl (by first | rfl | (go_simp; done) | (go_simp; rfl)) (k45_mkM _ _ _ (⟨2, ⟨#[49]⟩, 0⟩ : S45)) (fun _ hk => hk.elim) (fun _ _ => trivial) (by (with_reducible repeat (first | apply Kd.R_alloc | apply Kd.R_drewN | apply Kd.R_drew)); exact HR8.out) (by repeat (first | (with_reducible first | exact HBE.out | apply below_alloc | apply pw_below_drewN | apply below_drew1) | exact HBE.out)) (below_size (by repeat (first | (with_reducible first | exact HBE.out | apply below_alloc | apply pw_below_drewN | apply below_drew1) | exact HBE.out))) (by have := HT2.out; omega) ?_
      intro v9 w9 ho hb9 hg9 hat9
      clear hg9 hat9
      obtain ⟨T9, hT9⟩ : ∃ T9, T9 = T ++ [(⟨2, ⟨#[49]⟩, 0⟩ : S45)] := ⟨_, rfl⟩
      have HP := Lib.hid (show parseT nameOk numT T9 0 = some (x, (T.length : Int), 0) by rw [hT9]; exact HP0.out)
      rw [← hT9] at ho
      have HT9 := Lib.hid hT9
      clear hT9 HP0
      obtain ⟨A9, c9, rfl, hl9, hC9⟩ := Kd.R_reads ho
      have HC9 := Lib.hid hC9
      clear hC9 ho
      have HB10 := Lib.hid (HB9.out.trans (hb9.mono HB9.out.size))
      have HX10 := Lib.hid ((hb9.block _ (blk_lt HX9.out)).trans HX9.out)
      have HY10 := Lib.hid ((hb9.block _ (blk_lt HY9.out)).trans HY9.out)
      have HZ10 := Lib.hid ((hb9.block _ (blk_lt HZ9.out)).trans HZ9.out)
      have HFY10 := Lib.hid (Kd.F_below HFY9.out hb9)
      have HFZ10 := Lib.hid (Kd.F_below HFZ9.out hb9)
      clear hb9 HB9 HX9 HY9 HZ9 HFY9 HFZ9
      go_wp2_with fail
      refine (parse_walk (T := T9) A9 c9 0 w9 HC9.out ⟨HV.out.step HB10.out, fun t ht => by rw [HT9.out] at ht; rcases List.mem_append.1 ht with h | h; exact HTK.out t h; rw [List.mem_singleton] at h; subst h; decide⟩ (Int.le_refl _) (Int.natCast_nonneg _) _ _ _ HP.out).mono ?_
      rintro e w10 ⟨Av, cv, rfl, hlv, hFv, hb⟩
      have HB11 := Lib.hid (HB10.out.trans (hb.mono HB10.out.size))
      have HX11 := Lib.hid ((hb.block _ (blk_lt HX10.out)).trans HX10.out)
      have HY11 := Lib.hid ((hb.block _ (blk_lt HY10.out)).trans HY10.out)
      have HZ11 := Lib.hid ((hb.block _ (blk_lt HZ10.out)).trans HZ10.out)
      have HFY11 := Lib.hid (Kd.F_below HFY10.out hb)
      have HFZ11 := Lib.hid (Kd.F_below HFZ10.out hb)
      clear hb HB10 HX10 HY10 HZ10 HFY10 HFZ10
      have HB12 := Lib.hid (HB11.out.alloc HB11.out.size (.cells #[.int .u8 x.f0, .int .i64 x.f1, .string x.f2, .slice Av x.f3.length cv] 25))
      have HV12 := Lib.hid (heap_alloc_new w10 (.cells #[.int .u8 x.f0, .int .i64 x.f1, .string x.f2, .slice Av x.f3.length cv] 25))
      have HX12 := Lib.hid (blk_alloc HX11.out (.cells #[.int .u8 x.f0, .int .i64 x.f1, .string x.f2, .slice Av x.f3.length cv] 25))
      have HY12 := Lib.hid (blk_alloc HY11.out (.cells #[.int .u8 x.f0, .int .i64 x.f1, .string x.f2, .slice Av x.f3.length cv] 25))
      have HZ12 := Lib.hid (blk_alloc HZ11.out (.cells #[.int .u8 x.f0, .int .i64 x.f1, .string x.f2, .slice Av x.f3.length cv] 25))
      have HFY12 := Lib.hid (Kd.F_alloc HFY11.out (.cells #[.int .u8 x.f0, .int .i64 x.f1, .string x.f2, .slice Av x.f3.length cv] 25))
      have HFZ12 := Lib.hid (Kd.F_alloc HFZ11.out (.cells #[.int .u8 x.f0, .int .i64 x.f1, .string x.f2, .slice Av x.f3.length cv] 25))
      clear HB11 HX11 HY11 HZ11 HFY11 HFZ11
      have HFV12 := Lib.hid (Kd.F_alloc hFv (.cells #[.int .u8 x.f0, .int .i64 x.f1, .string x.f2, .slice Av x.f3.length cv] 25))
      clear hFv
      have x0 := blk_cell HX12.out 0; have x1 := blk_cell HX12.out 1; have x2 := blk_cell HX12.out 2; have x3 := blk_cell HX12.out 3
      dsimp at x0 x1 x2 x3
      have y0 := blk_cell HY12.out 0; have y1 := blk_cell HY12.out 1; have y2 := blk_cell HY12.out 2; have y3 := blk_cell HY12.out 3
      dsimp at y0 y1 y2 y3
      have z0 := blk_cell HZ12.out 0; have z1 := blk_cell HZ12.out 1; have z2 := blk_cell HZ12.out 2; have z3 := blk_cell HZ12.out 3
      dsimp at z0 z1 z2 z3
      have v0 := blk_cell HV12.out 0; have v1 := blk_cell HV12.out 1; have v2 := blk_cell HV12.out 2; have v3 := blk_cell HV12.out 3
      dsimp at v0 v1 v2 v3
      go_wp2_with fail
      refine (belfrylaw01_SameExpr.calls K _ _ _ _ _ _ _ _ _ _ _ _ _ _ (Kd.F_now HFY12.out) hly (Kd.C_below HC.out HB12.out) hc HK.out).mono ?_
      rintro e w11 ⟨rfl, hb⟩
      have HB13 := Lib.hid (HB12.out.trans (hb.mono HB12.out.size))
      have HX13 := Lib.hid ((hb.block _ (blk_lt HX12.out)).trans HX12.out)
      have HY13 := Lib.hid ((hb.block _ (blk_lt HY12.out)).trans HY12.out)
      have HZ13 := Lib.hid ((hb.block _ (blk_lt HZ12.out)).trans HZ12.out)
      have HV13 := Lib.hid ((hb.block _ (blk_lt HV12.out)).trans HV12.out)
      have HFY13 := Lib.hid (Kd.F_below HFY12.out hb)
      have HFZ13 := Lib.hid (Kd.F_below HFZ12.out hb)
      have HFV13 := Lib.hid (Kd.F_below HFV12.out hb)
      clear hb HB12 HX12 HY12 HZ12 HV12 HFY12 HFZ12 HFV12
      clear x0 x1 x2 x3
      clear y0 y1 y2 y3
      clear z0 z1 z2 z3
      clear v0 v1 v2 v3
      have x0 := blk_cell HX13.out 0; have x1 := blk_cell HX13.out 1; have x2 := blk_cell HX13.out 2; have x3 := blk_cell HX13.out 3
      dsimp at x0 x1 x2 x3
      have y0 := blk_cell HY13.out 0; have y1 := blk_cell HY13.out 1; have y2 := blk_cell HY13.out 2; have y3 := blk_cell HY13.out 3
      dsimp at y0 y1 y2 y3
      have z0 := blk_cell HZ13.out 0; have z1 := blk_cell HZ13.out 1; have z2 := blk_cell HZ13.out 2; have z3 := blk_cell HZ13.out 3
      dsimp at z0 z1 z2 z3
      have v0 := blk_cell HV13.out 0; have v1 := blk_cell HV13.out 1; have v2 := blk_cell HV13.out 2; have v3 := blk_cell HV13.out 3
      dsimp at v0 v1 v2 v3
      go_wp2_with fail
      refine (belfrylaw01_SameExpr.calls K _ _ _ _ _ _ _ _ _ _ _ _ _ _ (Kd.F_now HFZ13.out) hlz (Kd.C_below HC.out HB13.out) hc HK.out).mono ?_
      rintro e w12 ⟨rfl, hb⟩
      have HB14 := Lib.hid (HB13.out.trans (hb.mono HB13.out.size))
      have HX14 := Lib.hid ((hb.block _ (blk_lt HX13.out)).trans HX13.out)
      have HY14 := Lib.hid ((hb.block _ (blk_lt HY13.out)).trans HY13.out)
      have HZ14 := Lib.hid ((hb.block _ (blk_lt HZ13.out)).trans HZ13.out)
      have HV14 := Lib.hid ((hb.block _ (blk_lt HV13.out)).trans HV13.out)
      have HFY14 := Lib.hid (Kd.F_below HFY13.out hb)
      have HFZ14 := Lib.hid (Kd.F_below HFZ13.out hb)
      have HFV14 := Lib.hid (Kd.F_below HFV13.out hb)
      clear hb HB13 HX13 HY13 HZ13 HV13 HFY13 HFZ13 HFV13
      clear x0 x1 x2 x3
      clear y0 y1 y2 y3
      clear z0 z1 z2 z3
      clear v0 v1 v2 v3
      have x0 := blk_cell HX14.out 0; have x1 := blk_cell HX14.out 1; have x2 := blk_cell HX14.out 2; have x3 := blk_cell HX14.out 3
      dsimp at x0 x1 x2 x3
      have y0 := blk_cell HY14.out 0; have y1 := blk_cell HY14.out 1; have y2 := blk_cell HY14.out 2; have y3 := blk_cell HY14.out 3
      dsimp at y0 y1 y2 y3
      have z0 := blk_cell HZ14.out 0; have z1 := blk_cell HZ14.out 1; have z2 := blk_cell HZ14.out 2; have z3 := blk_cell HZ14.out 3
      dsimp at z0 z1 z2 z3
      have v0 := blk_cell HV14.out 0; have v1 := blk_cell HV14.out 1; have v2 := blk_cell HV14.out 2; have v3 := blk_cell HV14.out 3
      dsimp at v0 v1 v2 v3
      go_wp2_with fail
      refine (belfrylaw01_SameExpr.calls K _ _ _ _ _ _ _ _ _ _ _ _ _ _ (Kd.F_now HFV14.out) hlv (Kd.C_below HC.out HB14.out) hc HK.out).mono ?_
      rintro e w13 ⟨rfl, hb⟩
      have HB15 := Lib.hid (HB14.out.trans (hb.mono HB14.out.size))
      have HX15 := Lib.hid ((hb.block _ (blk_lt HX14.out)).trans HX14.out)
      have HY15 := Lib.hid ((hb.block _ (blk_lt HY14.out)).trans HY14.out)
      have HZ15 := Lib.hid ((hb.block _ (blk_lt HZ14.out)).trans HZ14.out)
      have HV15 := Lib.hid ((hb.block _ (blk_lt HV14.out)).trans HV14.out)
      have HFY15 := Lib.hid (Kd.F_below HFY14.out hb)
      have HFZ15 := Lib.hid (Kd.F_below HFZ14.out hb)
      have HFV15 := Lib.hid (Kd.F_below HFV14.out hb)
      clear hb HB14 HX14 HY14 HZ14 HV14 HFY14 HFZ14 HFV14
      clear x0 x1 x2 x3
      clear y0 y1 y2 y3
      clear z0 z1 z2 z3
      clear v0 v1 v2 v3
      go_wp2_with fail
      go_ret
      exact ⟨rfl, HB15.out⟩
end Go.Proofs.YtbdciibbgiphcaaDoor.V
