/- The row of ExprsAgo, which lists package-level variables, and its tied card: from the reading to the walk. Written by wip/cardrow.py (ours) off the row that wip/myprint.py printed. -/
/- The row of ExprsAgo: from its reading to its walk. Written by wip/rowprint.py (ours; the frame of it as the kit's printer prints a row). -/
import Derived.Test.YtbdciibbgiphcaaDoorRows
import Derived.Test.YtbdciibbgiphcaaDoorAgW
import Derived.Test.YtbdciibbgiphcaaDoorTrB
import Derived.Test.YtbdciibbgiphcaaDoorNL
import Derived.WalkKit
import Derived.ProofKit
import Derived.OpenShut
import Derived.ShutString
import Derived.ChangeOld
import Derived.Below
import Derived.SizedLaws
import Derived.LaidMore
import Derived.Lay
import Derived.MakeChecks
import Derived.SevenTiedAt
import Derived.Stop.Joined
import Derived.Stop.LaidErr
import Derived.Deep.DeepHandedRow
import Derived.Test.YtbdciibbgiphcaaDoorTie
import Derived.Test.YtbdciibbgiphcaaDoorCards
namespace Go.Proofs.YtbdciibbgiphcaaDoor.exprsAgo
open Go.ChangeShapes Go.WideShapes Go.ChangeAt Go.RowKit
open Go.ChangeMaps (open_string shut_string)
set_option linter.unusedVariables false
set_option linter.unusedSimpArgs false
theorem own : ownKnob Tryd.prog.godebug = none := by kernel_rfl
theorem laidOut : laidOutB Tryd.prog = true := by kernel_rfl
theorem byte_nat {a : Int} (h : (Lit.int .u8 a).wf = true) : ∃ o : Nat, a = (o : Int) ∧ o ≤ 255 := by
  simp [Lit.wf, IntKind.min, IntKind.max, IntKind.bits, IntKind.signed] at h
  exact ⟨a.toNat, by omega, by omega⟩
/-- a reading that fits. -/
theorem reads (os : Os) {H : Type} (enc : TypeId × Value → H) : ∃ places, DataW.whole enc Tryd.prog ((World.laidAll Tryd.prog os Rows.exprsAgoUptoRow.laid).forCall (fun _ _ => 0) ⟨#[], #[.agg #[.int .u8 0, .int .i64 0, .string ByteArray.empty, .slice none 0 0], .agg #[.int .u8 0, .int .i64 0, .string ByteArray.empty, .slice none 0 0], .int .u8 0], []⟩).memory Tryd.f6.params.toList Rows.exprsAgoSpec.vars false #[Value.agg #[.int .u8 0, .int .i64 0, .string ByteArray.empty, .slice none 0 0], Value.agg #[.int .u8 0, .int .i64 0, .string ByteArray.empty, .slice none 0 0], .int .u8 0].toList 8 = some ([.agg [.lit (.int .u8 0), .lit (.int .i64 0), .lit (.string []), .nil], .agg [.lit (.int .u8 0), .lit (.int .i64 0), .lit (.string []), .nil], .lit (.int .u8 0)], [], places) :=
  ⟨[], by kernel_rfl⟩
set_option maxHeartbeats 1000000 in
set_option maxRecDepth 100000 in
/-- what the walk gives, of every argument of no more than so much bulk. -/
theorem contract (H : Type) (enc : TypeId × Value → H) (W : World) (base : Nat) (args : Array Value) (ds gs : List (DataW H)) (before : List MemPlace)
    (hval0 : ∀ (j : Nat) t v, Tryd.f6.params[j]? = some t → args[j]? = some v → Value.okWide Tryd.prog W .any base t v)
    (hW : DataW.Whole enc Tryd.prog Tryd.f6.params.toList Rows.exprsAgoSpec.vars false W args.toList ds gs before) (hk : Rows.uptoSmall H (ds ++ gs) = true)
    (hsz0 : (DataW.weightsEach Tryd.prog (Tryd.f6.params.toList ++ Rows.exprsAgoSpec.plain.varTypes Tryd.prog) (ds ++ gs)).all (· ≤ reachBytes) = true)
    (hL : laidMetH Tryd.prog Rows.exprsAgoUptoRow.laid W) :
    Calls Tryd.prog 6 args W fun e W' => ∃ v, e = .returned v ∧ Rows.exprsAgoSpec.post enc Tryd.prog Tryd.f6 false true false false W args v W' := by
  have hm : laidMet Tryd.prog Rows.exprsAgoUptoRow.laid W := by rw [← MakeChecks.laidMetH_plain _ _ _ (by kernel_rfl)]; exact hL
  have hvt := V.varT_head hm.tail.tail
  have hvo := V.varOk_head hm.tail.tail.tail.tail
  clear hm hL
  have hsz := hsz0
  have hval := hval0
  have hW' := hW
  obtain ⟨p, q, hA0, hV, rfl, hfz, hnd⟩ := hW
  have hA : DataW.TrodAll enc Tryd.prog W 0 (fun _ => true) true Tryd.f6.params.toList args.toList ds p := hA0
  rw [Tryd.params6] at hA hval hsz
  obtain ⟨v0, vs0, d0, ds0, p0, q0, hargs, rfl, rfl, h0, r0⟩ := trodAll_cons hA
  obtain ⟨v1, vs1, d1, ds1, p1, q1, rfl, rfl, rfl, h1, r1⟩ := trodAll_cons r0
  obtain ⟨v2, vs2, d2, ds2, p2, q2, rfl, rfl, rfl, h2, r2⟩ := trodAll_cons r1
  obtain ⟨rfl, rfl, rfl⟩ := trodAll_nil r2
  obtain rfl : args = #[v0, v1, v2] := by cases args; simp_all
  obtain ⟨rfl, rfl⟩ := trodVars_none hV
  have hz0 := hsz
  obtain ⟨z0, hz1⟩ := Tr.wsplit hz0
  obtain ⟨z1, hz2⟩ := Tr.wsplit hz1
  obtain ⟨x, hk0, wf0, cn0⟩ := Tr.trM_arg h0 z0
  obtain ⟨y, hk1, wf1, cn1⟩ := Tr.trM_arg h1 z1
  have hbk : Rows.uptoBulkAll [d0, d1, d2] ≤ 1048576 := of_decide_eq_true hk
  simp only [Rows.uptoBulkAll] at hbk
  have hcx : V.cntE x + V.cntE y ≤ 1048576 := by omega
  obtain ⟨cs0, rfl, _⟩ := okWide_struct Tryd.underlying25 (hval 0 25 v0 rfl rfl)
  obtain ⟨cs1, rfl, _⟩ := okWide_struct Tryd.underlying25 (hval 1 25 v1 rfl rfl)
  obtain ⟨A0, c0, e0, hc0, hr0⟩ := V.k25_open hk0
  obtain ⟨A1, c1, e1, hc1, hr1⟩ := V.k25_open hk1
  have f0 : cs0.toList = [.int .u8 x.f0, .int .i64 x.f1, .string x.f2, .slice A0 x.f3.length c0] := e0
  have f1 : cs1.toList = [.int .u8 y.f0, .int .i64 y.f1, .string y.f2, .slice A1 y.f3.length c1] := e1
  obtain rfl : cs0 = #[.int .u8 x.f0, .int .i64 x.f1, .string x.f2, .slice A0 x.f3.length c0] := by
    have := congrArg List.toArray f0
    simpa using this
  obtain rfl : cs1 = #[.int .u8 y.f0, .int .i64 y.f1, .string y.f2, .slice A1 y.f3.length c1] := by
    have := congrArg List.toArray f1
    simpa using this
  obtain ⟨a2, rfl, rfl, rfl, w2⟩ := open_int Tryd.underlying22 (hval 2 22 v2 rfl rfl) h2
  clear hA0 hval0 hsz0 hsz hz0 hz1 hz2 f0 f1 e0 e1 hbk hk
  obtain ⟨o2, ho2, ho2'⟩ := byte_nat w2
  refine (V.exprsAgo_walk x y wf0.1 wf1.1 wf0.2 wf1.2 hcx A0 A1 c0 c1 a2 (by omega) (by omega) W hc0 hc1 hr0 hr1 hvo hvt).mono fun e W' ⟨he, bel⟩ => ?_
  subst he
  exact ⟨_, rfl, _, _, _, [], _, [], hW', trodAll_mk1 (shut_bool Tryd.underlying4 _), (trodAll_cons_mk (Below.trod laidOut (by kernel_rfl) (of_decide_eq_true (by kernel_rfl)) h0 bel (Tr.lt_of_trod h0)) (trodAll_cons_mk (Below.trod laidOut (by kernel_rfl) (of_decide_eq_true (by kernel_rfl)) h1 bel (Tr.lt_of_trod h1)) (trodAll_cons_mk (shut_int Tryd.underlying22 w2) trodAll_mk0))), rfl, bel.frame _, fun h => by cases h⟩
set_option maxHeartbeats 1000000 in
set_option maxRecDepth 100000 in
theorem lifted (os : Os) (started : os.Started) (H : Type) (enc : TypeId × Value → H) (F : Stop.Interp) :
    ReturnsInHanded {} Tryd.checked os 6 .any ((Rows.OpenSpec.upto Rows.exprsAgoSpec).preRow enc Tryd.prog Tryd.f6 Rows.exprsAgoUptoRow.domain false Rows.exprsAgoUptoRow.laid) (((Rows.OpenSpec.upto Rows.exprsAgoSpec).at F).post enc Tryd.prog Tryd.f6 false true false false) := by
  obtain ⟨places, hx⟩ := reads os enc
  refine returnsInHanded_of_row (C := Tryd.checked) (s := Rows.OpenSpec.upto Rows.exprsAgoSpec) own started (by kernel_rfl) Tryd.func6
    ⟨World.laidAll Tryd.prog os Rows.exprsAgoUptoRow.laid, fun _ _ => 0, ⟨#[], #[.agg #[.int .u8 0, .int .i64 0, .string ByteArray.empty, .slice none 0 0], .agg #[.int .u8 0, .int .i64 0, .string ByteArray.empty, .slice none 0 0], .int .u8 0], []⟩, World.laidAll_os _ _ _,
      World.shaped_of_ZipB (by kernel_rfl) (by kernel_rfl), rfl, (Input.okWide_of_okWideB (by kernel_rfl)).2,
      OpenSpec.preRow_of_cond 8 hx (by kernel_rfl) (fun k hk => by cases hk; kernel_rfl) (by kernel_rfl) (by rw [MakeChecks.laidMetH_plain _ _ _ (by kernel_rfl)]; exact laidMet_laidAll _ (by kernel_rfl) (by kernel_rfl)), by
        simp only [Assume.holds]
        exact ⟨by simp, by simp, fun _ => Modest.zero, by simp, by simp⟩⟩ ?_
  intro W base args ds gs before hval hW _ hcond hsz hL _ _
  exact contract H enc W base args ds gs before hval hW (hcond _ rfl) hsz hL
theorem over : Rows.exprsAgoUptoRow.holds Tryd.pinned (Rows.OpenSpec.upto Rows.exprsAgoSpec) :=
  OpenClaim.holds_of_cond 6 Tryd.f6 rfl rfl rfl rfl rfl rfl rfl ⟨rfl, rfl, rfl, rfl, rfl⟩ rfl rfl rfl rfl rfl (by kernel_rfl) Tryd.func6 (by kernel_rfl)
    (of_decide_eq_true (by kernel_rfl)) (by unfold Func.isWrapper; first | (rw [if_pos (by decide +kernel)]; kernel_rfl) | (rw [if_neg (by decide +kernel)]; exact ⟨rfl, rfl⟩))
    (fun os started H enc _ F => by rw [OpenClaim.pre_eq_preRow]; exact lifted os started H enc F)
theorem proved : Rows.ExprsAgoUptoSaid := over
theorem card : Rows.ExprsAgoUptoCardSaid :=
  Claim7.holds_tied_plain_at .later [] [.data, .data, .data, .data, .sentinel, .sentinel, .pinned] true (true, "12f6fd4a1ca24f68a4083e78b506cf8cbd9759aede10807852c1897726860fcb") true proved (fun _ h => by cases h) (by kernel_rfl) (fun _ h => by cases h) exprsAgoUpto_row_tie rfl ⟨rfl, rfl⟩ (by kernel_rfl) rfl
    (fun f fn hf hfn => by
      obtain rfl : f = 6 := Option.some.inj ((show Tryd.prog.funcNamed "belfry/belfrylaw05.ExprsAgo" = some 6 by kernel_rfl).symm.trans hf) |>.symm
      obtain rfl : fn = Tryd.f6 := (Option.some.inj (Tryd.func6.symm.trans hfn)).symm
      exact ⟨by kernel_rfl, fun j t ht => by
        rw [Tryd.params6] at ht
        have hm := Array.mem_of_getElem? ht
        have hall : (Tryd.f6.params.toList.all fun u => !Tryd.prog.wantsStandIn u) = true := by kernel_rfl
        rw [Tryd.params6] at hall
        exact (show Tryd.prog.wantsStandIn t = false by simpa using List.all_eq_true.1 hall t (by simpa using hm))⟩)
    (by kernel_rfl)
#print axioms card
end Go.Proofs.YtbdciibbgiphcaaDoor.exprsAgo
namespace Go.Proofs.YtbdciibbgiphcaaDoor
/-- The card, under a short name, for the claim. -/
theorem exprsAgoUpto_card : Rows.ExprsAgoUptoCardSaid := exprsAgo.card
end Go.Proofs.YtbdciibbgiphcaaDoor
