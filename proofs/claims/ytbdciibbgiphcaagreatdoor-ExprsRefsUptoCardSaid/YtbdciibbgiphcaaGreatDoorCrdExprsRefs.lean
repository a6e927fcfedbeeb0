/- The row of ExprsRefs, which lists package-level variables, and its tied card: from the reading to the walk. Written by wip/cardrow.py (ours) off the row that wip/myprint.py printed. -/
/- The row of ExprsRefs: from its reading to its walk. Written by wip/rowprint.py (ours; the frame of it as the kit's printer prints a row). -/
import Derived.Test.YtbdciibbgiphcaaGreatDoorRows
import Derived.Test.YtbdciibbgiphcaaGreatDoorLwRf
import Derived.Test.YtbdciibbgiphcaaGreatDoorTrB
import Derived.Test.YtbdciibbgiphcaaGreatDoorLdT
import Derived.WalkKit
import Derived.ProofKit
import Derived.OpenShut
import Derived.ShutString
import Derived.ChangeOld
import Derived.Below
import Derived.SizedLaws
import Derived.LaidMore
import Derived.Lay
import Derived.MakeChecks
import Derived.SevenTiedAt
import Derived.Stop.Joined
import Derived.Stop.LaidErr
import Derived.Deep.DeepHandedRow
import Derived.Test.YtbdciibbgiphcaaGreatDoorTie
import Derived.Test.YtbdciibbgiphcaaGreatDoorCards
namespace Go.Proofs.YtbdciibbgiphcaaGreatDoor.exprsRefs
open Go.ChangeShapes Go.WideShapes Go.ChangeAt Go.RowKit
open Go.ChangeMaps (open_string shut_string)
set_option linter.unusedVariables false
set_option linter.unusedSimpArgs false
theorem own : ownKnob Tryz.prog.godebug = none := by kernel_rfl
theorem laidOut : laidOutB Tryz.prog = true := by kernel_rfl
theorem byte_nat {a : Int} (h : (Lit.int .u8 a).wf = true) : ∃ o : Nat, a = (o : Int) ∧ o ≤ 255 := by
  simp [Lit.wf, IntKind.min, IntKind.max, IntKind.bits, IntKind.signed] at h
  exact ⟨a.toNat, by omega, by omega⟩
/-- a reading that fits. -/
theorem reads (os : Os) {H : Type} (enc : TypeId × Value → H) : ∃ places, DataW.whole enc Tryz.prog ((World.laidAll Tryz.prog os Rows.exprsRefsUptoRow.laid).forCall (fun _ _ => 0) ⟨#[], #[.agg #[.int .u8 0, .int .i64 0, .string ByteArray.empty, .slice none 0 0]], []⟩).memory Tryz.f3.params.toList Rows.exprsRefsSpec.vars false #[Value.agg #[.int .u8 0, .int .i64 0, .string ByteArray.empty, .slice none 0 0]].toList 8 = some ([.agg [.lit (.int .u8 0), .lit (.int .i64 0), .lit (.string []), .nil]], [], places) :=
  ⟨[], by kernel_rfl⟩
set_option maxHeartbeats 1000000 in
set_option maxRecDepth 100000 in
/-- what the walk gives, of every argument of no more than so much bulk. -/
theorem contract (H : Type) (enc : TypeId × Value → H) (W : World) (base : Nat) (args : Array Value) (ds gs : List (DataW H)) (before : List MemPlace)
    (hval0 : ∀ (j : Nat) t v, Tryz.f3.params[j]? = some t → args[j]? = some v → Value.okWide Tryz.prog W .any base t v)
    (hW : DataW.Whole enc Tryz.prog Tryz.f3.params.toList Rows.exprsRefsSpec.vars false W args.toList ds gs before) (hk : Rows.uptoSmall H (ds ++ gs) = true)
    (hsz0 : (DataW.weightsEach Tryz.prog (Tryz.f3.params.toList ++ Rows.exprsRefsSpec.plain.varTypes Tryz.prog) (ds ++ gs)).all (· ≤ reachBytes) = true)
    (hL : laidMetH Tryz.prog Rows.exprsRefsUptoRow.laid W) :
    Calls Tryz.prog 3 args W fun e W' => ∃ v, e = .returned v ∧ Rows.exprsRefsSpec.post enc Tryz.prog Tryz.f3 false true false false W args v W' := by
  have hm : laidMet Tryz.prog Rows.exprsRefsUptoRow.laid W := by rw [← MakeChecks.laidMetH_plain _ _ _ (by kernel_rfl)]; exact hL
  have hvt := V.varT_head hm.tail.tail
  clear hm hL
  have hsz := hsz0
  have hval := hval0
  have hW' := hW
  obtain ⟨p, q, hA0, hV, rfl, hfz, hnd⟩ := hW
  have hA : DataW.TrodAll enc Tryz.prog W 0 (fun _ => true) true Tryz.f3.params.toList args.toList ds p := hA0
  rw [Tryz.params3] at hA hval hsz
  obtain ⟨v0, vs0, d0, ds0, p0, q0, hargs, rfl, rfl, h0, r0⟩ := trodAll_cons hA
  obtain ⟨rfl, rfl, rfl⟩ := trodAll_nil r0
  obtain rfl : args = #[v0] := by cases args; simp_all
  obtain ⟨rfl, rfl⟩ := trodVars_none hV
  have hz0 := hsz
  obtain ⟨z0, hz1⟩ := Tr.wsplit hz0
  obtain ⟨x, hk0, wf0, cn0⟩ := Tr.trM_arg h0 z0
  have hbk : Rows.uptoBulkAll [d0] ≤ 1048576 := of_decide_eq_true hk
  simp only [Rows.uptoBulkAll] at hbk
  have hcx : V.cntE x ≤ 1048576 := by omega
  obtain ⟨cs0, rfl, _⟩ := okWide_struct Tryz.underlying25 (hval 0 25 v0 rfl rfl)
  obtain ⟨A0, c0, e0, hc0, hr0⟩ := V.k25_open hk0
  have f0 : cs0.toList = [.int .u8 x.f0, .int .i64 x.f1, .string x.f2, .slice A0 x.f3.length c0] := e0
  obtain rfl : cs0 = #[.int .u8 x.f0, .int .i64 x.f1, .string x.f2, .slice A0 x.f3.length c0] := by
    have := congrArg List.toArray f0
    simpa using this
  clear hA0 hval0 hsz0 hsz hz0 hz1 f0 e0 hbk hk
  refine (V.exprsRefs_walk x wf0.1 wf0.2 _ (V.nodes_cnt wf0.1) (by omega) A0 c0 W hc0 hr0 hvt).mono fun e W' ⟨he, bel⟩ => ?_
  subst he
  exact ⟨_, rfl, _, _, _, [], _, [], hW', trodAll_mk1 (shut_bool Tryz.underlying4 _), (trodAll_cons_mk (Below.trod laidOut (by kernel_rfl) (of_decide_eq_true (by kernel_rfl)) h0 bel (Tr.lt_of_trod h0)) trodAll_mk0), rfl, bel.frame _, fun h => by cases h⟩
set_option maxHeartbeats 1000000 in
set_option maxRecDepth 100000 in
theorem lifted (os : Os) (started : os.Started) (H : Type) (enc : TypeId × Value → H) (F : Stop.Interp) :
    ReturnsInHanded {} Tryz.checked os 3 .any ((Rows.OpenSpec.upto Rows.exprsRefsSpec).preRow enc Tryz.prog Tryz.f3 Rows.exprsRefsUptoRow.domain false Rows.exprsRefsUptoRow.laid) (((Rows.OpenSpec.upto Rows.exprsRefsSpec).at F).post enc Tryz.prog Tryz.f3 false true false false) := by
  obtain ⟨places, hx⟩ := reads os enc
  refine returnsInHanded_of_row (C := Tryz.checked) (s := Rows.OpenSpec.upto Rows.exprsRefsSpec) own started (by kernel_rfl) Tryz.func3
    ⟨World.laidAll Tryz.prog os Rows.exprsRefsUptoRow.laid, fun _ _ => 0, ⟨#[], #[.agg #[.int .u8 0, .int .i64 0, .string ByteArray.empty, .slice none 0 0]], []⟩, World.laidAll_os _ _ _,
      World.shaped_of_ZipB (by kernel_rfl) (by kernel_rfl), rfl, (Input.okWide_of_okWideB (by kernel_rfl)).2,
      OpenSpec.preRow_of_cond 8 hx (by kernel_rfl) (fun k hk => by cases hk; kernel_rfl) (by kernel_rfl) (by rw [MakeChecks.laidMetH_plain _ _ _ (by kernel_rfl)]; exact laidMet_laidAll _ (by kernel_rfl) (by kernel_rfl)), by
        simp only [Assume.holds]
        exact ⟨by simp, by simp, fun _ => Modest.zero, by simp, by simp⟩⟩ ?_
  intro W base args ds gs before hval hW _ hcond hsz hL _ _
  exact contract H enc W base args ds gs before hval hW (hcond _ rfl) hsz hL
theorem over : Rows.exprsRefsUptoRow.holds Tryz.pinned (Rows.OpenSpec.upto Rows.exprsRefsSpec) :=
  OpenClaim.holds_of_cond 3 Tryz.f3 rfl rfl rfl rfl rfl rfl rfl ⟨rfl, rfl, rfl, rfl, rfl⟩ rfl rfl rfl rfl rfl (by kernel_rfl) Tryz.func3 (by kernel_rfl)
    (of_decide_eq_true (by kernel_rfl)) (by unfold Func.isWrapper; first | (rw [if_pos (by decide +kernel)]; kernel_rfl) | (rw [if_neg (by decide +kernel)]; exact ⟨rfl, rfl⟩))
    (fun os started H enc _ F => by rw [OpenClaim.pre_eq_preRow]; exact lifted os started H enc F)
theorem proved : Rows.ExprsRefsUptoSaid := over
theorem card : Rows.ExprsRefsUptoCardSaid :=
  Claim7.holds_tied_plain_at .later [] [.data, .data, .data] true (true, "d7b183da9de992fc4f102bb0ace973706f5da2936a77f59ef64ba13561a101df") false proved (fun _ h => by cases h) (by kernel_rfl) (fun _ h => by cases h) exprsRefsUpto_row_tie rfl ⟨rfl, rfl⟩ (by kernel_rfl) rfl
    (fun f fn hf hfn => by
      obtain rfl : f = 3 := Option.some.inj ((show Tryz.prog.funcNamed "belfry/belfrylaw05.ExprsRefs" = some 3 by kernel_rfl).symm.trans hf) |>.symm
      obtain rfl : fn = Tryz.f3 := (Option.some.inj (Tryz.func3.symm.trans hfn)).symm
      exact ⟨by kernel_rfl, fun j t ht => by
        rw [Tryz.params3] at ht
        have hm := Array.mem_of_getElem? ht
        have hall : (Tryz.f3.params.toList.all fun u => !Tryz.prog.wantsStandIn u) = true := by kernel_rfl
        rw [Tryz.params3] at hall
        exact (show Tryz.prog.wantsStandIn t = false by simpa using List.all_eq_true.1 hall t (by simpa using hm))⟩)
    (by kernel_rfl)
#print axioms card
end Go.Proofs.YtbdciibbgiphcaaGreatDoor.exprsRefs
namespace Go.Proofs.YtbdciibbgiphcaaGreatDoor
/-- The card, under a short name, for the claim. -/
theorem exprsRefsUpto_card : Rows.ExprsRefsUptoCardSaid := exprsRefs.card
end Go.Proofs.YtbdciibbgiphcaaGreatDoor
