/- The row of ExprsBrackets, which lists package-level variables, and its tied card: from the reading to the walk. Written by wip/cardrow.py (ours) off the row that wip/myprint.py printed. -/
/- The row of ExprsBrackets: from its reading to its walk. Written by wip/rowprint.py (ours; the frame of it as the kit's printer prints a row). -/
import Derived.Test.YtbdciibbgiphcaaDoorRows
import Derived.Test.YtbdciibbgiphcaaDoorLwBr
import Derived.Test.YtbdciibbgiphcaaDoorNT
import Derived.Test.YtbdciibbgiphcaaDoorNL
import Derived.WalkKit
import Derived.ProofKit
import Derived.OpenShut
import Derived.ShutString
import Derived.ChangeOld
import Derived.Below
import Derived.SizedLaws
import Derived.LaidMore
import Derived.Lay
import Derived.MakeChecks
import Derived.SevenTiedAt
import Derived.Stop.Joined
import Derived.Stop.LaidErr
import Derived.Test.YtbdciibbgiphcaaDoorTie
import Derived.Test.YtbdciibbgiphcaaDoorCards
namespace Go.Proofs.YtbdciibbgiphcaaDoor.exprsBrackets
open Go.ChangeShapes Go.WideShapes Go.ChangeAt Go.RowKit
open Go.ChangeMaps (open_string shut_string)
set_option linter.unusedVariables false
set_option linter.unusedSimpArgs false
theorem own : ownKnob Tryd.prog.godebug = none := by kernel_rfl
theorem laidOut : laidOutB Tryd.prog = true := by kernel_rfl
theorem byte_nat {a : Int} (h : (Lit.int .u8 a).wf = true) : ∃ o : Nat, a = (o : Int) ∧ o ≤ 255 := by
  simp [Lit.wf, IntKind.min, IntKind.max, IntKind.bits, IntKind.signed] at h
  exact ⟨a.toNat, by omega, by omega⟩
set_option maxHeartbeats 1000000 in
set_option maxRecDepth 100000 in
theorem lifted (os : Os) (started : os.Started) (H : Type) (enc : TypeId × Value → H) :
    ReturnsInHanded {} Tryd.checked os 5 .any (fun w args => (Rows.exprsBracketsSpec.pre enc Tryd.prog Tryd.f5 Rows.exprsBracketsRow.domain false w args ∧ laidMetH Tryd.prog Rows.exprsBracketsRow.laid w) ∧ sizedMet enc Tryd.prog Tryd.f5 (OpenSpec.ofChange Rows.exprsBracketsSpec) false w args) (Rows.exprsBracketsSpec.post enc Tryd.prog Tryd.f5 false true false false) := by
  refine returnsInHanded_of_change_and (C := Tryd.checked) (X := fun w _ => laidMetH Tryd.prog Rows.exprsBracketsRow.laid w) (fun _ _ _ hh h => h.of_heap hh) own started (by kernel_rfl) Tryd.func5
    (ChangeSpec.witness_shaped (enc := enc) (C := Tryd.checked) (os := os) (X := fun w _ => laidMetH Tryd.prog Rows.exprsBracketsRow.laid w) false (World.laidAll Tryd.prog os Rows.exprsBracketsRow.laid) #[.agg #[.int .u8 0, .int .i64 0, .string ByteArray.empty, .slice none 0 0], .int .u8 0] 5 (World.laidAll_os _ _ _)
      (World.shaped_of_ZipB (by kernel_rfl) (by kernel_rfl)) (by kernel_rfl) (by kernel_rfl) (by kernel_rfl)
      (by rw [MakeChecks.laidMetH_plain _ _ _ (by kernel_rfl)]; exact laidMet_laidAll _ (by kernel_rfl) (by kernel_rfl))) ?_
  intro W base args ds gs before hval0 hW hcnd hsz0 hL _
  have hm : laidMet Tryd.prog Rows.exprsBracketsRow.laid W := by rw [← MakeChecks.laidMetH_plain _ _ _ (by kernel_rfl)]; exact hL
  have hvt := V.varT_head hm.tail.tail
  have hvo := V.varOk_head hm.tail.tail.tail.tail
  clear hm hL
  have hsz : (DataW.weightsEach Tryd.prog (Tryd.f5.params.toList ++ Rows.exprsBracketsSpec.plain.varTypes Tryd.prog) (ds ++ gs)).all (· ≤ reachBytes) = true := hsz0
  have hval : ∀ (j : Nat) t v, Tryd.f5.params[j]? = some t → args[j]? = some v → Value.okWide Tryd.prog W .any base t v := hval0
  have hW' := hW
  obtain ⟨p, q, hA0, hV, rfl, hfz, hnd⟩ := hW
  have hA : DataW.TrodAll enc Tryd.prog W 0 (fun _ => true) true Tryd.f5.params.toList args.toList ds p := hA0
  rw [Tryd.params5] at hA hval hsz
  obtain ⟨v0, vs0, d0, ds0, p0, q0, hargs, rfl, rfl, h0, r0⟩ := trodAll_cons hA
  obtain ⟨v1, vs1, d1, ds1, p1, q1, rfl, rfl, rfl, h1, r1⟩ := trodAll_cons r0
  obtain ⟨rfl, rfl, rfl⟩ := trodAll_nil r1
  obtain rfl : args = #[v0, v1] := by cases args; simp_all
  obtain ⟨rfl, rfl⟩ := trodVars_none hV
  have hz0 := hsz
  obtain ⟨z0, hz1⟩ := Tr.wsplit hz0
  obtain ⟨x, hk0, wf0⟩ := Tr.TrAt.arg Tr.trAt_expr h0 z0
  obtain ⟨cs0, rfl, _⟩ := okWide_struct Tryd.underlying25 (hval 0 25 v0 rfl rfl)
  obtain ⟨A0, c0, e0, hc0, hr0⟩ := V.k25_open hk0
  have e1 : cs0.toList = [.int .u8 x.f0, .int .i64 x.f1, .string x.f2, .slice A0 x.f3.length c0] := e0
  obtain rfl : cs0 = #[.int .u8 x.f0, .int .i64 x.f1, .string x.f2, .slice A0 x.f3.length c0] := by
    have := congrArg List.toArray e1
    simpa using this
  obtain ⟨a1, rfl, rfl, rfl, w1⟩ := open_int Tryd.underlying5 (hval 1 5 v1 rfl rfl) h1
  clear hA0 hval0 hsz0 hsz hz0 hz1 e1 e0
  obtain ⟨o1, rfl, ho1⟩ := byte_nat w1
  refine (V.exprsBrackets_walk x wf0.1 wf0.2 A0 c0 o1 ho1 W hc0 hr0 hvo hvt).mono fun e W' ⟨he, bel⟩ => ?_
  subst he
  exact ⟨_, rfl, _, _, _, [], _, [], hW', trodAll_mk1 (shut_bool Tryd.underlying4 _), (trodAll_cons_mk (Below.trod laidOut (by kernel_rfl) (of_decide_eq_true (by kernel_rfl)) h0 bel (Tr.lt_of_trod h0)) (trodAll_cons_mk (shut_int Tryd.underlying5 w1) trodAll_mk0)), rfl, bel.frame _, fun h => by cases h⟩
theorem over : Rows.exprsBracketsRow.holds Tryd.pinned (OpenSpec.ofChange Rows.exprsBracketsSpec) :=
  OpenClaim.holds_of_wide 5 Tryd.f5 rfl rfl rfl rfl rfl rfl rfl ⟨rfl, rfl, rfl, rfl, rfl⟩ rfl rfl rfl rfl rfl (by kernel_rfl) Tryd.func5 (by kernel_rfl)
    (of_decide_eq_true (by kernel_rfl)) (by unfold Func.isWrapper; first | (rw [if_pos (by decide +kernel)]; kernel_rfl) | (rw [if_neg (by decide +kernel)]; exact ⟨rfl, rfl⟩))
    (fun os started H enc _ => lifted os started H enc)
theorem proved : Rows.ExprsBracketsSaid := over
theorem card : Rows.ExprsBracketsCardSaid :=
  Claim7.holds_tied_plain_at .later [] [.data, .data, .data, .data, .sentinel, .sentinel, .pinned] true (true, "12f6fd4a1ca24f68a4083e78b506cf8cbd9759aede10807852c1897726860fcb") true proved (fun _ h => by cases h) (by kernel_rfl) (fun _ h => by cases h) exprsBrackets_row_tie rfl ⟨rfl, rfl⟩ (by kernel_rfl) rfl
    (fun f fn hf hfn => by
      obtain rfl : f = 5 := Option.some.inj ((show Tryd.prog.funcNamed "belfry/belfrylaw05.ExprsBrackets" = some 5 by kernel_rfl).symm.trans hf) |>.symm
      obtain rfl : fn = Tryd.f5 := (Option.some.inj (Tryd.func5.symm.trans hfn)).symm
      exact ⟨by kernel_rfl, fun j t ht => by
        rw [Tryd.params5] at ht
        have hm := Array.mem_of_getElem? ht
        have hall : (Tryd.f5.params.toList.all fun u => !Tryd.prog.wantsStandIn u) = true := by kernel_rfl
        rw [Tryd.params5] at hall
        exact (show Tryd.prog.wantsStandIn t = false by simpa using List.all_eq_true.1 hall t (by simpa using hm))⟩)
    (by kernel_rfl)
#print axioms card
end Go.Proofs.YtbdciibbgiphcaaDoor.exprsBrackets
namespace Go.Proofs.YtbdciibbgiphcaaDoor
/-- The card, under a short name, for the claim. -/
theorem exprsBrackets_card : Rows.ExprsBracketsCardSaid := exprsBrackets.card
end Go.Proofs.YtbdciibbgiphcaaDoor
