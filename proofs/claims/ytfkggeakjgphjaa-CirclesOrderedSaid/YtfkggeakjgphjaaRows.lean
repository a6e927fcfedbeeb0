/-
  NARROWER THAN 'FOR EVERY INPUT', by the rows' own cells (each row's printed sentence says how): CirclesRound: loops · CirclesMore: loops.
  DERIVED. THE GIVEN ROWS OF THIS SEAT. 5 by the template 'for every input the law returns true; each argument reads behind the call as it read before'; 0 by the template 'total and deterministic' (their statements: YtfkggeakjgphjaaTotals.lean).
  GIVEN WITH THE SEED: the statements are not yours to turn. If you find one false, say at which input.
  Laid BY PROGRAM, IN A SANDBOX (cutbox-rows.mjs): the forced cells as the released guide's own fill.sh prints them over the translation 7fdafcfc9270e6b6… (all of the seat's roots in one cut). By AI agents, Wed Nov 11 2026. No macro, syntax, notation, axiom, sorry.
-/
import Derived.Test.YtfkggeakjgphjaaChecked
import GoSem.Claim
import GoSem.ClaimJoined
import GoSem.ClaimMapViews
import Derived.JoinedTies
import Derived.KernelRfl
namespace Go.Proofs.Ytfkggeakjgphjaa
/- THE CELL 'sum', in the pinned program and in every row, IS THE sha256 OF THE DUMP (.gsa) THAT YtfkggeakjgphjaaProg.lean LOADS. Nothing in Lean hashes anything: it is a label: what it is worth is what the hold of that sum in a sandbox is worth. -/
noncomputable def Try.pinned : Pinned := { name := "ytfkggeakjgphjaa", sum := "7fdafcfc9270e6b61c4dd6677dc8a9dad262b0021d6983198f48c706126acef9", checked := Try.checked }
namespace Rows
def none {H : Type} : Left H := { results := [], args := [] }

/-- 'belfrylaw09.CirclesRound': WHATEVER THE INPUT: true; the input reads as it did. -/
def circlesRoundSpec : ChangeSpec := { name := "circlesRound", fn := fun _ => fun
  | [d] => { results := [.lit (.bool true)], args := [d] }
  | _ => none }
def circlesRoundRow : OpenClaim := { program := "ytfkggeakjgphjaa", sum := "7fdafcfc9270e6b61c4dd6677dc8a9dad262b0021d6983198f48c706126acef9", func := "belfry/belfrylaw09.CirclesRound", spec := "circlesRound", unfollowed := true, recurses := true, loops := true, plainKeys := false, apart := false }
def CirclesRoundSaid : Prop := circlesRoundRow.holds Try.pinned (OpenSpec.ofChange circlesRoundSpec)

/-- ITS FALSE NEIGHBOUR: 'it returns false'. Refute it at one input. -/
def circlesRoundWrong : ChangeSpec := { name := "circlesRound", fn := fun _ => fun
  | [d] => { results := [.lit (.bool false)], args := [d] }
  | _ => none }
def CirclesRoundWrongFalsely : Prop := circlesRoundRow.holds Try.pinned (OpenSpec.ofChange circlesRoundWrong)

/-- 'belfrylaw09.CirclesOrdered': WHATEVER THE INPUT: true; the input reads as it did. -/
def circlesOrderedSpec : ChangeSpec := { name := "circlesOrdered", fn := fun _ => fun
  | [d1, d2] => { results := [.lit (.bool true)], args := [d1, d2] }
  | _ => none }
def circlesOrderedRow : OpenClaim := { program := "ytfkggeakjgphjaa", sum := "7fdafcfc9270e6b61c4dd6677dc8a9dad262b0021d6983198f48c706126acef9", func := "belfry/belfrylaw09.CirclesOrdered", spec := "circlesOrdered", unfollowed := true, recurses := true, plainKeys := false, apart := false }
def CirclesOrderedSaid : Prop := circlesOrderedRow.holds Try.pinned (OpenSpec.ofChange circlesOrderedSpec)

/-- ITS FALSE NEIGHBOUR: 'it returns false'. Refute it at one input. -/
def circlesOrderedWrong : ChangeSpec := { name := "circlesOrdered", fn := fun _ => fun
  | [d1, d2] => { results := [.lit (.bool false)], args := [d1, d2] }
  | _ => none }
def CirclesOrderedWrongFalsely : Prop := circlesOrderedRow.holds Try.pinned (OpenSpec.ofChange circlesOrderedWrong)

/-- 'belfrylaw09.CirclesRing': WHATEVER THE INPUT: true; the input reads as it did. -/
def circlesRingSpec : ChangeSpec := { name := "circlesRing", fn := fun _ => fun
  | [d1, d2] => { results := [.lit (.bool true)], args := [d1, d2] }
  | _ => none }
def circlesRingRow : OpenClaim := { program := "ytfkggeakjgphjaa", sum := "7fdafcfc9270e6b61c4dd6677dc8a9dad262b0021d6983198f48c706126acef9", func := "belfry/belfrylaw09.CirclesRing", spec := "circlesRing", unfollowed := true, recurses := true, plainKeys := false, apart := false }
def CirclesRingSaid : Prop := circlesRingRow.holds Try.pinned (OpenSpec.ofChange circlesRingSpec)

/-- ITS FALSE NEIGHBOUR: 'it returns false'. Refute it at one input. -/
def circlesRingWrong : ChangeSpec := { name := "circlesRing", fn := fun _ => fun
  | [d1, d2] => { results := [.lit (.bool false)], args := [d1, d2] }
  | _ => none }
def CirclesRingWrongFalsely : Prop := circlesRingRow.holds Try.pinned (OpenSpec.ofChange circlesRingWrong)

/-- 'belfrylaw09.CirclesShort': WHATEVER THE INPUT: true; the input reads as it did. -/
def circlesShortSpec : ChangeSpec := { name := "circlesShort", fn := fun _ => fun
  | [d1, d2] => { results := [.lit (.bool true)], args := [d1, d2] }
  | _ => none }
def circlesShortRow : OpenClaim := { program := "ytfkggeakjgphjaa", sum := "7fdafcfc9270e6b61c4dd6677dc8a9dad262b0021d6983198f48c706126acef9", func := "belfry/belfrylaw09.CirclesShort", spec := "circlesShort", unfollowed := true, recurses := true, plainKeys := false, apart := false }
def CirclesShortSaid : Prop := circlesShortRow.holds Try.pinned (OpenSpec.ofChange circlesShortSpec)

/-- ITS FALSE NEIGHBOUR: 'it returns false'. Refute it at one input. -/
def circlesShortWrong : ChangeSpec := { name := "circlesShort", fn := fun _ => fun
  | [d1, d2] => { results := [.lit (.bool false)], args := [d1, d2] }
  | _ => none }
def CirclesShortWrongFalsely : Prop := circlesShortRow.holds Try.pinned (OpenSpec.ofChange circlesShortWrong)

/-- 'belfrylaw09.CirclesMore': WHATEVER THE INPUT: true; the input reads as it did. -/
def circlesMoreSpec : ChangeSpec := { name := "circlesMore", fn := fun _ => fun
  | [d1, d2] => { results := [.lit (.bool true)], args := [d1, d2] }
  | _ => none }
def circlesMoreRow : OpenClaim := { program := "ytfkggeakjgphjaa", sum := "7fdafcfc9270e6b61c4dd6677dc8a9dad262b0021d6983198f48c706126acef9", func := "belfry/belfrylaw09.CirclesMore", spec := "circlesMore", unfollowed := true, recurses := true, loops := true, plainKeys := false, apart := false }
def CirclesMoreSaid : Prop := circlesMoreRow.holds Try.pinned (OpenSpec.ofChange circlesMoreSpec)

/-- ITS FALSE NEIGHBOUR: 'it returns false'. Refute it at one input. -/
def circlesMoreWrong : ChangeSpec := { name := "circlesMore", fn := fun _ => fun
  | [d1, d2] => { results := [.lit (.bool false)], args := [d1, d2] }
  | _ => none }
def CirclesMoreWrongFalsely : Prop := circlesMoreRow.holds Try.pinned (OpenSpec.ofChange circlesMoreWrong)

/- THE SECOND FORM. 'bulk': how many values and letters a reading holds, each counted each time it is reached (what is shared counts as often as it is met; a slice's spare places count too). A statement '..UptoSaid' is the law's where the arguments, and the package variables that the reading takes, are together of bulk at most 1048576: NARROWER than '..Said'. Prove '..Said' where nothing that the law and all that it calls make is longer than what came in: it says more and counts as full. Else prove '..UptoSaid'. A law counts once. -/
mutual
def uptoBulk {H : Type} : DataW H → Nat
  | .lit (.string bytes) => bytes.length + 1
  | .lit _ => 1
  | .nil => 1
  | .ptr d => uptoBulk d + 1
  | .slice elems spare => uptoBulkAll elems + uptoBulkAll spare + 1
  | .agg parts => uptoBulkAll parts + 1
  | .iface _ d => uptoBulk d + 1
  | .map entries => uptoBulkEntries entries + 1
  | .held _ => 1
def uptoBulkAll {H : Type} : List (DataW H) → Nat
  | [] => 0
  | d :: r => uptoBulk d + uptoBulkAll r
def uptoBulkEntries {H : Type} : List (Lit × DataW H) → Nat
  | [] => 0
  | x :: r => uptoBulkEntry x + uptoBulkEntries r
def uptoBulkEntry {H : Type} : Lit × DataW H → Nat
  | (.string bytes, d) => bytes.length + uptoBulk d + 1
  | (_, d) => uptoBulk d + 1
 end
def uptoSmall : (H : Type) → List (DataW H) → Bool := fun _ ds => decide (uptoBulkAll ds ≤ 1048576)
def OpenSpec.upto (s : _root_.Go.ChangeSpec) : _root_.Go.OpenSpec := { _root_.Go.OpenSpec.ofChange s with cond := some uptoSmall }

/-- 'belfrylaw09.CirclesRound', WHERE WHAT IT READS IS OF BULK AT MOST 1048576: true; the input reads as it did. -/
def circlesRoundUptoRow : OpenClaim := { program := "ytfkggeakjgphjaa", sum := "7fdafcfc9270e6b61c4dd6677dc8a9dad262b0021d6983198f48c706126acef9", func := "belfry/belfrylaw09.CirclesRound", spec := "circlesRound", unfollowed := true, recurses := true, loops := true, plainKeys := false, apart := false, narrowed := true }
def CirclesRoundUptoSaid : Prop := circlesRoundUptoRow.holds Try.pinned (OpenSpec.upto circlesRoundSpec)

/-- 'belfrylaw09.CirclesOrdered', WHERE WHAT IT READS IS OF BULK AT MOST 1048576: true; the input reads as it did. -/
def circlesOrderedUptoRow : OpenClaim := { program := "ytfkggeakjgphjaa", sum := "7fdafcfc9270e6b61c4dd6677dc8a9dad262b0021d6983198f48c706126acef9", func := "belfry/belfrylaw09.CirclesOrdered", spec := "circlesOrdered", unfollowed := true, recurses := true, plainKeys := false, apart := false, narrowed := true }
def CirclesOrderedUptoSaid : Prop := circlesOrderedUptoRow.holds Try.pinned (OpenSpec.upto circlesOrderedSpec)

/-- 'belfrylaw09.CirclesRing', WHERE WHAT IT READS IS OF BULK AT MOST 1048576: true; the input reads as it did. -/
def circlesRingUptoRow : OpenClaim := { program := "ytfkggeakjgphjaa", sum := "7fdafcfc9270e6b61c4dd6677dc8a9dad262b0021d6983198f48c706126acef9", func := "belfry/belfrylaw09.CirclesRing", spec := "circlesRing", unfollowed := true, recurses := true, plainKeys := false, apart := false, narrowed := true }
def CirclesRingUptoSaid : Prop := circlesRingUptoRow.holds Try.pinned (OpenSpec.upto circlesRingSpec)

/-- 'belfrylaw09.CirclesShort', WHERE WHAT IT READS IS OF BULK AT MOST 1048576: true; the input reads as it did. -/
def circlesShortUptoRow : OpenClaim := { program := "ytfkggeakjgphjaa", sum := "7fdafcfc9270e6b61c4dd6677dc8a9dad262b0021d6983198f48c706126acef9", func := "belfry/belfrylaw09.CirclesShort", spec := "circlesShort", unfollowed := true, recurses := true, plainKeys := false, apart := false, narrowed := true }
def CirclesShortUptoSaid : Prop := circlesShortUptoRow.holds Try.pinned (OpenSpec.upto circlesShortSpec)

/-- 'belfrylaw09.CirclesMore', WHERE WHAT IT READS IS OF BULK AT MOST 1048576: true; the input reads as it did. -/
def circlesMoreUptoRow : OpenClaim := { program := "ytfkggeakjgphjaa", sum := "7fdafcfc9270e6b61c4dd6677dc8a9dad262b0021d6983198f48c706126acef9", func := "belfry/belfrylaw09.CirclesMore", spec := "circlesMore", unfollowed := true, recurses := true, loops := true, plainKeys := false, apart := false, narrowed := true }
def CirclesMoreUptoSaid : Prop := circlesMoreUptoRow.holds Try.pinned (OpenSpec.upto circlesMoreSpec)

end Rows
end Go.Proofs.Ytfkggeakjgphjaa
