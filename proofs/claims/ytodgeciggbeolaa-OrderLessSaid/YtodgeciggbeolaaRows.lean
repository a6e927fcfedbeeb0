/-
  No cell of these rows narrows 'for every input' (looked for: loops, veiled, ifaces, maps, wideKeys, modest, calm, conditions, laid).
  DERIVED. THE GIVEN ROWS OF THIS SEAT. 5 by the template 'for every input the law returns true; each argument reads behind the call as it read before'; 0 by the template 'total and deterministic' (their statements: YtodgeciggbeolaaTotals.lean).
  GIVEN WITH THE SEED: the statements are not yours to turn. If you find one false, say at which input.
  Laid BY PROGRAM, IN A SANDBOX (cutbox-rows.mjs): the forced cells as the released guide's own fill.sh prints them over the translation cdff5544cd2704ad… (all of the seat's roots in one cut). By AI agents, Wed Nov 11 2026. No macro, syntax, notation, axiom, sorry.
-/
import Derived.Test.YtodgeciggbeolaaChecked
import GoSem.Claim
import GoSem.ClaimJoined
import GoSem.ClaimMapViews
import Derived.JoinedTies
import Derived.KernelRfl
namespace Go.Proofs.Ytodgeciggbeolaa
/- THE CELL 'sum', in the pinned program and in every row, IS THE sha256 OF THE DUMP (.gsa) THAT YtodgeciggbeolaaProg.lean LOADS. Nothing in Lean hashes anything: it is a label: what it is worth is what the hold of that sum in a sandbox is worth. -/
noncomputable def Try.pinned : Pinned := { name := "ytodgeciggbeolaa", sum := "cdff5544cd2704ad6a3e043490ee1c936ae08559bb01f03224ce176fd75da8d1", checked := Try.checked }
namespace Rows
def none {H : Type} : Left H := { results := [], args := [] }

/-- 'belfrylaw13.OrderBehind': WHATEVER THE INPUT: true; the input reads as it did. -/
def orderBehindSpec : ChangeSpec := { name := "orderBehind", fn := fun _ => fun
  | [d] => { results := [.lit (.bool true)], args := [d] }
  | _ => none }
def orderBehindRow : OpenClaim := { program := "ytodgeciggbeolaa", sum := "cdff5544cd2704ad6a3e043490ee1c936ae08559bb01f03224ce176fd75da8d1", func := "belfry/belfrylaw13.OrderBehind", spec := "orderBehind", unfollowed := true, recurses := true, apart := false }
def OrderBehindSaid : Prop := orderBehindRow.holds Try.pinned (OpenSpec.ofChange orderBehindSpec)

/-- ITS FALSE NEIGHBOUR: 'it returns false'. Refute it at one input. -/
def orderBehindWrong : ChangeSpec := { name := "orderBehind", fn := fun _ => fun
  | [d] => { results := [.lit (.bool false)], args := [d] }
  | _ => none }
def OrderBehindWrongFalsely : Prop := orderBehindRow.holds Try.pinned (OpenSpec.ofChange orderBehindWrong)

/-- 'belfrylaw13.OrderLess': WHATEVER THE INPUT: true; the input reads as it did. -/
def orderLessSpec : ChangeSpec := { name := "orderLess", fn := fun _ => fun
  | [d1, d2] => { results := [.lit (.bool true)], args := [d1, d2] }
  | _ => none }
def orderLessRow : OpenClaim := { program := "ytodgeciggbeolaa", sum := "cdff5544cd2704ad6a3e043490ee1c936ae08559bb01f03224ce176fd75da8d1", func := "belfry/belfrylaw13.OrderLess", spec := "orderLess", unfollowed := true, recurses := true, apart := false }
def OrderLessSaid : Prop := orderLessRow.holds Try.pinned (OpenSpec.ofChange orderLessSpec)

/-- ITS FALSE NEIGHBOUR: 'it returns false'. Refute it at one input. -/
def orderLessWrong : ChangeSpec := { name := "orderLess", fn := fun _ => fun
  | [d1, d2] => { results := [.lit (.bool false)], args := [d1, d2] }
  | _ => none }
def OrderLessWrongFalsely : Prop := orderLessRow.holds Try.pinned (OpenSpec.ofChange orderLessWrong)

/-- 'belfrylaw13.OrderRising': WHATEVER THE INPUT: true; the input reads as it did. -/
def orderRisingSpec : ChangeSpec := { name := "orderRising", fn := fun _ => fun
  | [d] => { results := [.lit (.bool true)], args := [d] }
  | _ => none }
def orderRisingRow : OpenClaim := { program := "ytodgeciggbeolaa", sum := "cdff5544cd2704ad6a3e043490ee1c936ae08559bb01f03224ce176fd75da8d1", func := "belfry/belfrylaw13.OrderRising", spec := "orderRising", unfollowed := true, recurses := true, apart := false }
def OrderRisingSaid : Prop := orderRisingRow.holds Try.pinned (OpenSpec.ofChange orderRisingSpec)

/-- ITS FALSE NEIGHBOUR: 'it returns false'. Refute it at one input. -/
def orderRisingWrong : ChangeSpec := { name := "orderRising", fn := fun _ => fun
  | [d] => { results := [.lit (.bool false)], args := [d] }
  | _ => none }
def OrderRisingWrongFalsely : Prop := orderRisingRow.holds Try.pinned (OpenSpec.ofChange orderRisingWrong)

/-- 'belfrylaw13.OrderRing': WHATEVER THE INPUT: true; the input reads as it did. -/
def orderRingSpec : ChangeSpec := { name := "orderRing", fn := fun _ => fun
  | [d1, d2] => { results := [.lit (.bool true)], args := [d1, d2] }
  | _ => none }
def orderRingRow : OpenClaim := { program := "ytodgeciggbeolaa", sum := "cdff5544cd2704ad6a3e043490ee1c936ae08559bb01f03224ce176fd75da8d1", func := "belfry/belfrylaw13.OrderRing", spec := "orderRing", unfollowed := true, recurses := true, apart := false }
def OrderRingSaid : Prop := orderRingRow.holds Try.pinned (OpenSpec.ofChange orderRingSpec)

/-- ITS FALSE NEIGHBOUR: 'it returns false'. Refute it at one input. -/
def orderRingWrong : ChangeSpec := { name := "orderRing", fn := fun _ => fun
  | [d1, d2] => { results := [.lit (.bool false)], args := [d1, d2] }
  | _ => none }
def OrderRingWrongFalsely : Prop := orderRingRow.holds Try.pinned (OpenSpec.ofChange orderRingWrong)

/-- 'belfrylaw13.OrderLast': WHATEVER THE INPUT: true; the input reads as it did. -/
def orderLastSpec : ChangeSpec := { name := "orderLast", fn := fun _ => fun
  | [d] => { results := [.lit (.bool true)], args := [d] }
  | _ => none }
def orderLastRow : OpenClaim := { program := "ytodgeciggbeolaa", sum := "cdff5544cd2704ad6a3e043490ee1c936ae08559bb01f03224ce176fd75da8d1", func := "belfry/belfrylaw13.OrderLast", spec := "orderLast", unfollowed := true, recurses := true, apart := false }
def OrderLastSaid : Prop := orderLastRow.holds Try.pinned (OpenSpec.ofChange orderLastSpec)

/-- ITS FALSE NEIGHBOUR: 'it returns false'. Refute it at one input. -/
def orderLastWrong : ChangeSpec := { name := "orderLast", fn := fun _ => fun
  | [d] => { results := [.lit (.bool false)], args := [d] }
  | _ => none }
def OrderLastWrongFalsely : Prop := orderLastRow.holds Try.pinned (OpenSpec.ofChange orderLastWrong)

/- THE SECOND FORM. 'bulk': how many values and letters a reading holds, each counted each time it is reached (what is shared counts as often as it is met; a slice's spare places count too). A statement '..UptoSaid' is the law's where the arguments, and the package variables that the reading takes, are together of bulk at most 1048576: NARROWER than '..Said'. Prove '..Said' where nothing that the law and all that it calls make is longer than what came in: it says more and counts as full. Else prove '..UptoSaid'. A law counts once. -/
mutual
def uptoBulk {H : Type} : DataW H → Nat
  | .lit (.string bytes) => bytes.length + 1
  | .lit _ => 1
  | .nil => 1
  | .ptr d => uptoBulk d + 1
  | .slice elems spare => uptoBulkAll elems + uptoBulkAll spare + 1
  | .agg parts => uptoBulkAll parts + 1
  | .iface _ d => uptoBulk d + 1
  | .map entries => uptoBulkEntries entries + 1
  | .held _ => 1
def uptoBulkAll {H : Type} : List (DataW H) → Nat
  | [] => 0
  | d :: r => uptoBulk d + uptoBulkAll r
def uptoBulkEntries {H : Type} : List (Lit × DataW H) → Nat
  | [] => 0
  | x :: r => uptoBulkEntry x + uptoBulkEntries r
def uptoBulkEntry {H : Type} : Lit × DataW H → Nat
  | (.string bytes, d) => bytes.length + uptoBulk d + 1
  | (_, d) => uptoBulk d + 1
 end
def uptoSmall : (H : Type) → List (DataW H) → Bool := fun _ ds => decide (uptoBulkAll ds ≤ 1048576)
def OpenSpec.upto (s : _root_.Go.ChangeSpec) : _root_.Go.OpenSpec := { _root_.Go.OpenSpec.ofChange s with cond := some uptoSmall }

/-- 'belfrylaw13.OrderBehind', WHERE WHAT IT READS IS OF BULK AT MOST 1048576: true; the input reads as it did. -/
def orderBehindUptoRow : OpenClaim := { program := "ytodgeciggbeolaa", sum := "cdff5544cd2704ad6a3e043490ee1c936ae08559bb01f03224ce176fd75da8d1", func := "belfry/belfrylaw13.OrderBehind", spec := "orderBehind", unfollowed := true, recurses := true, apart := false, narrowed := true }
def OrderBehindUptoSaid : Prop := orderBehindUptoRow.holds Try.pinned (OpenSpec.upto orderBehindSpec)

/-- 'belfrylaw13.OrderLess', WHERE WHAT IT READS IS OF BULK AT MOST 1048576: true; the input reads as it did. -/
def orderLessUptoRow : OpenClaim := { program := "ytodgeciggbeolaa", sum := "cdff5544cd2704ad6a3e043490ee1c936ae08559bb01f03224ce176fd75da8d1", func := "belfry/belfrylaw13.OrderLess", spec := "orderLess", unfollowed := true, recurses := true, apart := false, narrowed := true }
def OrderLessUptoSaid : Prop := orderLessUptoRow.holds Try.pinned (OpenSpec.upto orderLessSpec)

/-- 'belfrylaw13.OrderRising', WHERE WHAT IT READS IS OF BULK AT MOST 1048576: true; the input reads as it did. -/
def orderRisingUptoRow : OpenClaim := { program := "ytodgeciggbeolaa", sum := "cdff5544cd2704ad6a3e043490ee1c936ae08559bb01f03224ce176fd75da8d1", func := "belfry/belfrylaw13.OrderRising", spec := "orderRising", unfollowed := true, recurses := true, apart := false, narrowed := true }
def OrderRisingUptoSaid : Prop := orderRisingUptoRow.holds Try.pinned (OpenSpec.upto orderRisingSpec)

/-- 'belfrylaw13.OrderRing', WHERE WHAT IT READS IS OF BULK AT MOST 1048576: true; the input reads as it did. -/
def orderRingUptoRow : OpenClaim := { program := "ytodgeciggbeolaa", sum := "cdff5544cd2704ad6a3e043490ee1c936ae08559bb01f03224ce176fd75da8d1", func := "belfry/belfrylaw13.OrderRing", spec := "orderRing", unfollowed := true, recurses := true, apart := false, narrowed := true }
def OrderRingUptoSaid : Prop := orderRingUptoRow.holds Try.pinned (OpenSpec.upto orderRingSpec)

/-- 'belfrylaw13.OrderLast', WHERE WHAT IT READS IS OF BULK AT MOST 1048576: true; the input reads as it did. -/
def orderLastUptoRow : OpenClaim := { program := "ytodgeciggbeolaa", sum := "cdff5544cd2704ad6a3e043490ee1c936ae08559bb01f03224ce176fd75da8d1", func := "belfry/belfrylaw13.OrderLast", spec := "orderLast", unfollowed := true, recurses := true, apart := false, narrowed := true }
def OrderLastUptoSaid : Prop := orderLastUptoRow.holds Try.pinned (OpenSpec.upto orderLastSpec)

end Rows
end Go.Proofs.Ytodgeciggbeolaa
