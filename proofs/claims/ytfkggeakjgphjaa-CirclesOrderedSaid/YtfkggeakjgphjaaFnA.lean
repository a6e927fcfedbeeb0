/- names.Find: walked. -/
import Derived.Test.YtfkggeakjgphjaaThA
import Derived.RangeFuncBox
namespace Go.Proofs.Ytfkggeakjgphjaa.C
set_option linter.unusedVariables false
set_option linter.unusedSimpArgs false
set_option linter.unusedSectionVars false
open Go.RowKit Go.Shelf Go.Proofs.YtfkggeakjgphjaaW.PrintWords Go.Proofs.YtfkggeakjgphjaaW.PrintLast Go.Proofs.YtfkggeakjgphjaaW.PrintMore
open Go.Proofs.RngT
attribute [local go_sem] Oper.semAt_some

/-- names.things: the program is boxed; the function value captures the box. -/
theorem things_any (a b c d : Value) (w : World) :
    Calls Try.prog 22 #[.agg #[a, b, c, d]] w fun e w' => e = .returned (.func (.func 44) #[] #[.pointer (some ⟨w.heap.size, 0, none⟩)]) ∧ w' = w.alloc (.cells #[a, b, c, d] 26) := by
  have hmf : ∀ (fn : Fn) (first cap : Array Value) (w : World), (Instr.makeFunc fn first cap).run Try.prog w = .ok (.func fn first cap) w := fun _ _ _ _ => rfl
  go_enter Try.func22, Try.ntmps22
  go_wp2_with fail
  go_ret
  exact ⟨rfl, rfl⟩

/-- names.things hands back an iterator. -/
theorem things_seq (n : Nat) (hn : 1 ≤ n) (T : Nat → Prop) (B : Nat) (w0 w : World) (st : Int) (ins : List S84) (fls : List S51) (outs : List ByteArray) (A1 A2 A3 : Option Addr) (c1 c2 c3 : Nat)
    (hl1 : ins.length ≤ 140737488351232) (hl2 : fls.length ≤ 140737488351232)
    (hC1 : Kd.C k84 w0 A1 ins.length ins) (hc1 : ins.length ≤ c1) (hC2 : Kd.C k51 w0 A2 fls.length fls) (hc2 : fls.length ≤ c2)
    (hw0 : Below w0.heap.size w0 w) (hnB : w0.heap.size ≤ B) (hBw : B < w.heap.size) (hTn : ∀ j, T j → w0.heap.size ≤ j) (hTB : ¬ T B)
    (hbox : w.heap[B]? = some (.cells #[.int .i64 st, .slice A1 ins.length c1, .slice A2 fls.length c2, .slice A3 outs.length c3] 26 (0, 0))) :
    SeqT Fence.wide n Try.prog 44 #[.pointer (some ⟨B, 0, none⟩)] encTh T (fun xs => xs = things ins fls) (fun pre => pre <+: things ins fls) (fun pre x => pre ++ [x] <+: things ins fls) w := by
  intro l J Jx W hl hlW hW hJ hJx hY h0
  have := hw0.size
  exact things1_in n hn T l B w0.heap.size w0 st ins fls outs A1 A2 A3 c1 c2 c3 hl1 hl2 hC1 hc1 hC2 hc2 J Jx W (hw0.trans (hW.mono this)) hnB rfl (Nat.lt_of_lt_of_le hBw hW.size) hTn hTB (by omega) (by omega) hJ hJx hY ((hW.block B hBw).trans hbox) h0

/-- who has a name. -/
def fnd (ins : List S84) (fls : List S51) (nm : ByteArray) : Option Th := (things ins fls).find? fun x => decide (x.1 = nm)
def fndV : Option Th → Value
  | some x => .tuple #[.int .i64 x.2.1, .int .u8 x.2.2.1, .int .i64 x.2.2.2, .bool true]
  | none => .tuple #[.int .i64 0, .int .u8 0, .int .i64 0, .bool false]
end Go.Proofs.Ytfkggeakjgphjaa.C
