/- Maps told as functions: the operations within a fence; keys that are texts or numbers. -/
import Derived.Test.YtfkggeakjgphjaaMapG
import Derived.Test.YtfkggeakjgphjaaThA
import Derived.Maps.OwnIn
namespace Go.Proofs.MapG
set_option linter.unusedVariables false
set_option linter.unusedSimpArgs false
set_option linter.unusedSectionVars false
open Go.RowKit Go.MapKept
section
variable {α : Type} [DecidableEq α] {enc : α → Value} {ok : α → Prop} {F : Fence} {nF : Nat} {P : Program} {w w1 : World} {b : Nat} {f : α → Option Value} {T K E : TypeId} {z : Value}
theorem wpListIn_look {ops : Array Oper} {rest : List Oper} {o : Oper} {act : Act} {Q : Exit → Act → World → Prop} (hg : o.guard = none) (m x : Operand) (c : Bool) (hop : o.op = Op.lookup T m x c)
    (hT : P.underlying T = some (.map K E)) (hK : Go.Maps.Keyed P K) (hz : (zeroValue E).run P w = .ok z w) (hinj : ∀ a a', enc a = enc a' → a = a') (hkey : ∀ a, ok a → ∃ l, keyOf P K (enc a) = some l) (h : MapE enc ok w b f) (a : α) (ha : ok a)
    (hm : act.eval m = .map (some b)) (hx : act.eval x = enc a)
    (hK2 : wpListIn F nF P ops Q rest (act.put o.dst (if c then .tuple #[(f a).getD z, .bool (f a).isSome] else (f a).getD z)) w) :
    wpListIn F nF P ops Q (o :: rest) act w := by
  refine wpListIn_plain hg fun K' hK' => ?_
  unfold Oper.wpIn
  refine ⟨by simp [Oper.about, hop], ?_⟩
  rw [Oper.semAt_plain F _ _ (by rw [hop]; intro c hc'; cases hc')]
  simp [execOp, hop, hm, hx, run_lookup hT hK hz hinj hkey h a ha, Result.andThen]
  exact hK' _ _ hK2
theorem wpListIn_look_no {ops : Array Oper} {rest : List Oper} {o : Oper} {act : Act} {Q : Exit → Act → World → Prop} (hg : o.guard = none) (m x : Operand) (hop : o.op = Op.lookup T m x true)
    (hT : P.underlying T = some (.map K E)) (hK : Go.Maps.Keyed P K) (hz : (zeroValue E).run P w = .ok z w) (hinj : ∀ a a', enc a = enc a' → a = a') (hkey : ∀ a, ok a → ∃ l, keyOf P K (enc a) = some l) (h : MapE enc ok w b f) (a : α) (ha : ok a) (hf : f a = none)
    (hm : act.eval m = .map (some b)) (hx : act.eval x = enc a)
    (hK2 : wpListIn F nF P ops Q rest (act.put o.dst (.tuple #[z, .bool false])) w) :
    wpListIn F nF P ops Q (o :: rest) act w := by
  refine wpListIn_look hg m x true hop hT hK hz hinj hkey h a ha hm hx ?_
  rw [hf]; exact hK2
theorem wpListIn_look_yes {ops : Array Oper} {rest : List Oper} {o : Oper} {act : Act} {Q : Exit → Act → World → Prop} (hg : o.guard = none) (m x : Operand) (hop : o.op = Op.lookup T m x true)
    (hT : P.underlying T = some (.map K E)) (hK : Go.Maps.Keyed P K) (hz : (zeroValue E).run P w = .ok z w) (hinj : ∀ a a', enc a = enc a' → a = a') (hkey : ∀ a, ok a → ∃ l, keyOf P K (enc a) = some l) (h : MapE enc ok w b f) (a : α) (ha : ok a) (v : Value) (hf : f a = some v)
    (hm : act.eval m = .map (some b)) (hx : act.eval x = enc a)
    (hK2 : wpListIn F nF P ops Q rest (act.put o.dst (.tuple #[v, .bool true])) w) :
    wpListIn F nF P ops Q (o :: rest) act w := by
  refine wpListIn_look hg m x true hop hT hK hz hinj hkey h a ha hm hx ?_
  rw [hf]; exact hK2
theorem wpListIn_look1 {ops : Array Oper} {rest : List Oper} {o : Oper} {act : Act} {Q : Exit → Act → World → Prop} (hg : o.guard = none) (m x : Operand) (hop : o.op = Op.lookup T m x false)
    (hT : P.underlying T = some (.map K E)) (hK : Go.Maps.Keyed P K) (hz : (zeroValue E).run P w = .ok z w) (hinj : ∀ a a', enc a = enc a' → a = a') (hkey : ∀ a, ok a → ∃ l, keyOf P K (enc a) = some l) (h : MapE enc ok w b f) (a : α) (ha : ok a) (v : Value) (hf : (f a).getD z = v)
    (hm : act.eval m = .map (some b)) (hx : act.eval x = enc a)
    (hK2 : wpListIn F nF P ops Q rest (act.put o.dst v) w) :
    wpListIn F nF P ops Q (o :: rest) act w := by
  refine wpListIn_look hg m x false hop hT hK hz hinj hkey h a ha hm hx ?_
  rw [hf]; exact hK2
theorem wpListIn_upd {ops : Array Oper} {rest : List Oper} {o : Oper} {act : Act} {Q : Exit → Act → World → Prop} (hg : o.guard = none) (m x y : Operand) (hop : o.op = Op.mapUpdate T m x y)
    (hT : P.underlying T = some (.map K E)) (hK : Go.Maps.Keyed P K) (hinj : ∀ a a', enc a = enc a' → a = a') (hkey : ∀ a, ok a → ∃ l, keyOf P K (enc a) = some l) (h : MapE enc ok w b f) (a : α) (ha : ok a) (v : Value)
    (hm : act.eval m = .map (some b)) (hx : act.eval x = enc a) (hy : act.eval y = v)
    (hK2 : ∀ w', MapE enc ok w' b (fun k => if k = a then some v else f k) → w.grownBy w' (some b) → wpListIn F nF P ops Q rest (act.put o.dst undef) w') :
    wpListIn F nF P ops Q (o :: rest) act w := by
  refine wpListIn_plain hg fun K' hK' => ?_
  obtain ⟨w', hrun, h1, h2⟩ := run_update hT hK hinj hkey h a ha v
  unfold Oper.wpIn
  refine ⟨by simp [Oper.about, hop], ?_⟩
  rw [Oper.semAt_plain F _ _ (by rw [hop]; intro c hc'; cases hc')]
  simp [execOp, hop, hm, hx, hy, hrun, Result.andThen]
  exact hK' _ _ (hK2 w' h1 h2)
theorem wpList_look1 {ops : Array Oper} {rest : List Oper} {o : Oper} {act : Act} {Q : Exit → Act → World → Prop} (hg : o.guard = none) (m x : Operand) (hop : o.op = Op.lookup T m x false)
    (hT : P.underlying T = some (.map K E)) (hK : Go.Maps.Keyed P K) (hz : (zeroValue E).run P w = .ok z w) (hinj : ∀ a a', enc a = enc a' → a = a') (hkey : ∀ a, ok a → ∃ l, keyOf P K (enc a) = some l) (h : MapE enc ok w b f) (a : α) (ha : ok a) (v : Value) (hf : (f a).getD z = v)
    (hm : act.eval m = .map (some b)) (hx : act.eval x = enc a)
    (hK2 : wpList P ops Q rest (act.put o.dst v) w) :
    wpList P ops Q (o :: rest) act w := by
  refine wpList_look hg m x false hop hT hK hz hinj hkey h a ha hm hx ?_
  rw [hf]; exact hK2
end
end Go.Proofs.MapG
namespace Go.Proofs.Ytfkggeakjgphjaa.C
set_option linter.unusedVariables false
open Go.RowKit Go.Shelf Go.Proofs.YtfkggeakjgphjaaW.PrintWords Go.Proofs.YtfkggeakjgphjaaW.PrintLast Go.Proofs.YtfkggeakjgphjaaW.PrintMore
def encS (s : ByteArray) : Value := .string s
def okS (s : ByteArray) : Prop := s.size ≤ maxLen
theorem encS_inj : ∀ a a', encS a = encS a' → a = a' := fun a a' h => by injection h
def encI (n : Int) : Value := .int .i64 n
def okI (n : Int) : Prop := (Lit.int .i64 n).wf = true
theorem encI_inj : ∀ a a', encI a = encI a' → a = a' := fun a a' h => by injection h
theorem keyedS : Go.Maps.Keyed Try.prog 9 := Go.Maps.string_keyed Try.underlying9
theorem keyedI : Go.Maps.Keyed Try.prog 3 := Go.Maps.int_keyed Try.underlying3
theorem keyS : ∀ a, okS a → ∃ l, keyOf Try.prog 9 (encS a) = some l := fun a h => ⟨_, Go.WideMaps.keyOf_string_mk Try.underlying9 h⟩
theorem keyI : ∀ a, okI a → ∃ l, keyOf Try.prog 3 (encI a) = some l := fun a h => ⟨_, Go.Maps.keyOf_int_mk Try.underlying3 h⟩
theorem zero59 (w : World) : (zeroValue 59).run Try.prog w = .ok (.agg #[.int .i64 0, .int .u8 0, .int .i64 0]) w := by kernel_rfl
theorem zero4' (w : World) : (zeroValue 4).run Try.prog w = .ok (.bool false) w := by kernel_rfl
theorem zero35 (w : World) : (zeroValue 35).run Try.prog w = .ok (.slice none 0 0) w := by kernel_rfl
theorem zero3 (w : World) : (zeroValue 3).run Try.prog w = .ok (.int .i64 0) w := by kernel_rfl
end Go.Proofs.Ytfkggeakjgphjaa.C
