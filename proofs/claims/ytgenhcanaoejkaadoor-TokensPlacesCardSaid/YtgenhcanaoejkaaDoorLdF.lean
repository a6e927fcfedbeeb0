/- What the cell 'laid' gives: the variable that a number too great leads to holds an error. -/
import Derived.Test.YtgenhcanaoejkaaDoorRows
import Derived.Test.YtgenhcanaoejkaaDoorExtD
import Derived.Stop.LaidErr
import Derived.MakeChecks
namespace Go.Proofs.YtgenhcanaoejkaaDoor.S
open Go.RowKit Go.ChangeShapes
theorem star : "*" ++ "errors.errorString" = "*errors.errorString" := by decide
theorem row87 (u : TypeId) (h : Tryd.prog.typeName? 3 u = some "*errors.errorString") : u = 87 :=
  typeName_ptr_named (nm := "errors.errorString") (by rw [star]; kernel_rfl) (by kernel_rfl) (by decide) u (by rw [star]; exact h)
theorem gR : Tryd.prog.globalNamed "strconv.ErrRange" = some 1 := by kernel_rfl
theorem gRType : (Tryd.prog.globals[1]?).map (·.type) = some 46 := by kernel_rfl
theorem cells89 : Tryd.prog.cellsOf 89 = 1 := by kernel_rfl
theorem cells9 : Tryd.prog.cellsOf 9 = 1 := by kernel_rfl
theorem varOk_head {W : World} {r : List (String × DataW Unit)} (h : laidMet Tryd.prog (("strconv.ErrRange", Rows.laid_strconv_ErrRange) :: r) W) : VarOk W := by
  obtain ⟨a, s, hv, _⟩ := laid_sentinel h gR gRType Tryd.underlying46 row87 Tryd.underlying87 Tryd.underlying89 rfl rfl Tryd.underlying9 cells89 cells9
  exact ⟨_, _, hv⟩
end Go.Proofs.YtgenhcanaoejkaaDoor.S
