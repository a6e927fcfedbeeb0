/- What the cell 'laid' gives: a table, an error. (LdT, LdF.) -/
import Derived.Lib.LaidTab
import Derived.MakeChecks
import Derived.Stop.LaidErr
import Derived.Test.YtbdciibbgiphcaaDoorNA
import Derived.Test.YtbdciibbgiphcaaDoorRows
import Derived.Test.YtbdciibbgiphcaaDoorNC
namespace Go.Proofs.YtbdciibbgiphcaaDoor.V
open Go.RowKit
theorem g10Type : (Tryd.prog.globals[0]?).map (·.type) = some 138 := by kernel_rfl
theorem u138 : Tryd.prog.underlying 138 = some (.array 20 123) := by kernel_rfl
theorem laid10 {H : Type} : (Rows.laid_internal_strconv_uint64pow10 : DataW H) = Lib.tabData .u64 Lib.pow10Tab := by kernel_rfl
theorem varT_head {W : World} {r : List (String × DataW Unit)} (h : laidMet Tryd.prog (("internal/strconv.uint64pow10", Rows.laid_internal_strconv_uint64pow10) :: r) W) : VarT W := by
  rw [laid10] at h
  exact Lib.tabIs_of_head (e := 123) pow10_named g10Type u138 (by kernel_rfl) (by kernel_rfl) (by kernel_rfl) h
end Go.Proofs.YtbdciibbgiphcaaDoor.V
namespace Go.Proofs.YtbdciibbgiphcaaDoor.V
open Go.RowKit Go.ChangeShapes
theorem star : "*" ++ "errors.errorString" = "*errors.errorString" := by decide
theorem row170 (u : TypeId) (h : Tryd.prog.typeName? 3 u = some "*errors.errorString") : u = 170 :=
  typeName_ptr_named (nm := "errors.errorString") (by rw [star]; kernel_rfl) (by kernel_rfl) (by decide) u (by rw [star]; exact h)
theorem gR : Tryd.prog.globalNamed "strconv.ErrRange" = some 7 := by kernel_rfl
theorem gRType : (Tryd.prog.globals[7]?).map (·.type) = some 146 := by kernel_rfl
theorem cells172 : Tryd.prog.cellsOf 172 = 1 := by kernel_rfl
theorem cells9 : Tryd.prog.cellsOf 9 = 1 := by kernel_rfl
theorem varOk_head {W : World} {r : List (String × DataW Unit)} (h : laidMet Tryd.prog (("strconv.ErrRange", Rows.laid_strconv_ErrRange) :: r) W) : VarOk W := by
  obtain ⟨a, s, hv, _⟩ := laid_sentinel h gR gRType Tryd.underlying146 row170 Tryd.underlying170 Tryd.underlying172 rfl rfl Tryd.underlying9 cells172 cells9
  exact ⟨_, _, hv⟩
end Go.Proofs.YtbdciibbgiphcaaDoor.V
