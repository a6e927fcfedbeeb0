/- What the cell 'laid' gives: the table of the powers of ten. -/
import Derived.Test.YtbdciibbgiphcaaGreatDoorRows
import Derived.Test.YtbdciibbgiphcaaGreatDoorMkV
import Derived.Lib.LaidTab
import Derived.MakeChecks
namespace Go.Proofs.YtbdciibbgiphcaaGreatDoor.V
open Go.RowKit
theorem g10Type : (Tryz.prog.globals[0]?).map (·.type) = some 177 := by kernel_rfl
theorem u177 : Tryz.prog.underlying 177 = some (.array 20 171) := by kernel_rfl
theorem laid10 {H : Type} : (Rows.laid_internal_strconv_uint64pow10 : DataW H) = Lib.tabData .u64 Lib.pow10Tab := by kernel_rfl
theorem varT_head {W : World} {r : List (String × DataW Unit)} (h : laidMet Tryz.prog (("internal/strconv.uint64pow10", Rows.laid_internal_strconv_uint64pow10) :: r) W) : VarT W := by
  rw [laid10] at h
  exact Lib.tabIs_of_head (e := 171) pow10_named g10Type u177 (by kernel_rfl) (by kernel_rfl) (by kernel_rfl) h
end Go.Proofs.YtbdciibbgiphcaaGreatDoor.V
