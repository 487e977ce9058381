/-
  What is proved: where the package variables read as listed, the program's table holds these numbers; the library's variable is an integer in each world of a row. No condition of ours.
-/
import Derived.Test.YtbolajljfkjfaaaDoorRefC
import Derived.Test.YtbolajljfkjfaaaDoorRpA
import Derived.Test.YtbolajljfkjfaaaDoorLay
import Derived.Test.YtbolajljfkjfaaaDoorLwd
import Derived.Test.YtbolajljfkjfaaaDoorCards
import Derived.Shelf.Vars
namespace Go.Proofs.YtbolajljfkjfaaaDoor
open Go.RowKit Go.Lib

theorem maxR_of {W : World} (hsh : W.ShapedOpen Tryd.prog) : MaxIs W :=
  cell_of_shapedOpen_int (t := 3) (zero := #[.int .i64 0]) hsh (by decide +kernel) (by kernel_rfl) (by kernel_rfl) (by kernel_rfl) (by kernel_rfl) Tryd.underlying3
def dftR : String × DataW Unit := (default, .nil)
def nmOthR : String := (Rows.rawsTellRow.laid.map (·.1)).getD 1 default
theorem gOthR : Tryd.prog.globalNamed nmOthR = some 3 := by kernel_rfl
theorem gOthTR : (Tryd.prog.globals[3]?).map (·.type) = some 118 := by kernel_rfl
theorem cOthR : Tryd.prog.cellsOf 118 = 32 := by kernel_rfl
theorem cRuneR : Tryd.prog.cellsOf 21 = 1 := by kernel_rfl
theorem laid_isR : Rows.rawsTellRow.laid = [Rows.rawsTellRow.laid.headD dftR, (nmOthR, tabData .i32 othersZ), Rows.rawsTellRow.laid.getD 2 dftR] := by kernel_rfl
theorem othersR_of {W : World} (h : laidMetH Tryd.prog Rows.rawsTellRow.laid W) : OthersIs W := by
  rw [laid_isR] at h
  have h2 : laidMet Tryd.prog [Rows.rawsTellRow.laid.headD dftR, (nmOthR, tabData .i32 othersZ), Rows.rawsTellRow.laid.getD 2 dftR] W := h
  have h3 := laid_tail h2
  have tt := tabIs_of_head gOthR gOthTR Tryd.underlying118 Tryd.underlying21 cRuneR cOthR h3
  intro i hi
  exact tt.cell gOthR i (by rw [show othersZ.length = 32 from rfl]; exact hi)
end Go.Proofs.YtbolajljfkjfaaaDoor
