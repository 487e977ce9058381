/-
  What is proved: where the package's table reads as listed, its cells hold these numbers. No condition of ours.
-/
import Derived.Test.YtlhbofekochhkaaDoorRefC
import Derived.Test.YtlhbofekochhkaaDoorCards
namespace Go.Proofs.YtlhbofekochhkaaDoor
open Go.RowKit Go.Lib

/-- The listed variable's name, off the given row. -/
def nmOthers : String := (Rows.refsTellRow.laid.map (·.1)).headD default
theorem gOthers : Tryd.prog.globalNamed nmOthers = some 0 := by kernel_rfl
theorem gOthersT : (Tryd.prog.globals[0]?).map (·.type) = some 57 := by kernel_rfl
theorem cellsOthers : Tryd.prog.cellsOf 57 = 32 := by kernel_rfl
theorem cellsRune : Tryd.prog.cellsOf 21 = 1 := by kernel_rfl
theorem laid_is : Rows.refsTellRow.laid = [(nmOthers, tabData .i32 othersZ)] := by kernel_rfl
theorem others_of {W : World} (h : laidMetH Tryd.prog Rows.refsTellRow.laid W) : OthersIs W := by
  rw [laid_is] at h
  have ht := tabIs_of_head (rest := []) gOthers gOthersT Tryd.underlying57 Tryd.underlying21 cellsRune cellsOthers h
  intro i hi
  exact ht.cell gOthers i (by rw [show othersZ.length = 32 from rfl]; exact hi)
/-- A world for the witness: the settled one, the table holding what its text lays. -/
noncomputable def laidWorld (os : Os) : World :=
  { World.holding Tryd.prog os ⟨#[], #[], []⟩ with heap := (World.holding Tryd.prog os ⟨#[], #[], []⟩).heap.modify 0 fun
      | .cells _ t frozen => .cells (othersZ.map fun z => Value.int .i32 z).toArray t frozen
      | o => o }
end Go.Proofs.YtlhbofekochhkaaDoor
