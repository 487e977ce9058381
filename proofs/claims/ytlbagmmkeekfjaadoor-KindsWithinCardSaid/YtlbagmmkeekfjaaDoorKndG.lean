/-
  What is proved: where the package's table reads as listed, its cells hold these texts. No condition of ours.
-/
import Derived.Test.YtlbagmmkeekfjaaDoorKndL
import Derived.Test.YtlbagmmkeekfjaaDoorTab
import Derived.Shelf.Vars
import Derived.Test.YtlbagmmkeekfjaaDoorCards
namespace Go.Proofs.YtlbagmmkeekfjaaDoor
open Go.RowKit

/-- The listed variable's name, off the given row. -/
def nmScopes : String := (Rows.kindsTellRow.laid.map (·.1)).headD default
theorem gScopes : Tryd.prog.globalNamed nmScopes = some 0 := by kernel_rfl
theorem gScopesT : (Tryd.prog.globals[0]?).map (·.type) = some 33 := by kernel_rfl
theorem cellsScopes : Tryd.prog.cellsOf 33 = 4 := by kernel_rfl
theorem cellsString : Tryd.prog.cellsOf 9 = 1 := by kernel_rfl
theorem laid_is : Rows.kindsTellRow.laid = [(nmScopes, strTab [joined (scopeW 0), joined (scopeW 1), joined (scopeW 2), joined (scopeW 3)])] := by kernel_rfl
theorem glob_of {W : World} (h : laidMetH Tryd.prog Rows.kindsTellRow.laid W) (hsh : W.ShapedOpen Tryd.prog) : Glob W := by
  rw [laid_is] at h
  have hc := strTab_cell (rest := []) gScopes gScopesT Tryd.underlying33 Tryd.underlying9 cellsString cellsScopes h
  exact ⟨cell_of_shapedOpen_int (t := 3) (zero := #[.int .i64 0]) hsh (by decide +kernel) (by kernel_rfl) (by kernel_rfl) (by kernel_rfl) (by kernel_rfl) Tryd.underlying3, hc 0 _ rfl, hc 1 _ rfl, hc 2 _ rfl, hc 3 _ rfl⟩

/-- A world for the witness: the settled one, the table holding what its text lays. -/
noncomputable def laidWorld (os : Os) : World :=
  { World.holding Tryd.prog os ⟨#[], #[], []⟩ with heap := (World.holding Tryd.prog os ⟨#[], #[], []⟩).heap.modify 0 fun
      | .cells _ t frozen => .cells #[.string ⟨⟨joined (scopeW 0)⟩⟩, .string ⟨⟨joined (scopeW 1)⟩⟩, .string ⟨⟨joined (scopeW 2)⟩⟩, .string ⟨⟨joined (scopeW 3)⟩⟩] t frozen
      | o => o }
end Go.Proofs.YtlbagmmkeekfjaaDoor
