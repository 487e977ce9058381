/-
  What is proved: where the package's table reads as listed, its cells hold these names. No condition of ours.
-/
import Derived.Test.YtkofccabfkkgjaaDoorChnL
import Derived.Test.YtkofccabfkkgjaaDoorTab
import Derived.Test.YtkofccabfkkgjaaDoorLay
import Derived.Test.YtkofccabfkkgjaaDoorLwd
import Derived.Shelf.Vars
import Derived.Test.YtkofccabfkkgjaaDoorCards
namespace Go.Proofs.YtkofccabfkkgjaaDoor
open Go.RowKit Go.Lib

def dft : String × DataW Unit := (default, .nil)
def nmEff : String := (Rows.chainsNamesRow.laid.map (·.1)).getD 1 default
theorem gEff : Tryd.prog.globalNamed nmEff = some 0 := by kernel_rfl
theorem gEffT : (Tryd.prog.globals[0]?).map (·.type) = some 54 := by kernel_rfl
theorem cellsEff : Tryd.prog.cellsOf 54 = 17 := by kernel_rfl
theorem cellsString : Tryd.prog.cellsOf 9 = 1 := by kernel_rfl
theorem laid_is : Rows.chainsNamesRow.laid = [Rows.chainsNamesRow.laid.headD dft, (nmEff, strTab effTab), Rows.chainsNamesRow.laid.getD 2 dft] := by kernel_rfl
theorem max_of {W : World} (hsh : W.ShapedOpen Tryd.prog) : MaxIs W :=
  cell_of_shapedOpen_int (t := 3) (zero := #[.int .i64 0]) hsh (by decide +kernel) (by kernel_rfl) (by kernel_rfl) (by kernel_rfl) (by kernel_rfl) Tryd.underlying3
theorem chg_of {W : World} {L : List (String × DataW Unit)} (e : L = Rows.chainsNamesRow.laid) (h : laidMetH Tryd.prog L W) (hsh : W.ShapedOpen Tryd.prog) : ChG W := by
  rw [e, laid_is] at h
  have h2 : laidMet Tryd.prog [Rows.chainsNamesRow.laid.headD dft, (nmEff, strTab effTab), Rows.chainsNamesRow.laid.getD 2 dft] W := h
  have hc := strTab_cell gEff gEffT Tryd.underlying54 Tryd.underlying9 cellsString cellsEff (laid_tail h2)
  exact ⟨max_of hsh, fun i hi => hc i _ (List.getElem?_eq_getElem hi)⟩
end Go.Proofs.YtkofccabfkkgjaaDoor
