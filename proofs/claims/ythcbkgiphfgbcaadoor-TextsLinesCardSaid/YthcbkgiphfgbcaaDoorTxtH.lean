/-
  What is proved: where the package's tables read as listed, the table of first bytes holds its rows. No condition of ours.
-/
import Derived.Test.YthcbkgiphfgbcaaDoorTxtW
import Derived.Test.YthcbkgiphfgbcaaDoorRpA
import Derived.Test.YthcbkgiphfgbcaaDoorLay
import Derived.Test.YthcbkgiphfgbcaaDoorLwd
import Derived.Test.YthcbkgiphfgbcaaDoorCards
import Derived.Shelf.Vars
namespace Go.Proofs.YthcbkgiphfgbcaaDoor
open Go.RowKit Go.Lib

def leadKZ : List (List (IntKind × Int)) := leadL.map fun x => [(.u8, x.fr.toNat), (.u8, x.to.toNat), (.i64, x.more), (.u8, x.lo.toNat), (.u8, x.hi.toNat)]
def leadFlat : List (IntKind × Int) := leadKZ.flatten
theorem leadC_flat : leadC.toList = leadFlat.map fun z => Value.int z.1 z.2 := by rfl
theorem flat_at : (List.range 40).all (fun i => decide (leadFlat[i]? = (leadKZ[i / 5]?).bind (·[i % 5]?))) = true := by decide +kernel
theorem flat_some : (List.range 40).all (fun i => ((leadKZ[i / 5]?).bind (·[i % 5]?)).isSome) = true := by decide +kernel
def dft : String × DataW Unit := (default, .nil)
def nmLeads : String := (Rows.textsTellRow.laid.map (·.1)).getD 1 default
theorem gLeads : Tryd.prog.globalNamed nmLeads = some 0 := by kernel_rfl
theorem gLeadsT : (Tryd.prog.globals[0]?).map (·.type) = some 45 := by kernel_rfl
theorem cellsLead : Tryd.prog.cellsOf 44 = 5 := by kernel_rfl
theorem cellsLeads : Tryd.prog.cellsOf 45 = 40 := by kernel_rfl
theorem laid_is : Rows.textsTellRow.laid = [Rows.textsTellRow.laid.headD dft, (nmLeads, rowsD leadKZ), Rows.textsTellRow.laid.getD 2 dft] := by kernel_rfl
theorem leads_of {W : World} (h : laidMetH Tryd.prog Rows.textsTellRow.laid W) : LeadsIs W := by
  rw [laid_is] at h
  have h2 : laidMet Tryd.prog [Rows.textsTellRow.laid.headD dft, (nmLeads, rowsD leadKZ), Rows.textsTellRow.laid.getD 2 dft] W := h
  obtain ⟨ps, ⟨g', t', cs, fuel, p, q, hg', ht', hvar, hd, _, _⟩, _⟩ := laid_tail h2
  obtain rfl := Option.some.inj (gLeads.symm.trans hg')
  obtain rfl := Option.some.inj (gLeadsT.symm.trans ht')
  have hsize : cs.toList.length = 40 := by
    obtain ⟨xs, m, _, _, hl, _, _⟩ := DataW.trod_array Tryd.underlying45 hd
    rw [hl, cellsLeads]
  have hcell := cells_of_rows (fs := _) Tryd.underlying45 Tryd.underlying44 cellsLead (fun j f hf => by
      have hj : j < 5 := by have := (Array.getElem?_eq_some_iff.1 hf).1; simpa using this
      have hc : j = 0 ∨ j = 1 ∨ j = 2 ∨ j = 3 ∨ j = 4 := by omega
      rcases hc with rfl | rfl | rfl | rfl | rfl
      all_goals
        simp only [List.getElem?_toArray, List.getElem?_cons_zero, List.getElem?_cons_succ, Option.some.injEq] at hf
        subst hf
        first
          | exact ⟨rfl, by kernel_rfl, _, Tryd.underlying5⟩
          | exact ⟨rfl, by kernel_rfl, _, Tryd.underlying3⟩) (by decide) rfl hd
  have hcs : cs.toList = leadC.toList := by
    apply List.ext_getElem?
    intro i
    by_cases hi : i < 40
    · have h1 := List.all_eq_true.1 flat_at i (by simpa using hi)
      have h3 := List.all_eq_true.1 flat_some i (by simpa using hi)
      rw [decide_eq_true_eq] at h1
      obtain ⟨z, hz⟩ := Option.isSome_iff_exists.1 h3
      obtain ⟨r, hr, hrz⟩ := Option.bind_eq_some_iff.1 hz
      have h4 := hcell (i / 5) (i % 5) r z hr hrz
      have e : i / 5 * 5 + i % 5 = i := by omega
      rw [e] at h4
      rw [h4, leadC_flat, List.getElem?_map, h1, hz]
      rfl
    · rw [List.getElem?_eq_none (by omega), List.getElem?_eq_none (by rw [leadC_flat]; show 40 ≤ i; omega)]
  have hcs2 : cs = leadC := Array.toList_inj.1 hcs
  subst hcs2
  simp only [World.var?, gLeads, Option.bind_some] at hvar
  split at hvar
  · rename_i c t fr hh
    cases hvar
    exact ⟨t, fr, hh⟩
  · cases hvar
theorem max_of {W : World} (hsh : W.ShapedOpen Tryd.prog) : MaxIs W :=
  cell_of_shapedOpen_int (t := 3) (zero := #[.int .i64 0]) hsh (by decide +kernel) (by kernel_rfl) (by kernel_rfl) (by kernel_rfl) (by kernel_rfl) Tryd.underlying3
end Go.Proofs.YthcbkgiphfgbcaaDoor
