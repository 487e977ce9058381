/-
  What is proved: where the package variables read as listed, the tables hold these numbers. No condition of ours.
-/
import Derived.Test.YtlhbofekochhkaaDoorRef2
import Derived.Test.YtlhbofekochhkaaDoorLay
import Derived.Test.YtlhbofekochhkaaDoorLwd
import Derived.Test.YtlhbofekochhkaaDoorCards
namespace Go.Proofs.YtlhbofekochhkaaDoor
open Go.RowKit Go.Lib

def dftN : String × DataW Unit := (default, .nil)
def litZ : DataW Unit → Int | .lit (.int _ z) => z | _ => 0
def bitsZ : List Int := match (Rows.refsNumbersRow.laid.getD 1 dftN).2 with | .agg ds => ds.map litZ | _ => []
def nmOth : String := (Rows.refsNumbersRow.laid.map (·.1)).getD 3 default
theorem gOth : Tryd.prog.globalNamed nmOth = some 0 := by kernel_rfl
theorem gOthT : (Tryd.prog.globals[0]?).map (·.type) = some 57 := by kernel_rfl
theorem gBitsT : (Tryd.prog.globals[3]?).map (·.type) = some 67 := by kernel_rfl
theorem gPowT : (Tryd.prog.globals[1]?).map (·.type) = some 60 := by kernel_rfl
theorem cOth : Tryd.prog.cellsOf 57 = 32 := by kernel_rfl
theorem cRune : Tryd.prog.cellsOf 21 = 1 := by kernel_rfl
theorem cBits : Tryd.prog.cellsOf 67 = 64 := by kernel_rfl
theorem cByte : Tryd.prog.cellsOf 5 = 1 := by kernel_rfl
theorem cPow : Tryd.prog.cellsOf 60 = 20 := by kernel_rfl
theorem cU64 : Tryd.prog.cellsOf 36 = 1 := by kernel_rfl
theorem laid_isN : Rows.refsNumbersRow.laid = [Rows.refsNumbersRow.laid.headD dftN, (nmBits, tabData .u8 bitsZ), (nmPow, tabData .u64 pow10Tab), (nmOth, tabData .i32 othersZ)] := by kernel_rfl
theorem bits15 : bitsZ.getD 15 0 = 4 := by kernel_rfl
theorem bitsLen : bitsZ.length = 64 := by kernel_rfl
theorem stn_of {W : World} (h : laidMetH Tryd.prog Rows.refsNumbersRow.laid W) : StN W W := by
  rw [laid_isN] at h
  have h2 : laidMet Tryd.prog [Rows.refsNumbersRow.laid.headD dftN, (nmBits, tabData .u8 bitsZ), (nmPow, tabData .u64 pow10Tab), (nmOth, tabData .i32 othersZ)] W := h
  have h3 := laid_tail h2
  have h4 := laid_tail h3
  have h5 := laid_tail h4
  have tb := tabIs_of_head gBits gBitsT Tryd.underlying67 Tryd.underlying5 cByte cBits h3
  have tp := tabIs_of_head gPow gPowT Tryd.underlying60 Tryd.underlying36 cU64 cPow h4
  have tt := tabIs_of_head gOth gOthT Tryd.underlying57 Tryd.underlying21 cRune cOth h5
  refine ⟨⟨Ext.refl _, fun i hi => tt.cell gOth i (by rw [show othersZ.length = 32 from rfl]; exact hi)⟩, ?_, ?_⟩
  · unfold TabIs at tp
    simp only [World.var?, gPow, Option.bind_some] at tp
    split at tp
    · rename_i c t fr hh
      cases tp
      exact ⟨t, fr, hh⟩
    · cases tp
  · have := tb.cell gBits 15 (by rw [bitsLen]; omega)
    rw [bits15] at this
    exact this
end Go.Proofs.YtlhbofekochhkaaDoor
