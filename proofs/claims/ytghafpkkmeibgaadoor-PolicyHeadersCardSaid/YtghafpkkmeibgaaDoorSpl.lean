/-
  What is proved: what strings.Split gives at one byte: a contract. Condition: texts of at most 100000 bytes, the package's variable an integer.
-/
import Derived.Test.YtghafpkkmeibgaaDoorDir
import Derived.Test.YtghafpkkmeibgaaDoorFldP
import Derived.Test.YtghafpkkmeibgaaDoorRows
import Derived.Shelf.Strings.Split
namespace Go.Proofs
open Go.Shelf
def Tryd.lays146_ren : Go.Shelf.Ren := ⟨fun | 138 => 80 | 143 => 81 | 146 => 54 | 195 => 89 | 197 => 85 | 217 => 78 | 218 => 90 | 219 => 91 | 221 => 66 | 224 => 98 | 225 => 97 | 260 => 94 | 266 => 88 | 267 => 99 | 268 => 79 | 314 => 101 | n => n, fun | 0 => 0 | 3 => 3 | 4 => 4 | 5 => 5 | 9 => 9 | 21 => 21 | 31 => 36 | 46 => 105 | 51 => 111 | 105 => 96 | 119 => 106 | 138 => 108 | 139 => 109 | 146 => 112 | n => n, fun | 1 => 0 | 3 => 1 | 4 => 2 | n => n⟩
theorem Tryd.lays146 : Go.Proofs.Lays.n146 Tryd.prog Tryd.lays146_ren := {
  mixed := by kernel_rfl
  f138 := Tryd.func80.trans (congrArg some (by kernel_rfl))
  f143 := Tryd.func81.trans (congrArg some (by kernel_rfl))
  f146 := Tryd.func54.trans (congrArg some (by kernel_rfl))
  f195 := Tryd.func89.trans (congrArg some (by kernel_rfl))
  f197 := Tryd.func85.trans (congrArg some (by kernel_rfl))
  f217 := Tryd.func78.trans (congrArg some (by kernel_rfl))
  f218 := Tryd.func90.trans (congrArg some (by kernel_rfl))
  f219 := Tryd.func91.trans (congrArg some (by kernel_rfl))
  f221 := Tryd.func66.trans (congrArg some (by kernel_rfl))
  f224 := Tryd.func98.trans (congrArg some (by kernel_rfl))
  f225 := Tryd.func97.trans (congrArg some (by kernel_rfl))
  f260 := Tryd.func94.trans (congrArg some (by kernel_rfl))
  f266 := Tryd.func88.trans (congrArg some (by kernel_rfl))
  f267 := Tryd.func99.trans (congrArg some (by kernel_rfl))
  f268 := Tryd.func79.trans (congrArg some (by kernel_rfl))
  f314 := Tryd.func101.trans (congrArg some (by kernel_rfl))
  t0 := Tryd.underlying0
  a0 := Tryd.isAgg0
  z0 := Tryd.sizeOf0
  v0 := Tryd.zeroValue0
  t3 := Tryd.underlying3
  a3 := Tryd.isAgg3
  z3 := Tryd.sizeOf3
  v3 := Tryd.zeroValue3
  t4 := Tryd.underlying4
  a4 := Tryd.isAgg4
  z4 := Tryd.sizeOf4
  v4 := Tryd.zeroValue4
  t5 := Tryd.underlying5
  a5 := Tryd.isAgg5
  z5 := Tryd.sizeOf5
  v5 := Tryd.zeroValue5
  t9 := Tryd.underlying9
  a9 := Tryd.isAgg9
  z9 := Tryd.sizeOf9
  v9 := Tryd.zeroValue9
  t21 := Tryd.underlying21
  a21 := Tryd.isAgg21
  z21 := Tryd.sizeOf21
  v21 := Tryd.zeroValue21
  t31 := Tryd.underlying36
  a31 := Tryd.isAgg36
  z31 := Tryd.sizeOf36
  v31 := Tryd.zeroValue36
  t46 := Tryd.underlying105
  a46 := Tryd.isAgg105
  z46 := Tryd.sizeOf105
  v46 := Tryd.zeroValue105
  t51 := Tryd.underlying111
  a51 := Tryd.isAgg111
  z51 := Tryd.sizeOf111
  v51 := Tryd.zeroValue111
  t105 := Tryd.underlying96
  a105 := Tryd.isAgg96
  z105 := Tryd.sizeOf96
  v105 := Tryd.zeroValue96
  t119 := Tryd.underlying106
  a119 := Tryd.isAgg106
  z119 := Tryd.sizeOf106
  t138 := Tryd.underlying108
  a138 := Tryd.isAgg108
  z138 := Tryd.sizeOf108
  v138 := Tryd.zeroValue108
  t139 := Tryd.underlying109
  a139 := Tryd.isAgg109
  z139 := Tryd.sizeOf109
  v139 := Tryd.zeroValue109
  t146 := Tryd.underlying112
  a146 := Tryd.isAgg112
  z146 := Tryd.sizeOf112
  v146 := Tryd.zeroValue112
  g1 := by kernel_rfl
  g3 := by kernel_rfl
  g4 := by kernel_rfl }
end Go.Proofs
namespace Go.Proofs.YtghafpkkmeibgaaDoor
open Go.RowKit

/-- The library's variable that stands ahead of the text of its search. -/
def MaxIs (w : World) : Prop := ∃ m : Int, w.cell? ⟨0, 0, none⟩ = some (.int .i64 m)
theorem MaxIs.ext {w w' : World} (h : MaxIs w) (k : Below w.heap.size w w') : MaxIs w' := by
  obtain ⟨m, h⟩ := h
  exact ⟨m, (k.cell (p := ⟨_, 0, none⟩) (cell_lt h)).trans h⟩
theorem split_any (l : List UInt8) (c : UInt8) (w : World) (hm : MaxIs w) (hs : l.length < 100000) :
    Calls Tryd.prog 54 #[.string ⟨⟨l⟩⟩, .string ⟨⟨[c]⟩⟩] w fun e w' => ∃ v, e = .returned v ∧ StrsB w' v (splitL c l) ∧ Ext w w' := by
  obtain ⟨m, hm⟩ := hm
  refine (Any.strings_Split (P := Tryd.prog) Tryd.lays146 (by kernel_rfl) ⟨⟨l⟩⟩ ⟨⟨[c]⟩⟩ m w (by show l.length < _; omega) hm (by show 1 ≤ 1; omega)).mono ?_
  rintro e w' ⟨rfl, rfl⟩
  have h1 := splitB_map c l
  have hcnt : Lib.countB ⟨⟨l⟩⟩ ⟨⟨[c]⟩⟩ + 1 = (splitL c l).length := by
    have := Lib.splitB_all (⟨⟨[c]⟩⟩ : ByteArray) (by show 1 ≤ 1; omega) 0 _ ⟨⟨l⟩⟩ rfl
    rw [← h1, List.length_map]
    exact this.symm
  have hc := split_count c l
  refine ⟨_, rfl, ⟨some ⟨w.heap.size, 0, none⟩, Lib.countB ⟨⟨l⟩⟩ ⟨⟨[c]⟩⟩ + 1, by rw [hcnt], by unfold maxLen; omega, fun s hs' => ?_, .inr ⟨w.heap.size, 0, _, _, rfl, heap_alloc_new w _, fun i hi => ?_⟩⟩, (Below.refl _ _).alloc (Nat.le_refl _) _⟩
  · have := split_each c l s hs'
    unfold maxLen
    omega
  · have hB : (Lib.splitB ⟨⟨[c]⟩⟩ 0 (Lib.countB ⟨⟨l⟩⟩ ⟨⟨[c]⟩⟩) ⟨⟨l⟩⟩).length = (splitL c l).length := by rw [← h1, List.length_map]
    have h2 : (splitL c l)[i] = ((Lib.splitB ⟨⟨[c]⟩⟩ 0 (Lib.countB ⟨⟨l⟩⟩ ⟨⟨[c]⟩⟩) ⟨⟨l⟩⟩)[i]'(by omega)).data.toList := by
      simp only [← h1, List.getElem_map]
    simp only [Nat.zero_add, List.getElem?_toArray, List.getElem?_map]
    rw [List.getElem?_eq_getElem (by omega), h2]
    rfl
end Go.Proofs.YtghafpkkmeibgaaDoor
