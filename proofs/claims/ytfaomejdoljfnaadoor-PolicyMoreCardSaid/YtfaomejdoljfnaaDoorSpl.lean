/-
  What is proved: what strings.Split gives at one byte: a contract. Condition: texts of at most 100000 bytes, the package's variable an integer.
-/
import Derived.Test.YtfaomejdoljfnaaDoorDir
import Derived.Test.YtfaomejdoljfnaaDoorFldP
import Derived.Test.YtfaomejdoljfnaaDoorRows
import Derived.Shelf.Strings.Split
namespace Go.Proofs
open Go.Shelf
def Tryd.lays146_ren : Go.Shelf.Ren := ⟨fun | 138 => 31 | 143 => 32 | 146 => 14 | 195 => 36 | 197 => 37 | 217 => 40 | 218 => 38 | 219 => 39 | 221 => 22 | 224 => 45 | 225 => 44 | 260 => 43 | 266 => 47 | 267 => 46 | 268 => 30 | 314 => 48 | n => n, fun | 0 => 0 | 3 => 3 | 4 => 4 | 5 => 5 | 9 => 9 | 21 => 21 | 31 => 40 | 46 => 78 | 51 => 83 | 105 => 72 | 119 => 79 | 138 => 81 | 139 => 82 | 146 => 84 | n => n, fun | 1 => 0 | 3 => 1 | 4 => 2 | n => n⟩
theorem Tryd.lays146 : Go.Proofs.Lays.n146 Tryd.prog Tryd.lays146_ren := {
  mixed := by kernel_rfl
  f138 := Tryd.func31.trans (congrArg some (by kernel_rfl))
  f143 := Tryd.func32.trans (congrArg some (by kernel_rfl))
  f146 := Tryd.func14.trans (congrArg some (by kernel_rfl))
  f195 := Tryd.func36.trans (congrArg some (by kernel_rfl))
  f197 := Tryd.func37.trans (congrArg some (by kernel_rfl))
  f217 := Tryd.func40.trans (congrArg some (by kernel_rfl))
  f218 := Tryd.func38.trans (congrArg some (by kernel_rfl))
  f219 := Tryd.func39.trans (congrArg some (by kernel_rfl))
  f221 := Tryd.func22.trans (congrArg some (by kernel_rfl))
  f224 := Tryd.func45.trans (congrArg some (by kernel_rfl))
  f225 := Tryd.func44.trans (congrArg some (by kernel_rfl))
  f260 := Tryd.func43.trans (congrArg some (by kernel_rfl))
  f266 := Tryd.func47.trans (congrArg some (by kernel_rfl))
  f267 := Tryd.func46.trans (congrArg some (by kernel_rfl))
  f268 := Tryd.func30.trans (congrArg some (by kernel_rfl))
  f314 := Tryd.func48.trans (congrArg some (by kernel_rfl))
  t0 := Tryd.underlying0
  a0 := Tryd.isAgg0
  z0 := Tryd.sizeOf0
  v0 := Tryd.zeroValue0
  t3 := Tryd.underlying3
  a3 := Tryd.isAgg3
  z3 := Tryd.sizeOf3
  v3 := Tryd.zeroValue3
  t4 := Tryd.underlying4
  a4 := Tryd.isAgg4
  z4 := Tryd.sizeOf4
  v4 := Tryd.zeroValue4
  t5 := Tryd.underlying5
  a5 := Tryd.isAgg5
  z5 := Tryd.sizeOf5
  v5 := Tryd.zeroValue5
  t9 := Tryd.underlying9
  a9 := Tryd.isAgg9
  z9 := Tryd.sizeOf9
  v9 := Tryd.zeroValue9
  t21 := Tryd.underlying21
  a21 := Tryd.isAgg21
  z21 := Tryd.sizeOf21
  v21 := Tryd.zeroValue21
  t31 := Tryd.underlying40
  a31 := Tryd.isAgg40
  z31 := Tryd.sizeOf40
  v31 := Tryd.zeroValue40
  t46 := Tryd.underlying78
  a46 := Tryd.isAgg78
  z46 := Tryd.sizeOf78
  v46 := Tryd.zeroValue78
  t51 := Tryd.underlying83
  a51 := Tryd.isAgg83
  z51 := Tryd.sizeOf83
  v51 := Tryd.zeroValue83
  t105 := Tryd.underlying72
  a105 := Tryd.isAgg72
  z105 := Tryd.sizeOf72
  v105 := Tryd.zeroValue72
  t119 := Tryd.underlying79
  a119 := Tryd.isAgg79
  z119 := Tryd.sizeOf79
  t138 := Tryd.underlying81
  a138 := Tryd.isAgg81
  z138 := Tryd.sizeOf81
  v138 := Tryd.zeroValue81
  t139 := Tryd.underlying82
  a139 := Tryd.isAgg82
  z139 := Tryd.sizeOf82
  v139 := Tryd.zeroValue82
  t146 := Tryd.underlying84
  a146 := Tryd.isAgg84
  z146 := Tryd.sizeOf84
  v146 := Tryd.zeroValue84
  g1 := by kernel_rfl
  g3 := by kernel_rfl
  g4 := by kernel_rfl }
end Go.Proofs
namespace Go.Proofs.YtfaomejdoljfnaaDoor
open Go.RowKit

/-- The library's variable that stands ahead of the text of its search. -/
def MaxIs (w : World) : Prop := ∃ m : Int, w.cell? ⟨0, 0, none⟩ = some (.int .i64 m)
theorem MaxIs.ext {w w' : World} (h : MaxIs w) (k : Below w.heap.size w w') : MaxIs w' := by
  obtain ⟨m, h⟩ := h
  exact ⟨m, (k.cell (p := ⟨_, 0, none⟩) (cell_lt h)).trans h⟩
theorem split_any (l : List UInt8) (c : UInt8) (w : World) (hm : MaxIs w) (hs : l.length < 100000) :
    Calls Tryd.prog 14 #[.string ⟨⟨l⟩⟩, .string ⟨⟨[c]⟩⟩] w fun e w' => ∃ v, e = .returned v ∧ StrsB w' v (splitL c l) ∧ Ext w w' := by
  obtain ⟨m, hm⟩ := hm
  refine (Any.strings_Split (P := Tryd.prog) Tryd.lays146 (by kernel_rfl) ⟨⟨l⟩⟩ ⟨⟨[c]⟩⟩ m w (by show l.length < _; omega) hm (by show 1 ≤ 1; omega)).mono ?_
  rintro e w' ⟨rfl, rfl⟩
  have h1 := splitB_map c l
  have hcnt : Lib.countB ⟨⟨l⟩⟩ ⟨⟨[c]⟩⟩ + 1 = (splitL c l).length := by
    have := Lib.splitB_all (⟨⟨[c]⟩⟩ : ByteArray) (by show 1 ≤ 1; omega) 0 _ ⟨⟨l⟩⟩ rfl
    rw [← h1, List.length_map]
    exact this.symm
  have hc := split_count c l
  refine ⟨_, rfl, ⟨some ⟨w.heap.size, 0, none⟩, Lib.countB ⟨⟨l⟩⟩ ⟨⟨[c]⟩⟩ + 1, by rw [hcnt], by unfold maxLen; omega, fun s hs' => ?_, .inr ⟨w.heap.size, 0, _, _, rfl, heap_alloc_new w _, fun i hi => ?_⟩⟩, (Below.refl _ _).alloc (Nat.le_refl _) _⟩
  · have := split_each c l s hs'
    unfold maxLen
    omega
  · have hB : (Lib.splitB ⟨⟨[c]⟩⟩ 0 (Lib.countB ⟨⟨l⟩⟩ ⟨⟨[c]⟩⟩) ⟨⟨l⟩⟩).length = (splitL c l).length := by rw [← h1, List.length_map]
    have h2 : (splitL c l)[i] = ((Lib.splitB ⟨⟨[c]⟩⟩ 0 (Lib.countB ⟨⟨l⟩⟩ ⟨⟨[c]⟩⟩) ⟨⟨l⟩⟩)[i]'(by omega)).data.toList := by
      simp only [← h1, List.getElem_map]
    simp only [Nat.zero_add, List.getElem?_toArray, List.getElem?_map]
    rw [List.getElem?_eq_getElem (by omega), h2]
    rfl
end Go.Proofs.YtfaomejdoljfnaaDoor
