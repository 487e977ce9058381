/-
  What is proved: strings.Join of texts: a contract. Condition: lengths that fit.
-/
import Derived.Test.YtfaomejdoljfnaaDoorPls
import Derived.Room.Shelf.Join48
namespace Go.Proofs
open Go.Shelf
def Tryd.lays156_ren : Go.Shelf.Ren := ⟨fun | 156 => 20 | 165 => 27 | 166 => 28 | 169 => 29 | 240 => 34 | 241 => 35 | 276 => 41 | 277 => 42 | n => n, fun | 0 => 0 | 3 => 3 | 4 => 4 | 5 => 5 | 9 => 9 | 20 => 20 | 31 => 40 | 37 => 53 | 70 => 59 | 72 => 61 | 75 => 63 | 76 => 64 | 80 => 66 | 127 => 70 | 164 => 74 | n => n, fun | n => n⟩
theorem Tryd.lays156 : Go.Proofs.Lays.n156 Tryd.prog Tryd.lays156_ren := {
  mixed := by kernel_rfl
  f156 := Tryd.func20.trans (congrArg some (by kernel_rfl))
  f165 := Tryd.func27.trans (congrArg some (by kernel_rfl))
  f166 := Tryd.func28.trans (congrArg some (by kernel_rfl))
  f169 := Tryd.func29.trans (congrArg some (by kernel_rfl))
  f240 := Tryd.func34.trans (congrArg some (by kernel_rfl))
  f241 := Tryd.func35.trans (congrArg some (by kernel_rfl))
  f276 := Tryd.func41.trans (congrArg some (by kernel_rfl))
  f277 := Tryd.func42.trans (congrArg some (by kernel_rfl))
  t0 := Tryd.underlying0
  a0 := Tryd.isAgg0
  z0 := Tryd.sizeOf0
  v0 := Tryd.zeroValue0
  t3 := Tryd.underlying3
  a3 := Tryd.isAgg3
  z3 := Tryd.sizeOf3
  v3 := Tryd.zeroValue3
  t4 := Tryd.underlying4
  a4 := Tryd.isAgg4
  z4 := Tryd.sizeOf4
  v4 := Tryd.zeroValue4
  t9 := Tryd.underlying9
  a9 := Tryd.isAgg9
  z9 := Tryd.sizeOf9
  v9 := Tryd.zeroValue9
  t20 := Tryd.underlying20
  a20 := Tryd.isAgg20
  z20 := Tryd.sizeOf20
  v20 := Tryd.zeroValue20
  t31 := Tryd.underlying40
  a31 := Tryd.isAgg40
  z31 := Tryd.sizeOf40
  v31 := Tryd.zeroValue40
  t37 := Tryd.underlying53
  a37 := Tryd.isAgg53
  z37 := Tryd.sizeOf53
  v37 := Tryd.zeroValue53
  t70 := Tryd.underlying59
  a70 := Tryd.isAgg59
  z70 := Tryd.sizeOf59
  v70 := Tryd.zeroValue59
  t72 := Tryd.underlying61
  a72 := Tryd.isAgg61
  z72 := Tryd.sizeOf61
  v72 := Tryd.zeroValue61
  t75 := Tryd.underlying63
  a75 := Tryd.isAgg63
  z75 := Tryd.sizeOf63
  v75 := Tryd.zeroValue63
  t76 := Tryd.underlying64
  a76 := Tryd.isAgg64
  z76 := Tryd.sizeOf64
  v76 := Tryd.zeroValue64
  t127 := Tryd.underlying70
  a127 := Tryd.isAgg70
  z127 := Tryd.sizeOf70
  v127 := Tryd.zeroValue70
  t164 := Tryd.underlying74
  a164 := Tryd.isAgg74
  z164 := Tryd.sizeOf74
  v164 := Tryd.zeroValue74 }
theorem Tryd.bldXJ : Builder.Extra Tryd.prog Tryd.lays156_ren := {
  sizeBuilder := by kernel_rfl
  liesBuilder := by kernel_rfl
  t5 := Tryd.underlying5
  a5 := Tryd.isAgg5
  z5 := Tryd.sizeOf5
  v5 := Tryd.zeroValue5
  infoByte := by kernel_rfl
  cellsByte := by kernel_rfl
  sizeByte := by kernel_rfl
  neB5 := by decide }
end Go.Proofs
namespace Go.Proofs.YtfaomejdoljfnaaDoor
open Go.RowKit

theorem join_any {B : Nat} {v : Value} {l : List (List UInt8)} (sep : List UInt8) (w : World) (h : OwnS B v l w) (hl : l.length ≤ 1000000) (hj : (Lib.join l sep).length ≤ 140737488355328) :
    Calls Tryd.prog 20 #[v, .string ⟨⟨sep⟩⟩] w fun e w' => e = .returned (.string ⟨⟨Lib.join l sep⟩⟩) ∧ Ext w w' := by
  have hst := h.strs (v := v)
  rcases h.2 with ⟨rfl, h0⟩ | ⟨g, cap, cur, rfl, _, hg, hn, _, hc, htk⟩
  · have : l = [] := List.eq_nil_of_length_eq_zero h0
    subst this
    refine (Any.strings_Join_none Tryd.lays156 Tryd.bldXJ none 0 ⟨⟨sep⟩⟩ w).mono ?_
    rintro e w' ⟨rfl, rfl⟩
    exact ⟨rfl, Ext.refl _⟩
  · have e1 : (l.map fun s => (⟨⟨s⟩⟩ : ByteArray)).length = l.length := by simp
    have e2 : (l.map fun s => (⟨⟨s⟩⟩ : ByteArray)).map (·.data.toList) = l := by rw [List.map_map]; exact List.map_id l
    have c := Any.strings_Join Tryd.lays156 Tryd.bldXJ g 0 cap (l.map fun s => (⟨⟨s⟩⟩ : ByteArray)) ⟨⟨sep⟩⟩ w (fun j x hx => ?_) (lt_of_block hg) (by rw [e1]; omega) (by rw [e1]; exact hn) (by rw [e2]; exact hj)
    · rw [e1, e2] at c
      refine c.mono ?_
      rintro e w' ⟨rfl, hb⟩
      exact ⟨rfl, hb⟩
    · have hjl : j < l.length := by
        have := (List.getElem?_eq_some_iff.1 hx).1
        rwa [e1] at this
      have h1 : (cur.toList.take (l.length * 1))[j]? = (strCells l)[j]? := by rw [htk]
      rw [List.getElem?_take, if_pos (by omega)] at h1
      simp only [World.cell?, hg, Nat.zero_add]
      simp [strCells, hjl] at h1 hx
      rw [← hx]
      simpa using h1
end Go.Proofs.YtfaomejdoljfnaaDoor
