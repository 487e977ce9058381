/-
  What is proved: a number written to the base 10 by the library, at this program's numbers: a contract. Condition: the library's table of powers holds what its text lays.
-/
import Derived.Shelf.Strconv.Itoa3
import Derived.Test.YtlhbofekochhkaaDoorRefZ
namespace Go.Proofs
open Go.Shelf
def Tryd.lays243_ren : Go.Shelf.Ren := ⟨fun | 129 => 37 | 243 => 24 | 246 => 31 | 283 => 32 | 284 => 33 | 285 => 34 | 286 => 35 | 317 => 36 | 318 => 38 | 319 => 39 | 320 => 40 | 337 => 41 | 338 => 42 | n => n, fun | 0 => 0 | 2 => 2 | 3 => 3 | 4 => 4 | 5 => 5 | 9 => 9 | 20 => 20 | 37 => 54 | 46 => 63 | 51 => 33 | 53 => 36 | 171 => 51 | 173 => 55 | 212 => 60 | 213 => 61 | 232 => 66 | 233 => 67 | n => n, fun | 17 => 1 | 18 => 2 | 19 => 3 | n => n⟩
theorem Tryd.lays243 : Go.Proofs.Lays.n243 Tryd.prog Tryd.lays243_ren := {
  mixed := by kernel_rfl
  f129 := Tryd.func37.trans (congrArg some (by kernel_rfl))
  f243 := Tryd.func24.trans (congrArg some (by kernel_rfl))
  f246 := Tryd.func31.trans (congrArg some (by kernel_rfl))
  f283 := Tryd.func32.trans (congrArg some (by kernel_rfl))
  f284 := Tryd.func33.trans (congrArg some (by kernel_rfl))
  f285 := Tryd.func34.trans (congrArg some (by kernel_rfl))
  f286 := Tryd.func35.trans (congrArg some (by kernel_rfl))
  f317 := Tryd.func36.trans (congrArg some (by kernel_rfl))
  f318 := Tryd.func38.trans (congrArg some (by kernel_rfl))
  f319 := Tryd.func39.trans (congrArg some (by kernel_rfl))
  f320 := Tryd.func40.trans (congrArg some (by kernel_rfl))
  f337 := Tryd.func41.trans (congrArg some (by kernel_rfl))
  f338 := Tryd.func42.trans (congrArg some (by kernel_rfl))
  t0 := Tryd.underlying0
  a0 := Tryd.isAgg0
  z0 := Tryd.sizeOf0
  v0 := Tryd.zeroValue0
  t2 := Tryd.underlying2
  a2 := Tryd.isAgg2
  z2 := Tryd.sizeOf2
  v2 := Tryd.zeroValue2
  t3 := Tryd.underlying3
  a3 := Tryd.isAgg3
  z3 := Tryd.sizeOf3
  v3 := Tryd.zeroValue3
  t4 := Tryd.underlying4
  a4 := Tryd.isAgg4
  z4 := Tryd.sizeOf4
  v4 := Tryd.zeroValue4
  t5 := Tryd.underlying5
  a5 := Tryd.isAgg5
  z5 := Tryd.sizeOf5
  v5 := Tryd.zeroValue5
  t9 := Tryd.underlying9
  a9 := Tryd.isAgg9
  z9 := Tryd.sizeOf9
  v9 := Tryd.zeroValue9
  t20 := Tryd.underlying20
  a20 := Tryd.isAgg20
  z20 := Tryd.sizeOf20
  v20 := Tryd.zeroValue20
  t37 := Tryd.underlying54
  a37 := Tryd.isAgg54
  z37 := Tryd.sizeOf54
  v37 := Tryd.zeroValue54
  t46 := Tryd.underlying63
  a46 := Tryd.isAgg63
  z46 := Tryd.sizeOf63
  v46 := Tryd.zeroValue63
  t51 := Tryd.underlying33
  a51 := Tryd.isAgg33
  z51 := Tryd.sizeOf33
  v51 := Tryd.zeroValue33
  t53 := Tryd.underlying36
  a53 := Tryd.isAgg36
  z53 := Tryd.sizeOf36
  v53 := Tryd.zeroValue36
  t171 := Tryd.underlying51
  a171 := Tryd.isAgg51
  z171 := Tryd.sizeOf51
  v171 := Tryd.zeroValue51
  t173 := Tryd.underlying55
  a173 := Tryd.isAgg55
  z173 := Tryd.sizeOf55
  v173 := Tryd.zeroValue55
  t212 := Tryd.underlying60
  a212 := Tryd.isAgg60
  z212 := Tryd.sizeOf60
  v212 := Tryd.zeroValue60
  t213 := Tryd.underlying61
  a213 := Tryd.isAgg61
  z213 := Tryd.sizeOf61
  t232 := Tryd.underlying66
  a232 := Tryd.isAgg66
  z232 := Tryd.sizeOf66
  v232 := Tryd.zeroValue66
  t233 := Tryd.underlying67
  a233 := Tryd.isAgg67
  z233 := Tryd.sizeOf67
  v233 := Tryd.zeroValue67
  g17 := by kernel_rfl
  g18 := by kernel_rfl
  g19 := by kernel_rfl }
theorem Tryd.laysM243 : Go.Proofs.LaysM.n243 Tryd.prog Tryd.lays243_ren := {
  Tryd.lays243 with
  i0 := by kernel_rfl
  i2 := by kernel_rfl
  i3 := by kernel_rfl
  i4 := by kernel_rfl
  i5 := by kernel_rfl
  i9 := by kernel_rfl
  i20 := by kernel_rfl
  i37 := by kernel_rfl
  i46 := by kernel_rfl
  i51 := by kernel_rfl
  i53 := by kernel_rfl
  i171 := by kernel_rfl
  i173 := by kernel_rfl
  i212 := by kernel_rfl
  i232 := by kernel_rfl
  i233 := by kernel_rfl
  m17 := by kernel_rfl
  m18 := by kernel_rfl
  m19 := by kernel_rfl }
end Go.Proofs
namespace Go.Proofs.YtlhbofekochhkaaDoor
open Go.RowKit
open Go.Sort

/-- The listed variables' names, off the given row. -/
def nmPow : String := (Rows.refsNumbersRow.laid.map (·.1)).getD 2 default
def nmBits : String := (Rows.refsNumbersRow.laid.map (·.1)).getD 1 default
theorem gPow : Tryd.prog.globalNamed nmPow = some 1 := by kernel_rfl
theorem gBits : Tryd.prog.globalNamed nmBits = some 3 := by kernel_rfl
/-- The library's table of powers, as its text lays it. -/
def PowIs (w : World) : Prop := ∃ t fr, w.heap[1]? = some (.cells (Lib.pow10Tab.map fun z => Value.int .u64 z).toArray t fr)
theorem PowIs.ext {w w' : World} (h : PowIs w) (k : Ext w w') : PowIs w' := by
  obtain ⟨t, fr, h⟩ := h
  exact ⟨t, fr, (k.block _ (Array.getElem?_eq_some_iff.1 h).1).trans h⟩
theorem ext_grow (w : World) (k : Nat) (os : Array Obj) : Ext w (grow (w.drewN k) os) :=
  ⟨rfl, rfl, rfl, by show w.heap.size ≤ (w.heap ++ os).size; rw [Array.size_append]; omega, fun j hj => by show (w.heap ++ os)[j]? = w.heap[j]?; rw [Array.getElem?_append_left hj]⟩
theorem itoa_any (n : Nat) (w : World) (hn : n < 9223372036854775808) (hp : PowIs w) :
    Calls Tryd.prog 24 #[.int .i64 n] w fun e w' => e = .returned (.string ⟨⟨Lib.decDigits n⟩⟩) ∧ Ext w w' := by
  obtain ⟨t, fr, hp⟩ := hp
  have hI : Lib.itoa n = Lib.decDigits n := by
    unfold Lib.itoa
    rw [if_neg (by omega), Int.toNat_natCast]
  refine (Any.internal_strconv_Itoa Tryd.laysM243 n (by omega) (by omega) w ?_).mono ?_
  · unfold Lib.TabIs World.var?
    rw [Tryd.laysM243.m17]
    show (match w.heap[1]? with | some (.cells c _ _) => some c | _ => none) = _
    rw [hp]
  · rintro e w' ⟨rfl, k, os, rfl⟩
    rw [hI]
    exact ⟨rfl, ext_grow w k os⟩
/-- What holds of the world from call to call. -/
def StN (w0 w : World) : Prop := St w0 w ∧ PowIs w ∧ w.cell? ⟨3, 15, none⟩ = some (.int .u8 4)
theorem cell_in {w : World} {g o : Nat} {v : Value} (h : w.cell? ⟨g, o, none⟩ = some v) : g < w.heap.size := by
  unfold World.cell? at h
  apply Classical.byContradiction
  intro hn
  rw [Array.getElem?_eq_none (by show w.heap.size ≤ g; omega)] at h
  simp at h
theorem StN.next {w0 w w' : World} (h : StN w0 w) (k : Ext w w') : StN w0 w' :=
  ⟨h.1.next k, h.2.1.ext k, (k.cell (p := ⟨3, 15, none⟩) (cell_in h.2.2)).trans h.2.2⟩
theorem itoa_st (w0 : World) (n : Nat) (w : World) (h : StN w0 w) (hn : n < 4294967296) :
    Calls Tryd.prog 24 #[.int .i64 n] w fun e w' => e = .returned (.string ⟨⟨Lib.decDigits n⟩⟩) ∧ StN w0 w' := (itoa_any n w (by omega) h.2.1).mono fun _ _ ⟨a, b⟩ => ⟨a, h.next b⟩
theorem fmt_st (w0 : World) (n : Nat) (w : World) (h : StN w0 w) (hn : n < 4294967296) :
    Calls Tryd.prog 25 #[.int .u64 n, .int .i64 16] w fun e w' => e = .returned (.string ⟨⟨hexL 7 n⟩⟩) ∧ StN w0 w' := (fmt_16 n w hn h.2.2).mono fun _ _ ⟨a, b⟩ => ⟨a, h.next b⟩
theorem refers_stn (w0 w : World) (h : StN w0 w) : Calls Tryd.prog 7 #[] w fun e w' => e = .returned (.bool true) ∧ Ext w0 w' := (refers_st w0 w h.1).mono fun _ _ ⟨a, b⟩ => ⟨a, b.1⟩
theorem findI_nat (s : List UInt8) (k : Nat) (attr : Bool) : findI s k attr = findB s k attr := by
  unfold findI
  rw [if_neg (by omega), Int.toNat_natCast]
/-- A reference behind some bytes, of which is known what it is by itself. -/
theorem find_at (w0 : World) (a r s : List UInt8) (i : Int) (attr : Bool) (w : World) (h : StN w0 w) (hl : s.length < 100000) (hs : s = a ++ r) (hi : i = a.length) (t : List UInt8) (m : Nat) (hq : findB r 0 attr = (t, m, true)) :
    Calls Tryd.prog 8 #[.string ⟨⟨s⟩⟩, .int .i64 i, .bool attr] w fun e w' => e = .returned (.tuple #[.string ⟨⟨t⟩⟩, .int .i64 ((a.length : Int) + m), .bool true]) ∧ StN w0 w' := by
  subst hs hi
  refine (refsFind_any (a ++ r) a.length attr w hl h.1.2).mono fun _ _ ⟨he, k⟩ => ?_
  rw [findI_nat, find_ahead, hq] at he
  refine ⟨?_, h.next k⟩
  rw [he]
  show Ending.returned (Value.tuple #[_, .int .i64 ((m + a.length : Nat) : Int), _]) = _
  have e : ((m + a.length : Nat) : Int) = (a.length : Int) + m := by omega
  rw [e]
  rfl
end Go.Proofs.YtlhbofekochhkaaDoor
