/-
  What is proved: small plain facts on strings as lists of bytes, for the walks. No condition.
-/
import Derived.Test.YtkgieaokckidmaaProg
import Derived.WalkKit
import Derived.WalkSpells
import Derived.WalkLawsBesides
import Derived.Lib.Hide
import Derived.Lib.QuietBelow
namespace Go.Proofs.Ytkgieaokckidmaa
open Go.RowKit

@[simp, go_sem] theorem bsize (l : List UInt8) : (ByteArray.mk (Array.mk l)).size = l.length := rfl
@[go_sem] theorem bget (l : List UInt8) (i : Nat) (h : i < (ByteArray.mk (Array.mk l)).size) : (ByteArray.mk (Array.mk l))[i]'h = l[i]'h := rfl
theorem toList_loop (b : ByteArray) : ∀ (n i : Nat) (acc : List UInt8), b.size - i = n → ByteArray.toList.loop b i acc = acc.reverse ++ b.data.toList.drop i := by
  intro n
  induction n with
  | zero =>
    intro i acc h
    unfold ByteArray.toList.loop
    rw [if_neg (by omega), List.drop_eq_nil_of_le (by simp; show b.size ≤ i; omega), List.append_nil]
  | succ n ih =>
    intro i acc h
    have hi : i < b.size := by omega
    unfold ByteArray.toList.loop
    rw [if_pos hi, ih (i + 1) _ (by omega)]
    have hd : b.data.toList.drop i = b.get! i :: b.data.toList.drop (i + 1) := by
      rw [List.drop_eq_getElem_cons (by simpa using hi)]
      congr 1
      have hi2 : i < b.data.size := hi
      show b.data.toList[i] = b.data[i]!
      simp [Array.getElem_toList, getElem!_pos b.data i hi2]
    rw [hd]
    simp
theorem btoList' (b : ByteArray) : b.toList = b.data.toList := by
  unfold ByteArray.toList
  rw [toList_loop b _ 0 [] rfl]
  simp
@[go_sem] theorem btoList (l : List UInt8) : (ByteArray.mk (Array.mk l)).toList = l := btoList' _
@[go_sem] theorem bextract (l : List UInt8) (i j : Nat) : (ByteArray.mk (Array.mk l)).extract i j = ByteArray.mk (Array.mk ((l.drop i).take (j - i))) := by
  apply ByteArray.ext
  rw [ByteArray.data_extract]
  apply Array.toList_inj.1
  simp [List.extract_eq_take_drop]
@[go_sem high] theorem bextract_end (l : List UInt8) (i j : Nat) (h : l.length ≤ j) : (ByteArray.mk (Array.mk l)).extract i j = ByteArray.mk (Array.mk (l.drop i)) := by
  rw [bextract, List.take_of_length_le (by simp; omega)]
@[go_sem] theorem bappend (a b : List UInt8) : ByteArray.mk (Array.mk a) ++ ByteArray.mk (Array.mk b) = ByteArray.mk (Array.mk (a ++ b)) := by
  apply ByteArray.ext
  simp [ByteArray.data_append]
theorem ret_inj {a b : Value} (h : a = b) : Ending.returned a = Ending.returned b := by rw [h]
theorem str_eq {a b : List UInt8} (h : a = b) : Value.string ⟨⟨a⟩⟩ = Value.string ⟨⟨b⟩⟩ := by rw [h]
theorem int_eq {k : IntKind} {a b : Int} (h : a = b) : Value.int k a = Value.int k b := by rw [h]
theorem bool_eq {a b : Bool} (h : a = b) : Value.bool a = Value.bool b := by rw [h]
theorem eta (s : ByteArray) : s = ⟨⟨s.data.toList⟩⟩ := rfl

def strLen : Value → Nat | .string s => s.size | _ => 0

/-- What has been made since a world: a shorter word. -/
abbrev Ext (w w' : World) : Prop := Below w.heap.size w w'
theorem Ext.refl (w : World) : Ext w w := Below.refl _ _
theorem Ext.trans {a b c : World} (h : Ext a b) (k : Ext b c) : Ext a c := Below.trans h (Below.mono k h.size)
theorem Ext.below {B : Nat} {a b c : World} (h : Below B a b) (hB : B ≤ b.heap.size) (k : Ext b c) : Below B a c := Below.trans h (Below.mono k hB)
theorem below_drewN {B : Nat} {a w : World} (h : Below B a w) (n : Nat) : Below B a (w.drewN n) := ⟨h.os, h.tape, h.output, h.size, h.block⟩
theorem Ext.drewN (w : World) (n : Nat) : Ext w (w.drewN n) := ⟨rfl, rfl, rfl, Nat.le_refl _, fun _ _ => rfl⟩
end Go.Proofs.Ytkgieaokckidmaa
