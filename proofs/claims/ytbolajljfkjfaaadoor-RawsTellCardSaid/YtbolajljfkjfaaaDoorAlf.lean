/-
  What is proved: letters and digits, in the program and in the reference: contracts. No condition.
-/
import Derived.Test.YtbolajljfkjfaaaDoorHex
namespace Go.Proofs.YtbolajljfkjfaaaDoor
open Go.RowKit

def alphaB (c : UInt8) : Bool := (65 ≤ c && c ≤ 90) || (97 ≤ c && c ≤ 122)
theorem alpha_iff (c : UInt8) : alphaB c = (decide (97 ≤ ((c.toNat ||| 32 : Nat) : Int)) && decide (((c.toNat ||| 32 : Nat) : Int) ≤ 122)) := by
  have key : ∀ n : Fin 256, alphaB (UInt8.ofNat n) = (decide (97 ≤ ((n.val ||| 32 : Nat) : Int)) && decide (((n.val ||| 32 : Nat) : Int) ≤ 122)) := by decide +kernel
  have := key ⟨c.toNat, c.toNat_lt⟩
  simpa only [UInt8.ofNat_toNat] using this
theorem alpha_any (c : UInt8) (w : World) :
    Calls Tryd.prog 87 #[.int .u8 c.toNat] w fun e w' => e = .returned (.bool (alphaB c)) ∧ w = w' := by
  have h0 := c.toNat_lt
  have ho := or32_lt c
  have ho2 := or32 c
  have HA := Lib.hid (alpha_iff c)
  go_enter Tryd.func87, Tryd.ntmps87
  go_wp2
  all_goals
    go_ret
    refine ⟨ret_inj (bool_eq ?_), rfl⟩
    rw [HA.out]
    first | rfl | (simp; omega) | (rw [Bool.eq_iff_iff]; simp; omega)
theorem refAlpha_any (c : UInt8) (w : World) :
    Calls Tryd.prog 73 #[.int .u8 c.toNat] w fun e w' => e = .returned (.bool (alphaB c)) ∧ w = w' := by
  have h0 := c.toNat_lt
  have HA : Hid (alphaB c = decide ((65 ≤ (c.toNat : Int) ∧ (c.toNat : Int) ≤ 90) ∨ (97 ≤ (c.toNat : Int) ∧ (c.toNat : Int) ≤ 122))) := by
    apply Lib.hid
    unfold alphaB
    rw [Bool.eq_iff_iff]
    simp [UInt8.le_iff_toNat_le]
    omega
  go_enter Tryd.func73, Tryd.ntmps73
  go_wp2
  all_goals
    go_ret
    refine ⟨ret_inj (bool_eq ?_), rfl⟩
    rw [HA.out]
    first | rfl | (simp; omega) | (rw [Bool.eq_iff_iff]; simp; omega)
theorem refDigit_any (c : UInt8) (w : World) :
    Calls Tryd.prog 74 #[.int .u8 c.toNat] w fun e w' => e = .returned (.bool (digB c)) ∧ w = w' := by
  have h0 := c.toNat_lt
  have HA := Lib.hid (digB_iff c)
  go_enter Tryd.func74, Tryd.ntmps74
  go_wp2
  all_goals
    go_ret
    refine ⟨ret_inj (bool_eq ?_), rfl⟩
    rw [HA.out]
    first | rfl | (simp; omega) | (rw [Bool.eq_iff_iff]; simp; omega)
end Go.Proofs.YtbolajljfkjfaaaDoor
