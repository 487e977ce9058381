/-
  What is proved: whether a text is a name of a policy, the reference's: a contract. Condition: texts that fit.
-/
import Derived.Test.YtkofccabfkkgjaaDoorLet
namespace Go.Proofs.YtkofccabfkkgjaaDoor
open Go.RowKit

theorem letB_nat (c : UInt8) : letB c = decide ((97 ≤ c.toNat ∧ c.toNat ≤ 122) ∨ (65 ≤ c.toNat ∧ c.toNat ≤ 90) ∨ (48 ≤ c.toNat ∧ c.toNat ≤ 57) ∨ c.toNat = 45 ∨ c.toNat = 35 ∨ c.toNat = 61 ∨ c.toNat = 95 ∨ c.toNat = 47 ∨ c.toNat = 64 ∨ c.toNat = 46 ∨ c.toNat = 37) := by
  have key : ∀ n : Fin 256, letB (UInt8.ofNat n) = decide ((97 ≤ n.val ∧ n.val ≤ 122) ∨ (65 ≤ n.val ∧ n.val ≤ 90) ∨ (48 ≤ n.val ∧ n.val ≤ 57) ∨ n.val = 45 ∨ n.val = 35 ∨ n.val = 61 ∨ n.val = 95 ∨ n.val = 47 ∨ n.val = 64 ∨ n.val = 46 ∨ n.val = 37) := by decide +kernel
  have := key ⟨c.toNat, c.toNat_lt⟩
  simpa only [UInt8.ofNat_toNat] using this
set_option maxHeartbeats 8000000 in
theorem nameR_any (s : List UInt8) (w : World) (hs : s.length ≤ maxLen) :
    Calls Tryd.prog 38 #[.string ⟨⟨s⟩⟩] w fun e w' => e = .returned (.bool (nameB s)) ∧ w = w' := by
  unfold maxLen at hs
  go_enter Tryd.func38, Tryd.ntmps38
  go_wp2
  go_loop [3] (fun i => ∃ k : Nat, i = .int .i64 k ∧ k ≤ s.length ∧ Hid ((s.take k).all letB = true)) (fun i => s.length - (intOf i).toNat)
  case atStart => exact ⟨0, rfl, by omega, Lib.hid rfl⟩
  case round =>
    obtain ⟨k, rfl, hk, HA⟩ := hrel
    by_cases hlt : k < s.length
    · obtain ⟨c, hc⟩ : ∃ c, s[k] = c := ⟨_, rfl⟩
      have hcl := c.toNat_lt
      have HL := Lib.hid (letB_nat c)
      have HT := Lib.hid (all_take hlt letB)
      have HC := Lib.hid hc
      go_wp2
      all_goals first
        | (go_ret
           refine ⟨ret_inj (bool_eq ?_), rfl⟩
           unfold nameB
           rw [all_false hlt (by rw [HC.out, HL.out]; exact decide_eq_false (by first | omega | (have hh := ‹_ ∧ (!((c.toNat : Int) == 37)) = true›; have h37 := hh.2; simp at h37; omega)))]
           rfl)
        | (go_round
           case rel => exact ⟨k + 1, by go_num, by omega, Lib.hid (by rw [HT.out, HA.out, HC.out, HL.out, decide_eq_true (by first | omega | (have hh := ‹_ ∨ (!((c.toNat : Int) == 37)) = false›; simp at hh; omega))]; rfl)⟩
           case measure => simp [intOf]; omega)
    · obtain rfl : k = s.length := by omega
      have HF : Hid (nameB s = !s.isEmpty) := Lib.hid (by
        have h := HA.out
        rw [List.take_length] at h
        unfold nameB
        rw [h]
        cases s <;> rfl)
      go_wp2
      go_ret
      exact ⟨ret_inj (bool_eq HF.out.symm), rfl⟩
end Go.Proofs.YtkofccabfkkgjaaDoor
