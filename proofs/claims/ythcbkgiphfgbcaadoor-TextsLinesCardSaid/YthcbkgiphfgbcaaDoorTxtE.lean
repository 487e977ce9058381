/-
  What is proved: the reference's Decode: a contract. Condition: the text's size.
-/
import Derived.Test.YthcbkgiphfgbcaaDoorTxtL
import Derived.Test.YthcbkgiphfgbcaaDoorTxtP
import Derived.Test.YthcbkgiphfgbcaaDoorTrm
namespace Go.Proofs.YthcbkgiphfgbcaaDoor
open Go.RowKit

theorem i8 {c : UInt8} (p : Nat → Prop) (h : p c.toNat) : p c.toNat := h
set_option maxRecDepth 100000 in
theorem more_any (c : UInt8) (w : World) : Calls Tryd.prog 18 #[.int .u8 c.toNat] w fun e w' => e = .returned (.int .i64 (moreB c)) ∧ w = w' := by
  have hm : moreB c = if (c.toNat : Int) < 128 then 0 else if 194 ≤ (c.toNat : Int) ∧ (c.toNat : Int) ≤ 223 then 1 else if 224 ≤ (c.toNat : Int) ∧ (c.toNat : Int) ≤ 239 then 2 else if 240 ≤ (c.toNat : Int) ∧ (c.toNat : Int) ≤ 244 then 3 else -1 := by
    have key : (List.range 256).all (fun n => decide (moreB (UInt8.ofNat n) = if ((UInt8.ofNat n).toNat : Int) < 128 then 0 else if 194 ≤ ((UInt8.ofNat n).toNat : Int) ∧ ((UInt8.ofNat n).toNat : Int) ≤ 223 then 1 else if 224 ≤ ((UInt8.ofNat n).toNat : Int) ∧ ((UInt8.ofNat n).toNat : Int) ≤ 239 then 2 else if 240 ≤ ((UInt8.ofNat n).toNat : Int) ∧ ((UInt8.ofNat n).toNat : Int) ≤ 244 then 3 else -1)) = true := by decide +kernel
    have := u8 (fun c => decide (moreB c = if (c.toNat : Int) < 128 then 0 else if 194 ≤ (c.toNat : Int) ∧ (c.toNat : Int) ≤ 223 then 1 else if 224 ≤ (c.toNat : Int) ∧ (c.toNat : Int) ≤ 239 then 2 else if 240 ≤ (c.toNat : Int) ∧ (c.toNat : Int) ≤ 244 then 3 else -1)) key c
    simpa using this
  have HM := Lib.hid hm
  have hc := c.toNat_lt
  clear hm
  go_enter Tryd.func18, Tryd.ntmps18
  go_wp2
  all_goals
    go_ret
    refine ⟨ret_inj (int_eq ?_), rfl⟩
    rw [HM.out]
    repeat' split
    all_goals first | rfl | omega
set_option maxRecDepth 100000 in
set_option maxHeartbeats 1000000 in
theorem may_any (f c : UInt8) (k : Nat) (w : World) (hk : k < 100000) : Calls Tryd.prog 17 #[.int .u8 f.toNat, .int .u8 c.toNat, .int .i64 k] w fun e w' => e = .returned (.bool (mayB f c k)) ∧ w = w' := by
  have hm : mayB f c k = if (c.toNat : Int) < 128 ∨ 191 < (c.toNat : Int) then false else if 1 < (k : Int) then true else if (f.toNat : Int) = 224 then decide (160 ≤ (c.toNat : Int)) else if (f.toNat : Int) = 237 then decide ((c.toNat : Int) ≤ 159) else if (f.toNat : Int) = 240 then decide (144 ≤ (c.toNat : Int)) else if (f.toNat : Int) = 244 then decide ((c.toNat : Int) ≤ 143) else true := by
    have e1 : ∀ n : Nat, n < 256 → ((f == UInt8.ofNat n) = true ↔ (f.toNat : Int) = n) := fun n hn => by
      rw [beq_iff_eq, ← UInt8.toNat_inj, UInt8.toNat_ofNat', Nat.mod_eq_of_lt (by omega)]
      omega
    have a1 := e1 224 (by omega)
    have a2 := e1 237 (by omega)
    have a3 := e1 240 (by omega)
    have a4 := e1 244 (by omega)
    have k1 : (0x80 : UInt8).toNat = 128 := rfl
    have k2 : (0xbf : UInt8).toNat = 191 := rfl
    have k3 : (0xa0 : UInt8).toNat = 160 := rfl
    have k4 : (0x9f : UInt8).toNat = 159 := rfl
    have k5 : (0x90 : UInt8).toNat = 144 := rfl
    have k6 : (0x8f : UInt8).toNat = 143 := rfl
    unfold mayB
    simp only [Bool.or_eq_true, decide_eq_true_eq, UInt8.lt_iff_toNat_lt, UInt8.le_iff_toNat_le, k1, k2, k3, k4, k5, k6]
    by_cases h1 : (c.toNat : Int) < 128 ∨ 191 < (c.toNat : Int)
    · have h1' : c.toNat < 128 ∨ 191 < c.toNat := by omega
      simp only [if_pos h1, if_pos h1']
    · have h1' : ¬ (c.toNat < 128 ∨ 191 < c.toNat) := by omega
      simp only [if_neg h1, if_neg h1']
      by_cases h2 : 1 < (k : Int)
      · have h2' : 1 < k := by omega
        simp only [if_pos h2, if_pos h2']
      · have h2' : ¬ 1 < k := by omega
        simp only [if_neg h2, if_neg h2']
        by_cases h3 : (f.toNat : Int) = 224
        · have h3' := a1.2 h3
          have e : (UInt8.ofNat 224) = (0xe0 : UInt8) := rfl
          rw [e] at h3'
          simp only [if_pos h3, if_pos h3']
          apply decide_eq_decide.2; omega
        · have h3' : ¬ (f == 0xe0) = true := fun e => h3 (a1.1 e)
          simp only [if_neg h3, if_neg h3']
          by_cases h4 : (f.toNat : Int) = 237
          · have h4' : (f == 0xed) = true := a2.2 h4
            simp only [if_pos h4, if_pos h4']
            apply decide_eq_decide.2; omega
          · have h4' : ¬ (f == 0xed) = true := fun e => h4 (a2.1 e)
            simp only [if_neg h4, if_neg h4']
            by_cases h5 : (f.toNat : Int) = 240
            · have h5' : (f == 0xf0) = true := a3.2 h5
              simp only [if_pos h5, if_pos h5']
              apply decide_eq_decide.2; omega
            · have h5' : ¬ (f == 0xf0) = true := fun e => h5 (a3.1 e)
              simp only [if_neg h5, if_neg h5']
              by_cases h6 : (f.toNat : Int) = 244
              · have h6' : (f == 0xf4) = true := a4.2 h6
                simp only [if_pos h6, if_pos h6']
                apply decide_eq_decide.2; omega
              · have h6' : ¬ (f == 0xf4) = true := fun e => h6 (a4.1 e)
                simp only [if_neg h6, if_neg h6']
  have HM := Lib.hid hm
  have hc := c.toNat_lt
  have hf := f.toNat_lt
  clear hm
  go_enter Tryd.func17, Tryd.ntmps17
  go_wp2
  all_goals
    go_ret
    refine ⟨ret_inj (bool_eq ?_), rfl⟩
    rw [HM.out]
    clear HM
    try simp only [beq_iff_eq, beq_eq_false_iff_ne, ne_eq] at *
    repeat' split
    all_goals first | rfl | (exfalso; omega) | (rw [decide_eq_true (by omega)]) | (rw [decide_eq_false (by omega)]) | (simp; omega)
end Go.Proofs.YthcbkgiphfgbcaaDoor
