/-
  What is proved: what a digit to the base 16 is worth, in the program and in the reference: contracts. No condition.
-/
import Derived.Test.YtbolajljfkjfaaaDoorBase
import Derived.Test.YtbolajljfkjfaaaDoorRows
namespace Go.Proofs.YtbolajljfkjfaaaDoor
open Go.RowKit

def isHex (c : UInt8) : Bool := (48 ≤ c && c ≤ 57) || (65 ≤ c && c ≤ 70) || (97 ≤ c && c ≤ 102)
def hexN (c : UInt8) : Nat := if 48 ≤ c && c ≤ 57 then c.toNat - 48 else if 65 ≤ c && c ≤ 70 then c.toNat - 55 else if 97 ≤ c && c ≤ 102 then c.toNat - 87 else 0
theorem hexN_le (c : UInt8) : hexN c ≤ 15 := by
  unfold hexN
  simp only [Bool.and_eq_true, decide_eq_true_eq, UInt8.le_iff_toNat_le]
  split
  · have h : (57 : UInt8).toNat = 57 := rfl
    omega
  · split
    · have h : (70 : UInt8).toNat = 70 := rfl
      omega
    · split
      · have h : (102 : UInt8).toNat = 102 := rfl
        omega
      · omega
def digB (c : UInt8) : Bool := 48 ≤ c && c ≤ 57
theorem digB_iff (c : UInt8) : digB c = decide (48 ≤ (c.toNat : Int) ∧ (c.toNat : Int) ≤ 57) := by
  unfold digB
  rw [Bool.eq_iff_iff]
  simp [UInt8.le_iff_toNat_le]
  omega
theorem digit_any (c : UInt8) (w : World) :
    Calls Tryd.prog 88 #[.int .u8 c.toNat] w fun e w' => e = .returned (.bool (digB c)) ∧ w = w' := by
  have h0 := c.toNat_lt
  go_enter Tryd.func88, Tryd.ntmps88
  go_wp2
  go_ret
  refine ⟨ret_inj (bool_eq ?_), rfl⟩
  rw [digB_iff]
  apply decide_eq_decide.2
  omega
theorem or32 (c : UInt8) : bits .or .u8 c.toNat 32 = ((c.toNat ||| 32 : Nat) : Int) := by
  have h : ∀ n : Fin 256, bits .or .u8 ((n : Nat) : Int) 32 = ((n.val ||| 32 : Nat) : Int) := by decide +kernel
  exact h ⟨c.toNat, c.toNat_lt⟩
theorem or32_lt (c : UInt8) : c.toNat ||| 32 < 256 := Nat.or_lt_two_pow (n := 8) c.toNat_lt (by decide)
theorem hex_alpha (c : UInt8) (h : digB c = false) (h1 : 97 ≤ c.toNat ||| 32) (h2 : c.toNat ||| 32 ≤ 102) : ((hexN c : Nat) : Int) = (c.toNat ||| 32 : Nat) - 97 + 10 ∧ isHex c = true := by
  have key : ∀ n : Fin 256, digB (UInt8.ofNat n) = false → 97 ≤ n.val ||| 32 → n.val ||| 32 ≤ 102 → ((hexN (UInt8.ofNat n) : Nat) : Int) = (n.val ||| 32 : Nat) - 97 + 10 ∧ isHex (UInt8.ofNat n) = true := by decide +kernel
  have := key ⟨c.toNat, c.toNat_lt⟩
  simp only [UInt8.ofNat_toNat] at this
  exact this h h1 h2
theorem hex_none (c : UInt8) (h : digB c = false) (h1 : c.toNat ||| 32 < 97 ∨ 102 < c.toNat ||| 32) : hexN c = 0 ∧ isHex c = false := by
  have key : ∀ n : Fin 256, digB (UInt8.ofNat n) = false → n.val ||| 32 < 97 ∨ 102 < n.val ||| 32 → hexN (UInt8.ofNat n) = 0 ∧ isHex (UInt8.ofNat n) = false := by decide +kernel
  have := key ⟨c.toNat, c.toNat_lt⟩
  simp only [UInt8.ofNat_toNat] at this
  exact this h h1
theorem hex_digit (c : UInt8) (h : digB c = true) : 48 ≤ c.toNat ∧ c.toNat ≤ 57 ∧ hexN c = c.toNat - 48 ∧ isHex c = true := by
  have h2 := h
  rw [digB_iff] at h2
  simp only [decide_eq_true_eq] at h2
  unfold digB at h
  simp only [Bool.and_eq_true, decide_eq_true_eq] at h
  refine ⟨by omega, by omega, ?_, ?_⟩
  · unfold hexN; simp [h]
  · unfold isHex; simp [h]
def TwoRes (a b : Value) (w : World) (e : Ending) (w' : World) : Prop := e = .returned (.tuple #[a, b]) ∧ w = w'
set_option maxHeartbeats 400000 in
theorem hex_any (c : UInt8) (w : World) :
    Calls Tryd.prog 99 #[.int .u8 c.toNat] w (TwoRes (.int .i64 (hexN c)) (.bool (isHex c)) w) := by
  have h0 := c.toNat_lt
  have ho := or32_lt c
  have ho2 := or32 c
  cases hd : digB c
  · by_cases h1 : 97 ≤ ((c.toNat ||| 32 : Nat) : Int) ∧ ((c.toNat ||| 32 : Nat) : Int) ≤ 102
    · obtain ⟨h1, h2⟩ := h1
      obtain ⟨e1, e2⟩ := hex_alpha c hd (by omega) (by omega)
      rw [e1, e2]
      clear e1 e2
      go_enter Tryd.func99, Tryd.ntmps99
      go_wp2_with (go_at_call 88; refine (digit_any _ _).mono ?_; rintro e w' ⟨rfl, rfl⟩)
      go_ret2
      exact ⟨rfl, rfl⟩
    · have h1 : ((c.toNat ||| 32 : Nat) : Int) < 97 ∨ 102 < ((c.toNat ||| 32 : Nat) : Int) := by omega
      obtain ⟨e1, e2⟩ := hex_none c hd (by omega)
      rw [e1, e2]
      clear e1 e2
      rcases h1 with h1 | h1
      · go_enter Tryd.func99, Tryd.ntmps99
        go_wp2_with (go_at_call 88; refine (digit_any _ _).mono ?_; rintro e w' ⟨rfl, rfl⟩)
        go_ret2
        exact ⟨rfl, rfl⟩
      · have h2 : 97 ≤ ((c.toNat ||| 32 : Nat) : Int) := by omega
        go_enter Tryd.func99, Tryd.ntmps99
        go_wp2_with (go_at_call 88; refine (digit_any _ _).mono ?_; rintro e w' ⟨rfl, rfl⟩)
        go_ret2
        exact ⟨rfl, rfl⟩
  · obtain ⟨a1, a2, a3, a4⟩ := hex_digit c hd
    rw [a3, a4]
    clear a3 a4
    have e1 : ((c.toNat - 48 : Nat) : Int) = c.toNat - 48 := by omega
    rw [e1]
    clear e1
    go_enter Tryd.func99, Tryd.ntmps99
    go_wp2_with (go_at_call 88; refine (digit_any _ _).mono ?_; rintro e w' ⟨rfl, rfl⟩)
    go_ret2
    exact ⟨rfl, rfl⟩

/-! ### the reference's Hex: a loop over the digits -/
def hdig : List UInt8 := [48, 49, 50, 51, 52, 53, 54, 55, 56, 57, 97, 98, 99, 100, 101, 102]
def hmatch (c : UInt8) (k : Nat) : Bool := hdig.getD k 0 == c || (65 ≤ c && c ≤ 90 && hdig.getD k 0 == c + 32)
theorem hmatch_some (c : UInt8) (k : Nat) (hk : k < 16) (h : hmatch c k = true) (_hj : ∀ j, j < k → hmatch c j = false) : hexN c = k ∧ isHex c = true := by
  have key : ∀ k : Fin 16, ∀ n : Fin 256, hmatch (UInt8.ofNat n) k = true → hexN (UInt8.ofNat n) = k ∧ isHex (UInt8.ofNat n) = true := by decide +kernel
  have := key ⟨k, hk⟩ ⟨c.toNat, c.toNat_lt⟩
  simp only [UInt8.ofNat_toNat] at this
  exact this h
theorem hmatch_none (c : UInt8) (h : ∀ j, j < 16 → hmatch c j = false) : hexN c = 0 ∧ isHex c = false := by
  have key : ∀ n : Fin 256, (∀ j : Fin 16, hmatch (UInt8.ofNat n) j = false) → hexN (UInt8.ofNat n) = 0 ∧ isHex (UInt8.ofNat n) = false := by decide +kernel
  have := key ⟨c.toNat, c.toNat_lt⟩
  simp only [UInt8.ofNat_toNat] at this
  exact this fun j => h j j.isLt
theorem hm_iff (c : UInt8) (k : Nat) (hk : k < [48, 49, 50, 51, 52, 53, 54, 55, 56, 57, 97, 98, 99, 100, 101, (102 : UInt8)].length) :
    hmatch c k = true ↔ ([48, 49, 50, 51, 52, 53, 54, 55, 56, 57, 97, 98, 99, 100, 101, (102 : UInt8)][k]'hk).toNat = c.toNat ∨ (65 ≤ c.toNat ∧ c.toNat ≤ 90 ∧ ([48, 49, 50, 51, 52, 53, 54, 55, 56, 57, 97, 98, 99, 100, 101, (102 : UInt8)][k]'hk).toNat = c.toNat + 32) := by
  have e : hdig.getD k 0 = [48, 49, 50, 51, 52, 53, 54, 55, 56, 57, 97, 98, 99, 100, 101, (102 : UInt8)][k]'hk := by
    unfold hdig
    rw [List.getD_eq_getElem?_getD, List.getElem?_eq_getElem hk]
    rfl
  unfold hmatch
  rw [e]
  generalize [48, 49, 50, 51, 52, 53, 54, 55, 56, 57, 97, 98, 99, 100, 101, (102 : UInt8)][k]'hk = d
  simp only [Bool.or_eq_true, Bool.and_eq_true, beq_iff_eq, decide_eq_true_eq, UInt8.le_iff_toNat_le, ← UInt8.toNat_inj, UInt8.toNat_add]
  have h1 : (65 : UInt8).toNat = 65 := rfl
  have h2 : (90 : UInt8).toNat = 90 := rfl
  have h3 : (32 : UInt8).toNat = 32 := rfl
  have h4 := c.toNat_lt
  rw [h1, h2, h3]
  constructor
  · rintro (h | ⟨⟨h5, h6⟩, h⟩)
    · exact .inl h
    · exact .inr ⟨h5, h6, by omega⟩
  · rintro (h | ⟨h5, h6, h⟩)
    · exact .inl h
    · exact .inr ⟨⟨h5, h6⟩, by omega⟩
set_option maxHeartbeats 400000 in
theorem refHex_any (c : UInt8) (w : World) :
    Calls Tryd.prog 70 #[.int .u8 c.toNat] w (TwoRes (.int .i64 (hexN c)) (.bool (isHex c)) w) := by
  have h0 := c.toNat_lt
  go_enter Tryd.func70, Tryd.ntmps70
  go_wp2_with fail
  go_loop [5] (fun i => ∃ k : Nat, k ≤ 16 ∧ i = .int .i64 k ∧ ∀ j, j < k → hmatch c j = false) (fun i => 16 - (intOf i).toNat)
  case atStart => exact ⟨0, by omega, rfl, fun j hj => by omega⟩
  case round =>
    obtain ⟨k, hk, rfl, hall⟩ := hrel
    have HA := Lib.hid hall
    clear hall
    by_cases hlt : k < 16
    · have hf := hm_iff c k hlt
      cases hm : hmatch c k
      · have hn : ∀ j, j < k + 1 → hmatch c j = false := fun j hj => by
          by_cases e : j = k
          · rw [e]; exact hm
          · exact HA.out j (by omega)
        rw [hm] at hf
        have HN := Lib.hid hn
        have HF := Lib.hid hf
        clear hn hf hm
        go_wp2
        all_goals
          first
            | (exfalso; have hf := HF.out; simp only [beq_iff_eq, Bool.false_eq_true, false_iff, not_or, not_and] at *; omega)
            | (go_round
               case rel => exact ⟨k + 1, by omega, by go_num, HN.out⟩
               case measure => simp [intOf]; omega)
      · have hr := hmatch_some c k hlt hm HA.out
        rw [hm] at hf
        have HR := Lib.hid hr
        have HF := Lib.hid hf
        clear hr hf hm
        go_wp2
        all_goals
          first
            | (exfalso; have hf := HF.out; simp only [beq_iff_eq, beq_eq_false_iff_ne, ne_eq, true_iff] at *; omega)
            | (go_ret2
               rw [HR.out.1, HR.out.2]
               exact ⟨rfl, rfl⟩)
    · have hk16 : k = 16 := by omega
      have hr := hmatch_none c (fun j hj => HA.out j (by omega))
      have HR := Lib.hid hr
      clear hr
      subst hk16
      go_wp2
      go_ret2
      rw [HR.out.1, HR.out.2]
      exact ⟨rfl, rfl⟩
end Go.Proofs.YtbolajljfkjfaaaDoor
