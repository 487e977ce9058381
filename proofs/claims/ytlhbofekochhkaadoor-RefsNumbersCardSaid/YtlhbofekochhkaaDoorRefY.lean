/-
  What is proved: plain laws of references: the digits of a number are read as that number. No condition.
-/
import Derived.Test.YtlhbofekochhkaaDoorRefW
import Derived.Lib.ItoaNum
namespace Go.Proofs.YtlhbofekochhkaaDoor
open Go.RowKit

def stepD (b n : Nat) (c : UInt8) : Nat := min (b * n + hexN c) 1114112
def DigitsOf (b : Nat) (l : List UInt8) : Prop := ∀ c ∈ l, isHex c = true ∧ hexN c < b
theorem digs_str {b : Nat} {x : UInt8} {r : List UInt8} (hx : isHex x = false ∨ b ≤ hexN x) : ∀ (ds : List UInt8) (n : Nat), DigitsOf b ds → digs b (ds ++ x :: r) n = (ds.foldl (stepD b) n, ds.length)
  | [], n, _ => by
    show (if isHex x = true ∧ hexN x < b then _ else (n, 0)) = _
    rw [if_neg]
    · rfl
    · rintro ⟨h1, h2⟩
      rcases hx with hx | hx
      · rw [hx] at h1; cases h1
      · omega
  | c :: ds, n, h => by
    have hc := h c (by simp)
    have ih := digs_str (r := r) hx ds (stepD b n c) (fun d hd => h d (by simp [hd]))
    show (if isHex c = true ∧ hexN c < b then ((digs b (ds ++ x :: r) (min (b * n + hexN c) 1114112)).1, (digs b (ds ++ x :: r) (min (b * n + hexN c) 1114112)).2 + 1) else (n, 0)) = _
    rw [if_pos hc]
    show ((digs b (ds ++ x :: r) (stepD b n c)).1, (digs b (ds ++ x :: r) (stepD b n c)).2 + 1) = _
    rw [ih]
    simp
def valD (b : Nat) (l : List UInt8) (n : Nat) : Nat := l.foldl (fun n c => b * n + hexN c) n
theorem sat10 (n : Nat) (c : UInt8) : stepD 10 (min n 1114112) c = min (10 * n + hexN c) 1114112 := by unfold stepD; omega
theorem sat16 (n : Nat) (c : UInt8) : stepD 16 (min n 1114112) c = min (16 * n + hexN c) 1114112 := by unfold stepD; omega
theorem fold10 : ∀ (l : List UInt8) (n : Nat), l.foldl (stepD 10) (min n 1114112) = min (valD 10 l n) 1114112
  | [], _ => rfl
  | c :: l, n => by
    show l.foldl (stepD 10) (stepD 10 (min n 1114112) c) = _
    rw [sat10, fold10 l]
    rfl
theorem fold16 : ∀ (l : List UInt8) (n : Nat), l.foldl (stepD 16) (min n 1114112) = min (valD 16 l n) 1114112
  | [], _ => rfl
  | c :: l, n => by
    show l.foldl (stepD 16) (stepD 16 (min n 1114112) c) = _
    rw [sat16, fold16 l]
    rfl
theorem valD_app (b : Nat) (l m : List UInt8) (n : Nat) : valD b (l ++ m) n = valD b m (valD b l n) := by unfold valD; rw [List.foldl_append]
theorem valD_noughts (b : Nat) : ∀ k : Nat, valD b (List.replicate k 48) 0 = 0
  | 0 => rfl
  | k + 1 => by
    have h0 : hexN 48 = 0 := by decide
    show valD b (List.replicate k 48) (b * 0 + hexN 48) = 0
    rw [h0]
    exact valD_noughts b k
/-- A digit to the base 16, as it is written. -/
def dgt (n : Nat) : UInt8 := if n < 10 then UInt8.ofNat (48 + n) else UInt8.ofNat (87 + n)
theorem dgt_is {n : Nat} (h : n < 16) : isHex (dgt n) = true ∧ hexN (dgt n) = n := by
  have key : ∀ n : Fin 16, isHex (dgt n) = true ∧ hexN (dgt n) = n := by decide +kernel
  exact key ⟨n, h⟩
/-- A number written to the base 16; fuel: at least the number of its digits. -/
def hexL : Nat → Nat → List UInt8
  | 0, n => [dgt (n % 16)]
  | f + 1, n => if n < 16 then [dgt n] else hexL f (n / 16) ++ [dgt (n % 16)]
theorem hexL_digits : ∀ (f n : Nat), DigitsOf 16 (hexL f n)
  | 0, n, c, hc => by
    simp only [hexL, List.mem_singleton] at hc
    subst hc
    have := dgt_is (n := n % 16) (by omega)
    exact ⟨this.1, by rw [this.2]; omega⟩
  | f + 1, n, c, hc => by
    unfold hexL at hc
    split at hc
    · rename_i h
      simp only [List.mem_singleton] at hc
      subst hc
      have := dgt_is h
      exact ⟨this.1, by rw [this.2]; exact h⟩
    · rcases List.mem_append.1 hc with hc | hc
      · exact hexL_digits f _ c hc
      · simp only [List.mem_singleton] at hc
        subst hc
        have := dgt_is (n := n % 16) (by omega)
        exact ⟨this.1, by rw [this.2]; omega⟩
theorem hexL_val : ∀ (f n : Nat), n < 16 ^ (f + 1) → valD 16 (hexL f n) 0 = n
  | 0, n, h => by
    have hn : n < 16 := by omega
    show 16 * 0 + hexN (dgt (n % 16)) = n
    rw [(dgt_is (n := n % 16) (by omega)).2]
    omega
  | f + 1, n, h => by
    unfold hexL
    split
    · rename_i hn
      show 16 * 0 + hexN (dgt n) = n
      rw [(dgt_is hn).2]
      omega
    · rw [valD_app, hexL_val f (n / 16) (by rw [Nat.pow_succ] at h; omega)]
      show 16 * (n / 16) + hexN (dgt (n % 16)) = n
      rw [(dgt_is (n := n % 16) (by omega)).2]
      omega
theorem dec_ok : ∀ (n u : Nat), u ≤ n → DigitsOf 10 (Lib.decDigits u) ∧ valD 10 (Lib.decDigits u) 0 = u
  | n, u, h => by
    by_cases hu : u < 10
    · have e : Lib.decDigits u = [dgt u] := by
        rw [Lib.decDigits, dif_pos hu]
        unfold dgt
        rw [if_pos hu]
      have hd := dgt_is (n := u) (by omega)
      rw [e]
      refine ⟨fun c hc => ?_, ?_⟩
      · simp only [List.mem_singleton] at hc
        subst hc
        exact ⟨hd.1, by rw [hd.2]; exact hu⟩
      · show 10 * 0 + hexN (dgt u) = u
        rw [hd.2]
        omega
    · match n, h with
      | 0, h => exact absurd h (by omega)
      | n + 1, h =>
        obtain ⟨h1, h2⟩ := dec_ok n (u / 10) (by omega)
        have e : Lib.decDigits u = Lib.decDigits (u / 10) ++ [dgt (u % 10)] := by
          rw [Lib.decDigits, dif_neg hu]
          unfold dgt
          rw [if_pos (by omega)]
        have hd := dgt_is (n := u % 10) (by omega)
        rw [e]
        refine ⟨fun c hc => ?_, ?_⟩
        · rcases List.mem_append.1 hc with hc | hc
          · exact h1 c hc
          · simp only [List.mem_singleton] at hc
            subst hc
            exact ⟨hd.1, by rw [hd.2]; omega⟩
        · rw [valD_app, h2]
          show 10 * (u / 10) + hexN (dgt (u % 10)) = u
          rw [hd.2]
          omega
theorem dec_ne (u : Nat) : Lib.decDigits u ≠ [] := by
  rw [Lib.decDigits]
  split <;> simp
theorem hexL_ne (f n : Nat) : hexL f n ≠ [] := by
  cases f with
  | zero => simp [hexL]
  | succ f => unfold hexL; split <;> simp
theorem noughts_digits (b k : Nat) (hb : 1 ≤ b) : DigitsOf b (List.replicate k 48) := fun c hc => by
  rw [List.mem_replicate] at hc
  rw [hc.2]
  exact ⟨by decide, by have : hexN 48 = 0 := by decide
                       omega⟩
theorem digits_app {b : Nat} {l m : List UInt8} (h : DigitsOf b l) (k : DigitsOf b m) : DigitsOf b (l ++ m) := fun c hc => by
  rcases List.mem_append.1 hc with hc | hc
  · exact h c hc
  · exact k c hc
theorem not_x {l r : List UInt8} (h : DigitsOf 10 l) (hn : l ≠ []) : xP (l ++ r) = false := by
  cases l with
  | nil => exact absurd rfl hn
  | cons c t =>
    have hc := h c (by simp)
    have h1 : c ≠ 120 := fun e => by rw [e] at hc; exact absurd hc.1 (by decide)
    have h2 : c ≠ 88 := fun e => by rw [e] at hc; exact absurd hc.1 (by decide)
    unfold xP
    simp only [List.cons_append, List.isPrefixOf, Bool.and_true, Bool.or_eq_false_iff, beq_eq_false_iff_ne, ne_eq]
    exact ⟨fun e => h1 e.symm, fun e => h2 e.symm⟩
theorem find_numB {v : List UInt8} {attr : Bool} (h : (numB v).2 ≠ 0) : findB (38 :: 35 :: v) 0 attr = ((numB v).1, 2 + (numB v).2, true) := by
  unfold findB
  rw [if_pos ⟨by simp, rfl⟩]
  show (if ([35] : List UInt8).isPrefixOf (35 :: v) = true then (if (numB v).2 = 0 then ([], 0, false) else ((numB v).1, 0 + 1 + 1 + (numB v).2, true)) else _) = _
  rw [if_pos (by simp [List.isPrefixOf]), if_neg h]
theorem numAt_dig {b o : Nat} {p ds : List UInt8} {x : UInt8} {r : List UInt8} (hx : isHex x = false ∨ b ≤ hexN x) (hd : DigitsOf b ds) (hn : ds ≠ []) (ho : p.length = o) :
    numAt b o (p ++ (ds ++ x :: r)) = (charB (ds.foldl (stepD b) 0), o + ds.length + semiN (x :: r)) := by
  have hp : (p ++ (ds ++ x :: r)).drop o = ds ++ x :: r := by rw [← ho, List.drop_left]
  have hl := List.length_pos_iff.2 hn
  unfold numAt
  rw [hp, digs_str hx ds 0 hd, if_neg (by simp only; omega)]
  simp only
  have hp2 : (p ++ (ds ++ x :: r)).drop (o + ds.length) = x :: r := by rw [← List.drop_drop, hp, List.drop_left]
  rw [hp2]
/-- A number to the base 10, noughts ahead, and a byte behind it that is no digit. -/
theorem find_dec (k n : Nat) (x : UInt8) (r : List UInt8) (attr : Bool) (hx : isHex x = false) :
    findB (38 :: 35 :: (List.replicate k 48 ++ Lib.decDigits n ++ x :: r)) 0 attr = (charB (min n 1114112), 2 + (k + (Lib.decDigits n).length + semiN (x :: r)), true) := by
  obtain ⟨h1, h2⟩ := dec_ok n n (Nat.le_refl _)
  have hd := digits_app (noughts_digits 10 k (by omega)) h1
  have hne : List.replicate k 48 ++ Lib.decDigits n ≠ [] := by simp [dec_ne]
  have hv : (List.replicate k 48 ++ Lib.decDigits n).foldl (stepD 10) 0 = min n 1114112 := by
    have := fold10 (List.replicate k 48 ++ Lib.decDigits n) 0
    rw [valD_app, valD_noughts, h2] at this
    exact this
  have hN : numB (List.replicate k 48 ++ Lib.decDigits n ++ x :: r) = (charB (min n 1114112), 0 + (List.replicate k 48 ++ Lib.decDigits n).length + semiN (x :: r)) := by
    unfold numB
    rw [not_x hd hne]
    have := numAt_dig (o := 0) (p := []) (r := r) (.inl hx) hd hne rfl
    rw [List.nil_append, hv] at this
    exact this
  have hl : 0 < (Lib.decDigits n).length := List.length_pos_iff.2 (dec_ne n)
  rw [find_numB (by rw [hN]; simp only [List.length_append]; omega), hN]
  simp
/-- A number to the base 16. -/
theorem find_hex (X : UInt8) (hX : X = 120 ∨ X = 88) (k f n : Nat) (hf : n < 16 ^ (f + 1)) (x : UInt8) (r : List UInt8) (attr : Bool) (hx : isHex x = false) :
    findB (38 :: 35 :: X :: (List.replicate k 48 ++ hexL f n ++ x :: r)) 0 attr = (charB (min n 1114112), 2 + (1 + (k + (hexL f n).length) + semiN (x :: r)), true) := by
  have hd := digits_app (noughts_digits 16 k (by omega)) (hexL_digits f n)
  have hne : List.replicate k 48 ++ hexL f n ≠ [] := by simp [hexL_ne]
  have hv : (List.replicate k 48 ++ hexL f n).foldl (stepD 16) 0 = min n 1114112 := by
    have := fold16 (List.replicate k 48 ++ hexL f n) 0
    rw [valD_app, valD_noughts, hexL_val f n hf] at this
    exact this
  have hxp : xP (X :: (List.replicate k 48 ++ hexL f n ++ x :: r)) = true := by
    unfold xP
    rcases hX with rfl | rfl <;> simp [List.isPrefixOf]
  have hN : numB (X :: (List.replicate k 48 ++ hexL f n ++ x :: r)) = (charB (min n 1114112), 1 + (List.replicate k 48 ++ hexL f n).length + semiN (x :: r)) := by
    unfold numB
    rw [hxp]
    have := numAt_dig (o := 1) (p := [X]) (r := r) (.inl hx) hd hne rfl
    rw [hv] at this
    exact this
  rw [find_numB (by rw [hN]; simp only; omega), hN]
  simp
end Go.Proofs.YtlhbofekochhkaaDoor
