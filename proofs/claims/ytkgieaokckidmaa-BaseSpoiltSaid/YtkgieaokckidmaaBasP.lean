/-
  What is proved: plain laws of bytes in 64 letters: letters, their worth, what is encoded is decoded, what is decoded is encoded. No condition.
-/
import Derived.Test.YtkgieaokckidmaaBase
namespace Go.Proofs.Ytkgieaokckidmaa
open Go.RowKit

/-- The letters. -/
def letA : List UInt8 := [65, 66, 67, 68, 69, 70, 71, 72, 73, 74, 75, 76, 77, 78, 79, 80, 81, 82, 83, 84, 85, 86, 87, 88, 89, 90, 97, 98, 99, 100, 101, 102, 103, 104, 105, 106, 107, 108, 109, 110, 111, 112, 113, 114, 115, 116, 117, 118, 119, 120, 121, 122, 48, 49, 50, 51, 52, 53, 54, 55, 56, 57, 43, 47]
def letN (n : Nat) : UInt8 := letA.getD n 0
/-- How much a letter is. -/
def worB (c : UInt8) : Option Nat := if c = 45 then some 62 else if c = 95 then some 63 else letA.findIdx? (· == c)
/-- A byte with the usual letters. -/
def plnB (c : UInt8) : UInt8 := if c = 45 then 43 else if c = 95 then 47 else c
theorem letN_worth : ∀ n, n < 64 → worB (letN n) = some n := by
  have key : ∀ n : Fin 64, worB (letN n.val) = some n.val := by decide
  exact fun n h => key ⟨n, h⟩
set_option maxRecDepth 100000 in
theorem worth_letN (c : UInt8) (n : Nat) (h : worB c = some n) : n < 64 ∧ letN n = plnB c := by
  have key : ∀ k : Fin 256, (match worB (UInt8.ofNat k.val) with | none => true | some n => decide (n < 64) && (letN n == plnB (UInt8.ofNat k.val))) = true := by decide +kernel
  have := key ⟨c.toNat, c.toNat_lt⟩
  simp only [UInt8.ofNat_toNat, h, Bool.and_eq_true, decide_eq_true_eq, beq_iff_eq] at this
  exact this
/-- The letters' numbers of bytes. -/
def encV : List UInt8 → List Nat
  | [] => []
  | [a] => [a.toNat / 4, a.toNat % 4 * 16]
  | [a, b] => [a.toNat / 4, a.toNat % 4 * 16 + b.toNat / 16, b.toNat % 16 * 4]
  | a :: b :: c :: t => a.toNat / 4 :: (a.toNat % 4 * 16 + b.toNat / 16) :: (b.toNat % 16 * 4 + c.toNat / 64) :: c.toNat % 64 :: encV t
/-- What stands at the end for nothing. -/
def padL (n : Nat) : List UInt8 := if n % 3 = 1 then [61, 61] else if n % 3 = 2 then [61] else []
def encL (s : List UInt8) : List UInt8 := (encV s).map letN ++ padL s.length
/-- The bytes of letters' numbers. -/
def decV : List Nat → Option (List UInt8)
  | [] => some []
  | [_] => none
  | [p, q] => if q % 16 = 0 then some [UInt8.ofNat (p * 4 + q / 16)] else none
  | [p, q, r] => if r % 4 = 0 then some [UInt8.ofNat (p * 4 + q / 16), UInt8.ofNat (q % 16 * 16 + r / 4)] else none
  | p :: q :: r :: z :: t => (decV t).map fun u => UInt8.ofNat (p * 4 + q / 16) :: UInt8.ofNat (q % 16 * 16 + r / 4) :: UInt8.ofNat (r % 4 * 64 + z) :: u
theorem encV_lt : ∀ s : List UInt8, ∀ v ∈ encV s, v < 64
  | [], v, h => by simp [encV] at h
  | [a], v, h => by
    have := a.toNat_lt
    simp only [encV, List.mem_cons, List.not_mem_nil, or_false] at h
    omega
  | [a, b], v, h => by
    have := a.toNat_lt
    have := b.toNat_lt
    simp only [encV, List.mem_cons, List.not_mem_nil, or_false] at h
    omega
  | a :: b :: c :: t, v, h => by
    have := a.toNat_lt
    have := b.toNat_lt
    have := c.toNat_lt
    simp only [encV, List.mem_cons] at h
    rcases h with h | h | h | h | h
    · omega
    · omega
    · omega
    · omega
    · exact encV_lt t v h
theorem encV_len : ∀ s : List UInt8, (encV s).length = (s.length * 4 + 2) / 3
  | [] => rfl
  | [a] => by simp [encV]
  | [a, b] => by simp [encV]
  | a :: b :: c :: t => by
    have := encV_len t
    simp only [encV, List.length_cons, this]
    omega
theorem ofNat_is {n : Nat} {c : UInt8} (h : n = c.toNat) : UInt8.ofNat n = c := by rw [h, UInt8.ofNat_toNat]
/-- What is encoded is decoded. -/
theorem dec_enc : ∀ s : List UInt8, decV (encV s) = some s
  | [] => rfl
  | [a] => by
    have := a.toNat_lt
    simp only [encV, decV]
    rw [if_pos (by omega), ofNat_is (c := a) (by omega)]
  | [a, b] => by
    have := a.toNat_lt
    have := b.toNat_lt
    simp only [encV, decV]
    rw [if_pos (by omega), ofNat_is (c := a) (by omega), ofNat_is (c := b) (by omega)]
  | a :: b :: c :: t => by
    have := a.toNat_lt
    have := b.toNat_lt
    have := c.toNat_lt
    have ih := dec_enc t
    simp only [encV, decV]
    rw [ih, ofNat_is (c := a) (by omega), ofNat_is (c := b) (by omega), ofNat_is (c := c) (by omega)]
    rfl
/-- What is decoded is encoded. -/
theorem enc_dec : ∀ (vs : List Nat) (u : List UInt8), (∀ v ∈ vs, v < 64) → decV vs = some u → encV u = vs
  | [], u, _, h => by simp only [decV, Option.some.injEq] at h; subst h; rfl
  | [_], u, _, h => by simp [decV] at h
  | [p, q], u, hv, h => by
    have hp := hv p (by simp)
    have hq := hv q (by simp)
    simp only [decV] at h
    split at h
    · cases h
      simp only [encV, UInt8.toNat_ofNat']
      rw [show (p * 4 + q / 16) % 2 ^ 8 = p * 4 + q / 16 from Nat.mod_eq_of_lt (by omega)]
      congr 1
      · omega
      · congr 1; omega
    · cases h
  | [p, q, r], u, hv, h => by
    have hp := hv p (by simp)
    have hq := hv q (by simp)
    have hr := hv r (by simp)
    simp only [decV] at h
    split at h
    · cases h
      simp only [encV, UInt8.toNat_ofNat']
      rw [show (p * 4 + q / 16) % 2 ^ 8 = p * 4 + q / 16 from Nat.mod_eq_of_lt (by omega), show (q % 16 * 16 + r / 4) % 2 ^ 8 = q % 16 * 16 + r / 4 from Nat.mod_eq_of_lt (by omega)]
      congr 1
      · omega
      · congr 1
        · omega
        · congr 1; omega
    · cases h
  | p :: q :: r :: z :: t, u, hv, h => by
    have hp := hv p (by simp)
    have hq := hv q (by simp)
    have hr := hv r (by simp)
    have hz := hv z (by simp)
    simp only [decV] at h
    cases hd : decV t with
    | none => rw [hd] at h; cases h
    | some x =>
      rw [hd] at h
      simp only [Option.map_some, Option.some.injEq] at h
      subst h
      have ih := enc_dec t x (fun v hv2 => hv v (by simp [hv2])) hd
      simp only [encV, UInt8.toNat_ofNat', ih]
      rw [show (p * 4 + q / 16) % 2 ^ 8 = p * 4 + q / 16 from Nat.mod_eq_of_lt (by omega), show (q % 16 * 16 + r / 4) % 2 ^ 8 = q % 16 * 16 + r / 4 from Nat.mod_eq_of_lt (by omega), show (r % 4 * 64 + z) % 2 ^ 8 = r % 4 * 64 + z from Nat.mod_eq_of_lt (by omega)]
      congr 1
      · omega
      · congr 1
        · omega
        · congr 1
          · omega
          · congr 1; omega
end Go.Proofs.Ytkgieaokckidmaa
