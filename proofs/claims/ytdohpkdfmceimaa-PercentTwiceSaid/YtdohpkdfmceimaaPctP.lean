/-
  What is proved: the plain laws of percent-decoding and percent-encoding, on lists of bytes. No condition.
-/
import Derived.Test.YtdohpkdfmceimaaBase
namespace Go.Proofs.Ytdohpkdfmceimaa
open Go.RowKit

def isHex (c : UInt8) : Bool := (48 ≤ c && c ≤ 57) || (65 ≤ c && c ≤ 70) || (97 ≤ c && c ≤ 102)
def hexN (c : UInt8) : Nat := if 48 ≤ c && c ≤ 57 then c.toNat - 48 else if 65 ≤ c && c ≤ 70 then c.toNat - 55 else if 97 ≤ c && c ≤ 102 then c.toNat - 87 else 0
theorem hexN_le (c : UInt8) : hexN c ≤ 15 := by
  unfold hexN
  simp only [Bool.and_eq_true, decide_eq_true_eq, UInt8.le_iff_toNat_le]
  split
  · have h : (57 : UInt8).toNat = 57 := rfl
    omega
  · split
    · have h : (70 : UInt8).toNat = 70 := rfl
      omega
    · split
      · have h : (102 : UInt8).toNat = 102 := rfl
        omega
      · omega
theorem or16 : ∀ a : Fin 16, ∀ b : Fin 16, bits .or .i64 (((a : Nat) : Int) * 16) ((b : Nat) : Int) % 256 = ((16 * (a : Nat) + (b : Nat) : Nat) : Int) := by decide +kernel
def tri : List UInt8 → UInt8 × Bool
  | a :: b :: c :: _ => if a = 37 then (UInt8.ofNat (16 * hexN b + hexN c), isHex b && isHex c) else (0, false)
  | _ => (0, false)
def dec : List UInt8 → List UInt8
  | [] => []
  | [a] => [a]
  | [a, b] => [a, b]
  | a :: b :: c :: r => if a = 37 ∧ isHex b = true ∧ isHex c = true then UInt8.ofNat (16 * hexN b + hexN c) :: dec r else a :: dec (b :: c :: r)
theorem dec_tri (a b c : UInt8) (r : List UInt8) (h : (tri (a :: b :: c :: r)).2 = true) : dec (a :: b :: c :: r) = (tri (a :: b :: c :: r)).1 :: dec r := by
  unfold tri at h ⊢
  by_cases h1 : a = 37
  · simp only [h1, if_true, Bool.and_eq_true] at h
    simp only [dec, h1, if_true, h.1, h.2, true_and]
  · simp [h1] at h
theorem dec_not {a : UInt8} {r : List UInt8} (h : (tri (a :: r)).2 = false) : dec (a :: r) = a :: dec r := by
  match r, h with
  | [], h => rfl
  | [b], h => rfl
  | b :: c :: r, h =>
    unfold tri at h
    rw [dec, if_neg]
    rintro ⟨h1, h2, h3⟩
    simp [h1, h2, h3] at h

def queryL : List UInt8 := [32, 34, 35, 60, 62]
def pathL : List UInt8 := queryL ++ [63, 94, 96, 123, 125]
def userL : List UInt8 := pathL ++ [47, 58, 59, 61, 64, 91, 92, 93, 124]
def compL : List UInt8 := userL ++ [36, 37, 38, 43, 44]
/-- What a set has beside what all have. -/
def moreL (k : Int) : List UInt8 := if k = 1 then [32, 34, 60, 62, 96] else if k = 2 then queryL else if k = 3 then queryL ++ [39] else if k = 4 then pathL else if k = 5 then userL else if k = 6 then compL else []
def inSet (k : Int) (c : UInt8) : Bool := c < 32 || 126 < c || (moreL k).contains c
def digL : List UInt8 := [48, 49, 50, 51, 52, 53, 54, 55, 56, 57, 65, 66, 67, 68, 69, 70]
def dig (n : Nat) : UInt8 := digL.getD n 0
def enc1 (k : Int) (c : UInt8) : List UInt8 := if inSet k c then [37, dig (c.toNat / 16), dig (c.toNat % 16)] else [c]
def enc (k : Int) (l : List UInt8) : List UInt8 := if 0 ≤ k ∧ k ≤ 6 then l.flatMap (enc1 k) else []
end Go.Proofs.Ytdohpkdfmceimaa
