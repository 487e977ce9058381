/-
  What is proved: plain laws of bytes in 64 letters: bit by bit. No condition.
-/
import Derived.Test.YtkgieaokckidmaaBasQ
namespace Go.Proofs.Ytkgieaokckidmaa
open Go.RowKit

/-- A bit of a text; beyond its end: 0. -/
def bitB (s : List UInt8) (k : Nat) : Nat := if k < 8 * s.length then (s.getD (k / 8) 0).toNat / 2 ^ (7 - k % 8) % 2 else 0
/-- So many bits from a place on, as a number. -/
def numB6 (s : List UInt8) (k : Nat) : Nat → Nat
  | 0 => 0
  | m + 1 => 2 * numB6 s k m + bitB s (k + m)
theorem bitB_lt (s : List UInt8) (k : Nat) : bitB s k < 2 := by unfold bitB; split <;> omega
theorem numB6_lt (s : List UInt8) (k : Nat) : ∀ m, numB6 s k m < 2 ^ m
  | 0 => by simp [numB6]
  | m + 1 => by
    have := numB6_lt s k m
    have := bitB_lt s (k + m)
    simp only [numB6, Nat.pow_succ]
    omega
theorem bitB_cons3 (a b c : UInt8) (t : List UInt8) (k : Nat) : bitB (a :: b :: c :: t) (k + 24) = bitB t k := by
  unfold bitB
  simp only [List.length_cons]
  have e1 : (k + 24) / 8 = k / 8 + 3 := by omega
  have e2 : (k + 24) % 8 = k % 8 := by omega
  rw [e1, e2]
  by_cases h : k < 8 * t.length
  · rw [if_pos h, if_pos (by omega)]; rfl
  · rw [if_neg h, if_neg (by omega)]
theorem numB6_cons3 (a b c : UInt8) (t : List UInt8) (k : Nat) : ∀ m, numB6 (a :: b :: c :: t) (k + 24) m = numB6 t k m
  | 0 => rfl
  | m + 1 => by
    simp only [numB6]
    rw [numB6_cons3 a b c t k m, show k + 24 + m = k + m + 24 by omega, bitB_cons3]
theorem six_1 (a : UInt8) : numB6 [a] 0 6 = a.toNat / 4 ∧ numB6 [a] 6 6 = a.toNat % 4 * 16 := by
  have := a.toNat_lt
  constructor
  · simp only [numB6, bitB, List.length_cons, List.length_nil, List.getD, Nat.reduceMul, Nat.reduceAdd, Nat.reduceDiv, Nat.reduceMod, Nat.reduceSub, Nat.reducePow, Nat.reduceLT, if_true, List.getElem?_cons_zero, Option.getD_some]
    omega
  · simp only [numB6, bitB, List.length_cons, List.length_nil, List.getD, Nat.reduceMul, Nat.reduceAdd, Nat.reduceDiv, Nat.reduceMod, Nat.reduceSub, Nat.reducePow, Nat.reduceLT, if_true, if_false, List.getElem?_cons_zero, Option.getD_some]
    omega
theorem six_2 (a b : UInt8) : numB6 [a, b] 0 6 = a.toNat / 4 ∧ numB6 [a, b] 6 6 = a.toNat % 4 * 16 + b.toNat / 16 ∧ numB6 [a, b] 12 6 = b.toNat % 16 * 4 := by
  have := a.toNat_lt
  have := b.toNat_lt
  refine ⟨?_, ?_, ?_⟩
  all_goals
    simp only [numB6, bitB, List.length_cons, List.length_nil, List.getD, Nat.reduceMul, Nat.reduceAdd, Nat.reduceDiv, Nat.reduceMod, Nat.reduceSub, Nat.reducePow, Nat.reduceLT, if_true, if_false, List.getElem?_cons_zero, List.getElem?_cons_succ, Option.getD_some]
    omega
theorem six_3 (a b c : UInt8) (t : List UInt8) : numB6 (a :: b :: c :: t) 0 6 = a.toNat / 4 ∧ numB6 (a :: b :: c :: t) 6 6 = a.toNat % 4 * 16 + b.toNat / 16 ∧ numB6 (a :: b :: c :: t) 12 6 = b.toNat % 16 * 4 + c.toNat / 64 ∧ numB6 (a :: b :: c :: t) 18 6 = c.toNat % 64 := by
  have := a.toNat_lt
  have := b.toNat_lt
  have := c.toNat_lt
  have h : ∀ k, k < 24 → (k < 8 * (t.length + 1 + 1 + 1)) = True := fun k hk => eq_true (by omega)
  refine ⟨?_, ?_, ?_, ?_⟩
  all_goals
    simp only [numB6, bitB, List.length_cons, List.length_nil, List.getD, Nat.reduceMul, Nat.reduceAdd, Nat.reduceDiv, Nat.reduceMod, Nat.reduceSub, Nat.reducePow, Nat.reduceLT, h, if_true, if_false, List.getElem?_cons_zero, List.getElem?_cons_succ, Option.getD_some]
    omega
/-- The numbers of six bits each. -/
def sixV (s : List UInt8) (n : Nat) : List Nat := (List.range n).map fun j => numB6 s (6 * j) 6
theorem sixV_succ (s : List UInt8) (n : Nat) : sixV s (n + 1) = sixV s n ++ [numB6 s (6 * n) 6] := by simp [sixV, List.range_succ]
theorem sixV_add (s : List UInt8) (n : Nat) : sixV s (n + 4) = numB6 s 0 6 :: numB6 s 6 6 :: numB6 s 12 6 :: numB6 s 18 6 :: (List.range n).map fun j => numB6 s (6 * j + 24) 6 := by
  unfold sixV
  rw [show n + 4 = 4 + n by omega, List.range_add]
  simp only [List.map_append, List.map_map]
  have e : (List.range 4).map (fun j => numB6 s (6 * j) 6) = [numB6 s 0 6, numB6 s 6 6, numB6 s 12 6, numB6 s 18 6] := rfl
  rw [e]
  have t : (List.range n).map ((fun j => numB6 s (6 * j) 6) ∘ fun x => 4 + x) = (List.range n).map fun j => numB6 s (6 * j + 24) 6 := by
    apply List.map_congr_left
    intro j _
    show numB6 s (6 * (4 + j)) 6 = _
    rw [show 6 * (4 + j) = 6 * j + 24 by omega]
  rw [t]
  rfl
theorem sixV_enc : ∀ s : List UInt8, sixV s ((s.length * 4 + 2) / 3) = encV s
  | [] => rfl
  | [a] => by
    have e0 : ([a].length * 4 + 2) / 3 = 2 := by simp
    have e : sixV [a] 2 = [numB6 [a] 0 6, numB6 [a] 6 6] := rfl
    rw [e0]
    rw [e, (six_1 a).1, (six_1 a).2]
    rfl
  | [a, b] => by
    have e0 : ([a, b].length * 4 + 2) / 3 = 3 := by simp
    have e : sixV [a, b] 3 = [numB6 [a, b] 0 6, numB6 [a, b] 6 6, numB6 [a, b] 12 6] := rfl
    rw [e0]
    rw [e, (six_2 a b).1, (six_2 a b).2.1, (six_2 a b).2.2]
    rfl
  | a :: b :: c :: t => by
    have h := six_3 a b c t
    have e : ((a :: b :: c :: t).length * 4 + 2) / 3 = (t.length * 4 + 2) / 3 + 4 := by simp only [List.length_cons]; omega
    rw [e, sixV_add, h.1, h.2.1, h.2.2.1, h.2.2.2, encV]
    have t2 : (List.range ((t.length * 4 + 2) / 3)).map (fun j => numB6 (a :: b :: c :: t) (6 * j + 24) 6) = encV t := by
      rw [← sixV_enc t]
      apply List.map_congr_left
      intro j _
      exact numB6_cons3 a b c t _ 6
    rw [t2]
theorem sixV_lt (s : List UInt8) (n : Nat) : ∀ v ∈ sixV s n, v < 64 := by
  intro v hv
  simp only [sixV, List.mem_map] at hv
  obtain ⟨j, _, rfl⟩ := hv
  exact numB6_lt s _ 6

/-- The six bits of a number. -/
def bitsN (n : Nat) : List UInt8 := [UInt8.ofNat (n / 32 % 2), UInt8.ofNat (n / 16 % 2), UInt8.ofNat (n / 8 % 2), UInt8.ofNat (n / 4 % 2), UInt8.ofNat (n / 2 % 2), UInt8.ofNat (n % 2)]
def bitsV (vs : List Nat) : List UInt8 := vs.flatMap bitsN
/-- Bits as a byte. -/
def octF (l : List UInt8) : UInt8 := l.foldl (fun c b => 2 * c + b) 0
theorem octF_snoc (l : List UInt8) (b : UInt8) : octF (l ++ [b]) = 2 * octF l + b := by simp [octF, List.foldl_append]
def outsV (bs : List UInt8) (n : Nat) : List UInt8 := (List.range n).map fun j => octF ((bs.drop (8 * j)).take 8)
theorem outsV_succ (bs : List UInt8) (n : Nat) : outsV bs (n + 1) = outsV bs n ++ [octF ((bs.drop (8 * n)).take 8)] := by simp [outsV, List.range_succ]
theorem outsV_len (bs : List UInt8) (n : Nat) : (outsV bs n).length = n := by simp [outsV]
theorem bitsV_len (vs : List Nat) : (bitsV vs).length = 6 * vs.length := by
  induction vs with
  | nil => rfl
  | cons a t ih => simp only [bitsV, List.flatMap_cons, List.length_append] at *; rw [ih]; simp [bitsN]; omega
theorem outsV_add (a b c d e f g h i j k l m n o p q r s t u v w x : UInt8) (B : List UInt8) (N : Nat) :
    outsV (a :: b :: c :: d :: e :: f :: g :: h :: i :: j :: k :: l :: m :: n :: o :: p :: q :: r :: s :: t :: u :: v :: w :: x :: B) (N + 3) =
      octF [a, b, c, d, e, f, g, h] :: octF [i, j, k, l, m, n, o, p] :: octF [q, r, s, t, u, v, w, x] :: outsV B N := by
  unfold outsV
  rw [show N + 3 = 3 + N by omega, List.range_add]
  simp only [List.map_append, List.map_map]
  have e3 : List.range 3 = [0, 1, 2] := rfl
  rw [e3]
  simp only [List.map_cons, List.map_nil, Nat.reduceMul, List.drop_succ_cons, List.drop_zero, List.take_succ_cons, List.take_zero, List.cons_append, List.nil_append]
  have t2 : (List.range N).map ((fun y => octF (((a :: b :: c :: d :: e :: f :: g :: h :: i :: j :: k :: l :: m :: n :: o :: p :: q :: r :: s :: t :: u :: v :: w :: x :: B).drop (8 * y)).take 8)) ∘ fun x => 3 + x) = (List.range N).map fun y => octF ((B.drop (8 * y)).take 8) := by
    apply List.map_congr_left
    intro y _
    simp only [Function.comp]
    rw [show 8 * (3 + y) = 8 * y + 24 by omega]
    rfl
  rw [t2]
set_option maxRecDepth 100000 in
theorem oct_a (p q : Nat) (hp : p < 64) (hq : q < 64) : octF [UInt8.ofNat (p / 32 % 2), UInt8.ofNat (p / 16 % 2), UInt8.ofNat (p / 8 % 2), UInt8.ofNat (p / 4 % 2), UInt8.ofNat (p / 2 % 2), UInt8.ofNat (p % 2), UInt8.ofNat (q / 32 % 2), UInt8.ofNat (q / 16 % 2)] = UInt8.ofNat (p * 4 + q / 16) := by
  have key : ∀ p q : Fin 64, octF [UInt8.ofNat (p.val / 32 % 2), UInt8.ofNat (p.val / 16 % 2), UInt8.ofNat (p.val / 8 % 2), UInt8.ofNat (p.val / 4 % 2), UInt8.ofNat (p.val / 2 % 2), UInt8.ofNat (p.val % 2), UInt8.ofNat (q.val / 32 % 2), UInt8.ofNat (q.val / 16 % 2)] = UInt8.ofNat (p.val * 4 + q.val / 16) := by decide +kernel
  exact key ⟨p, hp⟩ ⟨q, hq⟩
set_option maxRecDepth 100000 in
theorem oct_b (q r : Nat) (hq : q < 64) (hr : r < 64) : octF [UInt8.ofNat (q / 8 % 2), UInt8.ofNat (q / 4 % 2), UInt8.ofNat (q / 2 % 2), UInt8.ofNat (q % 2), UInt8.ofNat (r / 32 % 2), UInt8.ofNat (r / 16 % 2), UInt8.ofNat (r / 8 % 2), UInt8.ofNat (r / 4 % 2)] = UInt8.ofNat (q % 16 * 16 + r / 4) := by
  have key : ∀ q r : Fin 64, octF [UInt8.ofNat (q.val / 8 % 2), UInt8.ofNat (q.val / 4 % 2), UInt8.ofNat (q.val / 2 % 2), UInt8.ofNat (q.val % 2), UInt8.ofNat (r.val / 32 % 2), UInt8.ofNat (r.val / 16 % 2), UInt8.ofNat (r.val / 8 % 2), UInt8.ofNat (r.val / 4 % 2)] = UInt8.ofNat (q.val % 16 * 16 + r.val / 4) := by decide +kernel
  exact key ⟨q, hq⟩ ⟨r, hr⟩
set_option maxRecDepth 100000 in
theorem oct_c (r z : Nat) (hr : r < 64) (hz : z < 64) : octF [UInt8.ofNat (r / 2 % 2), UInt8.ofNat (r % 2), UInt8.ofNat (z / 32 % 2), UInt8.ofNat (z / 16 % 2), UInt8.ofNat (z / 8 % 2), UInt8.ofNat (z / 4 % 2), UInt8.ofNat (z / 2 % 2), UInt8.ofNat (z % 2)] = UInt8.ofNat (r % 4 * 64 + z) := by
  have key : ∀ r z : Fin 64, octF [UInt8.ofNat (r.val / 2 % 2), UInt8.ofNat (r.val % 2), UInt8.ofNat (z.val / 32 % 2), UInt8.ofNat (z.val / 16 % 2), UInt8.ofNat (z.val / 8 % 2), UInt8.ofNat (z.val / 4 % 2), UInt8.ofNat (z.val / 2 % 2), UInt8.ofNat (z.val % 2)] = UInt8.ofNat (r.val % 4 * 64 + z.val) := by decide +kernel
  exact key ⟨r, hr⟩ ⟨z, hz⟩
theorem rest_q (q : Nat) (hq : q < 64) : (1 ∈ [UInt8.ofNat (q / 8 % 2), UInt8.ofNat (q / 4 % 2), UInt8.ofNat (q / 2 % 2), UInt8.ofNat (q % 2)]) ↔ q % 16 ≠ 0 := by
  have key : ∀ q : Fin 64, (1 ∈ [UInt8.ofNat (q.val / 8 % 2), UInt8.ofNat (q.val / 4 % 2), UInt8.ofNat (q.val / 2 % 2), UInt8.ofNat (q.val % 2)]) ↔ q.val % 16 ≠ 0 := by decide +kernel
  exact key ⟨q, hq⟩
theorem rest_r (q : Nat) (hq : q < 64) : (1 ∈ [UInt8.ofNat (q / 2 % 2), UInt8.ofNat (q % 2)]) ↔ q % 4 ≠ 0 := by
  have key : ∀ q : Fin 64, (1 ∈ [UInt8.ofNat (q.val / 2 % 2), UInt8.ofNat (q.val % 2)]) ↔ q.val % 4 ≠ 0 := by decide +kernel
  exact key ⟨q, hq⟩
/-- Decoding bit by bit. -/
theorem dec_bits : ∀ vs : List Nat, (∀ v ∈ vs, v < 64) → vs.length % 4 ≠ 1 →
    decV vs = if 1 ∈ (bitsV vs).drop (8 * (6 * vs.length / 8)) then none else some (outsV (bitsV vs) (6 * vs.length / 8))
  | [], _, _ => rfl
  | [_], _, h => by simp at h
  | [p, q], hv, _ => by
    have hp := hv p (by simp)
    have hq := hv q (by simp)
    have e1 : bitsV [p, q] = [UInt8.ofNat (p / 32 % 2), UInt8.ofNat (p / 16 % 2), UInt8.ofNat (p / 8 % 2), UInt8.ofNat (p / 4 % 2), UInt8.ofNat (p / 2 % 2), UInt8.ofNat (p % 2), UInt8.ofNat (q / 32 % 2), UInt8.ofNat (q / 16 % 2)] ++ [UInt8.ofNat (q / 8 % 2), UInt8.ofNat (q / 4 % 2), UInt8.ofNat (q / 2 % 2), UInt8.ofNat (q % 2)] := rfl
    have e0 : 6 * [p, q].length / 8 = 1 := by simp
    have e2 : (bitsV [p, q]).drop (8 * 1) = [UInt8.ofNat (q / 8 % 2), UInt8.ofNat (q / 4 % 2), UInt8.ofNat (q / 2 % 2), UInt8.ofNat (q % 2)] := rfl
    have e3 : outsV (bitsV [p, q]) 1 = [octF [UInt8.ofNat (p / 32 % 2), UInt8.ofNat (p / 16 % 2), UInt8.ofNat (p / 8 % 2), UInt8.ofNat (p / 4 % 2), UInt8.ofNat (p / 2 % 2), UInt8.ofNat (p % 2), UInt8.ofNat (q / 32 % 2), UInt8.ofNat (q / 16 % 2)]] := rfl
    rw [e0, e2, e3, oct_a p q hp hq]
    simp only [decV]
    by_cases h : q % 16 = 0
    · rw [if_pos h, if_neg (fun h2 => (rest_q q hq).1 h2 h)]
    · rw [if_neg h, if_pos ((rest_q q hq).2 h)]
  | [p, q, r], hv, _ => by
    have hp := hv p (by simp)
    have hq := hv q (by simp)
    have hr := hv r (by simp)
    have e0 : 6 * [p, q, r].length / 8 = 2 := by simp
    have e2 : (bitsV [p, q, r]).drop (8 * 2) = [UInt8.ofNat (r / 2 % 2), UInt8.ofNat (r % 2)] := rfl
    have e3 : outsV (bitsV [p, q, r]) 2 = [octF [UInt8.ofNat (p / 32 % 2), UInt8.ofNat (p / 16 % 2), UInt8.ofNat (p / 8 % 2), UInt8.ofNat (p / 4 % 2), UInt8.ofNat (p / 2 % 2), UInt8.ofNat (p % 2), UInt8.ofNat (q / 32 % 2), UInt8.ofNat (q / 16 % 2)], octF [UInt8.ofNat (q / 8 % 2), UInt8.ofNat (q / 4 % 2), UInt8.ofNat (q / 2 % 2), UInt8.ofNat (q % 2), UInt8.ofNat (r / 32 % 2), UInt8.ofNat (r / 16 % 2), UInt8.ofNat (r / 8 % 2), UInt8.ofNat (r / 4 % 2)]] := rfl
    rw [e0, e2, e3, oct_a p q hp hq, oct_b q r hq hr]
    simp only [decV]
    by_cases h : r % 4 = 0
    · rw [if_pos h, if_neg (fun h2 => (rest_r r hr).1 h2 h)]
    · rw [if_neg h, if_pos ((rest_r r hr).2 h)]
  | p :: q :: r :: z :: t, hv, hl => by
    have hp := hv p (by simp)
    have hq := hv q (by simp)
    have hr := hv r (by simp)
    have hz := hv z (by simp)
    have ih := dec_bits t (fun v hv2 => hv v (by simp [hv2])) (by simp only [List.length_cons] at hl; omega)
    have eL : 6 * (p :: q :: r :: z :: t).length / 8 = 6 * t.length / 8 + 3 := by simp only [List.length_cons]; omega
    have e1 : bitsV (p :: q :: r :: z :: t) = UInt8.ofNat (p / 32 % 2) :: UInt8.ofNat (p / 16 % 2) :: UInt8.ofNat (p / 8 % 2) :: UInt8.ofNat (p / 4 % 2) :: UInt8.ofNat (p / 2 % 2) :: UInt8.ofNat (p % 2) :: UInt8.ofNat (q / 32 % 2) :: UInt8.ofNat (q / 16 % 2) :: UInt8.ofNat (q / 8 % 2) :: UInt8.ofNat (q / 4 % 2) :: UInt8.ofNat (q / 2 % 2) :: UInt8.ofNat (q % 2) :: UInt8.ofNat (r / 32 % 2) :: UInt8.ofNat (r / 16 % 2) :: UInt8.ofNat (r / 8 % 2) :: UInt8.ofNat (r / 4 % 2) :: UInt8.ofNat (r / 2 % 2) :: UInt8.ofNat (r % 2) :: UInt8.ofNat (z / 32 % 2) :: UInt8.ofNat (z / 16 % 2) :: UInt8.ofNat (z / 8 % 2) :: UInt8.ofNat (z / 4 % 2) :: UInt8.ofNat (z / 2 % 2) :: UInt8.ofNat (z % 2) :: bitsV t := rfl
    rw [eL, e1, outsV_add, oct_a p q hp hq, oct_b q r hq hr, oct_c r z hr hz, show 8 * (6 * t.length / 8 + 3) = 8 * (6 * t.length / 8) + 24 by omega]
    simp only [List.drop_succ_cons, decV]
    rw [ih]
    split <;> rfl
end Go.Proofs.Ytkgieaokckidmaa
