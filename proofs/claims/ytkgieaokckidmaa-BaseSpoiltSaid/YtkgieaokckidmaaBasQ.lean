/-
  What is proved: plain laws of bytes in 64 letters: the text that is bare, the values of letters, decoding letter by letter. No condition.
-/
import Derived.Test.YtkgieaokckidmaaBasP
namespace Go.Proofs.Ytkgieaokckidmaa
open Go.RowKit

/-- A text without one = at its end. -/
def trimQ (s : List UInt8) : List UInt8 := if s.getLast? = some 61 then s.dropLast else s
/-- A text without what stands for nothing at its end. -/
def bareB (s : List UInt8) : List UInt8 := if s.length % 4 = 0 then trimQ (trimQ s) else s
/-- The values of letters. -/
def valsL : List UInt8 → Option (List Nat)
  | [] => some []
  | c :: t => (worB c).bind fun n => (valsL t).map fun v => n :: v
/-- The bytes of letters. -/
def decL (s : List UInt8) : Option (List UInt8) := if (bareB s).length % 4 = 1 then none else (valsL (bareB s)).bind decV
theorem valsL_append : ∀ (a b : List UInt8), valsL (a ++ b) = (valsL a).bind fun u => (valsL b).map fun v => u ++ v
  | [], b => by simp [valsL]
  | c :: t, b => by
    simp only [List.cons_append, valsL, valsL_append t b]
    cases worB c with
    | none => rfl
    | some n =>
      cases valsL t with
      | none => rfl
      | some u => cases valsL b <;> rfl
theorem valsL_snoc {a : List UInt8} {c : UInt8} {vs : List Nat} {n : Nat} (h : valsL a = some vs) (hc : worB c = some n) : valsL (a ++ [c]) = some (vs ++ [n]) := by
  rw [valsL_append, h]; simp [valsL, hc]
theorem valsL_bad (a b : List UInt8) {c : UInt8} (hc : worB c = none) : valsL (a ++ c :: b) = none := by
  rw [valsL_append]
  cases valsL a with
  | none => rfl
  | some u => simp [valsL, hc]
theorem valsL_len : ∀ {s : List UInt8} {vs : List Nat}, valsL s = some vs → vs.length = s.length
  | [], vs, h => by simp [valsL] at h; subst h; rfl
  | c :: t, vs, h => by
    simp only [valsL] at h
    cases hw : worB c with
    | none => rw [hw] at h; cases h
    | some n =>
      cases ht : valsL t with
      | none => rw [hw, ht] at h; cases h
      | some v =>
        rw [hw, ht] at h
        simp only [Option.bind_some, Option.map_some, Option.some.injEq] at h
        subst h
        simp [valsL_len ht]
theorem valsL_lt : ∀ {s : List UInt8} {vs : List Nat}, valsL s = some vs → ∀ v ∈ vs, v < 64
  | [], vs, h, v, hv => by simp [valsL] at h; subst h; cases hv
  | c :: t, vs, h, v, hv => by
    simp only [valsL] at h
    cases hw : worB c with
    | none => rw [hw] at h; cases h
    | some n =>
      cases ht : valsL t with
      | none => rw [hw, ht] at h; cases h
      | some u =>
        rw [hw, ht] at h
        simp only [Option.bind_some, Option.map_some, Option.some.injEq] at h
        subst h
        rcases List.mem_cons.1 hv with rfl | hv
        · exact (worth_letN c _ hw).1
        · exact valsL_lt ht v hv
theorem valsL_letN : ∀ {vs : List Nat}, (∀ v ∈ vs, v < 64) → valsL (vs.map letN) = some vs
  | [], _ => rfl
  | n :: t, h => by
    simp only [List.map_cons, valsL, letN_worth n (h n (by simp)), valsL_letN (fun v hv => h v (List.mem_cons_of_mem _ hv))]
    rfl
/-- The letters of what letters are worth. -/
theorem valsL_map : ∀ {s : List UInt8} {vs : List Nat}, valsL s = some vs → vs.map letN = s.map plnB
  | [], vs, h => by simp [valsL] at h; subst h; rfl
  | c :: t, vs, h => by
    simp only [valsL] at h
    cases hw : worB c with
    | none => rw [hw] at h; cases h
    | some n =>
      cases ht : valsL t with
      | none => rw [hw, ht] at h; cases h
      | some u =>
        rw [hw, ht] at h
        simp only [Option.bind_some, Option.map_some, Option.some.injEq] at h
        subst h
        simp [valsL_map ht, (worth_letN c _ hw).2]
/-- One letter more: what is left over of bits, how many these are, the bytes. -/
def stepD (x : Nat × Nat × List UInt8) (n : Nat) : Nat × Nat × List UInt8 :=
  if 8 ≤ x.2.1 + 6 then ((x.1 * 64 + n) % 2 ^ (x.2.1 - 2), x.2.1 - 2, x.2.2 ++ [UInt8.ofNat ((x.1 * 64 + n) / 2 ^ (x.2.1 - 2))]) else (x.1 * 64 + n, x.2.1 + 6, x.2.2)
def runD (vs : List Nat) : Nat × Nat × List UInt8 := vs.foldl stepD (0, 0, [])
theorem runD_snoc (vs : List Nat) (n : Nat) : runD (vs ++ [n]) = stepD (runD vs) n := by simp [runD, List.foldl_append]
theorem run_dec : ∀ (vs : List Nat) (o : List UInt8), (∀ v ∈ vs, v < 64) → vs.length % 4 ≠ 1 →
    match decV vs with
    | some u => (vs.foldl stepD (0, 0, o)).1 = 0 ∧ (vs.foldl stepD (0, 0, o)).2.2 = o ++ u
    | none => (vs.foldl stepD (0, 0, o)).1 ≠ 0
  | [], o, _, _ => by simp [decV]
  | [_], o, _, h => by simp at h
  | [p, q], o, hv, _ => by
    have hp := hv p (by simp)
    have hq := hv q (by simp)
    simp only [decV, List.foldl_cons, List.foldl_nil, stepD]
    simp only [show ¬ 8 ≤ 0 + 6 from by omega, if_false, show 8 ≤ 0 + 6 + 6 from by omega, if_true]
    split
    · rename_i u h
      split at h
      · cases h
        refine ⟨by omega, ?_⟩
        congr 3
        omega
      · cases h
    · rename_i h
      split at h
      · cases h
      · omega
  | [p, q, r], o, hv, _ => by
    have hp := hv p (by simp)
    have hq := hv q (by simp)
    have hr := hv r (by simp)
    simp only [decV, List.foldl_cons, List.foldl_nil, stepD]
    simp only [show ¬ 8 ≤ 0 + 6 from by omega, if_false, show 8 ≤ 0 + 6 + 6 from by omega, if_true, show 8 ≤ 0 + 6 - 2 + 6 from by omega]
    split
    · rename_i u h
      split at h
      · cases h
        refine ⟨by omega, ?_⟩
        rw [List.append_assoc]
        congr 1
        simp only [List.cons_append, List.nil_append]
        congr 2
        · omega
        · congr 1; omega
      · cases h
    · rename_i h
      split at h
      · cases h
      · omega
  | p :: q :: r :: z :: t, o, hv, hl => by
    have hp := hv p (by simp)
    have hq := hv q (by simp)
    have hr := hv r (by simp)
    have hz := hv z (by simp)
    have ih := run_dec t (o ++ [UInt8.ofNat (p * 4 + q / 16), UInt8.ofNat (q % 16 * 16 + r / 4), UInt8.ofNat (r % 4 * 64 + z)]) (fun v hv2 => hv v (by simp [hv2])) (by simp only [List.length_cons] at hl; omega)
    have e : (p :: q :: r :: z :: t).foldl stepD (0, 0, o) = t.foldl stepD (0, 0, o ++ [UInt8.ofNat (p * 4 + q / 16), UInt8.ofNat (q % 16 * 16 + r / 4), UInt8.ofNat (r % 4 * 64 + z)]) := by
      simp only [List.foldl_cons]
      congr 1
      simp only [stepD, show ¬ 8 ≤ 0 + 6 from by omega, if_false, show 8 ≤ 0 + 6 + 6 from by omega, if_true, show 8 ≤ 0 + 6 - 2 + 6 from by omega, show 8 ≤ 0 + 6 + 6 - 8 + 6 from by omega]
      simp only [Nat.zero_mul, Nat.zero_add, Nat.reduceAdd, Nat.reduceSub, Nat.reducePow, Nat.reduceLeDiff, if_true, Nat.mod_one, Nat.div_one, Prod.mk.injEq, true_and]
      simp only [List.append_assoc, List.cons_append, List.nil_append]
      congr 2
      · congr 1; omega
      · congr 1
        · congr 1; omega
        · congr 2; omega
    rw [e]
    simp only [decV]
    cases hd : decV t with
    | none => rw [hd] at ih; exact ih
    | some u =>
      rw [hd] at ih
      simp only [Option.map_some]
      refine ⟨ih.1, ?_⟩
      rw [ih.2]
      simp
theorem runD_dec {vs : List Nat} (hv : ∀ v ∈ vs, v < 64) (hl : vs.length % 4 ≠ 1) : decV vs = if (runD vs).1 = 0 then some (runD vs).2.2 else none := by
  have h := run_dec vs [] hv hl
  unfold runD
  cases hd : decV vs with
  | none => rw [hd] at h; simp only at h; rw [if_neg h]
  | some u => rw [hd] at h; simp only [List.nil_append] at h; rw [if_pos h.1, h.2]
/-- What is left over. -/
def okD (x : Nat × Nat × List UInt8) (n : Nat) : Prop := (x.2.1 = 0 ∨ x.2.1 = 2 ∨ x.2.1 = 4 ∨ x.2.1 = 6) ∧ x.1 < 2 ^ x.2.1 ∧ x.2.2.length ≤ n
theorem okD_step {x : Nat × Nat × List UInt8} {m n : Nat} (h : okD x m) (hn : n < 64) : okD (stepD x n) (m + 1) := by
  obtain ⟨a, b, o⟩ := x
  obtain ⟨h1, h2, h3⟩ := h
  simp only at h1 h2 h3
  rcases h1 with rfl | rfl | rfl | rfl
  all_goals
    simp only [Nat.reducePow] at h2
    refine ⟨by simp [stepD], by simp [stepD]; omega, by simp [stepD]; omega⟩
end Go.Proofs.Ytkgieaokckidmaa
