/-
  What is proved: plain laws of lines: the two replacements are what goes through a text byte by byte. No condition.
-/
import Derived.Test.YthcbkgiphfgbcaaDoorRep
namespace Go.Proofs.YthcbkgiphfgbcaaDoor
open Go.RowKit

/-- The lines of a text, behind a byte that was 13 or not. -/
def linesF : Bool → List UInt8 → List UInt8
  | _, [] => []
  | p, c :: t => (if c = 13 then [10] else if c = 10 ∧ p = true then [] else [c]) ++ linesF (c == 13) t
def linesB (l : List UInt8) : List UInt8 := linesF false l
theorem linesF_head {p : Bool} {l : List UInt8} (h : l.head? ≠ some 10) : linesF p l = linesF false l := by
  cases l with
  | nil => rfl
  | cons c t =>
    unfold linesF
    have hc : c ≠ 10 := fun e => h (by rw [e]; rfl)
    simp [hc]
theorem lines_two : ∀ (n : Nat) (l : List UInt8), l.length ≤ n → swapB 13 [10] (repF [13, 10] [10] n l) = linesF false l
  | 0, l, h => by
    have : l = [] := by cases l with | nil => rfl | cons a t => simp at h
    subst this; rfl
  | n + 1, [], _ => rfl
  | n + 1, c :: t, h => by
    simp only [List.length_cons] at h
    have e : repF [13, 10] [10] (n + 1) (c :: t) = if ([13, 10] : List UInt8).isPrefixOf (c :: t) then [10] ++ repF [13, 10] [10] n (t.drop 1) else c :: repF [13, 10] [10] n t := rfl
    rw [e]
    by_cases hp : ([13, 10] : List UInt8).isPrefixOf (c :: t) = true
    · rw [if_pos hp]
      cases t with
      | nil => simp [List.isPrefixOf] at hp
      | cons d t =>
        simp only [List.isPrefixOf, Bool.and_eq_true, beq_iff_eq] at hp
        obtain ⟨rfl, rfl, _⟩ := hp
        have ih := lines_two n t (by simp only [List.length_cons] at h; omega)
        unfold swapB at ih ⊢
        rw [List.flatMap_append]
        simp only [List.drop_succ_cons, List.drop_zero]
        rw [ih]
        simp [linesF]
    · rw [if_neg hp]
      have ih := lines_two n t (by omega)
      unfold swapB at ih ⊢
      rw [List.flatMap_cons, ih]
      by_cases hc : c = 13
      · subst hc
        have ht : t.head? ≠ some 10 := by
          cases t with
          | nil => simp
          | cons d t =>
            intro e
            simp only [List.head?_cons, Option.some.injEq] at e
            subst e
            exact hp (by simp [List.isPrefixOf])
        have h13 : ((13 : UInt8) == 13) = true := rfl
        have e2 : linesF false (13 :: t) = [10] ++ linesF true t := by
          conv => lhs; unfold linesF
          rw [if_pos rfl, h13]
        rw [e2, linesF_head (p := true) ht, if_pos rfl]
      · have hc2 : (c == 13) = false := by simpa using hc
        have e2 : linesF false (c :: t) = [c] ++ linesF false t := by
          conv => lhs; unfold linesF
          rw [hc2, if_neg hc]
          simp
        rw [e2, if_neg hc]
theorem lines_all (l : List UInt8) : Lib.replaceAll (Lib.replaceAll l [13, 10] [10]) [13] [10] = linesB l := by
  rw [replaceAll_one 13 [10] _ (by decide), replaceAll_eq (by simp) (by decide), lines_two _ _ (Nat.le_refl _)]
  rfl
theorem linesF_len : ∀ (p : Bool) (l : List UInt8), (linesF p l).length ≤ l.length
  | _, [] => by simp [linesF]
  | p, c :: t => by
    have := linesF_len (c == 13) t
    unfold linesF
    simp only [List.length_append, List.length_cons]
    split
    · simp only [List.length_cons, List.length_nil]; omega
    · split
      · simp only [List.length_nil]; omega
      · simp only [List.length_cons, List.length_nil]; omega
theorem linesF_snoc : ∀ (l : List UInt8) (p : Bool) (c : UInt8), linesF p (l ++ [c]) = linesF p l ++ (if c = 13 then [10] else if c = 10 ∧ (if l = [] then p else decide (l.getLast? = some 13)) = true then [] else [c])
  | [], p, c => by simp [linesF]
  | d :: l, p, c => by
    have ih := linesF_snoc l (d == 13) c
    have e : linesF p (d :: l ++ [c]) = (if d = 13 then [10] else if d = 10 ∧ p = true then [] else [d]) ++ linesF (d == 13) (l ++ [c]) := rfl
    have e1 : linesF p (d :: l) = (if d = 13 then [10] else if d = 10 ∧ p = true then [] else [d]) ++ linesF (d == 13) l := rfl
    rw [e, ih, e1, List.append_assoc]
    congr 2
    cases l with
    | nil =>
      simp only [if_true, List.getLast?_singleton, reduceCtorEq, if_false]
      by_cases hd : d = 13
      · subst hd; simp
      · have h2 : (d == 13) = false := by simpa using hd
        rw [h2]
        simp [hd]
    | cons a b => simp
/-- What the reference's loop adds for a byte. -/
theorem linesB_take {l : List UInt8} {k : Nat} (h : k < l.length) : linesB (l.take (k + 1)) = linesB (l.take k) ++ (if l[k] = 13 then [10] else if l[k] ≠ 10 ∨ k = 0 ∨ l.getD (k - 1) 0 ≠ 13 then [l[k]] else []) := by
  unfold linesB
  rw [List.take_succ_eq_append_getElem h, linesF_snoc]
  congr 1
  by_cases h1 : l[k] = 13
  · rw [if_pos h1, if_pos h1]
  · rw [if_neg h1, if_neg h1]
    by_cases hk : k = 0
    · subst hk
      simp
    · have hne : l.take k ≠ [] := by
        intro e
        have := congrArg List.length e
        rw [List.length_take, List.length_nil] at this
        omega
      have hl : (l.take k).getLast? = some (l.getD (k - 1) 0) := by
        rw [List.getLast?_eq_getElem?, List.length_take, Nat.min_eq_left (by omega), List.getElem?_take, if_pos (by omega), List.getD_eq_getElem?_getD, List.getElem?_eq_getElem (by omega)]
        rfl
      rw [if_neg hne, hl]
      simp only [Option.some.injEq, decide_eq_true_eq, hk, false_or]
      by_cases h2 : l[k] = 10 <;> by_cases h3 : l.getD (k - 1) 0 = 13 <;> simp only [h2, h3, true_and, false_and, if_true, if_false, not_true, not_false_eq_true, ne_eq, or_true, true_or, or_self]
end Go.Proofs.YthcbkgiphfgbcaaDoor
