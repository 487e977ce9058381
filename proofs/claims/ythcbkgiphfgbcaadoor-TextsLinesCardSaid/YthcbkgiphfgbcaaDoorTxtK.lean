/-
  What is proved: plain laws of lines that are put together, and the walk of TextsLines. Condition: the package's table holds what its text lays.
-/
import Derived.Test.YthcbkgiphfgbcaaDoorTxtG
import Derived.Test.YthcbkgiphfgbcaaDoorFrm
namespace Go.Proofs.YthcbkgiphfgbcaaDoor
open Go.RowKit

theorem linesF_app : ∀ (a : List UInt8) (p : Bool) (b : List UInt8), linesF p (a ++ b) = linesF p a ++ linesF (if a = [] then p else decide (a.getLast? = some 13)) b
  | [], p, b => rfl
  | c :: a, p, b => by
    have ih := linesF_app a (c == 13) b
    have e : linesF p (c :: a ++ b) = (if c = 13 then [10] else if c = 10 ∧ p = true then [] else [c]) ++ linesF (c == 13) (a ++ b) := rfl
    have e1 : linesF p (c :: a) = (if c = 13 then [10] else if c = 10 ∧ p = true then [] else [c]) ++ linesF (c == 13) a := rfl
    rw [e, ih, e1, List.append_assoc]
    congr 3
    cases a with
    | nil =>
      simp only [if_true, List.getLast?_singleton, reduceCtorEq, if_false]
      by_cases hc : c = 13
      · subst hc; rfl
      · have h1 : (c == 13) = false := by simpa using hc
        rw [h1]
        exact (decide_eq_false (by simpa using hc)).symm
    | cons d a => simp
/-- Bytes that end no line. -/
def NoEnd (t : List UInt8) : Prop := ∀ c ∈ t, c ≠ 10 ∧ c ≠ 13
theorem linesF_none : ∀ (t : List UInt8) (p : Bool), NoEnd t → linesF p t = t
  | [], _, _ => rfl
  | c :: t, p, h => by
    obtain ⟨h1, h2⟩ := h c (by simp)
    have h3 : (c == 13) = false := by simpa using h2
    unfold linesF
    rw [if_neg h2, if_neg (fun k => h1 k.1), h3, linesF_none t false (fun d hd => h d (by simp [hd]))]
    rfl
theorem linesF_not13 : ∀ (t : List UInt8), (∀ c ∈ t, c ≠ 13) → linesF false t = t
  | [], _ => rfl
  | c :: t, h => by
    have h2 := h c (by simp)
    have h3 : (c == 13) = false := by simpa using h2
    unfold linesF
    rw [if_neg h2, h3, linesF_not13 t (fun d hd => h d (by simp [hd]))]
    simp
theorem last_none {t : List UInt8} (h : NoEnd t) : decide (t.getLast? = some 13) = false := by
  rw [decide_eq_false_iff_not]
  intro e
  exact (h 13 (List.mem_of_getLast? e)).2 rfl
/-- What the loop holds: the text, what its lines are to be. -/
structure LInv (s want : List UInt8) (i : Nat) : Prop where
  law : linesB s = want
  no13 : ∀ c ∈ want, c ≠ 13
  len : s.length ≤ want.length + i
theorem LInv.start : LInv [] [] 0 := ⟨rfl, by simp, by simp⟩
theorem lines_piece {s : List UInt8} {t e : List UInt8} (ht : NoEnd t) (he : ∀ p : Bool, (p = true → t = [] → s ≠ [] ∧ s.getLast? = some 13) → linesF p e = [10]) : linesB (s ++ (t ++ e)) = linesB s ++ (t ++ [10]) := by
  unfold linesB
  rw [linesF_app, linesF_app]
  rw [linesF_none t _ ht]
  congr 2
  apply he
  intro h1 h2
  subst h2
  rw [if_pos rfl] at h1
  by_cases hs : s = []
  · rw [if_pos hs] at h1; cases h1
  · rw [if_neg hs] at h1
    exact ⟨hs, of_decide_eq_true h1⟩
theorem lines_piece' {s : List UInt8} {t e : List UInt8} (ht : NoEnd t) (he : ∀ p : Bool, (p = true → t = [] ∧ s ≠ [] ∧ s.getLast? = some 13) → linesF p e = [10]) : linesB (s ++ (t ++ e)) = linesB s ++ (t ++ [10]) := by
  unfold linesB
  rw [linesF_app, linesF_app, linesF_none t _ ht]
  congr 2
  apply he
  intro h1
  by_cases h2 : t = []
  · subst h2
    rw [if_pos rfl] at h1
    by_cases hs : s = []
    · rw [if_pos hs] at h1; cases h1
    · rw [if_neg hs] at h1
      exact ⟨rfl, hs, of_decide_eq_true h1⟩
  · rw [if_neg h2, last_none ht] at h1
    cases h1
theorem LInv.next {s want t e : List UInt8} {i : Nat} (h : LInv s want i) (ht : NoEnd t) (hl : e.length ≤ 2) (he : ∀ p : Bool, (p = true → t = [] ∧ s ≠ [] ∧ s.getLast? = some 13) → linesF p e = [10]) : LInv (s ++ (t ++ e)) (want ++ (t ++ [10])) (i + 1) := by
  refine ⟨by rw [lines_piece' ht he, h.law], fun c hc => ?_, ?_⟩
  · rcases List.mem_append.1 hc with hc | hc
    · exact h.no13 c hc
    · rcases List.mem_append.1 hc with hc | hc
      · exact (ht c hc).2
      · simp only [List.mem_singleton] at hc
        subst hc
        decide
  · have := h.len
    simp only [List.length_append, List.length_cons, List.length_nil]
    omega
theorem LInv.crlf {s want t : List UInt8} {i : Nat} (h : LInv s want i) (ht : NoEnd t) : LInv (s ++ (t ++ [13, 10])) (want ++ (t ++ [10])) (i + 1) :=
  h.next ht (by simp) fun p _ => by cases p <;> rfl
theorem LInv.cr {s want t : List UInt8} {i : Nat} (h : LInv s want i) (ht : NoEnd t) : LInv (s ++ (t ++ [13])) (want ++ (t ++ [10])) (i + 1) :=
  h.next ht (by simp) fun p _ => by cases p <;> rfl
theorem LInv.lf {s want t : List UInt8} {i : Nat} (h : LInv s want i) (ht : NoEnd t) (hn : t ≠ [] ∨ s = [] ∨ s.getLast? ≠ some 13) : LInv (s ++ (t ++ [10])) (want ++ (t ++ [10])) (i + 1) :=
  h.next ht (by simp) fun p hp => by
    cases p with
    | false => rfl
    | true =>
      obtain ⟨h1, h2, h3⟩ := hp rfl
      rcases hn with hn | hn | hn
      · exact absurd h1 hn
      · exact absurd hn h2
      · exact absurd h3 hn
theorem LInv.want {s want : List UInt8} {i : Nat} (h : LInv s want i) : linesB want = want := linesF_not13 want h.no13
/-- A text without the ends of lines. -/
def strip (l : List UInt8) : List UInt8 := l.filter fun c => c != 10 && c != 13
theorem strip_noEnd (l : List UInt8) : NoEnd (strip l) := by
  intro c hc
  have := (List.mem_filter.1 hc).2
  simpa using this
theorem strip_take {l : List UInt8} {k : Nat} (h : k < l.length) : strip (l.take (k + 1)) = strip (l.take k) ++ (if l[k] ≠ 10 ∧ l[k] ≠ 13 then [l[k]] else []) := by
  unfold strip
  rw [List.take_succ_eq_append_getElem h, List.filter_append]
  congr 1
  by_cases h1 : l[k] = 10 <;> by_cases h2 : l[k] = 13 <;> simp [h1, h2]
theorem last_get {s : List UInt8} (h : 0 < s.length) : s.getLast? = some (s[s.length - 1]'(by omega)) := by
  rw [List.getLast?_eq_getElem?, List.getElem?_eq_getElem (by omega)]
end Go.Proofs.YthcbkgiphfgbcaaDoor
