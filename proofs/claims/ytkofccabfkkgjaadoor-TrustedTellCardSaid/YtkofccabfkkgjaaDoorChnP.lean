/-
  What is proved: plain laws of the chains of directives: which is asked for, which stand in. No condition.
-/
import Derived.Test.YtkofccabfkkgjaaDoorNam
namespace Go.Proofs.YtkofccabfkkgjaaDoor
open Go.RowKit

/-- By kinds of items. -/
def effTab : List (List UInt8) := [[], [115, 99, 114, 105, 112, 116, 45, 115, 114, 99, 45, 101, 108, 101, 109], [115, 99, 114, 105, 112, 116, 45, 115, 114, 99, 45, 101, 108, 101, 109], [115, 99, 114, 105, 112, 116, 45, 115, 114, 99, 45, 97, 116, 116, 114], [115, 99, 114, 105, 112, 116, 45, 115, 114, 99, 45, 101, 108, 101, 109], [115, 116, 121, 108, 101, 45, 115, 114, 99, 45, 101, 108, 101, 109], [115, 116, 121, 108, 101, 45, 115, 114, 99, 45, 101, 108, 101, 109], [115, 116, 121, 108, 101, 45, 115, 114, 99, 45, 97, 116, 116, 114], [105, 109, 103, 45, 115, 114, 99], [102, 111, 110, 116, 45, 115, 114, 99], [109, 101, 100, 105, 97, 45, 115, 114, 99], [102, 114, 97, 109, 101, 45, 115, 114, 99], [111, 98, 106, 101, 99, 116, 45, 115, 114, 99], [109, 97, 110, 105, 102, 101, 115, 116, 45, 115, 114, 99], [99, 111, 110, 110, 101, 99, 116, 45, 115, 114, 99], [98, 97, 115, 101, 45, 117, 114, 105], [102, 111, 114, 109, 45, 97, 99, 116, 105, 111, 110]]
def effL (k : Int) : List UInt8 := if k < 0 then [] else effTab.getD k.toNat []
def aloneL : List (List UInt8) := [[115, 99, 114, 105, 112, 116, 45, 115, 114, 99], [115, 116, 121, 108, 101, 45, 115, 114, 99], [99, 104, 105, 108, 100, 45, 115, 114, 99], [99, 111, 110, 110, 101, 99, 116, 45, 115, 114, 99], [109, 97, 110, 105, 102, 101, 115, 116, 45, 115, 114, 99], [111, 98, 106, 101, 99, 116, 45, 115, 114, 99], [102, 111, 110, 116, 45, 115, 114, 99], [105, 109, 103, 45, 115, 114, 99], [109, 101, 100, 105, 97, 45, 115, 114, 99]]
def chainL (n : List UInt8) : List (List UInt8) :=
  if n = [115, 99, 114, 105, 112, 116, 45, 115, 114, 99, 45, 101, 108, 101, 109] ∨ n = [115, 99, 114, 105, 112, 116, 45, 115, 114, 99, 45, 97, 116, 116, 114] then [n, [115, 99, 114, 105, 112, 116, 45, 115, 114, 99], [100, 101, 102, 97, 117, 108, 116, 45, 115, 114, 99]]
  else if n = [115, 116, 121, 108, 101, 45, 115, 114, 99, 45, 101, 108, 101, 109] ∨ n = [115, 116, 121, 108, 101, 45, 115, 114, 99, 45, 97, 116, 116, 114] then [n, [115, 116, 121, 108, 101, 45, 115, 114, 99], [100, 101, 102, 97, 117, 108, 116, 45, 115, 114, 99]]
  else if n = [119, 111, 114, 107, 101, 114, 45, 115, 114, 99] then [n, [99, 104, 105, 108, 100, 45, 115, 114, 99], [115, 99, 114, 105, 112, 116, 45, 115, 114, 99], [100, 101, 102, 97, 117, 108, 116, 45, 115, 114, 99]]
  else if n = [102, 114, 97, 109, 101, 45, 115, 114, 99] then [n, [99, 104, 105, 108, 100, 45, 115, 114, 99], [100, 101, 102, 97, 117, 108, 116, 45, 115, 114, 99]]
  else if n ∈ aloneL then [n, [100, 101, 102, 97, 117, 108, 116, 45, 115, 114, 99]]
  else [n]
def findC (ds : List Dir) (k : Int) : Option Dir := if effL k = [] then none else (chainL (effL k)).findSome? (findD ds)
theorem chain_len (n : List UInt8) : (chainL n).length ≤ 4 := by
  unfold chainL
  split
  · simp
  · split
    · simp
    · split
      · simp
      · split
        · simp
        · split <;> simp
theorem eff_len (k : Int) : (effL k).length ≤ 20 := by
  unfold effL
  split
  · simp
  · rw [List.getD_eq_getElem?_getD]
    cases h : effTab[k.toNat]? with
    | none => simp
    | some x =>
      have : ∀ x ∈ effTab, x.length ≤ 20 := by decide
      exact this x (List.mem_of_getElem? h)
theorem chain_each (n : List UInt8) (h : n.length ≤ 1000) : ∀ x ∈ chainL n, x.length ≤ 1000 := by
  intro x hx
  unfold chainL at hx
  repeat' split at hx
  all_goals
    simp only [List.mem_cons, List.not_mem_nil, or_false] at hx
    first
      | (rcases hx with rfl | rfl | rfl | rfl <;> first | exact h | decide)
      | (rcases hx with rfl | rfl | rfl <;> first | exact h | decide)
      | (rcases hx with rfl | rfl <;> first | exact h | decide)
      | (subst hx; exact h)
/-- The first of some that is there. -/
theorem findSome_idx (ds : List Dir) : ∀ (l : List (List UInt8)) (z : Int), (idxG (fun s => (findD ds s).isSome) l z = -1 ∧ l.findSome? (findD ds) = none) ∨ ∃ (i : Nat) (h : i < l.length) (d : Dir), idxG (fun s => (findD ds s).isSome) l z = z + (i : Int) ∧ findD ds l[i] = some d ∧ l.findSome? (findD ds) = some d
  | [], _ => .inl ⟨rfl, rfl⟩
  | x :: l, z => by
    cases h : findD ds x with
    | some d =>
      refine .inr ⟨0, by simp, d, ?_, h, ?_⟩
      · show (if (findD ds x).isSome = true then z else _) = _
        rw [h]
        simp
      · simp [List.findSome?, h]
    | none =>
      have e : idxG (fun s => (findD ds s).isSome) (x :: l) z = idxG (fun s => (findD ds s).isSome) l (z + 1) := by
        show (if (findD ds x).isSome = true then z else _) = _
        rw [h]
        simp
      have f : (x :: l).findSome? (findD ds) = l.findSome? (findD ds) := by simp [List.findSome?, h]
      rw [e, f]
      rcases findSome_idx ds l (z + 1) with ⟨h1, h2⟩ | ⟨i, hi, d, h1, h2, h3⟩
      · exact .inl ⟨h1, h2⟩
      · exact .inr ⟨i + 1, by simpa using hi, d, by rw [h1]; omega, h2, h3⟩
end Go.Proofs.YtkofccabfkkgjaaDoor
