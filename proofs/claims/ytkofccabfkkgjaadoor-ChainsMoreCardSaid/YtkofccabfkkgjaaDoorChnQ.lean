/-
  What is proved: plain laws of chains and of a directive more. No condition.
-/
import Derived.Test.YtkofccabfkkgjaaDoorChnM
namespace Go.Proofs.YtkofccabfkkgjaaDoor
open Go.RowKit

def namesO : List (List UInt8) := [[115, 99, 114, 105, 112, 116, 45, 115, 114, 99, 45, 101, 108, 101, 109], [115, 99, 114, 105, 112, 116, 45, 115, 114, 99, 45, 97, 116, 116, 114], [115, 116, 121, 108, 101, 45, 115, 114, 99, 45, 101, 108, 101, 109], [115, 116, 121, 108, 101, 45, 115, 114, 99, 45, 97, 116, 116, 114], [119, 111, 114, 107, 101, 114, 45, 115, 114, 99], [102, 114, 97, 109, 101, 45, 115, 114, 99], [115, 99, 114, 105, 112, 116, 45, 115, 114, 99], [115, 116, 121, 108, 101, 45, 115, 114, 99], [99, 104, 105, 108, 100, 45, 115, 114, 99], [99, 111, 110, 110, 101, 99, 116, 45, 115, 114, 99], [109, 97, 110, 105, 102, 101, 115, 116, 45, 115, 114, 99], [111, 98, 106, 101, 99, 116, 45, 115, 114, 99], [102, 111, 110, 116, 45, 115, 114, 99], [105, 109, 103, 45, 115, 114, 99], [109, 101, 100, 105, 97, 45, 115, 114, 99], [98, 97, 115, 101, 45, 117, 114, 105], [102, 111, 114, 109, 45, 97, 99, 116, 105, 111, 110], [100, 101, 102, 97, 117, 108, 116, 45, 115, 114, 99], [115, 97, 110, 100, 98, 111, 120]]
def namesM : List (List UInt8) := [[100, 101, 102, 97, 117, 108, 116, 45, 115, 114, 99], [115, 99, 114, 105, 112, 116, 45, 115, 114, 99], [115, 99, 114, 105, 112, 116, 45, 115, 114, 99, 45, 101, 108, 101, 109], [115, 99, 114, 105, 112, 116, 45, 115, 114, 99, 45, 97, 116, 116, 114], [115, 116, 121, 108, 101, 45, 115, 114, 99], [115, 116, 121, 108, 101, 45, 115, 114, 99, 45, 101, 108, 101, 109], [105, 109, 103, 45, 115, 114, 99], [99, 104, 105, 108, 100, 45, 115, 114, 99], [102, 114, 97, 109, 101, 45, 115, 114, 99], [120]]
theorem splitG_append {c : UInt8} (t : List UInt8) (ht : c ∉ t) : ∀ (l piece : List UInt8), splitG c piece (l ++ c :: t) = splitG c piece l ++ [t]
  | [], piece => by
    show (if c = c then piece :: splitG c [] t else _) = _
    rw [if_pos rfl, splitG_miss t [] ht]
    rfl
  | d :: l, piece => by
    by_cases h : d = c
    · show (if d = c then piece :: splitG c [] (l ++ c :: t) else _) = (if d = c then piece :: splitG c [] l else _) ++ [t]
      rw [if_pos h, if_pos h, splitG_append t ht l []]
      rfl
    · show (if d = c then _ else splitG c (piece ++ [d]) (l ++ c :: t)) = (if d = c then _ else splitG c (piece ++ [d]) l) ++ [t]
      rw [if_neg h, if_neg h, splitG_append t ht l _]
theorem one_more {t : List UInt8} (ht : (59 : UInt8) ∉ t) (s : List UInt8) : oneL (s ++ 59 :: t) = addD (oneL s) t := by
  unfold oneL splitL
  rw [splitG_append t ht s [], List.foldl_append]
  rfl
theorem find_name {ds : List Dir} {n : List UInt8} {d : Dir} (h : findD ds n = some d) : d.name = n := by
  have := List.find?_some h
  simpa using this
theorem has_find (ds : List Dir) (n : List UInt8) : hasD ds n = (findD ds n).isSome := by
  unfold hasD findD
  rw [Bool.eq_iff_iff]
  simp [List.any_eq_true, List.find?_isSome]
theorem idx_ne {x a : List UInt8} (l : List (List UInt8)) (h : x ≠ a) : (x :: l).idxOf a = l.idxOf a + 1 := by
  rw [List.idxOf_cons]
  have : (x == a) = false := beq_eq_false_iff_ne.2 h
  rw [this]
  rfl
/-- The first of a chain that a policy has, by its name. -/
def firstN (ds : List Dir) (l : List (List UInt8)) : List UInt8 := match l.findSome? (findD ds) with | none => [] | some d => d.name
theorem firstN_cons (ds : List Dir) (x : List UInt8) (l : List (List UInt8)) : firstN ds (x :: l) = if hasD ds x then x else firstN ds l := by
  rw [has_find]
  unfold firstN
  cases h : findD ds x with
  | none => simp [List.findSome?, h]
  | some d => simp [List.findSome?, h, find_name h]
theorem has_add (ds : List Dir) (m : Dir) (n : List UInt8) : hasD (ds ++ [m]) n = (hasD ds n || m.name == n) := by
  simp [hasD]
theorem firstN_mem (ds : List Dir) : ∀ (l : List (List UInt8)), firstN ds l = [] ∨ firstN ds l ∈ l
  | [] => .inl rfl
  | x :: l => by
    rw [firstN_cons]
    split
    · exact .inr (by simp)
    · rcases firstN_mem ds l with h | h
      · exact .inl h
      · exact .inr (by simp [h])
theorem firstN_has (ds : List Dir) (x : List UInt8) (hx : x ≠ []) : ∀ (l : List (List UInt8)), firstN ds l = x → hasD ds x = true
  | [], h => absurd h.symm hx
  | y :: l, h => by
    rw [firstN_cons] at h
    split at h
    · rename_i hy
      rw [← h]
      exact hy
    · exact firstN_has ds x hx l h
/-- What a directive more makes of it. -/
theorem firstN_more (ds : List Dir) (m : Dir) (hm : hasD ds m.name = false) : ∀ (l : List (List UInt8)), (∀ x ∈ l, x ≠ []) →
    firstN (ds ++ [m]) l = if l.idxOf m.name < l.idxOf (firstN ds l) then m.name else firstN ds l
  | [], _ => by simp [firstN]
  | x :: l, hl => by
    have ih := firstN_more ds m hm l (fun y hy => hl y (by simp [hy]))
    have hx := hl x (by simp)
    by_cases h1 : hasD ds x = true
    · have e1 : firstN (ds ++ [m]) (x :: l) = x := by rw [firstN_cons, has_add, if_pos (by rw [h1]; rfl)]
      have e2 : firstN ds (x :: l) = x := by rw [firstN_cons, if_pos h1]
      rw [e1, e2, List.idxOf_cons_self, if_neg (by omega)]
    · have h1f : hasD ds x = false := by simpa using h1
      have e2 : firstN ds (x :: l) = firstN ds l := by rw [firstN_cons, if_neg h1]
      by_cases h2 : m.name = x
      · have e1 : firstN (ds ++ [m]) (x :: l) = m.name := by rw [firstN_cons, has_add, if_pos (by simp [h2]), h2]
        rw [e1, e2]
        have e3 : (x :: l).idxOf m.name = 0 := by rw [h2, List.idxOf_cons_self]
        rw [e3]
        by_cases h3 : firstN ds l = x
        · rw [h3, h2, List.idxOf_cons_self, if_neg (by omega)]
        · rw [idx_ne _ (fun e => h3 e.symm), if_pos (by omega)]
      · have e1 : firstN (ds ++ [m]) (x :: l) = firstN (ds ++ [m]) l := by rw [firstN_cons, has_add, if_neg (by simp [h1f, h2])]
        rw [e1, e2, ih, idx_ne _ (fun e => h2 e.symm)]
        by_cases h3 : firstN ds l = x
        · exfalso
          rcases firstN_mem ds l with hz | hz
          · exact hx (h3.symm.trans hz)
          · rw [firstN_has ds x hx l h3] at h1f
            cases h1f
        · rw [idx_ne _ (fun e => h3 e.symm)]
          by_cases h4 : l.idxOf m.name < l.idxOf (firstN ds l)
          · rw [if_pos h4, if_pos (by omega)]
          · rw [if_neg h4, if_neg (by omega)]
theorem firstN_had (ds : List Dir) (n : List UInt8) (h : hasD ds n = true) : ∀ (l : List (List UInt8)), ¬ l.idxOf n < l.idxOf (firstN ds l)
  | [] => by simp
  | x :: l => by
    rw [firstN_cons]
    by_cases h1 : hasD ds x = true
    · rw [if_pos h1, List.idxOf_cons_self]; omega
    · rw [if_neg h1]
      have hn : ¬ x = n := fun e => h1 (by rw [e]; exact h)
      have ih := firstN_had ds n h l
      rw [idx_ne _ hn]
      by_cases h3 : firstN ds l = x
      · rw [h3, List.idxOf_cons_self]; omega
      · rw [idx_ne _ (fun e => h3 e.symm)]
        omega
theorem nameC_first (s : List UInt8) {k : Int} (h : effL k ≠ []) : nameC s k = firstN (oneL s) (chainL (effL k)) := by
  have e : findC (oneL s) k = (chainL (effL k)).findSome? (findD (oneL s)) := by unfold findC; rw [if_neg h]
  unfold nameC firstN
  rw [e]
  cases (chainL (effL k)).findSome? (findD (oneL s)) <;> rfl
theorem chain_ne {k : Int} (h1 : 1 ≤ k) (h2 : k ≤ 16) : ∀ x ∈ chainL (effL k), x ≠ [] := sixteen (P := fun k => ∀ x ∈ chainL (effL k), x ≠ []) (by decide) h1 h2
theorem more_law (s : List UInt8) {k : Int} (h1 : 1 ≤ k) (h2 : k ≤ 16) {m : List UInt8} (hm : m ∈ namesM) :
    nameC (s ++ (59 :: (m ++ [32, 122]))) k = if (chainL (effL k)).idxOf m < (chainL (effL k)).idxOf (nameC s k) then m else nameC s k := by
  have hne : effL k ≠ [] := sixteen (P := fun k => effL k ≠ []) (by decide) h1 h2
  have f1 : ∀ m ∈ namesM, (59 : UInt8) ∉ m ++ [32, 122] := by decide
  have f2 : ∀ m ∈ namesM, fieldsL (m ++ [32, 122]) = [m, [122]] ∧ lowL m = m := by decide +kernel
  obtain ⟨g1, g2⟩ := f2 m hm
  rw [nameC_first _ hne, nameC_first _ hne, one_more (f1 m hm)]
  cases hh : hasD (oneL s) m
  · rw [addD_new g1 (by rw [g2]; exact hh), g2]
    exact firstN_more (oneL s) ⟨m, [[122]]⟩ hh _ (chain_ne h1 h2)
  · rw [addD_had g1 (by rw [g2]; exact hh), if_neg (firstN_had _ _ hh _)]
end Go.Proofs.YtkofccabfkkgjaaDoor
