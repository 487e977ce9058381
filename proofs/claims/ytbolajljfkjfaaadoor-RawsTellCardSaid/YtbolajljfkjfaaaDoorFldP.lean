/-
  What is proved: plain laws of the program's cutting at spaces, round by round. No condition.
-/
import Derived.Test.YtbolajljfkjfaaaDoorPolP
namespace Go.Proofs.YtbolajljfkjfaaaDoor
open Go.RowKit

/-- From one place to another. -/
def cutL (l : List UInt8) (i j : Nat) : List UInt8 := (l.drop i).take (j - i)
theorem cut_len {l : List UInt8} {i j : Nat} (h : j ≤ l.length) : (cutL l i j).length = j - i := by
  unfold cutL
  rw [List.length_take, List.length_drop]
  omega
theorem cut_same (l : List UInt8) (i : Nat) : cutL l i i = [] := by simp [cutL]
theorem cut_snoc {l : List UInt8} {i j : Nat} (hi : i ≤ j) (hj : j < l.length) : cutL l i (j + 1) = cutL l i j ++ [l[j]] := by
  unfold cutL
  have e : j + 1 - i = (j - i) + 1 := by omega
  have h1 : (l.drop i)[j - i]? = some l[j] := by
    rw [List.getElem?_drop]
    have : i + (j - i) = j := by omega
    rw [this, List.getElem?_eq_getElem hj]
  rw [e, List.take_add_one, h1]
  rfl
theorem piece_cut {l : List UInt8} {i j : Nat} (h : j ≤ l.length) : pieceL (cutL l i j) = if i < j then [cutL l i j] else [] := by
  have := cut_len (i := i) h
  unfold pieceL
  by_cases hij : i < j
  · rw [if_pos hij, if_neg]
    intro he
    rw [List.isEmpty_iff] at he
    rw [he] at this
    simp at this
    omega
  · rw [if_neg hij, if_pos]
    rw [List.isEmpty_iff]
    exact List.eq_nil_of_length_eq_zero (by omega)
/-- What the loop holds: what is out, where the piece began. -/
def FldAt (l : List UInt8) (out : List (List UInt8)) (from_ i : Nat) : Prop := from_ ≤ i ∧ out ++ fieldsG (cutL l from_ i) (l.drop i) = fieldsL l
theorem FldAt.start (l : List UInt8) : FldAt l [] 0 0 := ⟨Nat.le_refl _, by rw [cut_same]; rfl⟩
theorem FldAt.space {l : List UInt8} {out : List (List UInt8)} {f i : Nat} (h : FldAt l out f i) (hi : i < l.length) (hc : spB l[i] = true) : FldAt l (out ++ pieceL (cutL l f i)) (i + 1) (i + 1) := by
  obtain ⟨h1, h2⟩ := h
  refine ⟨Nat.le_refl _, ?_⟩
  rw [List.drop_eq_getElem_cons hi] at h2
  unfold fieldsG at h2
  rw [if_pos hc] at h2
  rw [cut_same, List.append_assoc, h2]
theorem FldAt.other {l : List UInt8} {out : List (List UInt8)} {f i : Nat} (h : FldAt l out f i) (hi : i < l.length) (hc : spB l[i] = false) : FldAt l out f (i + 1) := by
  obtain ⟨h1, h2⟩ := h
  refine ⟨by omega, ?_⟩
  rw [List.drop_eq_getElem_cons hi] at h2
  unfold fieldsG at h2
  rw [if_neg (by rw [hc]; simp)] at h2
  rw [cut_snoc h1 hi, h2]
theorem FldAt.last {l : List UInt8} {out : List (List UInt8)} {f : Nat} (h : FldAt l out f l.length) : out ++ pieceL (cutL l f l.length) = fieldsL l := by
  obtain ⟨h1, h2⟩ := h
  rw [List.drop_length] at h2
  exact h2
/-- The reference's cutting at a byte. -/
def PartAt (c : UInt8) (l : List UInt8) (out : List (List UInt8)) (from_ i : Nat) : Prop := from_ ≤ i ∧ out ++ splitG c (cutL l from_ i) (l.drop i) = splitL c l
theorem PartAt.start (c : UInt8) (l : List UInt8) : PartAt c l [] 0 0 := ⟨Nat.le_refl _, by rw [cut_same]; rfl⟩
theorem PartAt.hit {c : UInt8} {l : List UInt8} {out : List (List UInt8)} {f i : Nat} (h : PartAt c l out f i) (hi : i < l.length) (hc : l[i] = c) : PartAt c l (out ++ [cutL l f i]) (i + 1) (i + 1) := by
  obtain ⟨h1, h2⟩ := h
  refine ⟨Nat.le_refl _, ?_⟩
  rw [List.drop_eq_getElem_cons hi] at h2
  unfold splitG at h2
  rw [if_pos hc] at h2
  rw [cut_same, List.append_assoc]
  exact h2
theorem PartAt.miss {c : UInt8} {l : List UInt8} {out : List (List UInt8)} {f i : Nat} (h : PartAt c l out f i) (hi : i < l.length) (hc : l[i] ≠ c) : PartAt c l out f (i + 1) := by
  obtain ⟨h1, h2⟩ := h
  refine ⟨by omega, ?_⟩
  rw [List.drop_eq_getElem_cons hi] at h2
  unfold splitG at h2
  rw [if_neg hc] at h2
  rw [cut_snoc h1 hi, h2]
theorem PartAt.last {c : UInt8} {l : List UInt8} {out : List (List UInt8)} {f : Nat} (h : PartAt c l out f l.length) : out ++ [cutL l f l.length] = splitL c l := by
  obtain ⟨h1, h2⟩ := h
  rw [List.drop_length] at h2
  exact h2
theorem splitG_count (c : UInt8) : ∀ (l p : List UInt8), (splitG c p l).length ≤ l.length + 1
  | [], p => by simp [splitG]
  | d :: t, p => by
    unfold splitG
    split
    · have := splitG_count c t []
      simp only [List.length_cons]
      omega
    · have := splitG_count c t (p ++ [d])
      simp only [List.length_cons]
      omega
theorem split_count (c : UInt8) (l : List UInt8) : (splitL c l).length ≤ l.length + 1 := splitG_count c l []
theorem splitG_each (c : UInt8) : ∀ (l p : List UInt8), ∀ x ∈ splitG c p l, x.length ≤ p.length + l.length
  | [], p, x, h => by
    simp only [splitG, List.mem_singleton] at h
    subst h
    simp
  | d :: t, p, x, h => by
    unfold splitG at h
    split at h
    · rcases List.mem_cons.1 h with h | h
      · subst h
        simp
      · have := splitG_each c t [] x h
        simp only [List.length_cons, List.length_nil] at this ⊢
        omega
    · have := splitG_each c t (p ++ [d]) x h
      simp only [List.length_append, List.length_cons, List.length_nil] at this ⊢
      omega
theorem split_each (c : UInt8) (l : List UInt8) : ∀ x ∈ splitL c l, x.length ≤ l.length := fun x h => by
  have := splitG_each c l [] x h
  simpa using this
/-- How many there are at most, and how long each is. -/
theorem fieldsG_count : ∀ (l p : List UInt8), (fieldsG p l).length ≤ l.length + 1
  | [], p => by
    unfold fieldsG pieceL
    split <;> simp
  | c :: t, p => by
    unfold fieldsG
    split
    · have := fieldsG_count t []
      have h2 : (pieceL p).length ≤ 1 := by unfold pieceL; split <;> simp
      simp only [List.length_append, List.length_cons]
      omega
    · have := fieldsG_count t (p ++ [c])
      simp only [List.length_cons]
      omega
theorem fields_count (l : List UInt8) : (fieldsL l).length ≤ l.length + 1 := fieldsG_count l []
theorem fieldsG_each : ∀ (l p : List UInt8), ∀ x ∈ fieldsG p l, x.length ≤ p.length + l.length
  | [], p, x, h => by
    unfold fieldsG pieceL at h
    split at h
    · cases h
    · simp only [List.mem_singleton] at h
      subst h
      simp
  | c :: t, p, x, h => by
    unfold fieldsG at h
    split at h
    · rcases List.mem_append.1 h with h | h
      · unfold pieceL at h
        split at h
        · cases h
        · simp only [List.mem_singleton] at h
          subst h
          simp
      · have := fieldsG_each t [] x h
        simp only [List.length_cons, List.length_nil] at this ⊢
        omega
    · have := fieldsG_each t (p ++ [c]) x h
      simp only [List.length_append, List.length_cons, List.length_nil] at this ⊢
      omega
theorem fields_each (l : List UInt8) : ∀ x ∈ fieldsL l, x.length ≤ l.length := fun x h => by
  have := fieldsG_each l [] x h
  simpa using this
end Go.Proofs.YtbolajljfkjfaaaDoor
