/-
  What is proved: plain laws of texts without spaces around them, cut at commas, and of letters' cases. No condition.
-/
import Derived.Test.YtfaomejdoljfnaaDoorFldP
import Derived.Lib.SlTrimSet
namespace Go.Proofs.YtfaomejdoljfnaaDoor
open Go.RowKit

/-! ### no spaces at the ends -/
def stripR : List UInt8 → List UInt8
  | [] => []
  | c :: t => if stripR t = [] then (if spB c then [] else [c]) else c :: stripR t
def stripF (l : List UInt8) : List UInt8 := l.dropWhile spB
def stripL (l : List UInt8) : List UInt8 := stripR (stripF l)
theorem stripR_nil_iff : ∀ l : List UInt8, stripR l = [] ↔ l.all spB = true
  | [] => by simp [stripR]
  | c :: t => by
    unfold stripR
    have ih := stripR_nil_iff t
    by_cases h : stripR t = []
    · rw [if_pos h]
      have h2 := ih.1 h
      by_cases hc : spB c = true
      · simp [hc, h2]
      · simp only [Bool.not_eq_true] at hc
        simp [hc]
    · rw [if_neg h]
      have h2 : ¬ t.all spB = true := fun e => h (ih.2 e)
      simp only [Bool.not_eq_true] at h2
      simp [h2]
theorem stripR_snoc (c : UInt8) : ∀ l : List UInt8, stripR (l ++ [c]) = if spB c then stripR l else l ++ [c]
  | [] => by
    simp only [List.nil_append, stripR]
    cases spB c <;> simp
  | d :: t => by
    have ih := stripR_snoc c t
    show (if stripR (t ++ [c]) = [] then (if spB d then [] else [d]) else d :: stripR (t ++ [c])) = _
    rw [ih]
    cases hc : spB c
    · simp
    · simp only [if_true]
      rfl
theorem stripR_trim (l : List UInt8) : stripR l = (l.reverse.dropWhile spB).reverse := by
  have key : ∀ m : List UInt8, stripR m.reverse = (m.dropWhile spB).reverse := by
    intro m
    induction m with
    | nil => rfl
    | cons c t ih =>
      rw [List.reverse_cons, stripR_snoc, List.dropWhile_cons]
      cases hc : spB c
      · simp
      · simpa using ih
  have := key l.reverse
  rwa [List.reverse_reverse] at this
theorem strip_swap : ∀ l : List UInt8, (stripR l).dropWhile spB = stripR (stripF l)
  | [] => rfl
  | c :: t => by
    have ih := strip_swap t
    unfold stripF at ih ⊢
    rw [List.dropWhile_cons]
    by_cases hc : spB c = true
    · rw [if_pos hc, ← ih]
      show (if stripR t = [] then (if spB c then [] else [c]) else c :: stripR t).dropWhile spB = _
      by_cases ht : stripR t = []
      · rw [if_pos ht, if_pos hc, ht]
      · rw [if_neg ht, List.dropWhile_cons, if_pos hc]
    · rw [if_neg hc]
      show (if stripR t = [] then (if spB c then [] else [c]) else c :: stripR t).dropWhile spB = (if stripR t = [] then (if spB c then [] else [c]) else c :: stripR t)
      by_cases ht : stripR t = []
      · rw [if_pos ht, if_neg hc, List.dropWhile_cons, if_neg hc]
      · rw [if_neg ht, List.dropWhile_cons, if_neg hc]
theorem spL_contains (c : UInt8) : ([9, 10, 12, 13, 32] : List UInt8).contains c = spB c := by
  unfold spB
  simp [List.contains_cons]
  rw [Bool.eq_iff_iff]
  simp [or_assoc]
theorem strip_lib (l : List UInt8) : Lib.trimS l [9, 10, 12, 13, 32] = stripL l := by
  have e : (fun c => ([9, 10, 12, 13, 32] : List UInt8).contains c) = spB := funext spL_contains
  unfold Lib.trimS Lib.trimLeftS Lib.trimRightS
  rw [e, ← stripR_trim, strip_swap]
  rfl
theorem stripR_len : ∀ l : List UInt8, (stripR l).length ≤ l.length
  | [] => by simp [stripR]
  | c :: t => by
    have := stripR_len t
    unfold stripR
    split
    · split <;> simp
    · simp; omega
theorem stripF_len (l : List UInt8) : (stripF l).length ≤ l.length := (List.dropWhile_sublist spB).length_le
theorem strip_len (l : List UInt8) : (stripL l).length ≤ l.length := Nat.le_trans (stripR_len _) (stripF_len l)
/-- The reference's rounds, ahead. -/
theorem stripF_drop {l : List UInt8} (h : 0 < l.length) : stripF l = if spB l[0] then stripF (l.drop 1) else l := by
  cases l with
  | nil => simp at h
  | cons c t =>
    unfold stripF
    rw [List.dropWhile_cons]
    rfl
/-- The reference's rounds, behind. -/
theorem stripR_last {l : List UInt8} (h : 0 < l.length) : stripR l = if spB (l[l.length - 1]'(by omega)) then stripR (l.take (l.length - 1)) else l := by
  have e : l = l.take (l.length - 1) ++ [l[l.length - 1]'(by omega)] := by
    have := List.take_succ_eq_append_getElem (l := l) (i := l.length - 1) (by omega)
    rw [← this, show l.length - 1 + 1 = l.length from by omega, List.take_length]
  conv => lhs; rw [e]
  rw [stripR_snoc, ← e]

/-! ### cut at commas -/
def commaStep (out : List (List UInt8)) (x : List UInt8) : List (List UInt8) := if stripL x = [] then out else out ++ [stripL x]
def commasL (l : List UInt8) : List (List UInt8) := (splitL 44 l).foldl commaStep []
theorem commaStep_len (out : List (List UInt8)) (x : List UInt8) : (commaStep out x).length ≤ out.length + 1 := by
  unfold commaStep
  split <;> simp
theorem commas_fold_len : ∀ (ps : List (List UInt8)) (out : List (List UInt8)), (ps.foldl commaStep out).length ≤ out.length + ps.length
  | [], out => by simp
  | p :: ps, out => by
    have := commas_fold_len ps (commaStep out p)
    have h2 := commaStep_len out p
    simp only [List.foldl_cons, List.length_cons]
    omega
theorem commas_count (l : List UInt8) : (commasL l).length ≤ l.length + 1 := by
  have h1 := commas_fold_len (splitL 44 l) []
  have h2 := split_count 44 l
  unfold commasL
  simp at h1
  omega
theorem commas_fold_each (p : List UInt8 → Prop) : ∀ (ps : List (List UInt8)) (out : List (List UInt8)), (∀ x ∈ ps, stripL x ≠ [] → p (stripL x)) → (∀ x ∈ out, p x) → ∀ x ∈ ps.foldl commaStep out, p x
  | [], out, _, h => h
  | y :: ps, out, hp, h => by
    refine commas_fold_each p ps (commaStep out y) (fun x hx => hp x (by simp [hx])) ?_
    unfold commaStep
    split
    · exact h
    · rename_i hy
      intro x hx
      rcases List.mem_append.1 hx with hx | hx
      · exact h x hx
      · simp only [List.mem_singleton] at hx
        subst hx
        exact hp y (by simp) hy
theorem commas_each (l : List UInt8) : ∀ x ∈ commasL l, x.length ≤ l.length := by
  refine commas_fold_each (fun x => x.length ≤ l.length) _ _ (fun x hx _ => ?_) (by simp)
  exact Nat.le_trans (strip_len x) (split_each 44 l x hx)
/-- The reference's rounds. -/
def CommaAt (l : List UInt8) (out : List (List UInt8)) (piece : List UInt8) (i : Nat) : Prop := (splitG 44 piece (l.drop i)).foldl commaStep out = commasL l
theorem CommaAt.start (l : List UInt8) : CommaAt l [] [] 0 := rfl
theorem CommaAt.other {l : List UInt8} {out : List (List UInt8)} {p : List UInt8} {i : Nat} (h : CommaAt l out p i) (hi : i < l.length) (hc : l[i] ≠ 44) : CommaAt l out (p ++ [l[i]]) (i + 1) := by
  unfold CommaAt at h ⊢
  rw [List.drop_eq_getElem_cons hi] at h
  unfold splitG at h
  rwa [if_neg hc] at h
theorem CommaAt.comma {l : List UInt8} {out : List (List UInt8)} {p : List UInt8} {i : Nat} (h : CommaAt l out p i) (hi : i < l.length) (hc : l[i] = 44) : CommaAt l (commaStep out p) [] (i + 1) := by
  unfold CommaAt at h ⊢
  rw [List.drop_eq_getElem_cons hi] at h
  unfold splitG at h
  rw [if_pos hc] at h
  exact h
theorem CommaAt.last {l : List UInt8} {out : List (List UInt8)} {p : List UInt8} (h : CommaAt l out p l.length) : commaStep out p = commasL l := by
  unfold CommaAt at h
  rw [List.drop_length] at h
  exact h
/-- The reference's rounds of the cutting at spaces. -/
def FieldAt (l : List UInt8) (out : List (List UInt8)) (piece : List UInt8) (i : Nat) : Prop := out ++ fieldsG piece (l.drop i) = fieldsL l
theorem FieldAt.start (l : List UInt8) : FieldAt l [] [] 0 := rfl
theorem FieldAt.other {l : List UInt8} {out : List (List UInt8)} {p : List UInt8} {i : Nat} (h : FieldAt l out p i) (hi : i < l.length) (hc : spB l[i] = false) : FieldAt l out (p ++ [l[i]]) (i + 1) := by
  unfold FieldAt at h ⊢
  rw [List.drop_eq_getElem_cons hi] at h
  unfold fieldsG at h
  rwa [if_neg (by rw [hc]; simp)] at h
theorem FieldAt.space {l : List UInt8} {out : List (List UInt8)} {p : List UInt8} {i : Nat} (h : FieldAt l out p i) (hi : i < l.length) (hc : spB l[i] = true) : FieldAt l (out ++ pieceL p) [] (i + 1) := by
  unfold FieldAt at h ⊢
  rw [List.drop_eq_getElem_cons hi] at h
  unfold fieldsG at h
  rw [if_pos hc] at h
  rw [List.append_assoc]
  exact h
theorem FieldAt.last {l : List UInt8} {out : List (List UInt8)} {p : List UInt8} (h : FieldAt l out p l.length) : out ++ pieceL p = fieldsL l := by
  unfold FieldAt at h
  rw [List.drop_length] at h
  exact h
end Go.Proofs.YtfaomejdoljfnaaDoor
