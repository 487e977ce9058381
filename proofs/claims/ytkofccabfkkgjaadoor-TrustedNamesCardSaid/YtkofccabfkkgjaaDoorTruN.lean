/-
  What is proved: plain laws of a policy that names one name. No condition.
-/
import Derived.Test.YtkofccabfkkgjaaDoorTruF
import Derived.Test.YtkofccabfkkgjaaDoorChnM
namespace Go.Proofs.YtkofccabfkkgjaaDoor
open Go.RowKit

def letC (c : UInt8) : UInt8 := 97 + c % 26
def lettersL (l : List UInt8) : List UInt8 := 116 :: (l.take 30).map letC
theorem letC_nat (c : UInt8) : (letC c).toNat = 97 + c.toNat % 26 := by
  have key : ∀ n : Fin 256, (letC (UInt8.ofNat n)).toNat = 97 + n.val % 26 := by decide +kernel
  have := key ⟨c.toNat, c.toNat_lt⟩
  simpa only [UInt8.ofNat_toNat] using this
/-- Small letters alone, the first one t. -/
structure LetW (a : List UInt8) : Prop where
  head : a.head? = some 116
  low : ∀ c ∈ a, 97 ≤ c.toNat ∧ c.toNat ≤ 122
theorem lettersL_w (l : List UInt8) : LetW (lettersL l) := by
  refine ⟨rfl, fun c hc => ?_⟩
  unfold lettersL at hc
  rcases List.mem_cons.1 hc with rfl | hc
  · decide
  · obtain ⟨x, _, rfl⟩ := List.mem_map.1 hc
    rw [letC_nat]
    omega
theorem fieldsG_word : ∀ (a p t : List UInt8), (∀ c ∈ a, spB c = false) → fieldsG p (a ++ 32 :: t) = pieceL (p ++ a) ++ fieldsG [] t
  | [], p, t, _ => by
    show (if spB 32 then pieceL p ++ fieldsG [] t else _) = _
    rw [if_pos (by decide)]
    simp
  | c :: a, p, t, h => by
    show (if spB c then _ else fieldsG (p ++ [c]) (a ++ 32 :: t)) = _
    rw [if_neg (by rw [h c (by simp)]; decide), fieldsG_word a _ t (fun x hx => h x (by simp [hx]))]
    simp
theorem fieldsG_end : ∀ (a p : List UInt8), (∀ c ∈ a, spB c = false) → fieldsG p a = pieceL (p ++ a)
  | [], p, _ => by simp [fieldsG]
  | c :: a, p, h => by
    show (if spB c then _ else fieldsG (p ++ [c]) a) = _
    rw [if_neg (by rw [h c (by simp)]; decide), fieldsG_end a _ (fun x hx => h x (by simp [hx]))]
    simp
theorem sp_low {c : UInt8} (h : 97 ≤ c.toNat ∧ c.toNat ≤ 122) : spB c = false ∧ c ≠ 59 ∧ letB c = true := by
  have key : ∀ n : Fin 256, 97 ≤ n.val ∧ n.val ≤ 122 → spB (UInt8.ofNat n) = false ∧ UInt8.ofNat n ≠ 59 ∧ letB (UInt8.ofNat n) = true := by decide +kernel
  have := key ⟨c.toNat, c.toNat_lt⟩
  simp only [UInt8.ofNat_toNat] at this
  exact this h
theorem LetW.ne {a : List UInt8} (h : LetW a) : a ≠ [] := fun e => by have := h.head; rw [e] at this; cases this
theorem LetW.name {a : List UInt8} (h : LetW a) : nameB a = true := by
  unfold nameB
  have h1 : a.all letB = true := List.all_eq_true.2 fun c hc => (sp_low (h.low c hc)).2.2
  rw [h1]
  simpa using h.ne
theorem LetW.star {a : List UInt8} (h : LetW a) : a ≠ [42] := fun e => by have := h.head; rw [e] at this; cases this
theorem LetW.dup {a : List UInt8} (h : LetW a) : lowL a ≠ adL := fun e => by
  have := low_head e
  rw [h.name] at this
  cases this
/-- The text: the name, what is said besides. -/
def tailT (dup an : Bool) : List UInt8 := (if dup then [32, 39, 97, 108, 108, 111, 119, 45, 100, 117, 112, 108, 105, 99, 97, 116, 101, 115, 39] else []) ++ (if an then [32, 42] else [])
def textT (a : List UInt8) (dup an : Bool) : List UInt8 := [116, 114, 117, 115, 116, 101, 100, 45, 116, 121, 112, 101, 115, 32] ++ a ++ tailT dup an
theorem pieceL_ne {p : List UInt8} (h : p ≠ []) : pieceL p = [p] := by
  unfold pieceL
  rw [if_neg]
  rw [List.isEmpty_iff]
  exact h
def valsT (a : List UInt8) (dup an : Bool) : List (List UInt8) := a :: ((if dup then [adL] else []) ++ (if an then [[42]] else []))
theorem fields_text {a : List UInt8} (h : LetW a) (dup an : Bool) : fieldsL (textT a dup an) = ttL :: valsT a dup an := by
  have hs : ∀ c ∈ a, spB c = false := fun c hc => (sp_low (h.low c hc)).1
  have hp := pieceL_ne h.ne
  have e0 : textT a dup an = ttL ++ 32 :: (a ++ tailT dup an) := by
    unfold textT ttL
    simp
  rw [e0]
  unfold fieldsL
  rw [fieldsG_word ttL [] _ (by decide)]
  have e1 : fieldsG [] (a ++ tailT dup an) = valsT a dup an := by
    cases dup <;> cases an
    · have : tailT false false = [] := rfl
      rw [this, List.append_nil, fieldsG_end a [] hs, List.nil_append, hp]
      rfl
    · have : tailT false true = 32 :: [42] := rfl
      rw [this, fieldsG_word a [] _ hs, List.nil_append, hp]
      rfl
    · have : tailT true false = 32 :: adL := rfl
      rw [this, fieldsG_word a [] _ hs, List.nil_append, hp, fieldsG_end adL [] (by decide)]
      rfl
    · have : tailT true true = 32 :: (adL ++ 32 :: [42]) := rfl
      rw [this, fieldsG_word a [] _ hs, List.nil_append, hp, fieldsG_word adL [] _ (by decide)]
      rfl
  rw [e1]
  rfl
theorem one_text {a : List UInt8} (h : LetW a) (dup an : Bool) : oneL (textT a dup an) = [⟨ttL, valsT a dup an⟩] := by
  have hn : (59 : UInt8) ∉ textT a dup an := by
    unfold textT
    rw [List.mem_append, List.mem_append]
    rintro ((hc | hc) | hc)
    · revert hc; decide
    · exact (sp_low (h.low _ hc)).2.1 rfl
    · revert hc
      cases dup <;> cases an <;> decide
  unfold oneL splitL
  rw [splitG_miss _ [] hn]
  rw [List.foldl_cons, List.foldl_nil, List.nil_append, addD_new (fields_text h dup an) (by rfl)]
  rfl
theorem find_text {a : List UInt8} (dup an : Bool) : findD [(⟨ttL, valsT a dup an⟩ : Dir)] ttL = some ⟨ttL, valsT a dup an⟩ ∧ findD [(⟨ttL, valsT a dup an⟩ : Dir)] rtL = none := by
  have e1 : (ttL == ttL) = true := by decide
  have e2 : (ttL == rtL) = false := by decide
  constructor
  · simp [findD, e1]
  · simp [findD, e2]
theorem parse_text {a : List UInt8} (h : LetW a) (dup an : Bool) : parseN (oneL (textT a dup an)) = ⟨[a], an, dup⟩ := by
  unfold parseN
  rw [one_text h, (find_text dup an).1]
  show valsN (valsT a dup an) = _
  have s1 : stepN ⟨[], false, false⟩ a = ⟨[a], false, false⟩ := by
    unfold stepN
    rw [if_neg h.star, if_neg h.dup, if_pos h.name]
    rfl
  have s2 : ∀ N : NamesL, stepN N adL = { N with twice := true } := fun N => by
    unfold stepN
    rw [if_neg (by decide), if_pos (by decide)]
  have s3 : ∀ N : NamesL, stepN N [42] = { N with any := true } := fun N => by
    unfold stepN
    rw [if_pos rfl]
  unfold valsN valsT
  rw [List.foldl_cons, s1]
  cases dup <;> cases an <;> simp [s2, s3]
theorem has_text {a : List UInt8} (h : LetW a) (dup an : Bool) : hasN (oneL (textT a dup an)) = true := by
  unfold hasN
  rw [one_text h, (find_text dup an).1]
  rfl
theorem req_text {a : List UInt8} (h : LetW a) (dup an : Bool) : requiresN (oneL (textT a dup an)) = false := by
  unfold requiresN
  rw [one_text h, (find_text dup an).2]
  rfl
theorem creates_text {a : List UInt8} (h : LetW a) (dup an : Bool) (b : List UInt8) (there : List (List UInt8)) : createsN (oneL (textT a dup an)) b there = (if there.contains b && !dup then false else an || b == a) := by
  unfold createsN
  rw [has_text h, parse_text h]
  simp only [if_true]
  have : ([a] : List (List UInt8)).contains b = (b == a) := by simp [List.contains, List.elem]; cases hb : (b == a) <;> simp_all
  rw [this]
theorem c1_text {a : List UInt8} (h : LetW a) (dup an : Bool) : createsN (oneL (textT a dup an)) a [] = true := by
  rw [creates_text h]
  simp
theorem c2_text {a : List UInt8} (h : LetW a) (dup an : Bool) : createsN (oneL (textT a dup an)) a [[122], a] = dup := by
  rw [creates_text h]
  have : ([[122], a] : List (List UInt8)).contains a = true := by rw [List.contains_iff_mem]; simp
  rw [this]
  cases dup <;> simp
theorem c3_text {a : List UInt8} (h : LetW a) (dup an : Bool) (b : List UInt8) : createsN (oneL (textT a dup an)) b [a ++ [122]] = ((an || a == b) && (dup || b != a ++ [122])) := by
  rw [creates_text h]
  have e1 : ([a ++ [122]] : List (List UInt8)).contains b = (b == a ++ [122]) := by simp [List.contains, List.elem]; cases hb : (b == a ++ [122]) <;> simp_all
  have e2 : (b == a) = (a == b) := by rw [Bool.eq_iff_iff]; simp only [beq_iff_eq]; exact eq_comm
  rw [e1, e2]
  unfold bne
  cases (b == a ++ [122]) <;> cases dup <;> cases an <;> cases (a == b) <;> rfl
theorem c4_text (b : List UInt8) (there : List (List UInt8)) : createsN [] b there = true := rfl
end Go.Proofs.YtkofccabfkkgjaaDoor
