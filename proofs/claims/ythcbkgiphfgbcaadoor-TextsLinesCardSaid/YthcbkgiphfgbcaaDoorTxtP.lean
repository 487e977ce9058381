/-
  What is proved: plain laws of texts: bytes decoded part by part, and byte by byte, are the same. No condition.
-/
import Derived.Test.YthcbkgiphfgbcaaDoorBase
namespace Go.Proofs.YthcbkgiphfgbcaaDoor
open Go.RowKit

def fffd : List UInt8 := [239, 191, 189]
/-- What follows a first byte above 7F: how many more, and between which the next one stands. -/
def ldRow (c : UInt8) : Option (Nat × UInt8 × UInt8) :=
  if 0xc2 ≤ c && c ≤ 0xdf then some (1, 0x80, 0xbf)
  else if 0xe0 ≤ c && c ≤ 0xe0 then some (2, 0xa0, 0xbf)
  else if 0xe1 ≤ c && c ≤ 0xec then some (2, 0x80, 0xbf)
  else if 0xed ≤ c && c ≤ 0xed then some (2, 0x80, 0x9f)
  else if 0xee ≤ c && c ≤ 0xef then some (2, 0x80, 0xbf)
  else if 0xf0 ≤ c && c ≤ 0xf0 then some (3, 0x90, 0xbf)
  else if 0xf1 ≤ c && c ≤ 0xf3 then some (3, 0x80, 0xbf)
  else if 0xf4 ≤ c && c ≤ 0xf4 then some (3, 0x80, 0x8f)
  else none
/-- Behind a first byte and k more, r still to come: how many bytes the part has, is it a character. -/
def partK (lo hi : UInt8) : Nat → List UInt8 → Nat → Nat × Bool
  | 0, _, k => (k + 1, true)
  | _ + 1, [], k => (k + 1, false)
  | r + 1, c :: t, k => if lo ≤ c && c ≤ hi then partK 0x80 0xbf r t (k + 1) else (k + 1, false)
def partB : List UInt8 → Nat × Bool
  | [] => (0, false)
  | c :: t => if c < 0x80 then (1, true) else match ldRow c with
    | none => (1, false)
    | some (m, lo, hi) => partK lo hi m t 0
def emit (l : List UInt8) : List UInt8 := if (partB l).2 then l.take (partB l).1 else fffd
def decF : Nat → List UInt8 → List UInt8
  | 0, _ => []
  | n + 1, l => if l.isEmpty then [] else emit l ++ decF n (l.drop (partB l).1)
/-- What bytes are as a text, a mark at the front told as they are. -/
def decB (l : List UInt8) : List UInt8 := decF l.length l
def markB : List UInt8 := [239, 187, 191]
/-- The mark at the front taken off. -/
def unmark (l : List UInt8) : List UInt8 := if markB.isPrefixOf l then l.drop 3 else l
theorem partK_le : ∀ (r : Nat) (lo hi : UInt8) (t : List UInt8) (k : Nat), k + 1 ≤ (partK lo hi r t k).1 ∧ (partK lo hi r t k).1 ≤ k + 1 + t.length ∧ (partK lo hi r t k).1 ≤ k + 1 + r
  | 0, lo, hi, t, k => by unfold partK; simp
  | r + 1, lo, hi, [], k => by unfold partK; simp
  | r + 1, lo, hi, c :: t, k => by
    unfold partK
    split
    · have := partK_le r 0x80 0xbf t (k + 1)
      simp only [List.length_cons]
      omega
    · simp
theorem ldRow_le {c : UInt8} {m : Nat} {lo hi : UInt8} (h : ldRow c = some (m, lo, hi)) : 1 ≤ m ∧ m ≤ 3 := by
  unfold ldRow at h
  repeat' split at h
  all_goals first | cases h; omega | (simp only [Option.some.injEq, Prod.mk.injEq] at h; omega) | cases h
theorem partB_low {c : UInt8} (t : List UInt8) (h : c < 0x80) : partB (c :: t) = (1, true) := by
  show (if c < 0x80 then _ else _) = _
  rw [if_pos h]
theorem partB_none {c : UInt8} (t : List UInt8) (h : ¬ c < 0x80) (h2 : ldRow c = none) : partB (c :: t) = (1, false) := by
  show (if c < 0x80 then _ else match ldRow c with | none => (1, false) | some (m, lo, hi) => partK lo hi m t 0) = _
  rw [if_neg h, h2]
theorem partB_row {c : UInt8} (t : List UInt8) {m : Nat} {lo hi : UInt8} (h : ¬ c < 0x80) (h2 : ldRow c = some (m, lo, hi)) : partB (c :: t) = partK lo hi m t 0 := by
  show (if c < 0x80 then _ else match ldRow c with | none => (1, false) | some (m, lo, hi) => partK lo hi m t 0) = _
  rw [if_neg h, h2]
theorem partB_le {l : List UInt8} (h : l ≠ []) : 1 ≤ (partB l).1 ∧ (partB l).1 ≤ l.length ∧ (partB l).1 ≤ 4 := by
  cases l with
  | nil => exact absurd rfl h
  | cons c t =>
    by_cases hc : c < 0x80
    · rw [partB_low t hc]; simp
    · cases hr : ldRow c with
      | none => rw [partB_none t hc hr]; simp
      | some q =>
        obtain ⟨m, lo, hi⟩ := q
        rw [partB_row t hc hr]
        have := partK_le m lo hi t 0
        have := ldRow_le hr
        simp only [List.length_cons]
        omega
theorem decF_more : ∀ (n : Nat) (l : List UInt8), l.length ≤ n → decF n l = decB l
  | 0, l, h => by
    have : l = [] := by cases l with | nil => rfl | cons a t => simp at h
    subst this; rfl
  | n + 1, l, h => by
    cases l with
    | nil => rfl
    | cons c t =>
      have hp := partB_le (l := c :: t) (by simp)
      have e1 : decF (n + 1) (c :: t) = emit (c :: t) ++ decF n ((c :: t).drop (partB (c :: t)).1) := rfl
      have e2 : decB (c :: t) = emit (c :: t) ++ decF t.length ((c :: t).drop (partB (c :: t)).1) := rfl
      have hl : ((c :: t).drop (partB (c :: t)).1).length ≤ t.length := by simp only [List.length_drop, List.length_cons]; omega
      rw [e1, e2, decF_more n _ (by simp only [List.length_cons] at h; omega)]
      congr 1
      by_cases hn : t.length ≤ n
      · by_cases hn2 : t.length = n
        · rw [hn2]; exact (decF_more n _ (by omega)).symm
        · exact (decF_more t.length _ hl).symm
      · simp only [List.length_cons] at h; omega
theorem decB_nil : decB [] = [] := rfl
theorem decB_step {l : List UInt8} (h : l ≠ []) : decB l = emit l ++ decB (l.drop (partB l).1) := by
  cases l with
  | nil => exact absurd rfl h
  | cons c t =>
    have hp := partB_le (l := c :: t) (by simp)
    have e2 : decB (c :: t) = emit (c :: t) ++ decF t.length ((c :: t).drop (partB (c :: t)).1) := rfl
    rw [e2, decF_more t.length _ (by simp only [List.length_drop, List.length_cons]; omega)]

/-! ### the reference's way -/
def moreB (c : UInt8) : Int :=
  if c < 0x80 then 0 else if 0xc2 ≤ c && c ≤ 0xdf then 1 else if 0xe0 ≤ c && c ≤ 0xef then 2 else if 0xf0 ≤ c && c ≤ 0xf4 then 3 else -1
def mayB (f c : UInt8) (k : Nat) : Bool :=
  if c < 0x80 || 0xbf < c then false else if 1 < k then true
  else if f == 0xe0 then decide (0xa0 ≤ c) else if f == 0xed then decide (c ≤ 0x9f) else if f == 0xf0 then decide (0x90 ≤ c) else if f == 0xf4 then decide (c ≤ 0x8f) else true
/-- What is still told, where some bytes are there and some are to come. -/
def refD : List UInt8 → Nat → List UInt8 → List UInt8
  | _, need, [] => if 0 < need then fffd else []
  | have', need, c :: t =>
    if 0 < need && mayB (have'.headD 0) c have'.length then
      if need = 1 then have' ++ [c] ++ refD [] 0 t else refD (have' ++ [c]) (need - 1) t
    else (if 0 < need then fffd else []) ++ (if moreB c < 0 then fffd else if moreB c = 0 then [c] else []) ++ refD [c] (moreB c).toNat t
theorem refD_zero (h : List UInt8) : ∀ l, refD h 0 l = refD [] 0 l
  | [] => rfl
  | c :: t => by unfold refD; rfl
theorem u8 (p : UInt8 → Bool) (h : (List.range 256).all (fun n => p (UInt8.ofNat n)) = true) (c : UInt8) : p c = true := by
  have := List.all_eq_true.1 h c.toNat (by simp [c.toNat_lt])
  rwa [UInt8.ofNat_toNat] at this
theorem may_one {f : UInt8} {m : Nat} {lo hi : UInt8} (h : ldRow f = some (m, lo, hi)) (c : UInt8) : mayB f c 1 = (lo ≤ c && c ≤ hi) := by
  have key : (List.range 256).all (fun n => (List.range 256).all (fun k => match ldRow (UInt8.ofNat n) with | none => true | some (_, lo, hi) => mayB (UInt8.ofNat n) (UInt8.ofNat k) 1 == (decide (lo ≤ UInt8.ofNat k) && decide (UInt8.ofNat k ≤ hi)))) = true := by decide +kernel
  have h1 := u8 (fun f => (List.range 256).all (fun k => match ldRow f with | none => true | some (_, lo, hi) => mayB f (UInt8.ofNat k) 1 == (decide (lo ≤ UInt8.ofNat k) && decide (UInt8.ofNat k ≤ hi)))) key f
  have h2 := u8 (fun c => match ldRow f with | none => true | some (_, lo, hi) => mayB f c 1 == (decide (lo ≤ c) && decide (c ≤ hi))) h1 c
  rw [h] at h2
  simpa using h2
theorem may_more (f c : UInt8) {k : Nat} (hk : 1 < k) : mayB f c k = (0x80 ≤ c && c ≤ 0xbf) := by
  unfold mayB
  rw [Bool.eq_iff_iff]
  simp only [Bool.or_eq_true, decide_eq_true_eq, Bool.and_eq_true]
  split
  · rename_i h
    simp only [Bool.false_eq_true, false_iff, UInt8.lt_iff_toNat_lt, UInt8.le_iff_toNat_le] at h ⊢
    omega
  · rename_i h
    simp only [UInt8.lt_iff_toNat_lt, UInt8.le_iff_toNat_le, if_pos hk, true_iff] at h ⊢
    omega
theorem more_row (c : UInt8) : (∀ m lo hi, ldRow c = some (m, lo, hi) → moreB c = m ∧ ¬ c < 0x80) ∧ (ldRow c = none → ¬ c < 0x80 → moreB c < 0) ∧ (c < 0x80 → moreB c = 0) := by
  have key : (List.range 256).all (fun n => match ldRow (UInt8.ofNat n) with | none => decide (UInt8.ofNat n < 0x80) || decide (moreB (UInt8.ofNat n) < 0) | some (m, _, _) => moreB (UInt8.ofNat n) == m && !decide (UInt8.ofNat n < 0x80)) = true := by decide +kernel
  have h1 := u8 (fun c => match ldRow c with | none => decide (c < 0x80) || decide (moreB c < 0) | some (m, _, _) => moreB c == m && !decide (c < 0x80)) key c
  refine ⟨fun m lo hi h => ?_, fun h h2 => ?_, fun h => ?_⟩
  · rw [h] at h1; simpa using h1
  · rw [h] at h1; simpa [h2] using h1
  · unfold moreB; rw [if_pos h]
/-- Some bytes of a part are there. -/
theorem refD_part {f : UInt8} {m : Nat} {lo0 hi0 : UInt8} (hf : ldRow f = some (m, lo0, hi0)) : ∀ (r : Nat) (t have' : List UInt8) (lo hi : UInt8) (k : Nat), have'.headD 0 = f → have'.length = k + 1 →
    ((k = 0 ∧ lo = lo0 ∧ hi = hi0) ∨ (0 < k ∧ lo = 0x80 ∧ hi = 0xbf)) →
    refD have' (r + 1) t = (if (partK lo hi (r + 1) t k).2 then have' ++ t.take ((partK lo hi (r + 1) t k).1 - (k + 1)) else fffd) ++ refD [] 0 (t.drop ((partK lo hi (r + 1) t k).1 - (k + 1)))
  | r, [], have', lo, hi, k, hh, hl, hk => by
    unfold refD partK
    simp [refD]
  | r, c :: t, have', lo, hi, k, hh, hl, hk => by
    have hm : mayB f c (k + 1) = (lo ≤ c && c ≤ hi) := by
      rcases hk with ⟨rfl, rfl, rfl⟩ | ⟨h0, rfl, rfl⟩
      · exact may_one hf c
      · exact may_more f c (by omega)
    have e : refD have' (r + 1) (c :: t) = if (lo ≤ c && c ≤ hi) = true then (if r + 1 = 1 then have' ++ [c] ++ refD [] 0 t else refD (have' ++ [c]) r t) else fffd ++ refD [] 0 (c :: t) := by
      conv => lhs; unfold refD
      rw [hh, hl, hm]
      have h0 : decide (0 < r + 1) = true := by simp
      simp only [h0, Bool.true_and, Nat.add_sub_cancel]
      by_cases h : (decide (lo ≤ c) && decide (c ≤ hi)) = true
      · rw [if_pos h, if_pos h]
      · rw [if_neg h, if_neg h]
        conv => rhs; rhs; unfold refD
        simp
    rw [e]
    unfold partK
    by_cases h : (decide (lo ≤ c) && decide (c ≤ hi)) = true
    · rw [if_pos h, if_pos h]
      cases r with
      | zero =>
        simp only [partK]
        simp
      | succ r =>
        rw [if_neg (by omega)]
        have ih := refD_part hf r t (have' ++ [c]) 0x80 0xbf (k + 1) (by cases have' with | nil => simp at hl | cons a b => simpa using hh) (by simp [hl]) (.inr ⟨by omega, rfl, rfl⟩)
        rw [ih]
        have hp := partK_le (r + 1) 0x80 0xbf t (k + 1)
        generalize partK 0x80 0xbf (r + 1) t (k + 1) = q at hp ⊢
        obtain ⟨n, ok⟩ := q
        simp only at hp ⊢
        have e1 : n - (k + 1) = n - (k + 1 + 1) + 1 := by omega
        rw [e1, List.take_succ_cons, List.drop_succ_cons]
        simp
    · rw [if_neg h, if_neg h]
      simp
theorem refD_step {l : List UInt8} (h : l ≠ []) : refD [] 0 l = emit l ++ refD [] 0 (l.drop (partB l).1) := by
  cases l with
  | nil => exact absurd rfl h
  | cons c t =>
    obtain ⟨h1, h2, h3⟩ := more_row c
    have e : refD [] 0 (c :: t) = (if moreB c < 0 then fffd else if moreB c = 0 then [c] else []) ++ refD [c] (moreB c).toNat t := by
      conv => lhs; unfold refD
      simp
    rw [e]
    unfold emit
    by_cases hc : c < 0x80
    · rw [partB_low t hc, h3 hc]
      simp [refD_zero]
    · cases hr : ldRow c with
      | none =>
        have hn := h2 hr hc
        rw [partB_none t hc hr, if_pos hn]
        have e0 : (moreB c).toNat = 0 := by omega
        rw [e0, refD_zero]
        simp
      | some q =>
        obtain ⟨m, lo, hi⟩ := q
        have hm := (h1 m lo hi hr).1
        have hml := ldRow_le hr
        have e0 : (moreB c).toNat = m - 1 + 1 := by omega
        rw [partB_row t hc hr, e0, if_neg (by omega), if_neg (by omega), List.nil_append, refD_part hr (m - 1) t [c] lo hi 0 rfl rfl (.inl ⟨rfl, rfl, rfl⟩)]
        have e1 : m - 1 + 1 = m := by omega
        rw [e1]
        have hp := partK_le m lo hi t 0
        generalize partK lo hi m t 0 = q at hp ⊢
        obtain ⟨n, ok⟩ := q
        simp only at hp ⊢
        have e2 : n = n - (0 + 1) + 1 := by omega
        rw [e2, List.take_succ_cons, List.drop_succ_cons]
        simp
theorem refD_dec : ∀ (n : Nat) (l : List UInt8), l.length ≤ n → refD [] 0 l = decB l
  | 0, l, h => by
    have : l = [] := by cases l with | nil => rfl | cons a t => simp at h
    subst this; rfl
  | n + 1, l, h => by
    by_cases hl : l = []
    · subst hl; rfl
    · have hp := partB_le hl
      rw [refD_step hl, decB_step hl, refD_dec n _ (by simp only [List.length_drop]; omega)]
end Go.Proofs.YthcbkgiphfgbcaaDoor
