/-
  What is proved: plain laws of raw texts: blanks, what stands between two places of a text, its references read, fronts, first places, ends of comments, doctypes, ends of raw texts. No condition.
-/
import Derived.Test.YtbolajljfkjfaaaDoorRefW
import Derived.Test.YtbolajljfkjfaaaDoorPolP
import Derived.Test.YtbolajljfkjfaaaDoorRep
namespace Go.Proofs.YtbolajljfkjfaaaDoor
open Go.RowKit

def blankB (c : UInt8) : Bool := c == 9 || c == 10 || c == 12 || c == 32
def tagEnd (c : UInt8) : Bool := c == 47 || c == 62 || blankB c
def nameEnd (c : UInt8) : Bool := c == 47 || c == 62 || c == 61 || blankB c
def bareEnd (c : UInt8) : Bool := c == 62 || blankB c
def unkL : List UInt8 := [239, 191, 189]
def cleanB (c : UInt8) : List UInt8 := if c = 0 then unkL else [c]
def cleanL (l : List UInt8) : List UInt8 := swapB 0 unkL l
theorem cleanL_nil : cleanL [] = [] := rfl
theorem cleanL_cons (c : UInt8) (t : List UInt8) : cleanL (c :: t) = cleanB c ++ cleanL t := by
  unfold cleanL swapB cleanB
  rw [List.flatMap_cons]
theorem cleanL_app (a b : List UInt8) : cleanL (a ++ b) = cleanL a ++ cleanL b := by simp [cleanL, swapB]
theorem lowL_app (a b : List UInt8) : lowL (a ++ b) = lowL a ++ lowL b := by simp [lowL]
/-- A name's bytes. -/
def nmL (l : List UInt8) : List UInt8 := lowL (cleanL l)
theorem nmL_app (a b : List UInt8) : nmL (a ++ b) = nmL a ++ nmL b := by unfold nmL; rw [cleanL_app, lowL_app]
theorem nmL_nil : nmL [] = [] := rfl
/-- What stands up to a byte of a kind; what stands from it on. -/
def til (p : UInt8 → Bool) (l : List UInt8) : List UInt8 := l.takeWhile fun c => !p c
def past (p : UInt8 → Bool) (l : List UInt8) : List UInt8 := l.dropWhile fun c => !p c
theorem til_past (p : UInt8 → Bool) (l : List UInt8) : til p l ++ past p l = l := List.takeWhile_append_dropWhile
theorem til_cons (p : UInt8 → Bool) (c : UInt8) (t : List UInt8) : til p (c :: t) = if p c then [] else c :: til p t := by
  unfold til
  rw [List.takeWhile_cons]
  cases p c <;> rfl
theorem past_cons (p : UInt8 → Bool) (c : UInt8) (t : List UInt8) : past p (c :: t) = if p c then c :: t else past p t := by
  unfold past
  rw [List.dropWhile_cons]
  cases p c <;> rfl
theorem til_nil (p : UInt8 → Bool) : til p [] = [] := rfl
theorem past_nil (p : UInt8 → Bool) : past p [] = [] := rfl
theorem past_le (p : UInt8 → Bool) (l : List UInt8) : (past p l).length ≤ l.length := by
  have := congrArg List.length (til_past p l)
  simp only [List.length_append] at this
  omega
theorem til_not (p : UInt8 → Bool) : ∀ (l : List UInt8), ∀ c ∈ til p l, p c = false
  | [], c, h => by simp [til_nil] at h
  | a :: l, c, h => by
    rw [til_cons] at h
    split at h
    · simp at h
    · rename_i ha
      rcases List.mem_cons.1 h with rfl | h
      · simpa using ha
      · exact til_not p l c h
theorem past_head (p : UInt8 → Bool) : ∀ (l : List UInt8) (c : UInt8) (t : List UInt8), past p l = c :: t → p c = true
  | [], c, t, h => by simp [past_nil] at h
  | a :: l, c, t, h => by
    rw [past_cons] at h
    split at h
    · rename_i ha
      cases h
      exact ha
    · exact past_head p l c t h
/-- A text of bytes of no such kind, and what follows it. -/
theorem til_app {p : UInt8 → Bool} : ∀ (u v : List UInt8), (∀ c ∈ u, p c = false) → til p (u ++ v) = u ++ til p v ∧ past p (u ++ v) = past p v
  | [], v, _ => ⟨rfl, rfl⟩
  | a :: u, v, h => by
    have ha : p a = false := h a (by simp)
    obtain ⟨h1, h2⟩ := til_app u v fun c hc => h c (by simp [hc])
    rw [List.cons_append, til_cons, past_cons, ha]
    simp [h1, h2]
def skipB (l : List UInt8) : List UInt8 := l.dropWhile blankB
theorem skipB_cons (c : UInt8) (t : List UInt8) : skipB (c :: t) = if blankB c then skipB t else c :: t := by
  unfold skipB
  rw [List.dropWhile_cons]
theorem skipB_le (l : List UInt8) : (skipB l).length ≤ l.length := by
  induction l with
  | nil => exact Nat.le_refl _
  | cons c t ih =>
    rw [skipB_cons]
    split
    · simp; omega
    · simp

/-! ### references read -/
def refsF (attr : Bool) : Nat → List UInt8 → List UInt8
  | 0, _ => []
  | _ + 1, [] => []
  | n + 1, c :: t => if (findB (c :: t) 0 attr).2.2 then (findB (c :: t) 0 attr).1 ++ refsF attr n ((c :: t).drop (findB (c :: t) 0 attr).2.1) else cleanB c ++ refsF attr n t
/-- A text, its references read. -/
def refsL (attr : Bool) (l : List UInt8) : List UInt8 := refsF attr l.length l
theorem refsF_any (attr : Bool) : ∀ (m n : Nat) (l : List UInt8), l.length ≤ n → l.length ≤ m → refsF attr n l = refsF attr m l
  | m, n, [], _, _ => by cases n <;> cases m <;> rfl
  | m, 0, c :: t, h, _ => by simp at h
  | 0, n, c :: t, _, h => by simp at h
  | m + 1, n + 1, c :: t, h, k => by
    simp only [List.length_cons] at h k
    unfold refsF
    split
    · rename_i hf
      obtain ⟨h3, _, _, _⟩ := findB_good hf
      rw [refsF_any attr m n _ (by rw [List.length_drop]; simp only [List.length_cons]; omega) (by rw [List.length_drop]; simp only [List.length_cons]; omega)]
    · rw [refsF_any attr m n t (by omega) (by omega)]
theorem refsL_nil (attr : Bool) : refsL attr [] = [] := rfl
theorem refsL_cons (attr : Bool) (c : UInt8) (t : List UInt8) : refsL attr (c :: t) = if (findB (c :: t) 0 attr).2.2 then (findB (c :: t) 0 attr).1 ++ refsL attr ((c :: t).drop (findB (c :: t) 0 attr).2.1) else cleanB c ++ refsL attr t := by
  conv => lhs; unfold refsL
  rw [List.length_cons]
  unfold refsF
  split
  · rename_i hf
    obtain ⟨h3, _, _, _⟩ := findB_good hf
    unfold refsL
    rw [refsF_any attr ((c :: t).drop (findB (c :: t) 0 attr).2.1).length t.length _ (by rw [List.length_drop]; simp only [List.length_cons]; omega) (Nat.le_refl _)]
  · rfl


/-! ### fronts and first places -/
/-- Do some bytes stand at a text's front, in any case? -/
def standsB (f r : List UInt8) : Bool := decide (f.length ≤ r.length) && (lowL (r.take f.length) == lowL f)
theorem standsB_nil (f : List UInt8) (h : f ≠ []) : standsB f [] = false := by
  cases f with
  | nil => exact absurd rfl h
  | cons a f => simp [standsB]
theorem standsB_cons (a c : UInt8) (f r : List UInt8) : standsB (a :: f) (c :: r) = ((lowB c == lowB a) && standsB f r) := by
  unfold standsB lowL
  simp only [List.length_cons, List.take_succ_cons, List.map_cons, Nat.add_le_add_iff_right]
  rw [Bool.eq_iff_iff]
  simp
  constructor
  · rintro ⟨h1, h2, h3⟩; exact ⟨h2, h1, h3⟩
  · rintro ⟨h2, h1, h3⟩; exact ⟨h1, h2, h3⟩
theorem standsB_le {f r : List UInt8} (h : standsB f r = true) : f.length ≤ r.length := by
  unfold standsB at h
  simp at h
  exact h.1
/-- The first place from a text's front on where some bytes stand. -/
def idxP (t : List UInt8) : List UInt8 → Option Nat
  | [] => if t.isEmpty then some 0 else none
  | c :: r => if t.isPrefixOf (c :: r) then some 0 else (idxP t r).map (· + 1)
theorem idxP_index (t : List UInt8) : ∀ r, Lib.index r t = match idxP t r with | none => -1 | some i => (i : Int)
  | [] => by
    unfold Lib.index idxP
    cases t.isEmpty <;> rfl
  | c :: r => by
    unfold Lib.index idxP
    rw [idxP_index t r]
    cases t.isPrefixOf (c :: r) with
    | true => rfl
    | false =>
      cases idxP t r with
      | none => rfl
      | some i =>
        have : ((i : Int) == -1) = false := by rw [beq_eq_false_iff_ne]; omega
        simp [this]
theorem idxP_le {t : List UInt8} : ∀ {r : List UInt8} {i : Nat}, idxP t r = some i → i + t.length ≤ r.length
  | [], i, h => by
    unfold idxP at h
    split at h
    · rename_i he
      cases h
      simp at he
      simp [he]
    · cases h
  | c :: r, i, h => by
    unfold idxP at h
    split at h
    · rename_i hp
      cases h
      have := (List.isPrefixOf_iff_prefix.1 hp).length_le
      omega
    · cases hq : idxP t r with
      | none => rw [hq] at h; cases h
      | some j =>
        rw [hq] at h
        cases h
        have := idxP_le hq
        simp only [List.length_cons]
        omega
/-- A text up to some bytes, or to its end; how many bytes it has with these; whether they stand there. -/
def upB (e r : List UInt8) : List UInt8 × Nat × Bool := match idxP e r with
  | none => (r, r.length, false)
  | some i => (r.take i, i + e.length, true)
theorem upB_le (e r : List UInt8) : (upB e r).2.1 ≤ r.length := by
  unfold upB
  split
  · exact Nat.le_refl _
  · rename_i h
    exact idxP_le h

/-! ### comments -/
def bump (p : List UInt8) (x : List UInt8 × Nat) : List UInt8 × Nat := (p ++ x.1, x.2 + 1)
/-- What a state of a comment holds back. -/
def pend (st : Nat) : List UInt8 := if st = 1 ∨ st = 3 then [45] else if st = 4 then [45, 45] else if st = 5 then [45, 45, 33] else []
/-- A comment's text from a state on, and how many bytes it takes. -/
def cmM : Nat → List UInt8 → List UInt8 × Nat
  | _, [] => ([], 0)
  | st, c :: t =>
    if c = 62 ∧ st ≠ 2 ∧ st ≠ 3 then ([], 1)
    else if c = 45 ∧ st = 0 then bump [] (cmM 1 t)
    else if c = 45 ∧ (st = 1 ∨ st = 3) then bump [] (cmM 4 t)
    else if c = 45 ∧ st = 4 then bump [45] (cmM 4 t)
    else if c = 33 ∧ st = 4 then bump [] (cmM 5 t)
    else if c = 45 ∧ st = 5 then bump [45, 45, 33] (cmM 3 t)
    else if c = 45 then bump (pend st) (cmM 3 t)
    else bump (pend st ++ [c]) (cmM 2 t)
/-- A text without what stands for nothing at its end. -/
def cmE (r : List UInt8) : List UInt8 :=
  if ([45, 45, 33] : List UInt8).isSuffixOf r then r.take (r.length - 3)
  else if ([45, 45] : List UInt8).isSuffixOf r then r.take (r.length - 2)
  else if ([45] : List UInt8).isSuffixOf r then r.take (r.length - 1)
  else r
def pre1 (r : List UInt8) : Bool := ([45, 45, 62] : List UInt8).isPrefixOf r
def pre2 (r : List UInt8) : Bool := ([45, 45, 33, 62] : List UInt8).isPrefixOf r
/-- The comment's text by its first end. -/
def cmF (r : List UInt8) : List UInt8 × Nat := match idxP [45, 45, 62] r, idxP [45, 45, 33, 62] r with
  | some i, none => (r.take i, i + 3)
  | some i, some j => if i < j then (r.take i, i + 3) else (r.take j, j + 4)
  | none, some j => (r.take j, j + 4)
  | none, none => (cmE r, r.length)
theorem suffix_cons {e : List UInt8} {c : UInt8} {r : List UInt8} (h : c :: r ≠ e) : e.isSuffixOf (c :: r) = e.isSuffixOf r := by
  rw [Bool.eq_iff_iff, List.isSuffixOf_iff_suffix, List.isSuffixOf_iff_suffix, List.suffix_cons_iff]
  constructor
  · rintro (h1 | h1)
    · exact absurd h1.symm h
    · exact h1
  · exact .inr
theorem cmE_cons {c : UInt8} {r : List UInt8} (h1 : c :: r ≠ [45, 45, 33]) (h2 : c :: r ≠ [45, 45]) (h3 : c :: r ≠ [45]) : cmE (c :: r) = c :: cmE r := by
  have key : ∀ e : List UInt8, e ≠ [] → e.isSuffixOf r = true → (c :: r).take ((c :: r).length - e.length) = c :: r.take (r.length - e.length) := by
    intro e he h
    have hl := (List.isSuffixOf_iff_suffix.1 h).length_le
    have : (c :: r).length - e.length = (r.length - e.length) + 1 := by simp only [List.length_cons]; omega
    rw [this, List.take_succ_cons]
  unfold cmE
  rw [suffix_cons h1, suffix_cons h2, suffix_cons h3]
  split
  · rename_i h; exact key [45, 45, 33] (by simp) h
  · split
    · rename_i h; exact key [45, 45] (by simp) h
    · split
      · rename_i h; exact key [45] (by simp) h
      · rfl
theorem idxP_cons {t : List UInt8} {c : UInt8} {r : List UInt8} (h : t.isPrefixOf (c :: r) = false) : idxP t (c :: r) = (idxP t r).map (· + 1) := by
  show (if t.isPrefixOf (c :: r) = true then some 0 else _) = _
  rw [if_neg (by rw [h]; simp)]
theorem cmF_cons {c : UInt8} {r : List UInt8} (p1 : pre1 (c :: r) = false) (p2 : pre2 (c :: r) = false) (h1 : c :: r ≠ [45, 45, 33]) (h2 : c :: r ≠ [45, 45]) (h3 : c :: r ≠ [45]) : cmF (c :: r) = bump [c] (cmF r) := by
  unfold cmF
  rw [idxP_cons p1, idxP_cons p2]
  cases idxP [45, 45, 62] r with
  | none =>
    cases idxP [45, 45, 33, 62] r with
    | none => simp [bump, cmE_cons h1 h2 h3]
    | some j => simp [bump]
  | some i =>
    cases idxP [45, 45, 33, 62] r with
    | none => simp [bump]
    | some j =>
      simp only [Option.map_some, Nat.add_lt_add_iff_right]
      split <;> simp [bump] <;> omega
theorem cmF_other {c : UInt8} {r : List UInt8} (h : c ≠ 45) : cmF (c :: r) = bump [c] (cmF r) := by
  have hc : ((45 : UInt8) == c) = false := by simpa using fun e => h e.symm
  refine cmF_cons ?_ ?_ ?_ ?_ ?_
  · simp [pre1, List.isPrefixOf, hc]
  · simp [pre2, List.isPrefixOf, hc]
  · intro e; simp only [List.cons.injEq] at e; exact h e.1
  · intro e; simp only [List.cons.injEq] at e; exact h e.1
  · intro e; simp only [List.cons.injEq] at e; exact h e.1
theorem cmF_one {c : UInt8} {r : List UInt8} (h : c ≠ 45) : cmF (45 :: c :: r) = bump [45] (bump [c] (cmF r)) := by
  have hc : ((45 : UInt8) == c) = false := by simpa using fun e => h e.symm
  rw [cmF_cons, cmF_other h]
  · simp [pre1, List.isPrefixOf, hc]
  · simp [pre2, List.isPrefixOf, hc]
  · intro e; simp only [List.cons.injEq] at e; exact h e.2.1
  · intro e; simp only [List.cons.injEq] at e; exact h e.2.1
  · intro e; simp at e
theorem cmF_two {c : UInt8} {r : List UInt8} (h : c ≠ 45) (h2 : c ≠ 62) (h3 : c ≠ 33) : cmF (45 :: 45 :: c :: r) = bump [45] (bump [45] (bump [c] (cmF r))) := by
  have hc2 : ((62 : UInt8) == c) = false := by simpa using fun e => h2 e.symm
  have hc3 : ((33 : UInt8) == c) = false := by simpa using fun e => h3 e.symm
  rw [cmF_cons, cmF_one h]
  · simp [pre1, List.isPrefixOf, hc2]
  · simp [pre2, List.isPrefixOf, hc3]
  · intro e; simp only [List.cons.injEq] at e; exact h3 e.2.2.1
  · intro e; simp at e
  · intro e; simp at e
theorem cmF_dash {r : List UInt8} : cmF (45 :: 45 :: 45 :: r) = bump [45] (cmF (45 :: 45 :: r)) := by
  rw [cmF_cons]
  · rfl
  · rfl
  · intro e; simp at e
  · intro e; simp at e
  · intro e; simp at e
theorem cmF_bang {c : UInt8} {r : List UInt8} (h2 : c ≠ 62) : cmF (45 :: 45 :: 33 :: c :: r) = bump [45] (bump [45] (bump [33] (cmF (c :: r)))) := by
  have hc2 : ((62 : UInt8) == c) = false := by simpa using fun e => h2 e.symm
  rw [cmF_cons, cmF_one (by decide)]
  · simp [pre1, List.isPrefixOf]
  · simp [pre2, List.isPrefixOf, hc2]
  · intro e; simp at e
  · intro e; simp at e
  · intro e; simp at e
theorem cmF_end1 (r : List UInt8) : cmF (45 :: 45 :: 62 :: r) = ([], 3) := by
  have e1 : idxP [45, 45, 62] (45 :: 45 :: 62 :: r) = some 0 := rfl
  have e2 : idxP [45, 45, 33, 62] (45 :: 45 :: 62 :: r) = (idxP [45, 45, 33, 62] (45 :: 62 :: r)).map (· + 1) := rfl
  unfold cmF
  rw [e1, e2]
  cases idxP [45, 45, 33, 62] (45 :: 62 :: r) <;> rfl
theorem cmF_end2 (r : List UInt8) : cmF (45 :: 45 :: 33 :: 62 :: r) = ([], 4) := by
  have e1 : idxP [45, 45, 62] (45 :: 45 :: 33 :: 62 :: r) = (idxP [45, 45, 62] (45 :: 33 :: 62 :: r)).map (· + 1) := rfl
  have e2 : idxP [45, 45, 33, 62] (45 :: 45 :: 33 :: 62 :: r) = some 0 := rfl
  unfold cmF
  rw [e1, e2]
  cases idxP [45, 45, 62] (45 :: 33 :: 62 :: r) <;> rfl
/-- More bytes taken. -/
def plus (n : Nat) (x : List UInt8 × Nat) : List UInt8 × Nat := (x.1, x.2 + n)
theorem cm_all : ∀ (r : List UInt8), cmM 2 r = cmF r ∧ plus 1 (cmM 3 r) = cmF (45 :: r) ∧ plus 2 (cmM 4 r) = cmF (45 :: 45 :: r) ∧ plus 3 (cmM 5 r) = cmF (45 :: 45 :: 33 :: r)
  | [] => by decide
  | c :: t => by
    obtain ⟨i2, i3, i4, i5⟩ := cm_all t
    by_cases h45 : c = 45
    · subst h45
      refine ⟨?_, ?_, ?_, ?_⟩
      · show plus 1 (cmM 3 t) = _
        exact i3
      · show plus 2 (cmM 4 t) = _
        exact i4
      · rw [cmF_dash, ← i4]
        rfl
      · rw [cmF_bang (by decide), ← i3]
        rfl
    · have e2 : cmM 2 (c :: t) = bump [c] (cmM 2 t) := by simp [cmM, h45, pend]
      have e3 : cmM 3 (c :: t) = bump [45, c] (cmM 2 t) := by simp [cmM, h45, pend]
      refine ⟨?_, ?_, ?_, ?_⟩
      · rw [e2, i2, cmF_other h45]
      · rw [e3, i2, cmF_one h45]
        rfl
      · by_cases h62 : c = 62
        · subst h62
          rw [cmF_end1]
          rfl
        · by_cases h33 : c = 33
          · subst h33
            exact i5
          · have e4 : cmM 4 (c :: t) = bump [45, 45, c] (cmM 2 t) := by simp [cmM, h45, h62, h33, pend]
            rw [e4, i2, cmF_two h45 h62 h33]
            rfl
      · by_cases h62 : c = 62
        · subst h62
          rw [cmF_end2]
          rfl
        · have e5 : cmM 5 (c :: t) = bump [45, 45, 33, c] (cmM 2 t) := by simp [cmM, h45, h62, pend]
          rw [e5, i2, cmF_bang h62, cmF_other h45]
          rfl
/-- The comment's text, told by its fronts and its first end. -/
def cmR (r : List UInt8) : List UInt8 × Nat := if standsB [62] r then ([], 1) else if standsB [45, 62] r then ([], 2) else cmF r
theorem stands_one {a c : UInt8} (ha : lowB a = a) (hn : ∀ x, lowB x = a → x = a) (f r : List UInt8) : standsB (a :: f) (c :: r) = ((c == a) && standsB f r) := by
  rw [standsB_cons, ha]
  congr 1
  rw [Bool.eq_iff_iff]
  simp
  constructor
  · exact hn c
  · rintro rfl; exact ha
theorem low_only : ∀ a : UInt8, (a = 60 ∨ a = 62 ∨ a = 45 ∨ a = 33 ∨ a = 47 ∨ a = 63 ∨ a = 91) → lowB a = a ∧ ∀ x, lowB x = a → x = a := by
  have key : ∀ a ∈ ([60, 62, 45, 33, 47, 63, 91] : List UInt8), lowB a = a ∧ ∀ n : Fin 256, lowB (UInt8.ofNat n) = a → UInt8.ofNat n = a := by decide +kernel
  intro a ha
  have hm : a ∈ ([60, 62, 45, 33, 47, 63, 91] : List UInt8) := by simpa using ha
  obtain ⟨h1, h2⟩ := key a hm
  refine ⟨h1, fun x hx => ?_⟩
  have := h2 ⟨x.toNat, x.toNat_lt⟩
  simp only [UInt8.ofNat_toNat] at this
  exact this hx
theorem stands_sign {a : UInt8} (h : a = 60 ∨ a = 62 ∨ a = 45 ∨ a = 33 ∨ a = 47 ∨ a = 63 ∨ a = 91) (c : UInt8) (f r : List UInt8) : standsB (a :: f) (c :: r) = ((c == a) && standsB f r) :=
  stands_one (low_only a h).1 (low_only a h).2 f r
theorem standsB_empty (r : List UInt8) : standsB [] r = true := by simp [standsB, lowL]
theorem cm_ref (r : List UInt8) : cmM 0 r = cmR r := by
  unfold cmR
  cases r with
  | nil => decide
  | cons c t =>
    rw [stands_sign (by simp), stands_sign (by simp), standsB_empty, Bool.and_true]
    obtain ⟨i2, i3, i4, i5⟩ := cm_all t
    by_cases h62 : c = 62
    · subst h62; rfl
    · rw [if_neg (by simpa using h62)]
      by_cases h45 : c = 45
      · subst h45
        show bump [] (cmM 1 t) = _
        cases t with
        | nil => rfl
        | cons d u =>
          rw [stands_sign (by simp), standsB_empty]
          by_cases hd : d = 62
          · subst hd; rfl
          · rw [if_neg (by simpa using hd), ← i3]
            have : cmM 1 (d :: u) = cmM 3 (d :: u) := by
              by_cases hd45 : d = 45
              · subst hd45; rfl
              · simp [cmM, hd, hd45, pend]
            rw [this]
            rfl
      · rw [if_neg (by simp [h45])]
        have e : cmM 0 (c :: t) = bump [c] (cmM 2 t) := by simp [cmM, h62, h45, pend]
        rw [e, i2, cmF_other h45]
theorem cmM_le : ∀ (r : List UInt8) (st : Nat), (cmM st r).2 ≤ r.length
  | [], st => Nat.le_refl _
  | c :: t, st => by
    have h := cmM_le t
    have hb : ∀ p x, (bump p x).2 = x.2 + 1 := fun _ _ => rfl
    have h1 := h 1
    have h2 := h 2
    have h3 := h 3
    have h4 := h 4
    have h5 := h 5
    unfold cmM
    repeat' split
    all_goals simp only [hb, List.length_cons]; omega
theorem cmM_len (r : List UInt8) : (cmM 0 r).1.length ≤ r.length ∧ (cmM 1 r).1.length ≤ r.length + 1 ∧ (cmM 2 r).1.length ≤ r.length ∧ (cmM 3 r).1.length ≤ r.length + 1 ∧ (cmM 4 r).1.length ≤ r.length + 2 ∧ (cmM 5 r).1.length ≤ r.length + 3 := by
  have hb : ∀ p x, (bump p x).1.length = p.length + x.1.length := fun p x => by simp [bump]
  induction r with
  | nil => simp [cmM]
  | cons c t ih =>
    obtain ⟨j0, j1, j2, j3, j4, j5⟩ := ih
    refine ⟨?_, ?_, ?_, ?_, ?_, ?_⟩
    all_goals
      unfold cmM
      repeat' split
      all_goals (simp_all [hb, pend] <;> omega)

/-! ### what is told as a comment -/
/-- The text, how many bytes. -/
def bogP (r : List UInt8) : Option (List UInt8 × Nat) :=
  if standsB [60, 33] r || standsB [60, 47] r then some ((upB [62] (r.drop 2)).1, 2 + (upB [62] (r.drop 2)).2.1)
  else if standsB [60, 63] r then some ((upB [62] (r.drop 1)).1, 1 + (upB [62] (r.drop 1)).2.1)
  else none
/-! ### doctypes -/
def docF : List UInt8 := [60, 33, 100, 111, 99, 116, 121, 112, 101]
/-- A doctype's name, whether it is odd, how many bytes it takes. -/
def docP (r : List UInt8) : Option (List UInt8 × Bool × Nat) :=
  if standsB docF r then
    let u := upB [62] (r.drop 9)
    let x := skipB u.1
    some (lowL (cleanL (til blankB x)), (til blankB x).isEmpty || !(skipB (past blankB x)).isEmpty || !u.2.2, 9 + u.2.1)
  else none
/-! ### marked texts -/
def cdF : List UInt8 := [60, 33, 91, 67, 68, 65, 84, 65, 91]
def cdP (r : List UInt8) : Option (List UInt8 × Nat) :=
  if cdF.isPrefixOf r then some ((upB [93, 93, 62] (r.drop 9)).1, 9 + (upB [93, 93, 62] (r.drop 9)).2.1) else none
/-! ### ends of raw texts -/
/-- Some bytes at a text's front, a blank, / or > behind them. -/
def wordB (f r : List UInt8) : Bool := standsB f r && match r.drop f.length with
  | [] => false
  | c :: _ => tagEnd c
def endN (n : List UInt8) : List UInt8 := 60 :: 47 :: n
/-- Where the end of a name stands. -/
def stopP (n : List UInt8) : List UInt8 → Nat
  | [] => 0
  | c :: t => if wordB (endN n) (c :: t) then 0 else stopP n t + 1
def openC : List UInt8 := [60, 33, 45, 45]
def shutC : List UInt8 := [45, 45, 62]
def scO : List UInt8 := [60, 115, 99, 114, 105, 112, 116]
def scE : List UInt8 := [60, 47, 115, 99, 114, 105, 112, 116]
/-- Where a script ends. -/
def haltP (n : List UInt8) : Nat → List UInt8 → Nat
  | _, [] => 0
  | d, c :: t =>
    if d ≠ 2 ∧ wordB (endN n) (c :: t) = true then 0
    else if d = 0 ∧ openC.isPrefixOf (c :: t) = true then (match t with | [] => 1 | _ :: u => haltP n 1 u + 2)
    else if d ≠ 0 ∧ shutC.isPrefixOf (c :: t) = true then haltP n 0 t + 1
    else if d = 1 ∧ wordB scO (c :: t) = true then haltP n 2 t + 1
    else if d = 2 ∧ wordB scE (c :: t) = true then haltP n 1 t + 1
    else haltP n d t + 1
theorem stopP_le (n : List UInt8) : ∀ r, stopP n r ≤ r.length
  | [] => Nat.le_refl _
  | c :: t => by
    have := stopP_le n t
    unfold stopP
    split
    · omega
    · simp only [List.length_cons]; omega
end Go.Proofs.YtbolajljfkjfaaaDoor
