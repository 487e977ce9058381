/-
  What is proved: plain laws of raw texts: comments around a text without ends, raw texts without signs, scripts within scripts. No condition.
-/
import Derived.Test.YtbolajljfkjfaaaDoorRawQ
namespace Go.Proofs.YtbolajljfkjfaaaDoor
open Go.RowKit

theorem idxP_none_cons {t : List UInt8} {c : UInt8} {r : List UInt8} (h : idxP t (c :: r) = none) : t.isPrefixOf (c :: r) = false ∧ idxP t r = none := by
  unfold idxP at h
  split at h
  · cases h
  · rename_i hp
    refine ⟨Bool.eq_false_iff.2 hp, ?_⟩
    cases hq : idxP t r with
    | none => rfl
    | some i => rw [hq] at h; cases h
theorem suffix_tail {e : List UInt8} {c : UInt8} {r : List UInt8} (h : e.isSuffixOf (c :: r) = false) : e.isSuffixOf r = false := by
  cases hq : e.isSuffixOf r with
  | false => rfl
  | true =>
    rw [List.isSuffixOf_iff_suffix] at hq
    have : e.isSuffixOf (c :: r) = true := List.isSuffixOf_iff_suffix.2 (hq.trans (List.suffix_cons _ _))
    rw [this] at h
    cases h
/-- A text without an end of a comment in it, or at its end. -/
structure Clear (s : List UInt8) : Prop where
  h1 : idxP [45, 45, 62] s = none
  h2 : idxP [45, 45, 33, 62] s = none
  h3 : ([45] : List UInt8).isSuffixOf s = false
  h4 : ([45, 45, 33] : List UInt8).isSuffixOf s = false
theorem Clear.tail {c : UInt8} {t : List UInt8} (h : Clear (c :: t)) : Clear t := ⟨(idxP_none_cons h.h1).2, (idxP_none_cons h.h2).2, suffix_tail h.h3, suffix_tail h.h4⟩
theorem Clear.step {c : UInt8} {t x : List UInt8} (h : Clear (c :: t)) : cmF (c :: (t ++ x)) = bump [c] (cmF (t ++ x)) := by
  have p1 := (idxP_none_cons h.h1).1
  have p2 := (idxP_none_cons h.h2).1
  have h3 := h.h3
  have h4 := h.h4
  by_cases hc : c = 45
  · subst hc
    cases t with
    | nil => exact absurd h3 (by decide)
    | cons a t =>
      by_cases ha : a = 45
      · subst ha
        cases t with
        | nil => exact absurd h3 (by decide)
        | cons b t =>
          have hb62 : b ≠ 62 := by
            rintro rfl
            exact absurd p1 (by simp [List.isPrefixOf])
          refine cmF_cons ?_ ?_ ?_ ?_ ?_
          · have : ((62 : UInt8) == b) = false := by simpa using fun e => hb62 e.symm
            simp [pre1, List.isPrefixOf, this]
          · by_cases hb : b = 33
            · subst hb
              cases t with
              | nil => exact absurd h4 (by decide)
              | cons d t =>
                have hd : d ≠ 62 := by
                  rintro rfl
                  exact absurd p2 (by simp [List.isPrefixOf])
                have : ((62 : UInt8) == d) = false := by simpa using fun e => hd e.symm
                simp [pre2, List.isPrefixOf, this]
            · have : ((33 : UInt8) == b) = false := by simpa using fun e => hb e.symm
              simp [pre2, List.isPrefixOf, this]
          · intro e
            simp only [List.cons_append, List.cons.injEq, true_and] at e
            obtain ⟨rfl, e⟩ := e
            have ht : t = [] := by cases t with | nil => rfl | cons _ _ => simp at e
            subst ht
            exact absurd h4 (by decide)
          · intro e; simp at e
          · intro e; simp at e
      · rw [List.cons_append, cmF_one ha, cmF_other ha]
  · exact cmF_other hc
theorem Clear.all : ∀ {s : List UInt8} (x : List UInt8), Clear s → cmF (s ++ x) = (s ++ (cmF x).1, s.length + (cmF x).2)
  | [], x, _ => by simp
  | c :: t, x, h => by
    rw [List.cons_append, h.step, Clear.all x h.tail]
    simp [bump]
    omega
theorem comment_text {s x : List UInt8} (h : Clear s) (h1 : standsB [62] s = false) (h2 : standsB [45, 62] s = false) (x1 : standsB [62] x = false) (x2 : standsB [45, 62] x = false) :
    cmM 0 (s ++ x) = (s ++ (cmF x).1, s.length + (cmF x).2) := by
  rw [cm_ref, ← h.all x]
  unfold cmR
  cases s with
  | nil => rw [List.nil_append, if_neg (by rw [x1]; simp), if_neg (by rw [x2]; simp)]
  | cons c t =>
    rw [stands_sign (by simp), standsB_empty] at h1
    rw [stands_sign (by simp)] at h2
    rw [List.cons_append, stands_sign (by simp), standsB_empty, h1, stands_sign (by simp)]
    cases t with
    | nil =>
      have hc : (c == 45) = false := by
        have := h.h3
        simp only [beq_eq_false_iff_ne, ne_eq]
        rintro rfl
        exact absurd this (by decide)
      rw [hc]
      simp
    | cons d t =>
      rw [stands_sign (by simp), standsB_empty] at h2
      rw [List.cons_append, stands_sign (by simp), standsB_empty, h2]
      simp

/-! ### raw texts without signs -/
theorem stop_over (n : List UInt8) : ∀ (u x : List UInt8), (∀ c ∈ u, c ≠ 60) → stopP n (u ++ x) = u.length + stopP n x
  | [], x, _ => by simp
  | c :: u, x, h => by
    have hc : wordB (endN n) (c :: (u ++ x)) = false := word_sign (h c (by simp)) _ _
    rw [List.cons_append]
    conv => lhs; unfold stopP
    rw [if_neg (by rw [hc]; simp), stop_over n u x fun a ha => h a (by simp [ha])]
    simp
    omega
theorem halt0_over (n : List UInt8) : ∀ (u x : List UInt8), (∀ c ∈ u, c ≠ 60) → haltP n 0 (u ++ x) = u.length + haltP n 0 x
  | [], x, _ => by simp
  | c :: u, x, h => by
    rw [List.cons_append, halt_quiet n (h c (by simp)) (by simp), halt0_over n u x fun a ha => h a (by simp [ha])]
    simp
    omega
theorem halt_over (n : List UInt8) (d : Nat) : ∀ (u x : List UInt8), (∀ c ∈ u, c ≠ 60 ∧ c ≠ 45) → haltP n d (u ++ x) = u.length + haltP n d x
  | [], x, _ => by simp
  | c :: u, x, h => by
    have hc := h c (by simp)
    have hs : shutC.isPrefixOf (c :: (u ++ x)) = false := by
      cases ho : shutC.isPrefixOf (c :: (u ++ x)) with
      | false => rfl
      | true => exact absurd (shut_head ho).1 hc.2
    rw [List.cons_append, halt_quiet n hc.1 (fun _ => hs), halt_over n d u x fun a ha => h a (by simp [ha])]
    simp
    omega
theorem stands_same {f m x : List UInt8} (h : lowL m = lowL f) : standsB f (m ++ x) = true := by
  have hl : m.length = f.length := by
    have := congrArg List.length h
    simpa [lowL] using this
  unfold standsB
  rw [← hl, List.take_left' rfl, h]
  simp
theorem word_here {f m x : List UInt8} {c : UInt8} (h : lowL m = lowL f) (hc : tagEnd c = true) : wordB f (m ++ c :: x) = true := by
  have hl : m.length = f.length := by
    have := congrArg List.length h
    simpa [lowL] using this
  unfold wordB
  rw [stands_same h, ← hl, List.drop_left' rfl]
  show (true && tagEnd c) = true
  rw [hc]
  rfl
theorem refsL_app_none : True := trivial
end Go.Proofs.YtbolajljfkjfaaaDoor
