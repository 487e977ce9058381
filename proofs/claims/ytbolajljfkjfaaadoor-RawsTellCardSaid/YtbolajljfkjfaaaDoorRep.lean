/-
  What is proved: a plain law of the library's ReplaceAll: it goes through a text from its front on. No condition.
-/
import Derived.Test.YtbolajljfkjfaaaDoorBase
import Derived.Lib.Replace
namespace Go.Proofs.YtbolajljfkjfaaaDoor
open Go.RowKit

def repF (old new : List UInt8) : Nat → List UInt8 → List UInt8
  | 0, _ => []
  | _ + 1, [] => []
  | n + 1, c :: t => if old.isPrefixOf (c :: t) then new ++ repF old new n ((c :: t).drop old.length) else c :: repF old new n t
theorem repF_all {old new : List UInt8} (h : old ≠ []) : ∀ (n : Nat) (s : List UInt8), s.length ≤ n → Lib.replaceK old new (Lib.count s old) s = repF old new n s
  | 0, s, hs => by
    have : s = [] := by cases s with | nil => rfl | cons a t => simp at hs
    subst this
    have hi : Lib.index [] old = -1 := by
      unfold Lib.index
      cases old with
      | nil => exact absurd rfl h
      | cons a t => rfl
    rw [Lib.count_miss hi]
    rfl
  | n + 1, [], _ => by
    have hi : Lib.index [] old = -1 := by
      unfold Lib.index
      cases old with
      | nil => exact absurd rfl h
      | cons a t => rfl
    rw [Lib.count_miss hi]
    rfl
  | n + 1, c :: t, hs => by
    simp only [List.length_cons] at hs
    have hol : 0 < old.length := List.length_pos_iff.2 h
    unfold repF
    by_cases hp : old.isPrefixOf (c :: t) = true
    · have hi : Lib.index (c :: t) old = ((0 : Nat) : Int) := by unfold Lib.index; rw [if_pos hp]; rfl
      rw [if_pos hp, Lib.count_hit h hi, Nat.add_comm 1, Lib.replaceK_hit old new _ _ 0 hi, List.take_zero, List.nil_append, Nat.zero_add]
      congr 1
      exact repF_all h n _ (by simp only [List.length_drop, List.length_cons]; omega)
    · rw [if_neg hp]
      have hge := Lib.index_ge t old
      have hi : Lib.index (c :: t) old = if Lib.index t old == -1 then -1 else Lib.index t old + 1 := by
        conv => lhs; unfold Lib.index
        rw [if_neg hp]
      by_cases hm : Lib.index t old = -1
      · rw [hm] at hi
        rw [Lib.count_miss hi]
        have ih := repF_all (new := new) h n t (by omega)
        rw [Lib.count_miss hm] at ih
        rw [← ih]
        rfl
      · obtain ⟨i, hit⟩ : ∃ i : Nat, Lib.index t old = i := ⟨(Lib.index t old).toNat, by omega⟩
        have hi2 : Lib.index (c :: t) old = ((i + 1 : Nat) : Int) := by
          rw [hi, hit]
          have : ((i : Int) == -1) = false := by rw [beq_eq_false_iff_ne]; omega
          rw [this]
          rfl
        have ih := repF_all (new := new) h n t (by omega)
        have e : (c :: t).drop (i + 1 + old.length) = t.drop (i + old.length) := by
          have : i + 1 + old.length = (i + old.length) + 1 := by omega
          rw [this, List.drop_succ_cons]
        rw [← ih, Lib.count_hit h hi2, Lib.count_hit h hit, e, Nat.add_comm 1, Lib.replaceK_hit old new _ _ (i + 1) hi2, Lib.replaceK_hit old new _ _ i hit, e]
        simp
theorem replaceAll_eq {old new : List UInt8} (h : old ≠ []) (hne : old ≠ new) (s : List UInt8) : Lib.replaceAll s old new = repF old new s.length s := by
  unfold Lib.replaceAll Lib.replace
  have e : (old == new) = false := by simpa using hne
  rw [e]
  have e2 : Lib.replaceNum s old (-1) = Lib.count s old := by unfold Lib.replaceNum; rw [if_pos (.inl (by omega))]
  rw [if_neg (by simp), e2]
  exact repF_all h _ s (Nat.le_refl _)
theorem repF_more {old new : List UInt8} (h : old ≠ []) (n : Nat) (s : List UInt8) (hn : s.length ≤ n) : repF old new n s = repF old new s.length s :=
  (repF_all h n s hn).symm.trans (repF_all h s.length s (Nat.le_refl _))
/-- A byte for another one, wherever it stands. -/
def swapB (a : UInt8) (l : List UInt8) (s : List UInt8) : List UInt8 := s.flatMap fun c => if c = a then l else [c]
theorem repF_one (a : UInt8) (l : List UInt8) : ∀ (s : List UInt8), repF [a] l s.length s = swapB a l s
  | [] => rfl
  | c :: t => by
    have e : repF [a] l (c :: t).length (c :: t) = if ([a] : List UInt8).isPrefixOf (c :: t) then l ++ repF [a] l t.length t else c :: repF [a] l t.length t := rfl
    rw [e, repF_one a l t]
    unfold swapB
    rw [List.flatMap_cons]
    by_cases h : c = a
    · subst h; simp [List.isPrefixOf]
    · have h2 : ¬ (a == c) = true := by simpa using fun e => h e.symm
      simp [List.isPrefixOf, h, h2]
theorem replaceAll_one (a : UInt8) (l s : List UInt8) (h : [a] ≠ l) : Lib.replaceAll s [a] l = swapB a l s := by
  rw [replaceAll_eq (by simp) h, repF_one]
end Go.Proofs.YtbolajljfkjfaaaDoor
