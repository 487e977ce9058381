/-
  What is proved: plain laws of doctypes: what stands between two places of a text. No condition.
-/
import Derived.Test.YtbolajljfkjfaaaDoorRawT
import Derived.Test.YtbolajljfkjfaaaDoorRawM
namespace Go.Proofs.YtbolajljfkjfaaaDoor
open Go.RowKit

/-- What stands from one place up to another. -/
def seg (s : List UInt8) (a b : Nat) : List UInt8 := (s.drop a).take (b - a)
theorem seg_nil (s : List UInt8) (a : Nat) : seg s a a = [] := by simp [seg]
theorem seg_cons {s : List UInt8} {a b : Nat} (h : a < b) (hb : b ≤ s.length) : seg s a b = s[a] :: seg s (a + 1) b := by
  unfold seg
  rw [drop_one (by omega)]
  obtain ⟨d, rfl⟩ : ∃ d, b = a + 1 + d := ⟨b - (a + 1), by omega⟩
  have e1 : a + 1 + d - a = d + 1 := by omega
  have e2 : a + 1 + d - (a + 1) = d := by omega
  rw [e1, e2, List.take_succ_cons]
theorem seg_snoc {s : List UInt8} {a b : Nat} (h : a ≤ b) (hb : b < s.length) : seg s a (b + 1) = seg s a b ++ [s[b]] := by
  unfold seg
  have e1 : b + 1 - a = (b - a) + 1 := by omega
  rw [e1, List.take_succ_eq_append_getElem (by rw [List.length_drop]; omega)]
  simp only [List.getElem_drop]
  have e2 : a + (b - a) = b := by omega
  simp [e2]
theorem seg_len {s : List UInt8} {a b : Nat} (hb : b ≤ s.length) : (seg s a b).length = b - a := by
  unfold seg
  rw [List.length_take, List.length_drop]
  omega
theorem skip_on {s : List UInt8} {a b : Nat} (h : a < b) (hb : b ≤ s.length) (hc : blankB s[a] = true) : skipB (seg s a b) = skipB (seg s (a + 1) b) := by
  rw [seg_cons h hb, skipB_cons, hc]
  rfl
theorem skip_off {s : List UInt8} {a b : Nat} (h : a < b) (hb : b ≤ s.length) (hc : blankB s[a] = false) : skipB (seg s a b) = seg s a b := by
  rw [seg_cons h hb, skipB_cons, hc]
  rfl
theorem til_on {s : List UInt8} {a b : Nat} (h : a < b) (hb : b ≤ s.length) (hc : blankB s[a] = false) : til blankB (seg s a b) = s[a] :: til blankB (seg s (a + 1) b) ∧ past blankB (seg s a b) = past blankB (seg s (a + 1) b) := by
  rw [seg_cons h hb, til_cons, past_cons, hc]
  exact ⟨rfl, rfl⟩
theorem til_off {s : List UInt8} {a b : Nat} (h : a < b) (hb : b ≤ s.length) (hc : blankB s[a] = true) : til blankB (seg s a b) = [] ∧ past blankB (seg s a b) = seg s a b := by
  rw [seg_cons h hb, til_cons, past_cons, hc]
  exact ⟨rfl, rfl⟩
theorem idx_over {f x : List UInt8} (hf : ∀ a ∈ f, lowB a ≠ 62) (h : standsB f x = true) : idxP [62] x = (idxP [62] (x.drop f.length)).map (· + f.length) := by
  induction f generalizing x with
  | nil =>
    show idxP [62] x = (idxP [62] x).map (· + 0)
    generalize idxP [62] x = o
    cases o <;> rfl
  | cons a f ih =>
    cases x with
    | nil => simp [standsB] at h
    | cons c x =>
      rw [standsB_cons] at h
      simp only [Bool.and_eq_true, beq_iff_eq] at h
      have hc : c ≠ 62 := by
        rintro rfl
        exact hf a (by simp) h.1.symm
      have hp : ([62] : List UInt8).isPrefixOf (c :: x) = false := by
        have : ((62 : UInt8) == c) = false := by rw [beq_eq_false_iff_ne]; exact fun e => hc e.symm
        simp [List.isPrefixOf, this]
      rw [idxP_cons hp, ih (fun b hb => hf b (by simp [hb])) h.2]
      simp only [List.length_cons, List.drop_succ_cons]
      cases idxP [62] (x.drop f.length) with
      | none => rfl
      | some j => rfl
/-- The end of a doctype, and what stands up to it. -/
theorem doc_end {s : List UInt8} {k : Nat} (hk : k + 9 ≤ s.length) (h : standsB docF (s.drop k) = true) :
    (fdI [62] s k = -1 ∧ upB [62] (s.drop (k + 9)) = (seg s (k + 9) s.length, s.length - (k + 9), false)) ∨
    (∃ e : Nat, fdI [62] s k = (e : Int) ∧ k + 9 ≤ e ∧ e + 1 ≤ s.length ∧ upB [62] (s.drop (k + 9)) = (seg s (k + 9) e, e + 1 - (k + 9), true)) := by
  have hi := idx_over (f := docF) (by decide) h
  rw [List.drop_drop] at hi
  have hl : docF.length = 9 := rfl
  rw [hl] at hi
  unfold fdI upB
  rw [hi]
  cases hq : idxP [62] (s.drop (k + 9)) with
  | none =>
    refine .inl ⟨rfl, ?_⟩
    unfold seg
    rw [List.take_of_length_le (by rw [List.length_drop]; omega)]
    simp
  | some j =>
    have := idxP_le hq
    rw [List.length_drop] at this
    simp only [List.length_cons, List.length_nil] at this
    refine .inr ⟨k + 9 + j, ?_, by omega, by omega, ?_⟩
    · simp
      omega
    · unfold seg
      have e1 : k + 9 + j - (k + 9) = j := by omega
      have e2 : k + 9 + j + 1 - (k + 9) = j + 1 := by omega
      rw [e1, e2]
      rfl
end Go.Proofs.YtbolajljfkjfaaaDoor
