/-
  What is proved: plain laws of texts: what is decoded has characters alone; a text of characters is itself. No condition.
-/
import Derived.Test.YthcbkgiphfgbcaaDoorTxtP
namespace Go.Proofs.YthcbkgiphfgbcaaDoor
open Go.RowKit

/-- The bytes of one character. -/
def Chr (ch : List UInt8) : Prop := ch ≠ [] ∧ ∀ r, partB (ch ++ r) = (ch.length, true)
/-- Characters alone. -/
inductive Val : List UInt8 → Prop
  | nil : Val []
  | app {ch t : List UInt8} : Chr ch → Val t → Val (ch ++ t)
theorem partK_take : ∀ (r : Nat) (lo hi : UInt8) (t : List UInt8) (k n : Nat), partK lo hi r t k = (n, true) → n = k + 1 + r ∧ r ≤ t.length ∧ ∀ u, partK lo hi r (t.take r ++ u) k = (n, true)
  | 0, lo, hi, t, k, n, h => by
    unfold partK at h
    cases h
    exact ⟨rfl, Nat.zero_le _, fun u => by unfold partK; rfl⟩
  | r + 1, lo, hi, [], k, n, h => by
    unfold partK at h
    cases h
  | r + 1, lo, hi, c :: t, k, n, h => by
    unfold partK at h
    split at h
    · rename_i hc
      obtain ⟨h1, h2, h3⟩ := partK_take r 0x80 0xbf t (k + 1) n h
      refine ⟨by omega, by simp only [List.length_cons]; omega, fun u => ?_⟩
      rw [List.take_succ_cons, List.cons_append]
      unfold partK
      rw [if_pos hc]
      exact h3 u
    · cases h
theorem partB_take {l : List UInt8} {n : Nat} (h : partB l = (n, true)) : Chr (l.take n) ∧ (l.take n).length = n := by
  cases l with
  | nil => cases h
  | cons c t =>
    by_cases hc : c < 0x80
    · rw [partB_low t hc] at h
      cases h
      exact ⟨⟨by simp, fun r => partB_low _ hc⟩, by simp⟩
    · cases hr : ldRow c with
      | none => rw [partB_none t hc hr] at h; cases h
      | some q =>
        obtain ⟨m, lo, hi⟩ := q
        rw [partB_row t hc hr] at h
        obtain ⟨h1, h2, h3⟩ := partK_take m lo hi t 0 n h
        have e : n = m + 1 := by omega
        subst e
        have hl : ((c :: t).take (m + 1)).length = m + 1 := by simp [h2]
        refine ⟨⟨by simp, fun r => ?_⟩, hl⟩
        rw [hl, List.take_succ_cons, List.cons_append, partB_row _ hc hr]
        exact h3 r
theorem chr_fffd : Chr fffd := ⟨by decide, fun r => by
  show partB (239 :: (191 :: 189 :: r)) = _
  rw [partB_row (m := 2) (lo := 0x80) (hi := 0xbf) _ (by decide) (by decide)]
  rfl⟩
theorem chr_mark : Chr markB := ⟨by decide, fun r => by
  show partB (239 :: (187 :: 191 :: r)) = _
  rw [partB_row (m := 2) (lo := 0x80) (hi := 0xbf) _ (by decide) (by decide)]
  rfl⟩
theorem Val.append {a b : List UInt8} (h : Val a) (k : Val b) : Val (a ++ b) := by
  induction h with
  | nil => exact k
  | app hc _ ih => rw [List.append_assoc]; exact .app hc ih
theorem Val.one {ch : List UInt8} (h : Chr ch) : Val ch := by
  have := Val.app h .nil
  rwa [List.append_nil] at this
theorem emit_chr {l : List UInt8} : Chr (emit l) := by
  unfold emit
  split
  · rename_i h
    have := partB_take (l := l) (n := (partB l).1) (Prod.ext rfl h)
    exact this.1
  · exact chr_fffd
theorem val_dec : ∀ (n : Nat) (l : List UInt8), l.length ≤ n → Val (decB l)
  | 0, l, h => by
    have : l = [] := by cases l with | nil => rfl | cons a t => simp at h
    subst this; exact .nil
  | n + 1, l, h => by
    by_cases hl : l = []
    · subst hl; exact .nil
    · have hp := partB_le hl
      rw [decB_step hl]
      exact .app emit_chr (val_dec n _ (by simp only [List.length_drop]; omega))
theorem decB_val (l : List UInt8) : Val (decB l) := val_dec _ l (Nat.le_refl _)
theorem emit_app {ch : List UInt8} (h : Chr ch) (r : List UInt8) : emit (ch ++ r) = ch ∧ (ch ++ r).drop (partB (ch ++ r)).1 = r := by
  unfold emit
  rw [h.2 r]
  simp
theorem Val.dec {l : List UInt8} (h : Val l) : decB l = l := by
  induction h with
  | nil => rfl
  | app hc _ ih =>
    rename_i ch t _
    have hne : ch ++ t ≠ [] := by
      intro e
      exact hc.1 (List.append_eq_nil_iff.1 e).1
    obtain ⟨e1, e2⟩ := emit_app hc t
    rw [decB_step hne, e1, e2, ih]
theorem Val.head {l : List UInt8} (h : Val l) (hl : l ≠ []) : ∃ ch t, l = ch ++ t ∧ Chr ch ∧ Val t := by
  cases h with
  | nil => exact absurd rfl hl
  | app hc ht => exact ⟨_, _, rfl, hc, ht⟩
/-- The first character is one alone. -/
theorem Chr.one {a b r s : List UInt8} (ha : Chr a) (hb : Chr b) (h : a ++ r = b ++ s) : a = b ∧ r = s := by
  have h1 := ha.2 r
  rw [h, hb.2 s] at h1
  have hl : b.length = a.length := by simpa using h1
  exact List.append_inj h hl.symm
theorem Val.tail {ch t : List UInt8} (h : Val (ch ++ t)) (hc : Chr ch) : Val t := by
  obtain ⟨a, b, e, ha, hb⟩ := h.head (fun e => hc.1 (List.append_eq_nil_iff.1 e).1)
  obtain ⟨_, rfl⟩ := hc.one ha e
  exact hb
theorem mark_app {l : List UInt8} (h : markB.isPrefixOf l = true) : l = markB ++ l.drop 3 := by
  rw [List.isPrefixOf_iff_prefix] at h
  obtain ⟨t, rfl⟩ := h
  rfl
theorem unmark_off {l : List UInt8} (h : markB.isPrefixOf l = false) : unmark l = l := by unfold unmark; rw [h]; rfl
theorem unmark_on (l : List UInt8) : unmark (markB ++ l) = l := by
  have h : markB.isPrefixOf (markB ++ l) = true := by rw [List.isPrefixOf_iff_prefix]; exact ⟨l, rfl⟩
  unfold unmark
  rw [if_pos h]
  rfl
/-- Characters behind characters: no mark stands at the front, if none stood there. -/
theorem mark_none {a b : List UInt8} (ha : Val a) (h1 : markB.isPrefixOf a = false) (h2 : markB.isPrefixOf b = false) : markB.isPrefixOf (a ++ b) = false := by
  by_cases he : a = []
  · subst he; exact h2
  · obtain ⟨ch, t, rfl, hc, ht⟩ := ha.head he
    rw [Bool.eq_false_iff]
    intro h3
    have e := mark_app h3
    rw [List.append_assoc] at e
    obtain ⟨rfl, _⟩ := hc.one chr_mark e
    rw [Bool.eq_false_iff] at h1
    exact h1 (by rw [List.isPrefixOf_iff_prefix]; exact ⟨t, rfl⟩)
/-- What is decoded again. -/
theorem dec_again {s : List UInt8} (h : Val s) : (if markB.isPrefixOf s then markB ++ decB (unmark s) else decB (unmark s)) = s := by
  by_cases hm : markB.isPrefixOf s = true
  · rw [if_pos hm]
    have e := mark_app hm
    rw [e] at h
    have ht := h.tail chr_mark
    rw [e, unmark_on, ht.dec]
  · have hm2 : markB.isPrefixOf s = false := Bool.eq_false_iff.2 hm
    rw [if_neg hm, unmark_off hm2, h.dec]
end Go.Proofs.YthcbkgiphfgbcaaDoor
