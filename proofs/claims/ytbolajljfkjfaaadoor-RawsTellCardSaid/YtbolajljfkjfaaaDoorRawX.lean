/-
  What is proved: plain laws of raw texts: how long a reference's text is, references read byte by byte, bytes without zeros. No condition.
-/
import Derived.Test.YtbolajljfkjfaaaDoorRawQ
namespace Go.Proofs.YtbolajljfkjfaaaDoor
open Go.RowKit

theorem encode_short (n : Int) : (Utf8.encode n).data.toList.length ≤ 4 := by
  unfold Utf8.encode
  simp only
  generalize (if Utf8.valid n = true then n.toNat else Utf8.runeError) = c
  by_cases h1 : c < 0x80
  · rw [if_pos h1]; simp
  · rw [if_neg h1]
    by_cases h2 : c < 0x800
    · rw [if_pos h2]; simp
    · rw [if_neg h2]
      by_cases h3 : c < 0x10000
      · rw [if_pos h3]; simp
      · rw [if_neg h3]; simp
set_option maxRecDepth 100000 in
theorem charT_short : (List.range 32).all (fun i => decide ((charT.getD i []).length ≤ 4)) = true := by decide +kernel
theorem charB_short (n : Nat) : (charB n).length ≤ 4 := by
  unfold charB
  split
  · simp
  · split
    · have := List.all_eq_true.1 charT_short (n - 128) (by simp; omega)
      exact of_decide_eq_true this
    · exact encode_short n
theorem texts_short : allN.all (fun x => decide (x.text.length ≤ 16)) = true := by decide +kernel
theorem findB_short (s : List UInt8) (k : Nat) (attr : Bool) : (findB s k attr).1.length ≤ 16 := by
  unfold findB
  split
  · split
    · split
      · simp
      · simp only
        unfold numB numAt
        have := charB_short
        split
        · split
          · simp
          · exact Nat.le_trans (charB_short _) (by omega)
        · split
          · simp
          · exact Nat.le_trans (charB_short _) (by omega)
    · split
      · simp
      · split
        · simp
        · simp only
          rcases (bestF_best (s.drop (k + 1))).2 with b | ⟨y, hy, _, _, _, e2⟩
          · rw [b.2]; simp
          · rw [e2]
            exact of_decide_eq_true (List.all_eq_true.1 texts_short y hy)
  · simp
theorem cleanB_len (c : UInt8) : (cleanB c).length ≤ 3 := by
  unfold cleanB unkL
  split <;> simp
theorem cleanL_len : ∀ l : List UInt8, (cleanL l).length ≤ 3 * l.length
  | [] => by simp [cleanL_nil]
  | c :: t => by
    have := cleanL_len t
    have := cleanB_len c
    rw [cleanL_cons]
    simp
    omega
theorem clean_take {s : List UInt8} {k : Nat} (h : k < s.length) : cleanL (s.take (k + 1)) = cleanL (s.take k) ++ cleanB s[k] := by
  rw [List.take_succ_eq_append_getElem h, cleanL_app, cleanL_cons, cleanL_nil, List.append_nil]
theorem drop_one {s : List UInt8} {k : Nat} (h : k < s.length) : s.drop k = s[k] :: s.drop (k + 1) := List.drop_eq_getElem_cons h
theorem take_one {s : List UInt8} {k : Nat} (h : k < s.length) : (s.drop k).take 1 = [s[k]] := by
  rw [drop_one h]
  rfl
/-- What a reference at a place is, told of what stands from there on. -/
theorem find_drop (s : List UInt8) (k : Nat) (hk : k ≤ s.length) (attr : Bool) : findB s k attr = moved k (findB (s.drop k) 0 attr) := by
  have h := find_ahead (s.take k) (s.drop k) attr
  rw [List.take_append_drop] at h
  have hl : (s.take k).length = k := by simp; omega
  rw [hl] at h
  exact h
/-- A round of the reading: a reference stands there, or none. -/
theorem refs_yes {s : List UInt8} {k : Nat} {attr : Bool} {t : List UInt8} {n : Nat} (hk : k < s.length) (h : findB s k attr = (t, n, true)) :
    refsL attr (s.drop k) = t ++ refsL attr (s.drop n) ∧ k < n ∧ n ≤ s.length := by
  rw [find_drop s k (by omega)] at h
  obtain ⟨c, u, hc⟩ : ∃ c u, s.drop k = c :: u := ⟨_, _, drop_one hk⟩
  have hf : (findB (s.drop k) 0 attr).2.2 = true := by
    unfold moved at h
    split at h
    · assumption
    · cases h
  obtain ⟨g1, g2, _, _⟩ := findB_good hf
  unfold moved at h
  rw [if_pos hf] at h
  simp only [Prod.mk.injEq] at h
  obtain ⟨h1, h2, _⟩ := h
  rw [hc] at hf h1 h2 g1 g2 ⊢
  rw [refsL_cons, if_pos hf, h1]
  have hl : (c :: u).length = s.length - k := by rw [← hc, List.length_drop]
  refine ⟨?_, by omega, by omega⟩
  rw [← hc, List.drop_drop, ← h2, hc, Nat.add_comm]
theorem refs_no {s : List UInt8} {k : Nat} {attr : Bool} (hk : k < s.length) (h : (findB s k attr).2.2 = false) :
    refsL attr (s.drop k) = cleanB s[k] ++ refsL attr (s.drop (k + 1)) := by
  rw [find_drop s k (by omega)] at h
  rw [drop_one hk] at h ⊢
  have hf : (findB (s[k] :: s.drop (k + 1)) 0 attr).2.2 = false := by
    unfold moved at h
    split at h
    · cases h
    · simp_all
  rw [refsL_cons, if_neg (by rw [hf]; simp)]
end Go.Proofs.YtbolajljfkjfaaaDoor
