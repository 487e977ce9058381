/-
  What is proved: plain laws of characters: what a decoded character's bytes are, blanks are none of them; the first blank of a text. No condition.
-/
import Derived.Test.YtbolajljfkjfaaaDoorRawX
import Derived.Lib.IndexAny
import Derived.Lib.OthersKept
import Derived.Lib.SlTrimSet
namespace Go.Proofs.YtbolajljfkjfaaaDoor
open Go.RowKit

theorem u8_high {n : Nat} (h : 128 ≤ n) (h2 : n < 256) : 128 ≤ (UInt8.ofNat n).toNat := by
  rw [UInt8.toNat_ofNat']
  omega
/-- The bytes of a character from 128 on. -/
theorem enc_high (n : Nat) (hv : Utf8.valid (n : Int) = true) (h : 128 ≤ n) :
    (∃ a b : UInt8, 128 ≤ a.toNat ∧ 128 ≤ b.toNat ∧ Utf8.encode (n : Int) = ⟨⟨[a, b]⟩⟩) ∨ (∃ a b c : UInt8, 128 ≤ a.toNat ∧ 128 ≤ b.toNat ∧ 128 ≤ c.toNat ∧ Utf8.encode (n : Int) = ⟨⟨[a, b, c]⟩⟩) ∨ (∃ a b c d : UInt8, 128 ≤ a.toNat ∧ 128 ≤ b.toNat ∧ 128 ≤ c.toNat ∧ 128 ≤ d.toNat ∧ Utf8.encode (n : Int) = ⟨⟨[a, b, c, d]⟩⟩) := by
  have hm : n ≤ 1114111 := by
    unfold Utf8.valid at hv
    simp only [Bool.or_eq_true, Bool.and_eq_true, decide_eq_true_eq] at hv
    omega
  unfold Utf8.encode
  simp only
  rw [if_pos hv, Int.toNat_natCast, if_neg (by omega)]
  by_cases h2 : n < 0x800
  · rw [if_pos h2]
    exact .inl ⟨_, _, u8_high (by omega) (by omega), u8_high (by omega) (by omega), rfl⟩
  · rw [if_neg h2]
    by_cases h3 : n < 0x10000
    · rw [if_pos h3]
      exact .inr (.inl ⟨_, _, _, u8_high (by omega) (by omega), u8_high (by omega) (by omega), u8_high (by omega) (by omega), rfl⟩)
    · rw [if_neg h3]
      exact .inr (.inr ⟨_, _, _, _, u8_high (by omega) (by omega), u8_high (by omega) (by omega), u8_high (by omega) (by omega), u8_high (by omega) (by omega), rfl⟩)
theorem get_list (s : List UInt8) (i : Nat) (h : i < s.length) : ByteArray.get! ⟨⟨s⟩⟩ i = s[i] := by
  simp [ByteArray.get!, h]
/-- What a text's character is, at a byte from 128 on. -/
theorem dec_high (s : List UInt8) (k : Nat) (hk : k < s.length) (h : 128 ≤ (s[k]).toNat) :
    Utf8.valid ((Utf8.decode ⟨⟨s⟩⟩ k).1 : Int) = true ∧ 128 ≤ (Utf8.decode ⟨⟨s⟩⟩ k).1 ∧ 1 ≤ (Utf8.decode ⟨⟨s⟩⟩ k).2 ∧ k + (Utf8.decode ⟨⟨s⟩⟩ k).2 ≤ s.length ∧ ∀ j, j < (Utf8.decode ⟨⟨s⟩⟩ k).2 → ∀ hj : k + j < s.length, 128 ≤ (s[k + j]).toNat := by
  have e0 : ByteArray.get! ⟨⟨s⟩⟩ (k + 0) = s[k] := get_list s k hk
  have hbad : Utf8.valid ((Utf8.runeError : Nat) : Int) = true := by decide
  have ge : ∀ j, ∀ hj : k + j < s.length, ByteArray.get! ⟨⟨s⟩⟩ (k + j) = s[k + j] := fun j hj => get_list s _ hj
  have sz : (ByteArray.mk ⟨s⟩).size = s.length := rfl
  have lt : ∀ j, (ByteArray.get! ⟨⟨s⟩⟩ (k + j)).toNat < 256 := fun j => (ByteArray.get! ⟨⟨s⟩⟩ (k + j)).toNat_lt
  have bad : Utf8.valid ((Utf8.runeError, 1).1 : Int) = true ∧ 128 ≤ (Utf8.runeError, 1).1 ∧ 1 ≤ (Utf8.runeError, 1).2 ∧ k + (Utf8.runeError, 1).2 ≤ s.length ∧ ∀ j, j < (Utf8.runeError, 1).2 → ∀ hj : k + j < s.length, 128 ≤ (s[k + j]).toNat := by
    refine ⟨hbad, by decide, by decide, hk, fun j hj hj2 => ?_⟩
    obtain rfl : j = 0 := by have : j < 1 := hj; omega
    exact h
  have l1 := lt 1
  have l2 := lt 2
  have l3 := lt 3
  have l0 := lt 0
  have hb0 : 128 ≤ (ByteArray.get! ⟨⟨s⟩⟩ (k + 0)).toNat := by rw [e0]; exact h
  unfold Utf8.decode
  dsimp only
  rw [if_neg (by omega)]
  by_cases a1 : ((ByteArray.get! ⟨⟨s⟩⟩ (k + 0)).toNat / 32 == 6 && (decide (k + 1 < (ByteArray.mk ⟨s⟩).size) && (ByteArray.get! ⟨⟨s⟩⟩ (k + 1)).toNat / 64 == 2)) = true
  · rw [if_pos a1]
    simp only [Bool.and_eq_true, beq_iff_eq, decide_eq_true_eq, sz] at a1
    split
    · rename_i hc
      refine ⟨?_, hc, by omega, by dsimp only; omega, fun j hj hj2 => ?_⟩
      · unfold Utf8.valid
        simp only [Bool.or_eq_true, Bool.and_eq_true, decide_eq_true_eq]
        omega
      · have hjj : j = 0 ∨ j = 1 := by have : j < 2 := hj; omega
        rcases hjj with rfl | rfl
        · exact h
        · rw [← ge 1 hj2]; omega
    · exact bad
  · rw [if_neg a1]
    by_cases a2 : ((ByteArray.get! ⟨⟨s⟩⟩ (k + 0)).toNat / 16 == 14 && (decide (k + 1 < (ByteArray.mk ⟨s⟩).size) && (ByteArray.get! ⟨⟨s⟩⟩ (k + 1)).toNat / 64 == 2) && (decide (k + 2 < (ByteArray.mk ⟨s⟩).size) && (ByteArray.get! ⟨⟨s⟩⟩ (k + 2)).toNat / 64 == 2)) = true
    · rw [if_pos a2]
      simp only [Bool.and_eq_true, beq_iff_eq, decide_eq_true_eq, sz] at a2
      split
      · rename_i hc
        simp only [Bool.and_eq_true, decide_eq_true_eq] at hc
        refine ⟨hc.2, by dsimp only; omega, by omega, by dsimp only; omega, fun j hj hj2 => ?_⟩
        have hjj : j = 0 ∨ j = 1 ∨ j = 2 := by have : j < 3 := hj; omega
        rcases hjj with rfl | rfl | rfl
        · exact h
        · rw [← ge 1 hj2]; omega
        · rw [← ge 2 hj2]; omega
      · exact bad
    · rw [if_neg a2]
      by_cases a3 : ((ByteArray.get! ⟨⟨s⟩⟩ (k + 0)).toNat / 8 == 30 && (decide (k + 1 < (ByteArray.mk ⟨s⟩).size) && (ByteArray.get! ⟨⟨s⟩⟩ (k + 1)).toNat / 64 == 2) && (decide (k + 2 < (ByteArray.mk ⟨s⟩).size) && (ByteArray.get! ⟨⟨s⟩⟩ (k + 2)).toNat / 64 == 2) && (decide (k + 3 < (ByteArray.mk ⟨s⟩).size) && (ByteArray.get! ⟨⟨s⟩⟩ (k + 3)).toNat / 64 == 2)) = true
      · rw [if_pos a3]
        simp only [Bool.and_eq_true, beq_iff_eq, decide_eq_true_eq, sz] at a3
        split
        · rename_i hc
          simp only [Bool.and_eq_true, decide_eq_true_eq] at hc
          refine ⟨hc.2, by dsimp only; omega, by omega, by dsimp only; omega, fun j hj hj2 => ?_⟩
          have hjj : j = 0 ∨ j = 1 ∨ j = 2 ∨ j = 3 := by have : j < 4 := hj; omega
          rcases hjj with rfl | rfl | rfl | rfl
          · exact h
          · rw [← ge 1 hj2]; omega
          · rw [← ge 2 hj2]; omega
          · rw [← ge 3 hj2]; omega
        · exact bad
      · rw [if_neg a3]
        exact bad
/-- The first blank of a text. -/
def anyI (l : List UInt8) : Int := if past blankB l = [] then -1 else ((til blankB l).length : Int)
theorem blank_contains (c : UInt8) : ([9, 10, 12, 32] : List UInt8).contains c = blankB c := by
  unfold blankB
  rw [Bool.eq_iff_iff]
  simp [List.contains_cons, or_assoc]
theorem anyI_lib : ∀ l : List UInt8, Lib.indexAny l [9, 10, 12, 32] = anyI l
  | [] => rfl
  | c :: t => by
    have ih := anyI_lib t
    unfold Lib.indexAny
    rw [blank_contains, ih]
    unfold anyI
    rw [past_cons, til_cons]
    cases hb : blankB c with
    | true => simp
    | false =>
      simp only [if_false, Bool.false_eq_true]
      by_cases hp : past blankB t = []
      · simp [hp]
      · simp only [hp, if_false]
        have : (((til blankB t).length : Int) == -1) = false := by rw [beq_eq_false_iff_ne]; omega
        rw [this]
        simp
theorem blank_low {c : UInt8} (h : 128 ≤ c.toNat) : blankB c = false := by
  unfold blankB
  simp only [Bool.or_eq_false_iff, beq_eq_false_iff_ne]
  refine ⟨⟨⟨?_, ?_⟩, ?_⟩, ?_⟩ <;> (rintro rfl; exact absurd h (by decide))
/-- No blank up to a place, none there, or one. -/
theorem anyI_hit {l : List UInt8} {k : Nat} (h : ∀ j (hj : j < l.length), j < k → blankB l[j] = false) (hk : k < l.length) (hb : blankB l[k] = true) : anyI l = k := by
  have e : l = l.take k ++ l[k] :: l.drop (k + 1) := by rw [← drop_one hk, List.take_append_drop]
  have hall : ∀ c ∈ l.take k, blankB c = false := by
    intro c hc
    obtain ⟨j, hj, rfl⟩ := List.getElem_of_mem hc
    simp only [List.length_take] at hj
    rw [List.getElem_take]
    exact h j (by omega) (by omega)
  obtain ⟨e1, e2⟩ := til_app (p := blankB) (l.take k) (l[k] :: l.drop (k + 1)) hall
  rw [← e] at e1 e2
  unfold anyI
  rw [e1, e2, til_cons, past_cons, hb]
  simp
  omega
theorem anyI_none {l : List UInt8} (h : ∀ j (hj : j < l.length), blankB l[j] = false) : anyI l = -1 := by
  have hall : ∀ c ∈ l, blankB c = false := by
    intro c hc
    obtain ⟨j, hj, rfl⟩ := List.getElem_of_mem hc
    exact h j hj
  obtain ⟨e1, e2⟩ := til_app (p := blankB) l [] hall
  rw [List.append_nil] at e1 e2
  unfold anyI
  rw [e2, past_nil, if_pos rfl]
end Go.Proofs.YtbolajljfkjfaaaDoor
