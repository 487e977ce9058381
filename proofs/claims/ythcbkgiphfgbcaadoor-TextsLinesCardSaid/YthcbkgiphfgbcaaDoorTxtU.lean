/-
  What is proved: plain laws: the language's own decoder reads the characters of a text of characters. No condition.
-/
import Derived.Test.YthcbkgiphfgbcaaDoorTxtV
namespace Go.Proofs.YthcbkgiphfgbcaaDoor
open Go.RowKit

def Two (a b : UInt8) : Prop := 194 ≤ a.toNat ∧ a.toNat ≤ 223 ∧ 128 ≤ b.toNat ∧ b.toNat ≤ 191
def Three (a b c : UInt8) : Prop := 224 ≤ a.toNat ∧ a.toNat ≤ 239 ∧ 128 ≤ b.toNat ∧ b.toNat ≤ 191 ∧ 128 ≤ c.toNat ∧ c.toNat ≤ 191 ∧ (a.toNat = 224 → 160 ≤ b.toNat) ∧ (a.toNat = 237 → b.toNat ≤ 159)
def Four (a b c d : UInt8) : Prop := 240 ≤ a.toNat ∧ a.toNat ≤ 244 ∧ 128 ≤ b.toNat ∧ b.toNat ≤ 191 ∧ 128 ≤ c.toNat ∧ c.toNat ≤ 191 ∧ 128 ≤ d.toNat ∧ d.toNat ≤ 191 ∧ (a.toNat = 240 → 144 ≤ b.toNat) ∧ (a.toNat = 244 → b.toNat ≤ 143)
theorem ldRow_is {c : UInt8} {m : Nat} {lo hi : UInt8} (h : ldRow c = some (m, lo, hi)) :
    (m = 1 ∧ 194 ≤ c.toNat ∧ c.toNat ≤ 223 ∧ lo.toNat = 128 ∧ hi.toNat = 191) ∨
    (m = 2 ∧ 224 ≤ c.toNat ∧ c.toNat ≤ 239 ∧ 128 ≤ lo.toNat ∧ hi.toNat ≤ 191 ∧ (c.toNat = 224 → lo.toNat = 160) ∧ (c.toNat = 237 → hi.toNat = 159)) ∨
    (m = 3 ∧ 240 ≤ c.toNat ∧ c.toNat ≤ 244 ∧ 128 ≤ lo.toNat ∧ hi.toNat ≤ 191 ∧ (c.toNat = 240 → lo.toNat = 144) ∧ (c.toNat = 244 → hi.toNat = 143)) := by
  have key : (List.range 256).all (fun n => match ldRow (UInt8.ofNat n) with
    | none => true
    | some (m, lo, hi) =>
      (m == 1 && decide (194 ≤ (UInt8.ofNat n).toNat) && decide ((UInt8.ofNat n).toNat ≤ 223) && lo.toNat == 128 && hi.toNat == 191) ||
      (m == 2 && decide (224 ≤ (UInt8.ofNat n).toNat) && decide ((UInt8.ofNat n).toNat ≤ 239) && decide (128 ≤ lo.toNat) && decide (hi.toNat ≤ 191) && ((UInt8.ofNat n).toNat != 224 || lo.toNat == 160) && ((UInt8.ofNat n).toNat != 237 || hi.toNat == 159)) ||
      (m == 3 && decide (240 ≤ (UInt8.ofNat n).toNat) && decide ((UInt8.ofNat n).toNat ≤ 244) && decide (128 ≤ lo.toNat) && decide (hi.toNat ≤ 191) && ((UInt8.ofNat n).toNat != 240 || lo.toNat == 144) && ((UInt8.ofNat n).toNat != 244 || hi.toNat == 143))) = true := by decide +kernel
  have h1 := u8 (fun c => match ldRow c with
    | none => true
    | some (m, lo, hi) =>
      (m == 1 && decide (194 ≤ c.toNat) && decide (c.toNat ≤ 223) && lo.toNat == 128 && hi.toNat == 191) ||
      (m == 2 && decide (224 ≤ c.toNat) && decide (c.toNat ≤ 239) && decide (128 ≤ lo.toNat) && decide (hi.toNat ≤ 191) && (c.toNat != 224 || lo.toNat == 160) && (c.toNat != 237 || hi.toNat == 159)) ||
      (m == 3 && decide (240 ≤ c.toNat) && decide (c.toNat ≤ 244) && decide (128 ≤ lo.toNat) && decide (hi.toNat ≤ 191) && (c.toNat != 240 || lo.toNat == 144) && (c.toNat != 244 || hi.toNat == 143))) key c
  rw [h] at h1
  simp only [Bool.or_eq_true, Bool.and_eq_true, beq_iff_eq, bne_iff_ne, ne_eq, decide_eq_true_eq] at h1
  omega
theorem Chr.forms {ch : List UInt8} (h : Chr ch) : (∃ c, ch = [c] ∧ c.toNat < 128) ∨ (∃ a b, ch = [a, b] ∧ Two a b) ∨ (∃ a b c, ch = [a, b, c] ∧ Three a b c) ∨ (∃ a b c d, ch = [a, b, c, d] ∧ Four a b c d) := by
  have h0 := h.2 []
  rw [List.append_nil] at h0
  cases ch with
  | nil => exact absurd rfl h.1
  | cons a t =>
    by_cases ha : a < 0x80
    · rw [partB_low t ha] at h0
      simp only [List.length_cons, Prod.mk.injEq, and_true] at h0
      have : t = [] := List.length_eq_zero_iff.1 (by omega)
      subst this
      exact .inl ⟨a, rfl, UInt8.lt_iff_toNat_lt.1 ha⟩
    · cases hr : ldRow a with
      | none => rw [partB_none t ha hr] at h0; simp at h0
      | some q =>
        obtain ⟨m, lo, hi⟩ := q
        rw [partB_row t ha hr] at h0
        obtain ⟨e, hl, _⟩ := partK_take m lo hi t 0 _ h0
        simp only [List.length_cons] at e
        have hm : t.length = m := by omega
        have hv := ldRow_is hr
        rcases hv with ⟨rfl, v⟩ | ⟨rfl, v⟩ | ⟨rfl, v⟩
        · match t, hm with
          | [b], _ =>
            simp only [partK, Bool.and_eq_true, decide_eq_true_eq, UInt8.le_iff_toNat_le] at h0
            split at h0
            · exact .inr (.inl ⟨a, b, rfl, by unfold Two; omega⟩)
            · simp at h0
        · match t, hm with
          | [b, c], _ =>
            have k1 : (0x80 : UInt8).toNat = 128 := rfl
            have k2 : (0xbf : UInt8).toNat = 191 := rfl
            simp only [partK, Bool.and_eq_true, decide_eq_true_eq, UInt8.le_iff_toNat_le] at h0
            split at h0
            · split at h0
              · exact .inr (.inr (.inl ⟨a, b, c, rfl, by unfold Three; omega⟩))
              · simp at h0
            · simp at h0
        · match t, hm with
          | [b, c, d], _ =>
            have k1 : (0x80 : UInt8).toNat = 128 := rfl
            have k2 : (0xbf : UInt8).toNat = 191 := rfl
            simp only [partK, Bool.and_eq_true, decide_eq_true_eq, UInt8.le_iff_toNat_le] at h0
            split at h0
            · split at h0
              · split at h0
                · exact .inr (.inr (.inr ⟨a, b, c, d, rfl, by unfold Four; omega⟩))
                · simp at h0
              · simp at h0
            · simp at h0
theorem get_at (p : List UInt8) (c : UInt8) (r : List UInt8) : (ByteArray.mk (Array.mk (p ++ c :: r))).get! p.length = c := by
  show (Array.mk (p ++ c :: r))[p.length]! = c
  simp
theorem get_more (p ch : List UInt8) (c : UInt8) (r : List UInt8) (k : Nat) (hk : ch.length = k) : (ByteArray.mk (Array.mk (p ++ (ch ++ c :: r)))).get! (p.length + k) = c := by
  have := get_at (p ++ ch) c r
  rw [List.append_assoc, List.length_append, hk] at this
  exact this
/-- What a number is to the language: no half of one, not beyond the last. -/
theorem valid_iff (n : Nat) : Utf8.valid (n : Int) = decide (n ≤ 1114111 ∧ ¬ (55296 ≤ n ∧ n ≤ 57343)) := by
  unfold Utf8.valid
  rw [Bool.eq_iff_iff]
  simp
  omega
theorem encode_of (n : Int) : Utf8.encode n = (fun c : Nat => if c < 0x80 then ⟨#[UInt8.ofNat c]⟩ else if c < 0x800 then ⟨#[UInt8.ofNat (0xC0 + c / 64), UInt8.ofNat (0x80 + c % 64)]⟩ else if c < 0x10000 then ⟨#[UInt8.ofNat (0xE0 + c / 4096), UInt8.ofNat (0x80 + c / 64 % 64), UInt8.ofNat (0x80 + c % 64)]⟩ else ⟨#[UInt8.ofNat (0xF0 + c / 262144), UInt8.ofNat (0x80 + c / 4096 % 64), UInt8.ofNat (0x80 + c / 64 % 64), UInt8.ofNat (0x80 + c % 64)]⟩ : Nat → ByteArray) (if Utf8.valid n then n.toNat else Utf8.runeError) := rfl
theorem enc_is (n : Nat) (h : n ≤ 1114111 ∧ ¬ (55296 ≤ n ∧ n ≤ 57343)) : (Utf8.encode n).data.toList =
    if n < 128 then [UInt8.ofNat n] else if n < 2048 then [UInt8.ofNat (192 + n / 64), UInt8.ofNat (128 + n % 64)] else if n < 65536 then [UInt8.ofNat (224 + n / 4096), UInt8.ofNat (128 + n / 64 % 64), UInt8.ofNat (128 + n % 64)] else [UInt8.ofNat (240 + n / 262144), UInt8.ofNat (128 + n / 4096 % 64), UInt8.ofNat (128 + n / 64 % 64), UInt8.ofNat (128 + n % 64)] := by
  have hv : Utf8.valid (n : Int) = true := by rw [valid_iff, decide_eq_true h]
  rw [encode_of, if_pos hv, Int.toNat_natCast]
  dsimp only
  split
  · rfl
  · split
    · rfl
    · split
      · rfl
      · rfl
theorem u8_of {n : Nat} {c : UInt8} (h : n = c.toNat) : UInt8.ofNat n = c := by rw [h, UInt8.ofNat_toNat]
/-- A character is read whole, and written as it was. -/
theorem decode_chr {ch : List UInt8} (h : Chr ch) (p r : List UInt8) : ∃ v : Nat, Utf8.decode ⟨⟨p ++ (ch ++ r)⟩⟩ p.length = (v, ch.length) ∧ (Utf8.encode v).data.toList = ch := by
  rcases h.forms with ⟨c, rfl, hc⟩ | ⟨a, b, rfl, hc⟩ | ⟨a, b, c, rfl, hc⟩ | ⟨a, b, c, d, rfl, hc⟩
  · refine ⟨c.toNat, ?_, ?_⟩
    · unfold Utf8.decode
      have g0 := get_at p c r
      simp only [Nat.add_zero, List.cons_append, List.nil_append, g0, if_pos hc]
      rfl
    · rw [enc_is _ (by omega), if_pos hc, UInt8.ofNat_toNat]
  · obtain ⟨h1, h2, h3, h4⟩ := hc
    have g0 := get_at p a (b :: r)
    have g1 := get_more p [a] b r 1 rfl
    simp only [List.cons_append, List.nil_append] at g1
    refine ⟨(a.toNat % 32) * 64 + b.toNat % 64, ?_, ?_⟩
    · unfold Utf8.decode
      simp only [Nat.add_zero, List.cons_append, List.nil_append, g0, g1, bsize, List.length_append, List.length_cons]
      have k1 : ¬ a.toNat < 128 := by omega
      have k2 : (a.toNat / 32 == 6) = true := by rw [beq_iff_eq]; omega
      have k3 : (b.toNat / 64 == 2) = true := by rw [beq_iff_eq]; omega
      have k4 : decide (p.length + 1 < p.length + (r.length + 1 + 1)) = true := by rw [decide_eq_true_eq]; omega
      have k5 : a.toNat % 32 * 64 + b.toNat % 64 ≥ 128 := by omega
      simp only [if_neg k1, k2, k3, k4, Bool.and_self, if_true, if_pos k5]
      rfl
    · rw [enc_is _ (by omega), if_neg (by omega), if_pos (by omega), u8_of (c := a) (by omega), u8_of (c := b) (by omega)]
  · obtain ⟨h1, h2, h3, h4, h5, h6, h7, h8⟩ := hc
    have g0 := get_at p a (b :: c :: r)
    have g1 := get_more p [a] b (c :: r) 1 rfl
    have g2 := get_more p [a, b] c r 2 rfl
    simp only [List.cons_append, List.nil_append] at g1 g2
    refine ⟨(a.toNat % 16) * 4096 + (b.toNat % 64) * 64 + c.toNat % 64, ?_, ?_⟩
    · unfold Utf8.decode
      simp only [Nat.add_zero, List.cons_append, List.nil_append, g0, g1, g2, bsize, List.length_append, List.length_cons]
      have k1 : ¬ a.toNat < 128 := by omega
      have k2 : (a.toNat / 32 == 6) = false := by rw [beq_eq_false_iff_ne]; omega
      have k2' : (a.toNat / 16 == 14) = true := by rw [beq_iff_eq]; omega
      have k3 : (b.toNat / 64 == 2) = true := by rw [beq_iff_eq]; omega
      have k3' : (c.toNat / 64 == 2) = true := by rw [beq_iff_eq]; omega
      have k4 : decide (p.length + 1 < p.length + (r.length + 1 + 1 + 1)) = true := by rw [decide_eq_true_eq]; omega
      have k4' : decide (p.length + 2 < p.length + (r.length + 1 + 1 + 1)) = true := by rw [decide_eq_true_eq]; omega
      have k5 : decide (a.toNat % 16 * 4096 + b.toNat % 64 * 64 + c.toNat % 64 ≥ 2048) = true := by rw [decide_eq_true_eq]; omega
      have k6 := valid_iff (a.toNat % 16 * 4096 + b.toNat % 64 * 64 + c.toNat % 64)
      rw [decide_eq_true (by omega)] at k6
      simp only [if_neg k1, k2, k2', k3, k3', k4, k4', Bool.and_self, Bool.false_and, Bool.false_eq_true, if_true, if_false, k5, k6]
      rfl
    · rw [enc_is _ (by omega), if_neg (by omega), if_neg (by omega), if_pos (by omega), u8_of (c := a) (by omega), u8_of (c := b) (by omega), u8_of (c := c) (by omega)]
  · obtain ⟨h1, h2, h3, h4, h5, h6, h7, h8, h9, h10⟩ := hc
    have g0 := get_at p a (b :: c :: d :: r)
    have g1 := get_more p [a] b (c :: d :: r) 1 rfl
    have g2 := get_more p [a, b] c (d :: r) 2 rfl
    have g3 := get_more p [a, b, c] d r 3 rfl
    simp only [List.cons_append, List.nil_append] at g1 g2 g3
    refine ⟨(a.toNat % 8) * 262144 + (b.toNat % 64) * 4096 + (c.toNat % 64) * 64 + d.toNat % 64, ?_, ?_⟩
    · unfold Utf8.decode
      simp only [Nat.add_zero, List.cons_append, List.nil_append, g0, g1, g2, g3, bsize, List.length_append, List.length_cons]
      have k1 : ¬ a.toNat < 128 := by omega
      have k2 : (a.toNat / 32 == 6) = false := by rw [beq_eq_false_iff_ne]; omega
      have k2' : (a.toNat / 16 == 14) = false := by rw [beq_eq_false_iff_ne]; omega
      have k2'' : (a.toNat / 8 == 30) = true := by rw [beq_iff_eq]; omega
      have k3 : (b.toNat / 64 == 2) = true := by rw [beq_iff_eq]; omega
      have k3' : (c.toNat / 64 == 2) = true := by rw [beq_iff_eq]; omega
      have k3'' : (d.toNat / 64 == 2) = true := by rw [beq_iff_eq]; omega
      have k4 : decide (p.length + 1 < p.length + (r.length + 1 + 1 + 1 + 1)) = true := by rw [decide_eq_true_eq]; omega
      have k4' : decide (p.length + 2 < p.length + (r.length + 1 + 1 + 1 + 1)) = true := by rw [decide_eq_true_eq]; omega
      have k4'' : decide (p.length + 3 < p.length + (r.length + 1 + 1 + 1 + 1)) = true := by rw [decide_eq_true_eq]; omega
      have k5 : decide (a.toNat % 8 * 262144 + b.toNat % 64 * 4096 + c.toNat % 64 * 64 + d.toNat % 64 ≥ 65536) = true := by rw [decide_eq_true_eq]; omega
      have k6 := valid_iff (a.toNat % 8 * 262144 + b.toNat % 64 * 4096 + c.toNat % 64 * 64 + d.toNat % 64)
      rw [decide_eq_true (by omega)] at k6
      simp only [if_neg k1, k2, k2', k2'', k3, k3', k3'', k4, k4', k4'', Bool.and_self, Bool.false_and, Bool.false_eq_true, if_true, if_false, k5, k6]
      rfl
    · rw [enc_is _ (by omega), if_neg (by omega), if_neg (by omega), if_neg (by omega), u8_of (c := a) (by omega), u8_of (c := b) (by omega), u8_of (c := c) (by omega), u8_of (c := d) (by omega)]
end Go.Proofs.YthcbkgiphfgbcaaDoor
