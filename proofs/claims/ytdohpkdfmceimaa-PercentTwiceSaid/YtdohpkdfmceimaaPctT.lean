/-
  What is proved: the plain laws of encoding twice, of clean texts and of pieces, on lists of bytes. No condition.
-/
import Derived.Test.YtdohpkdfmceimaaPctP
namespace Go.Proofs.Ytdohpkdfmceimaa
open Go.RowKit

theorem byte_of (P : UInt8 → Prop) (h : ∀ n : Fin 256, P (UInt8.ofNat n)) (c : UInt8) : P c := by
  have := h ⟨c.toNat, c.toNat_lt⟩
  simpa using this
theorem set_of (P : Int → Prop) (h : ∀ n : Fin 7, P (n : Nat)) (k : Int) (h0 : 0 ≤ k) (h7 : k < 7) : P k := by
  have := h ⟨k.toNat, by omega⟩
  have e : ((k.toNat : Nat) : Int) = k := by omega
  simp only [e] at this
  exact this
theorem enc_fix (k : Int) : ∀ t : List UInt8, (∀ c ∈ t, inSet k c = false) → t.flatMap (enc1 k) = t
  | [], _ => rfl
  | c :: r, h => by
    have hc := h c (by simp)
    have e : enc1 k c = [c] := by unfold enc1; rw [hc]; rfl
    rw [List.flatMap_cons, e, enc_fix k r fun d hd => h d (by simp [hd])]
    rfl
theorem out_bool : ∀ k : Fin 6, ∀ n : Fin 256, (enc1 (k : Nat) (UInt8.ofNat n)).all (fun c => !inSet (k : Nat) c) = true := by decide +kernel
theorem enc_out (k : Int) (h0 : 0 ≤ k) (h6 : k < 6) (x c : UInt8) (h : c ∈ enc1 k x) : inSet k c = false := by
  have h1 := out_bool ⟨k.toNat, by omega⟩ ⟨x.toNat, x.toNat_lt⟩
  have e : ((k.toNat : Nat) : Int) = k := by omega
  simp only [e, UInt8.ofNat_toNat] at h1
  simpa using List.all_eq_true.1 h1 c h
theorem enc_twice (k : Int) (h0 : 0 ≤ k) (h6 : k < 6) (l : List UInt8) : (l.flatMap (enc1 k)).flatMap (enc1 k) = l.flatMap (enc1 k) := by
  apply enc_fix
  intro c hc
  rw [List.mem_flatMap] at hc
  obtain ⟨x, _, hx⟩ := hc
  exact enc_out k h0 h6 x c hx
theorem back_key : ∀ n : Fin 256, isHex (dig (n.val / 16)) = true ∧ isHex (dig (n.val % 16)) = true ∧ UInt8.ofNat (16 * hexN (dig (n.val / 16)) + hexN (dig (n.val % 16))) = UInt8.ofNat n := by decide +kernel
theorem dec_triple (c : UInt8) (r : List UInt8) : dec (37 :: dig (c.toNat / 16) :: dig (c.toNat % 16) :: r) = c :: dec r := by
  have h := back_key ⟨c.toNat, c.toNat_lt⟩
  simp only [UInt8.ofNat_toNat] at h
  obtain ⟨h1, h2, h3⟩ := h
  simp only [dec, h1, h2, and_self, if_true, h3]
theorem dec_other (c : UInt8) (r : List UInt8) (h : c ≠ 37) : dec (c :: r) = c :: dec r := by
  apply dec_not
  unfold tri
  split
  · rename_i h8
    injection h8 with h8 h9
    subst h8
    simp [h]
  · rfl
theorem enc_back (k : Int) : ∀ l : List UInt8, (∀ c ∈ l, c = 37 → inSet k c = true) → dec (l.flatMap (enc1 k)) = l
  | [], _ => rfl
  | c :: r, h => by
    have hr := enc_back k r fun d hd => h d (by simp [hd])
    rw [List.flatMap_cons]
    by_cases hc : inSet k c = true
    · have e : enc1 k c = [37, dig (c.toNat / 16), dig (c.toNat % 16)] := by unfold enc1; rw [if_pos hc]
      rw [e]
      show dec (37 :: dig (c.toNat / 16) :: dig (c.toNat % 16) :: r.flatMap (enc1 k)) = _
      rw [dec_triple, hr]
    · have e : enc1 k c = [c] := by unfold enc1; rw [if_neg hc]
      rw [e]
      show dec (c :: r.flatMap (enc1 k)) = _
      rw [dec_other c _ (fun e => hc (h c (by simp) e)), hr]
/-- Is there a percent sign? -/
def hasP (l : List UInt8) : Bool := l.contains 37
theorem enc_back_of (k : Int) (l : List UInt8) (h : k = 6 ∨ hasP l = false) : dec (l.flatMap (enc1 k)) = l := by
  apply enc_back
  intro c hc h37
  rcases h with rfl | h
  · subst h37; decide +kernel
  · exfalso
    subst h37
    unfold hasP at h
    simp only [List.contains_eq_mem, decide_eq_false_iff_not] at h
    exact h hc

/-! ### clean -/
def alnum (c : UInt8) : Bool := (48 ≤ c && c ≤ 57) || (97 ≤ c && c ≤ 122) || (65 ≤ c && c ≤ 90)
def plainOf (l : List UInt8) : List UInt8 := l.filter alnum
def dirty (k : Int) (c : UInt8) : Bool := c < 32 || 126 < c || (4 ≤ k && [32, 34, 60, 62, 35, 63, 123, 125].contains c)
theorem clean_bool : ∀ k : Fin 7, ∀ n : Fin 256, (enc1 (k : Nat) (UInt8.ofNat n)).all (fun c => !dirty (k : Nat) c) = true := by decide +kernel
theorem enc_clean (k : Int) (h0 : 0 ≤ k) (h7 : k < 7) (l : List UInt8) : ∀ c ∈ l.flatMap (enc1 k), dirty k c = false := by
  intro c hc
  rw [List.mem_flatMap] at hc
  obtain ⟨x, _, hx⟩ := hc
  have h1 := clean_bool ⟨k.toNat, by omega⟩ ⟨x.toNat, x.toNat_lt⟩
  have e : ((k.toNat : Nat) : Int) = k := by omega
  simp only [e, UInt8.ofNat_toNat] at h1
  simpa using List.all_eq_true.1 h1 c hx
theorem alnum_key : ∀ k : Fin 7, ∀ n : Fin 256, alnum (UInt8.ofNat n) = true → inSet (k : Nat) (UInt8.ofNat n) = false ∧ UInt8.ofNat n ≠ 37 := by decide +kernel
theorem alnum_off (k : Int) (h0 : 0 ≤ k) (h7 : k < 7) (c : UInt8) (h : alnum c = true) : inSet k c = false ∧ c ≠ 37 := by
  have h1 := alnum_key ⟨k.toNat, by omega⟩ ⟨c.toNat, c.toNat_lt⟩
  have e : ((k.toNat : Nat) : Int) = k := by omega
  simp only [e, UInt8.ofNat_toNat] at h1
  exact h1 h
theorem enc_plain (k : Int) (h0 : 0 ≤ k) (h7 : k < 7) (l : List UInt8) : (plainOf l).flatMap (enc1 k) = plainOf l := by
  apply enc_fix
  intro c hc
  exact (alnum_off k h0 h7 c (List.mem_filter.1 hc).2).1
theorem dec_id : ∀ l : List UInt8, (∀ c ∈ l, c ≠ 37) → dec l = l
  | [], _ => rfl
  | c :: r, h => by rw [dec_other c r (h c (by simp)), dec_id r fun d hd => h d (by simp [hd])]
theorem dec_plain (l : List UInt8) : dec (plainOf l) = plainOf l := by
  apply dec_id
  intro c hc
  exact (alnum_off 0 (by omega) (by omega) c (List.mem_filter.1 hc).2).2

/-! ### pieces -/
theorem tri_app (c : UInt8) (r b : List UInt8) (h : 2 ≤ r.length ∨ c ≠ 37) : (tri (c :: r ++ b)).2 = (tri (c :: r)).2 := by
  match r, h with
  | x :: y :: r, _ => rfl
  | [], h =>
    have hc : c ≠ 37 := by simpa using h
    have : (tri (c :: b)).2 = false := by
      unfold tri
      split
      · rename_i h8; injection h8 with h8 h9; subst h8; simp [hc]
      · rfl
    exact this
  | [x], h =>
    have hc : c ≠ 37 := by simpa using h
    have : (tri (c :: x :: b)).2 = false := by
      unfold tri
      split
      · rename_i h8; injection h8 with h8 h9; subst h8; simp [hc]
      · rfl
    exact this
/-- The last two bytes are no percent signs. -/
def calm (l : List UInt8) : Prop := ∀ i, l.length - 2 ≤ i → ∀ h : i < l.length, l[i] ≠ 37
theorem calm_tail {c : UInt8} {r : List UInt8} (h : calm (c :: r)) : calm r := by
  intro i hi hl
  have := h (i + 1) (by simp; omega) (by simp; omega)
  simpa using this
theorem calm_drop {a b c : UInt8} {r : List UInt8} (h : calm (a :: b :: c :: r)) : calm r := calm_tail (calm_tail (calm_tail h))
theorem dec_append : ∀ (n : Nat) (a b : List UInt8), a.length ≤ n → calm a → dec (a ++ b) = dec a ++ dec b := by
  intro n
  induction n with
  | zero =>
    intro a b ha _
    have := List.eq_nil_of_length_eq_zero (by omega : a.length = 0)
    subst this
    rfl
  | succ n ih =>
    intro a b ha hc
    match a, ha, hc with
    | [], _, _ => rfl
    | c :: r, ha, hc =>
      have hlast : 2 ≤ r.length ∨ c ≠ 37 := by
        by_cases hl : 2 ≤ r.length
        · exact .inl hl
        · exact .inr (hc 0 (by simp; omega) (by simp))
      simp only [List.length_cons] at ha
      cases ht : (tri (c :: r)).2
      · have h2 : (tri (c :: (r ++ b))).2 = false := by rw [← List.cons_append, tri_app c r b hlast]; exact ht
        rw [dec_not ht, List.cons_append, dec_not h2, ih r b (by omega) (calm_tail hc)]
        rfl
      · match r, ht, ha, hc with
        | x :: y :: r, ht, ha, hc =>
          have h2 : (tri (c :: x :: y :: (r ++ b))).2 = true := ht
          simp only [List.length_cons] at ha
          rw [dec_tri _ _ _ _ ht, List.cons_append, List.cons_append, List.cons_append, dec_tri _ _ _ _ h2, ih r b (by omega) (calm_drop hc)]
          rfl
end Go.Proofs.Ytdohpkdfmceimaa
