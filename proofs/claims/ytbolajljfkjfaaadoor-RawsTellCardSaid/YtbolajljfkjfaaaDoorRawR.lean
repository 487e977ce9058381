/-
  What is proved: the reference's small functions of raw texts: Same, Blank, Clean, stands, find, word: contracts. Conditions: texts of less than 100000 bytes.
-/
import Derived.Test.YtbolajljfkjfaaaDoorRawX
import Derived.Test.YtbolajljfkjfaaaDoorSam
namespace Go.Proofs.YtbolajljfkjfaaaDoor
open Go.RowKit

theorem rsame_any (s t : List UInt8) (w : World) (hs : s.length < 100000) (ht : t.length < 100000) :
    Calls Tryd.prog 52 #[.string ⟨⟨s⟩⟩, .string ⟨⟨t⟩⟩] w fun e w' => e = .returned (.bool (lowL s == lowL t)) ∧ Ext w w' := by
  go_enter Tryd.func52, Tryd.ntmps52
  go_wp2_with fail
  refine (lowR_any s _ hs).mono ?_
  rintro e w1 ⟨rfl, x1⟩
  go_wp2_with fail
  refine (lowR_any t _ ht).mono ?_
  rintro e w2 ⟨rfl, x2⟩
  go_wp2_with fail
  go_ret
  exact ⟨rfl, Ext.trans x1 x2⟩
theorem bl_iff (c : UInt8) : blankB c = decide ((c.toNat : Int) = 9 ∨ (c.toNat : Int) = 10 ∨ (c.toNat : Int) = 12 ∨ (c.toNat : Int) = 32) := by
  have key : ∀ n : Fin 256, blankB (UInt8.ofNat n) = decide (((n.val : Nat) : Int) = 9 ∨ ((n.val : Nat) : Int) = 10 ∨ ((n.val : Nat) : Int) = 12 ∨ ((n.val : Nat) : Int) = 32) := by decide +kernel
  have := key ⟨c.toNat, c.toNat_lt⟩
  simpa only [UInt8.ofNat_toNat] using this
theorem blankR_any (c : UInt8) (w : World) :
    Calls Tryd.prog 39 #[.int .u8 c.toNat] w fun e w' => e = .returned (.bool (blankB c)) ∧ w = w' := by
  have h0 := c.toNat_lt
  have HA := Lib.hid (bl_iff c)
  go_enter Tryd.func39, Tryd.ntmps39
  go_wp2
  all_goals
    go_ret
    refine ⟨ret_inj (bool_eq ?_), rfl⟩
    rw [HA.out]
    first | rfl | (simp; omega) | (rw [Bool.eq_iff_iff]; simp; omega)
set_option maxHeartbeats 2000000 in
theorem cleanR_any (s : List UInt8) (w : World) (hs : s.length < 100000) :
    Calls Tryd.prog 23 #[.string ⟨⟨s⟩⟩] w fun e w' => e = .returned (.string ⟨⟨cleanL s⟩⟩) ∧ w = w' := by
  go_enter Tryd.func23, Tryd.ntmps23
  go_wp2_with fail
  go_loop [3, 4] (fun v i => ∃ (k : Nat) (acc : List UInt8), v = .string ⟨⟨acc⟩⟩ ∧ i = .int .i64 k ∧ k ≤ s.length ∧ acc.length ≤ 3 * k ∧ Hid (acc = cleanL (s.take k))) (fun _ i => s.length - (intOf i).toNat)
  case atStart => exact ⟨0, [], rfl, rfl, by omega, by simp, Lib.hid rfl⟩
  case round =>
    obtain ⟨k, acc, rfl, rfl, hk, ha, HA⟩ := hrel
    by_cases hlt : k < s.length
    · obtain ⟨c, hc⟩ : ∃ c, s[k] = c := ⟨_, rfl⟩
      have hcl := c.toNat_lt
      have k1 : (k : Int) < (s.length : Int) := by omega
      have e0 : ((c.toNat : Int) == 0) = (c == 0) := u8_beq (x := 0)
      have HS : Hid (acc ++ cleanB c = cleanL (s.take (k + 1))) := Lib.hid (by rw [clean_take hlt, hc, HA.out])
      have ht1 := take_one hlt
      rw [hc] at ht1
      by_cases h0 : c = 0
      · have f0 : ((c.toNat : Int) == 0) = true := by rw [e0, h0]; rfl
        have HB : Hid (cleanB c = [239, 191, 189]) := Lib.hid (by unfold cleanB; rw [if_pos h0]; rfl)
        clear h0 e0
        go_wp2_with fail
        go_round
        case rel => exact ⟨k + 1, acc ++ [239, 191, 189], rfl, by go_num, by omega, by simp; omega, Lib.hid (by rw [← HS.out, HB.out])⟩
        case measure => simp [intOf]; omega
      · have f0 : ((c.toNat : Int) == 0) = false := by rw [e0]; simpa using h0
        have HB : Hid (cleanB c = [c]) := Lib.hid (by unfold cleanB; rw [if_neg h0])
        clear h0 e0
        go_wp2_with fail
        go_round
        case rel => exact ⟨k + 1, acc ++ [c], rfl, by go_num, by omega, by simp; omega, Lib.hid (by rw [← HS.out, HB.out])⟩
        case measure => simp [intOf]; omega
    · obtain rfl : k = s.length := by omega
      have HF : Hid (acc = cleanL s) := Lib.hid (by rw [HA.out, List.take_length])
      go_wp2_with fail
      go_ret
      exact ⟨ret_inj (str_eq HF.out), rfl⟩
/-- Do some bytes stand at a place? -/
def stI (t s : List UInt8) (i : Int) : Bool := if i < 0 ∨ (s.length : Int) < i then false else standsB t (s.drop i.toNat)
theorem stI_nat (t s : List UInt8) (k : Nat) (h : k ≤ s.length) : stI t s k = standsB t (s.drop k) := by
  unfold stI
  rw [if_neg (by omega), Int.toNat_natCast]
set_option maxHeartbeats 2000000 in
theorem standsR_any (s t : List UInt8) (i : Int) (w : World) (hs : s.length < 100000) (ht : t.length < 100000) (h0 : -9223372036854775808 ≤ i) (h1 : i ≤ 9223372036854775807) :
    Calls Tryd.prog 32 #[.string ⟨⟨s⟩⟩, .int .i64 i, .string ⟨⟨t⟩⟩] w fun e w' => e = .returned (.bool (stI t s i)) ∧ Ext w w' := by
  unfold stI
  by_cases hneg : i < 0
  · rw [if_pos (.inl hneg)]
    have hn : ¬ (0 ≤ i) := by omega
    go_enter Tryd.func32, Tryd.ntmps32
    go_wp2_with fail
    go_ret
    exact ⟨rfl, Ext.refl _⟩
  · by_cases hbig : (s.length : Int) < i
    · rw [if_pos (.inr hbig)]
      have hn : ¬ (i ≤ s.length) := by omega
      have hp : 0 ≤ i := by omega
      go_enter Tryd.func32, Tryd.ntmps32
      go_wp2_with fail
      go_ret
      exact ⟨rfl, Ext.refl _⟩
    · rw [if_neg (by omega)]
      obtain ⟨k, rfl⟩ : ∃ k : Nat, i = k := ⟨i.toNat, by omega⟩
      rw [Int.toNat_natCast]
      have hk : k ≤ s.length := by omega
      have hk2 : (k : Int) ≤ s.length := by omega
      by_cases hlen : s.length - k < t.length
      · have e : standsB t (s.drop k) = false := by
          unfold standsB
          have : decide (t.length ≤ (s.drop k).length) = false := by simp; omega
          rw [this]; rfl
        rw [e]
        have hl2 : ¬ ((t.length : Int) ≤ (s.length : Int) - k) := by omega
        go_enter Tryd.func32, Tryd.ntmps32
        go_wp2_with fail
        go_ret
        exact ⟨rfl, Ext.refl _⟩
      · have hl2 : (t.length : Int) ≤ (s.length : Int) - k := by omega
        have cs : ∀ W, Calls Tryd.prog 52 #[.string ⟨⟨(s.drop k).take t.length⟩⟩, .string ⟨⟨t⟩⟩] W fun e w' => e = .returned (.bool (standsB t (s.drop k))) ∧ Ext W w' := by
          intro W
          have e : standsB t (s.drop k) = (lowL ((s.drop k).take t.length) == lowL t) := by
            unfold standsB
            have : decide (t.length ≤ (s.drop k).length) = true := by simp; omega
            rw [this]; rfl
          rw [e]
          exact rsame_any _ _ W (by simp; omega) ht
        generalize standsB t (s.drop k) = b at cs
        go_enter Tryd.func32, Tryd.ntmps32
        go_wp2_with (go_at_call 52; refine (cs _).mono ?_; rintro e w1 ⟨rfl, x1⟩)
        go_ret
        exact ⟨rfl, x1⟩
/-- The first place from one on where some bytes stand. -/
def fdI (t s : List UInt8) (k : Nat) : Int := match idxP t (s.drop k) with
  | none => -1
  | some j => ((k + j : Nat) : Int)
theorem idxP_short {t r : List UInt8} (h : r.length < t.length) : idxP t r = none := by
  cases hq : idxP t r with
  | none => rfl
  | some i =>
    have := idxP_le hq
    omega
theorem fdI_here {t s : List UInt8} {k : Nat} (ht : t ≠ []) (h : k + t.length ≤ s.length) (hp : ((s.drop k).take t.length == t) = true) : fdI t s k = k := by
  have htl := List.length_pos_iff.2 ht
  have hd := drop_one (show k < s.length by omega)
  have hpre : t.isPrefixOf (s.drop k) = true := by
    rw [isPrefix_iff, hp]
    simp
    omega
  unfold fdI
  rw [hd] at hpre ⊢
  have : idxP t (s[k] :: s.drop (k + 1)) = some 0 := by
    show (if _ then _ else _) = _
    rw [if_pos hpre]
  rw [this]
  rfl
theorem fdI_next {t s : List UInt8} {k : Nat} (ht : t ≠ []) (h : k + t.length ≤ s.length) (hp : ((s.drop k).take t.length == t) = false) : fdI t s k = fdI t s (k + 1) := by
  have htl := List.length_pos_iff.2 ht
  have hd := drop_one (show k < s.length by omega)
  have hpre : t.isPrefixOf (s.drop k) = false := by
    rw [isPrefix_iff, hp]
    simp
  unfold fdI
  rw [hd] at hpre ⊢
  rw [idxP_cons hpre]
  cases idxP t (s.drop (k + 1)) with
  | none => rfl
  | some j =>
    simp
    omega
theorem fdI_off {t s : List UInt8} {k : Nat} (h : s.length < k + t.length) (ht : t ≠ []) : fdI t s k = -1 := by
  have htl := List.length_pos_iff.2 ht
  unfold fdI
  rw [idxP_short (by rw [List.length_drop]; omega)]
set_option maxHeartbeats 2000000 in
theorem findR_any (s t : List UInt8) (k0 : Nat) (w : World) (hs : s.length < 100000) (ht : t ≠ []) (htl : t.length < 100000) (hk0 : k0 ≤ s.length) :
    Calls Tryd.prog 33 #[.string ⟨⟨s⟩⟩, .int .i64 k0, .string ⟨⟨t⟩⟩] w fun e w' => e = .returned (.int .i64 (fdI t s k0)) ∧ w = w' := by
  have HT := Lib.hid ht
  clear ht
  go_enter Tryd.func33, Tryd.ntmps33
  go_wp2_with fail
  go_loop [1] (fun i => ∃ k : Nat, i = .int .i64 k ∧ k ≤ s.length ∧ Hid (fdI t s k0 = fdI t s k)) (fun i => s.length - (intOf i).toNat)
  case atStart => exact ⟨k0, rfl, hk0, Lib.hid rfl⟩
  case round =>
    obtain ⟨k, rfl, hk, HR⟩ := hrel
    have htp := List.length_pos_iff.2 HT.out
    by_cases hlt : k + t.length ≤ s.length
    · have hl2 : (k : Int) + t.length ≤ s.length := by omega
      cases hp : ((s.drop k).take t.length == t) with
      | true =>
        have HF : Hid (fdI t s k0 = k) := Lib.hid (by rw [HR.out, fdI_here HT.out hlt hp])
        go_wp2_with fail
        go_ret
        exact ⟨ret_inj (int_eq HF.out.symm), rfl⟩
      | false =>
        have HF : Hid (fdI t s k0 = fdI t s (k + 1)) := Lib.hid (by rw [HR.out, fdI_next HT.out hlt hp])
        go_wp2_with fail
        go_round
        case rel => exact ⟨k + 1, by go_num, by omega, HF⟩
        case measure => simp [intOf]; omega
    · have hl2 : ¬ ((k : Int) + t.length ≤ s.length) := by omega
      have HF : Hid (fdI t s k0 = -1) := Lib.hid (by rw [HR.out, fdI_off (by omega) HT.out])
      go_wp2_with fail
      go_ret
      exact ⟨ret_inj (int_eq HF.out.symm), rfl⟩
/-- A word at a place: the byte behind it. -/
theorem word_off {f s : List UInt8} {k : Nat} (h : s.length ≤ k + f.length) : wordB f (s.drop k) = false := by
  unfold wordB
  rw [List.drop_drop, List.drop_eq_nil_of_le h]
  simp
theorem word_on {f s : List UInt8} {k : Nat} {c : UInt8} (h : k + f.length < s.length) (hc : s[k + f.length] = c) : wordB f (s.drop k) = (standsB f (s.drop k) && tagEnd c) := by
  unfold wordB
  rw [List.drop_drop, drop_one h, hc]
set_option maxHeartbeats 4000000 in
theorem wordR_any (s f : List UInt8) (k : Nat) (w : World) (hs : s.length < 100000) (hf : f.length < 100000) (hk : k ≤ s.length) :
    Calls Tryd.prog 68 #[.string ⟨⟨s⟩⟩, .int .i64 k, .string ⟨⟨f⟩⟩] w fun e w' => e = .returned (.bool (wordB f (s.drop k))) ∧ Ext w w' := by
  have cs := fun W => standsR_any s f k W hs hf (by omega) (by omega)
  rw [stI_nat f s k hk] at cs
  by_cases hlt : k + f.length < s.length
  · obtain ⟨c, hc⟩ : ∃ c, s[k + f.length] = c := ⟨_, rfl⟩
    have hw := word_on hlt hc
    have hcl := c.toNat_lt
    have l1 : (k : Int) + f.length < s.length := by omega
    have cb := fun W => blankR_any c W
    cases hst : standsB f (s.drop k) with
    | false =>
      have HW : Hid (wordB f (s.drop k) = false) := Lib.hid (by rw [hw, hst]; rfl)
      rw [hst] at cs
      clear hw hst
      go_enter Tryd.func68, Tryd.ntmps68
      go_wp2_with (go_at_call 32; refine (cs _).mono ?_; rintro e w1 ⟨rfl, x1⟩)
      go_ret
      exact ⟨ret_inj (bool_eq HW.out.symm), x1⟩
    | true =>
      have e47 : ((c.toNat : Int) == 47) = (c == 47) := u8_beq (x := 47)
      have e62 : ((c.toNat : Int) == 62) = (c == 62) := u8_beq (x := 62)
      obtain ⟨b1, hb1⟩ : ∃ b, blankB c = b := ⟨_, rfl⟩
      obtain ⟨b2, hb2⟩ : ∃ b, (c == 47) = b := ⟨_, rfl⟩
      obtain ⟨b3, hb3⟩ : ∃ b, (c == 62) = b := ⟨_, rfl⟩
      have HW : Hid (wordB f (s.drop k) = (b2 || b3 || b1)) := Lib.hid (by rw [hw, hst]; unfold tagEnd; rw [hb1, hb2, hb3]; rfl)
      rw [hst] at cs
      rw [hb1] at cb
      rw [hb2] at e47
      rw [hb3] at e62
      clear hw hst hb1 hb2 hb3
      cases b1 <;> cases b2 <;> cases b3
      all_goals
        go_enter Tryd.func68, Tryd.ntmps68
        go_wp2_with (first
          | (go_at_call 32; refine (cs _).mono ?_; rintro e w1 ⟨rfl, x1⟩)
          | (go_at_call 39; refine (cb _).mono ?_; rintro e w2 ⟨rfl, rfl⟩))
        go_ret
        exact ⟨ret_inj (bool_eq HW.out.symm), x1⟩
  · have HW : Hid (wordB f (s.drop k) = false) := Lib.hid (word_off (by omega))
    have l1 : ¬ ((k : Int) + f.length < s.length) := by omega
    generalize standsB f (s.drop k) = b at cs
    cases b
    all_goals
      go_enter Tryd.func68, Tryd.ntmps68
      go_wp2_with (go_at_call 32; refine (cs _).mono ?_; rintro e w1 ⟨rfl, x1⟩)
      go_ret
      exact ⟨ret_inj (bool_eq HW.out.symm), x1⟩
end Go.Proofs.YtbolajljfkjfaaaDoor
