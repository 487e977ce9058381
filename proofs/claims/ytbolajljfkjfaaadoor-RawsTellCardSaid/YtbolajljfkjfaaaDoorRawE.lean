/-
  What is proved: marked texts, words, ends, raw texts, as the program reads them: contracts. Conditions: texts of less than 100000 bytes; the library's variable holds an integer, the program's table what its text lays.
-/
import Derived.Test.YtbolajljfkjfaaaDoorRawD
import Derived.Test.YtbolajljfkjfaaaDoorRawX
import Derived.Test.YtbolajljfkjfaaaDoorRefF
namespace Go.Proofs.YtbolajljfkjfaaaDoor
open Go.RowKit

/-! ### marked texts -/
def cdI (s : List UInt8) (i : Int) : Option (List UInt8 × Nat) := if i < 0 ∨ (s.length : Int) < i then none else cdP (s.drop i.toNat)
def cdV (s : List UInt8) (i : Int) : Value := match cdI s i with
  | none => .tuple #[.string ⟨⟨[]⟩⟩, .int .i64 0]
  | some (t, n) => .tuple #[.string ⟨⟨t⟩⟩, .int .i64 (i + n)]
theorem cd_cases (s : List UInt8) (i : Int) :
    (behI cdF s i = none ∧ cdI s i = none) ∨
    (∃ (k : Nat) (r : List UInt8), i = k ∧ behI cdF s k = some r ∧ ((s.drop k).take 9 == [60, 33, 91, 67, 68, 65, 84, 65, 91]) = false ∧ cdI s k = none) ∨
    (∃ (k : Nat) (r : List UInt8), i = k ∧ behI cdF s k = some r ∧ ((s.drop k).take 9 == [60, 33, 91, 67, 68, 65, 84, 65, 91]) = true ∧ cdI s k = some ((upB [93, 93, 62] r).1, 9 + (upB [93, 93, 62] r).2.1)) := by
  by_cases h : i < 0 ∨ (s.length : Int) < i
  · exact .inl ⟨behI_out h, by unfold cdI; rw [if_pos h]⟩
  · obtain ⟨k, rfl⟩ : ∃ k : Nat, i = k := ⟨i.toNat, by omega⟩
    have hcd : cdI s k = cdP (s.drop k) := by unfold cdI; rw [if_neg h, Int.toNat_natCast]
    rw [hcd, behI_in h, Int.toNat_natCast]
    obtain ⟨x, hx⟩ : ∃ x, s.drop k = x := ⟨_, rfl⟩
    rw [hx]
    unfold cdP
    rw [isPrefix_iff]
    cases hst : standsB cdF x with
    | false =>
      refine .inl ⟨rfl, ?_⟩
      have : (decide (cdF.length ≤ x.length) && (x.take cdF.length == cdF)) = false := by
        rw [Bool.eq_false_iff]
        intro e
        simp only [Bool.and_eq_true, decide_eq_true_eq, beq_iff_eq] at e
        unfold standsB at hst
        rw [e.2] at hst
        simp [e.1] at hst
      rw [if_neg (by rw [this]; simp)]
    | true =>
      have hl := standsB_le hst
      cases ht : (x.take 9 == [60, 33, 91, 67, 68, 65, 84, 65, 91]) with
      | false =>
        refine .inr (.inl ⟨k, _, rfl, by rw [behI_in h, Int.toNat_natCast, hx, hst]; rfl, by rw [hx]; exact ht, ?_⟩)
        rw [hcd, hx]
        unfold cdP
        rw [isPrefix_iff]
        have e2 : (x.take cdF.length == cdF) = false := ht
        rw [if_neg (by rw [e2]; simp)]
      | true =>
        refine .inr (.inr ⟨k, _, rfl, by rw [behI_in h, Int.toNat_natCast, hx, hst]; rfl, by rw [hx]; exact ht, ?_⟩)
        rw [hcd, hx]
        unfold cdP
        rw [isPrefix_iff]
        have e2 : (x.take cdF.length == cdF) = true := ht
        rw [if_pos (by rw [e2]; simp [hl])]
        rfl
set_option maxHeartbeats 2000000 in
theorem cd_any (s : List UInt8) (i : Int) (w : World) (hm : MaxIs w) (hs : s.length < 100000) (h0 : -9223372036854775808 ≤ i) (h1 : i ≤ 9223372036854775807) :
    Calls Tryd.prog 16 #[.string ⟨⟨s⟩⟩, .int .i64 i] w fun e w' => e = .returned (cdV s i) ∧ Ext w w' := by
  unfold cdV
  rcases cd_cases s i with ⟨hb, hv⟩ | ⟨k, r, rfl, hb, hq, hv⟩ | ⟨k, r, rfl, hb, hq, hv⟩
  · have cb := behind_none hb hs (by decide) h0 h1
    rw [hv]
    clear hb hv
    go_enter Tryd.func16, Tryd.ntmps16
    go_wp2_with (go_at_call 28; refine (cb _).mono ?_; rintro e w1 ⟨rfl, x1⟩)
    go_ret2
    exact ⟨rfl, x1⟩
  · have cb := behind_some hb hs (by decide) h0 h1
    obtain ⟨q1, q2, q3, q4, q5⟩ := behI_some hb
    have hol : ((cdF.length : Nat) : Int) = 9 := rfl
    have hk9 : k + 9 ≤ s.length := by omega
    have e4 : ((s.drop k).take 9 != [60, 33, 91, 67, 68, 65, 84, 65, 91]) = true := by unfold bne; rw [hq]; rfl
    rw [hv]
    clear hb hv q5 q3 hol q4
    go_enter Tryd.func16, Tryd.ntmps16
    go_wp2_with (go_at_call 28; refine (cb _).mono ?_; rintro e w1 ⟨rfl, x1⟩)
    go_ret2
    exact ⟨rfl, x1⟩
  · have cb := behind_some hb hs (by decide) h0 h1
    obtain ⟨q1, q2, q3, q4, q5⟩ := behI_some hb
    have hol : ((cdF.length : Nat) : Int) = 9 := rfl
    have hk9 : k + 9 ≤ s.length := by omega
    have hrl : r.length < 100000 := by omega
    have e4 : ((s.drop k).take 9 != [60, 33, 91, 67, 68, 65, 84, 65, 91]) = false := by unfold bne; rw [hq]; rfl
    obtain ⟨t, n, b, hu⟩ : ∃ t n b, upB [93, 93, 62] r = (t, n, b) := ⟨_, _, _, rfl⟩
    have cu := upto_at hu hrl (by decide)
    have hn := upB_le [93, 93, 62] r
    rw [hv]
    simp only [hu] at hn ⊢
    have hsum : k + 9 + n ≤ s.length := by omega
    have hback : (k : Int) + ((9 + n : Nat) : Int) = k + 9 + n := by omega
    rw [hback]
    clear hb hv q5 q3 hol q4 hback hu
    go_enter Tryd.func16, Tryd.ntmps16
    go_wp2_with (first
      | (go_at_call 28; refine (cb _).mono ?_; rintro e w1 ⟨rfl, x1⟩; have hm1 := hm.ext x1)
      | (go_at_call 34; refine (cu _ hm1).mono ?_; rintro e w2 ⟨rfl, rfl⟩))
    go_ret2
    exact ⟨rfl, x1⟩

/-! ### words and ends -/
theorem tagEnd_contains (c : UInt8) : ([47, 62, 9, 10, 12, 32] : List UInt8).contains c = tagEnd c := by
  unfold tagEnd blankB
  rw [Bool.eq_iff_iff]
  simp [List.contains_cons, or_assoc]
theorem behI_zero (f r : List UInt8) : behI f r 0 = if standsB f r then some (r.drop f.length) else none := behI_nat f r 0 (by omega)
set_option maxHeartbeats 2000000 in
theorem word_any (f r : List UInt8) (w : World) (hr : r.length < 100000) (hf : f.length < 100000) :
    Calls Tryd.prog 65 #[.string ⟨⟨r⟩⟩, .string ⟨⟨f⟩⟩] w fun e w' => e = .returned (.bool (wordB f r)) ∧ Ext w w' := by
  cases hst : standsB f r with
  | false =>
    have hb : behI f r 0 = none := by rw [behI_zero, hst]; rfl
    have cb := behind_none hb hr hf (by omega) (by omega)
    have HW : Hid (wordB f r = false) := Lib.hid (by unfold wordB; rw [hst]; rfl)
    clear hb hst
    go_enter Tryd.func65, Tryd.ntmps65
    go_wp2_with (go_at_call 28; refine (cb _).mono ?_; rintro e w1 ⟨rfl, x1⟩)
    go_ret
    exact ⟨ret_inj (bool_eq HW.out.symm), x1⟩
  | true =>
    have hb : behI f r 0 = some (r.drop f.length) := by rw [behI_zero, hst]; rfl
    have cb := behind_some hb hr hf (by omega) (by omega)
    clear hb
    cases hd : r.drop f.length with
    | nil =>
      have HW : Hid (wordB f r = false) := Lib.hid (by unfold wordB; rw [hst, hd]; rfl)
      rw [hd] at cb
      clear hd hst
      go_enter Tryd.func65, Tryd.ntmps65
      go_wp2_with (go_at_call 28; refine (cb _).mono ?_; rintro e w1 ⟨rfl, x1⟩)
      go_ret
      exact ⟨ret_inj (bool_eq HW.out.symm), x1⟩
    | cons c t =>
      have HW : Hid (wordB f r = tagEnd c) := Lib.hid (by unfold wordB; rw [hst, hd]; rfl)
      rw [hd] at cb
      clear hd hst
      have hcl := c.toNat_lt
      have ci := fun W => indexByte_any [47, 62, 9, 10, 12, 32] c W
      have hge := indexByte_nonneg [47, 62, 9, 10, 12, 32] c
      rw [tagEnd_contains] at hge
      obtain ⟨z, hz⟩ : ∃ z, Lib.indexByte [47, 62, 9, 10, 12, 32] c = z := ⟨_, rfl⟩
      rw [hz] at ci hge
      have HG := Lib.hid hge
      clear hz hge
      go_enter Tryd.func65, Tryd.ntmps65
      go_wp2_with (first
        | (go_at_call 28; refine (cb _).mono ?_; rintro e w1 ⟨rfl, x1⟩)
        | (go_at_call 80; refine (ci _).mono ?_; rintro e w2 ⟨rfl, rfl⟩))
      go_ret
      exact ⟨ret_inj (bool_eq (by rw [HW.out]; exact HG.out)), x1⟩
set_option maxHeartbeats 2000000 in
theorem stop_any (s n : List UInt8) (w : World) (hs : s.length < 100000) (hn : n.length < 90000) :
    Calls Tryd.prog 42 #[.string ⟨⟨s⟩⟩, .string ⟨⟨n⟩⟩] w fun e w' => e = .returned (.int .i64 (stopP n s : Nat)) ∧ Ext w w' := by
  have cw := fun k W => word_any (60 :: 47 :: n) (s.drop k) W (by simp; omega) (by simp; omega)
  go_enter Tryd.func42, Tryd.ntmps42
  go_wp2_with fail
  go_loopw [8] (fun i wr => ∃ k : Nat, i = .int .i64 k ∧ k ≤ s.length ∧ Ext w wr ∧ Hid (stopP n s = k + stopP n (s.drop k))) (fun i _ => s.length - (intOf i).toNat)
  case atStart => exact ⟨0, rfl, by omega, Ext.refl _, Lib.hid (by simp)⟩
  case round =>
    obtain ⟨k, rfl, hk, hx, HR⟩ := hrel
    by_cases hlt : k < s.length
    · obtain ⟨c, hc⟩ : ∃ c, s[k] = c := ⟨_, rfl⟩
      have hdr := drop_one hlt
      rw [hc] at hdr
      have hcl := c.toNat_lt
      have k1 : (k : Int) < (s.length : Int) := by omega
      have e60 : ((c.toNat : Int) == 60) = (c == 60) := u8_beq (x := 60)
      have cwk := cw k
      by_cases h60 : c = 60
      · have f60 : ((c.toNat : Int) == 60) = true := by rw [e60, h60]; rfl
        cases hw : wordB (60 :: 47 :: n) (s.drop k) with
        | true =>
          have HF : Hid (stopP n s = k) := Lib.hid (by
            rw [HR.out, hdr]
            have hw2 : wordB (endN n) (c :: s.drop (k + 1)) = true := by rw [← hdr]; exact hw
            conv => lhs; unfold stopP
            rw [if_pos hw2]
            rfl)
          rw [hw] at cwk
          clear hw hdr h60 e60
          go_wp2_with (go_at_call 65; refine (cwk _).mono ?_; rintro e w1 ⟨rfl, x1⟩)
          go_ret
          exact ⟨ret_inj (int_eq (by rw [HF.out])), hx.trans x1⟩
        | false =>
          have HF : Hid (stopP n s = (k + 1) + stopP n (s.drop (k + 1))) := Lib.hid (by
            rw [HR.out, hdr]
            have hw2 : wordB (endN n) (c :: s.drop (k + 1)) = false := by rw [← hdr]; exact hw
            conv => lhs; unfold stopP
            rw [if_neg (by rw [hw2]; simp)]
            omega)
          rw [hw] at cwk
          clear hw hdr h60 e60
          go_wp2_with (go_at_call 65; refine (cwk _).mono ?_; rintro e w1 ⟨rfl, x1⟩)
          go_roundw
          case rel => exact ⟨k + 1, by go_num, by omega, hx.trans x1, HF⟩
          case measure => simp [intOf]; omega
      · have f60 : ((c.toNat : Int) == 60) = false := by rw [e60]; simpa using h60
        have HF : Hid (stopP n s = (k + 1) + stopP n (s.drop (k + 1))) := Lib.hid (by
          rw [HR.out, hdr]
          have hw2 : wordB (endN n) (c :: s.drop (k + 1)) = false := word_sign h60 _ _
          conv => lhs; unfold stopP
          rw [if_neg (by rw [hw2]; simp)]
          omega)
        clear hdr h60 e60 cwk
        go_wp2_with fail
        go_roundw
        case rel => exact ⟨k + 1, by go_num, by omega, hx, HF⟩
        case measure => simp [intOf]; omega
    · obtain rfl : k = s.length := by omega
      have HF : Hid (stopP n s = s.length) := Lib.hid (by rw [HR.out]; simp [stopP])
      go_wp2_with fail
      go_ret
      exact ⟨ret_inj (int_eq (by rw [HF.out])), hx⟩

/-! ### references read -/
set_option maxHeartbeats 4000000 in
theorem read_any (s : List UInt8) (w : World) (hm : MaxIs w) (hO : OthersIs w) (hg : 3 < w.heap.size) (hs : s.length < 100000) :
    Calls Tryd.prog 43 #[.string ⟨⟨s⟩⟩] w fun e w' => e = .returned (.string ⟨⟨refsL false s⟩⟩) ∧ Ext w w' := by
  go_enter Tryd.func43, Tryd.ntmps43
  go_wp2_with fail
  go_loopw [4] (fun i wr => ∃ (k : Nat) (acc : List UInt8), i = .int .i64 k ∧ k ≤ s.length ∧ acc.length ≤ 16 * k ∧ IsB w.heap.size acc wr ∧ Below w.heap.size w wr ∧ Hid (refsL false s = acc ++ refsL false (s.drop k))) (fun i _ => s.length - (intOf i).toNat)
  case atStart => exact ⟨0, [], rfl, by omega, by simp, IsB.fresh w, (Below.refl _ _).alloc (by simp) _, Lib.hid (by simp)⟩
  case round =>
    obtain ⟨k, acc, rfl, hk, ha, hI, hx, HR⟩ := hrel
    have hm1 := hm.ext hx
    have hO1 := hO.ext hx hg
    by_cases hlt : k < s.length
    · have cf := fun W hW => refsFind_any s k false W hs hW
      have hfi : findI s k false = findB s k false := by unfold findI; rw [if_neg (by omega), Int.toNat_natCast]
      rw [hfi] at cf
      have hfs := findB_short s k false
      obtain ⟨t, n, b, hf⟩ : ∃ t n b, findB s k false = (t, n, b) := ⟨_, _, _, rfl⟩
      rw [hf] at cf hfs
      cases b with
      | true =>
        obtain ⟨r1, r2, r3⟩ := refs_yes hlt hf
        have HF : Hid (refsL false s = (acc ++ t) ++ refsL false (s.drop n)) := Lib.hid (by rw [HR.out, r1, List.append_assoc])
        clear r1 hf hfi
        go_wp2_with (first
          | (go_at_call 66; refine (cf _ hO1).mono ?_; rintro e w1 ⟨rfl, x1⟩; have hI1 := hI.below x1; have hx1 := Ext.trans hx x1)
          | (go_at_call 50; refine (bld_writeString _ acc ⟨⟨t⟩⟩ _ hI1 (by simp; omega)).mono ?_; rintro e w2 ⟨rfl, g1, g2, g3⟩))
        go_roundw
        case rel => exact ⟨n, acc ++ t, rfl, by omega, by simp at *; omega, g1, Below.trans hx1 g2, HF⟩
        case measure => simp [intOf]; omega
      | false =>
        obtain ⟨c, hc⟩ : ∃ c, s[k] = c := ⟨_, rfl⟩
        have ht1 := take_one hlt
        have hbl := cleanB_len c
        rw [hc] at ht1
        have HF : Hid (refsL false s = (acc ++ cleanB c) ++ refsL false (s.drop (k + 1))) := Lib.hid (by rw [HR.out, refs_no hlt (by rw [hf]), hc, List.append_assoc])
        have hcl1 : cleanL [c] = cleanB c := by rw [cleanL_cons, cleanL_nil, List.append_nil]
        have cc := fun W hW => clean_any [c] W hW (by simp)
        rw [hcl1] at cc
        clear hf hfi hc hcl1
        go_wp2_with (first
          | (go_at_call 66; refine (cf _ hO1).mono ?_; rintro e w1 ⟨rfl, x1⟩; have hI1 := hI.below x1; have hx1 := Ext.trans hx x1; have hm2 := hm1.ext x1)
          | (go_at_call 31; refine (cc _ hm2).mono ?_; rintro e w3 ⟨rfl, x3⟩; have hI3 := hI1.below x3; have hx3 := Ext.trans hx1 x3)
          | (go_at_call 50; refine (bld_writeString _ acc ⟨⟨cleanB c⟩⟩ _ hI3 (by simp; omega)).mono ?_; rintro e w2 ⟨rfl, g1, g2, g3⟩))
        go_roundw
        case rel => exact ⟨k + 1, acc ++ cleanB c, by go_num, by omega, by simp; omega, g1, Below.trans hx3 g2, HF⟩
        case measure => simp [intOf]; omega
    · obtain rfl : k = s.length := by omega
      have HF : Hid (acc = refsL false s) := Lib.hid (by rw [HR.out]; simp [refsL_nil])
      go_wp2_with (go_at_call 48; refine (bld_string _ acc _ hI).mono ?_; rintro e w1 ⟨rfl, h1, h2, h3⟩)
      go_ret
      exact ⟨ret_inj (str_eq HF.out), Below.trans hx h2⟩
end Go.Proofs.YtbolajljfkjfaaaDoor
