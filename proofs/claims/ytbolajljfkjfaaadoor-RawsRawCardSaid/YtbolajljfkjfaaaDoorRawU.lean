/-
  What is proved: the reference's raw texts are the program's: contracts. Conditions: texts of less than 100000 bytes.
-/
import Derived.Test.YtbolajljfkjfaaaDoorRawR
import Derived.Test.YtbolajljfkjfaaaDoorRawG
import Derived.Test.YtbolajljfkjfaaaDoorRawQ
import Derived.Test.YtbolajljfkjfaaaDoorRefJ
namespace Go.Proofs.YtbolajljfkjfaaaDoor
open Go.RowKit

theorem stands_nat {f s : List UInt8} {k : Nat} {b : Bool} (h : standsB f (s.drop k) = b) (hs : s.length < 100000) (hf : f.length < 100000) (hk : k ≤ s.length) : ∀ w : World,
    Calls Tryd.prog 32 #[.string ⟨⟨s⟩⟩, .int .i64 k, .string ⟨⟨f⟩⟩] w fun e w' => e = .returned (.bool b) ∧ Ext w w' := fun w => by
  rw [← h, ← stI_nat f s k hk]
  exact standsR_any s f k w hs hf (by omega) (by omega)
theorem word_nat {f s : List UInt8} {k : Nat} {b : Bool} (h : wordB f (s.drop k) = b) (hs : s.length < 100000) (hf : f.length < 100000) (hk : k ≤ s.length) : ∀ w : World,
    Calls Tryd.prog 68 #[.string ⟨⟨s⟩⟩, .int .i64 k, .string ⟨⟨f⟩⟩] w fun e w' => e = .returned (.bool b) ∧ Ext w w' := fun w => by
  rw [← h]
  exact wordR_any s f k w hs hf hk
/-- A round of the reference's search. -/
theorem unt_end (n : List UInt8) (script : Bool) {st d : Nat} {x : List UInt8} {c : UInt8} {t : List UInt8} (hx : x = c :: t) (hd : st < 2) (h : wordB (60 :: 47 :: n) x = true) : untR n script st d x = 0 := by
  subst hx
  have h2 : wordB (endN n) (c :: t) = true := h
  unfold untR
  rw [if_pos ⟨hd, h2⟩]
theorem unt_plain (n : List UInt8) {st d : Nat} {x : List UInt8} {c : UInt8} {t : List UInt8} (hx : x = c :: t) (h : wordB (60 :: 47 :: n) x = false) : untR n false st d x = untR n false st d t + 1 := by
  subst hx
  have h2 : wordB (endN n) (c :: t) = false := h
  conv => lhs; unfold untR
  rw [if_neg (by rw [h2]; simp), if_pos rfl]
theorem unt_go (n : List UInt8) {st d : Nat} {x : List UInt8} {c : UInt8} {t : List UInt8} (hx : x = c :: t) (h : st = 2 ∨ wordB (60 :: 47 :: n) x = false) : untR n true st d x =
    (let s1 := if c = 62 ∧ 2 ≤ d ∧ 0 < st then 0 else st
      let s2 := if s1 = 1 ∧ wordB scO x = true then 2 else if s1 = 2 ∧ wordB scE x = true then 1 else if s1 = 0 ∧ standsB openC x = true then 1 else s1
      untR n true s2 (if c = 45 then d + 1 else 0) t + 1) := by
  subst hx
  have h2 : ¬ (st < 2 ∧ wordB (endN n) (c :: t) = true) := by
    rintro ⟨h3, h4⟩
    rcases h with h | h
    · omega
    · rw [show wordB (60 :: 47 :: n) (c :: t) = true from h4] at h
      cases h
  conv => lhs; unfold untR
  rw [if_neg h2, if_neg (by decide)]
set_option maxRecDepth 100000 in
set_option maxHeartbeats 8000000 in
theorem until_plain (s n : List UInt8) (k0 : Nat) (w : World) (hs : s.length < 100000) (hn : n.length < 90000) (hk0 : k0 ≤ s.length) :
    Calls Tryd.prog 45 #[.string ⟨⟨s⟩⟩, .int .i64 k0, .string ⟨⟨n⟩⟩, .bool false] w fun e w' => e = .returned (.int .i64 (k0 + stopP n (s.drop k0) : Nat)) ∧ Ext w w' := by
  go_enter Tryd.func45, Tryd.ntmps45
  go_wp2_with fail
  go_loopw [9, 10, 11] (fun v u i wr => ∃ k : Nat, v = .int .i64 0 ∧ u = .int .i64 0 ∧ i = .int .i64 k ∧ k ≤ s.length ∧ Ext w wr ∧ Hid (k0 + stopP n (s.drop k0) = k + untR n false 0 0 (s.drop k))) (fun _ _ i _ => s.length - (intOf i).toNat)
  case atStart => exact ⟨k0, rfl, rfl, rfl, hk0, Ext.refl _, Lib.hid (by rw [unt_stop n _ 0 0 (by omega)])⟩
  case round =>
    obtain ⟨k, rfl, rfl, rfl, hk, hx, HR⟩ := hrel
    by_cases hlt : k < s.length
    · have hdr := drop_one hlt
      have k1 : (k : Int) < (s.length : Int) := by omega
      obtain ⟨b, hb⟩ : ∃ b, wordB (60 :: 47 :: n) (s.drop k) = b := ⟨_, rfl⟩
      have cw := word_nat hb hs (by simp; omega) hk
      cases b with
      | true =>
        have HF : Hid (k0 + stopP n (s.drop k0) = k) := Lib.hid (by rw [HR.out, unt_end n false hdr (by omega) hb]; rfl)
        clear hb hdr HR
        go_wp2_with (go_at_call 68; refine (cw _).mono ?_; rintro e w1 ⟨rfl, x1⟩)
        go_ret
        exact ⟨ret_inj (int_eq (by rw [HF.out])), hx.trans x1⟩
      | false =>
        have HF : Hid (k0 + stopP n (s.drop k0) = (k + 1) + untR n false 0 0 (s.drop (k + 1))) := Lib.hid (by rw [HR.out, unt_plain n hdr hb]; omega)
        clear hb hdr HR
        go_wp2_with (go_at_call 68; refine (cw _).mono ?_; rintro e w1 ⟨rfl, x1⟩)
        go_roundw
        case rel => exact ⟨k + 1, rfl, rfl, by go_num, by omega, hx.trans x1, HF⟩
        case measure => simp [intOf]; omega
    · obtain rfl : k = s.length := by omega
      have HF : Hid (k0 + stopP n (s.drop k0) = s.length) := Lib.hid (by rw [HR.out]; simp [untR])
      go_wp2_with fail
      go_ret
      exact ⟨ret_inj (int_eq (by rw [HF.out])), hx⟩
set_option maxRecDepth 100000 in
set_option maxHeartbeats 32000000 in
theorem until_script (s n : List UInt8) (k0 : Nat) (w : World) (hs : s.length < 100000) (hn : n.length < 90000) (hk0 : k0 ≤ s.length) :
    Calls Tryd.prog 45 #[.string ⟨⟨s⟩⟩, .int .i64 k0, .string ⟨⟨n⟩⟩, .bool true] w fun e w' => e = .returned (.int .i64 (k0 + haltP n 0 (s.drop k0) : Nat)) ∧ Ext w w' := by
  go_enter Tryd.func45, Tryd.ntmps45
  go_wp2_with fail
  go_loopw [9, 10, 11] (fun v u i wr => ∃ st d k : Nat, v = .int .i64 st ∧ u = .int .i64 d ∧ i = .int .i64 k ∧ k ≤ s.length ∧ d ≤ k ∧ st ≤ 2 ∧ Ext w wr ∧ Hid (k0 + haltP n 0 (s.drop k0) = k + untR n true st d (s.drop k))) (fun _ _ i _ => s.length - (intOf i).toNat)
  case atStart => exact ⟨0, 0, k0, rfl, rfl, rfl, hk0, by omega, by omega, Ext.refl _, Lib.hid (by rw [(unt_halt n _ _ (Nat.le_refl _)).1 0])⟩
  case round =>
    obtain ⟨st, d, k, rfl, rfl, rfl, hk, hdk, hst, hx, HR⟩ := hrel
    by_cases hlt : k < s.length
    · obtain ⟨c, hc⟩ : ∃ c, s[k] = c := ⟨_, rfl⟩
      have hcl := c.toNat_lt
      have hdr := drop_one hlt
      rw [hc] at hdr
      have k1 : (k : Int) < (s.length : Int) := by omega
      obtain ⟨bw, hbw⟩ : ∃ b, wordB (60 :: 47 :: n) (s.drop k) = b := ⟨_, rfl⟩
      obtain ⟨bo, hbo⟩ : ∃ b, wordB [60, 115, 99, 114, 105, 112, 116] (s.drop k) = b := ⟨_, rfl⟩
      obtain ⟨be, hbe⟩ : ∃ b, wordB [60, 47, 115, 99, 114, 105, 112, 116] (s.drop k) = b := ⟨_, rfl⟩
      obtain ⟨bp, hbp⟩ : ∃ b, standsB [60, 33, 45, 45] (s.drop k) = b := ⟨_, rfl⟩
      have cw := word_nat hbw hs (by simp; omega) hk
      have co := word_nat hbo hs (by decide) hk
      have ce := word_nat hbe hs (by decide) hk
      have cp := stands_nat hbp hs (by decide) hk
      have hgo := unt_go n (st := st) (d := d) hdr
      have hep := unt_end n true (st := st) (d := d) hdr
      rw [show wordB scO (s.drop k) = bo from hbo, show wordB scE (s.drop k) = be from hbe, show standsB openC (s.drop k) = bp from hbp, hbw] at hgo
      rw [hbw] at hep
      have HG := Lib.hid hgo
      have HP := Lib.hid hep
      have HC := Lib.hid hc
      clear hgo hep hbw hbo hbe hbp hdr
      have e45 : ((c.toNat : Int) == 45) = (c == 45) := u8_beq (x := 45)
      have e62 : ((c.toNat : Int) == 62) = (c == 62) := u8_beq (x := 62)
      have hst3 : st = 0 ∨ st = 1 ∨ st = 2 := by omega
      rcases hst3 with rfl | rfl | rfl
      · cases bw with
        | true =>
          have HF : Hid (k0 + haltP n 0 (s.drop k0) = k) := Lib.hid (by rw [HR.out, HP.out (by decide) rfl]; rfl)
          clear HG HP HR HC e45 e62
          go_wp2_with (go_at_call 68; (with_reducible refine (cw _).mono ?_); rintro e w1 ⟨rfl, x1⟩; have y1 := hx.trans x1)
          go_ret
          exact ⟨ret_inj (int_eq (by rw [HF.out])), y1⟩
        | false =>
          by_cases h45 : c = 45
          · have f45 : ((c.toNat : Int) == 45) = true := by rw [e45, h45]; rfl
            cases bp with
            | true =>
              have HF : Hid (k0 + haltP n 0 (s.drop k0) = (k + 1) + untR n true 1 (d + 1) (s.drop (k + 1))) := Lib.hid (by
                have hg := HG.out (.inr rfl)
                simp [h45] at hg
                rw [HR.out, hg]
                omega)
              clear HG HP HR HC e45 e62 h45
              go_wp2_with (first | (go_at_call 68; (with_reducible refine (cw _).mono ?_); rintro e w1 ⟨rfl, x1⟩; have y1 := hx.trans x1) | (go_at_call 32; refine (cp _).mono ?_; rintro e w2 ⟨rfl, x2⟩; have y2 := y1.trans x2))
              go_roundw
              case rel => exact ⟨1, d + 1, k + 1, rfl, by first | rfl | go_num, by go_num, by omega, by omega, by omega, y2, HF⟩
              case measure => simp [intOf]; omega
            | false =>
              have HF : Hid (k0 + haltP n 0 (s.drop k0) = (k + 1) + untR n true 0 (d + 1) (s.drop (k + 1))) := Lib.hid (by
                have hg := HG.out (.inr rfl)
                simp [h45] at hg
                rw [HR.out, hg]
                omega)
              clear HG HP HR HC e45 e62 h45
              go_wp2_with (first | (go_at_call 68; (with_reducible refine (cw _).mono ?_); rintro e w1 ⟨rfl, x1⟩; have y1 := hx.trans x1) | (go_at_call 32; refine (cp _).mono ?_; rintro e w2 ⟨rfl, x2⟩; have y2 := y1.trans x2))
              go_roundw
              case rel => exact ⟨0, d + 1, k + 1, rfl, by first | rfl | go_num, by go_num, by omega, by omega, by omega, y2, HF⟩
              case measure => simp [intOf]; omega
          · have f45 : ((c.toNat : Int) == 45) = false := by rw [e45]; simpa using h45
            by_cases h62 : c = 62
            · have f62 : ((c.toNat : Int) == 62) = true := by rw [e62, h62]; rfl
              clear h45
              by_cases hdd : 2 ≤ d
              · have fd : (2 : Int) ≤ (d : Int) := by omega
                cases bp with
                | true =>
                  have HF : Hid (k0 + haltP n 0 (s.drop k0) = (k + 1) + untR n true 1 (0) (s.drop (k + 1))) := Lib.hid (by
                    have hg := HG.out (.inr rfl)
                    simp [h62, hdd] at hg
                    rw [HR.out, hg]
                    omega)
                  clear HG HP HR HC e45 e62 h62
                  go_wp2_with (first | (go_at_call 68; (with_reducible refine (cw _).mono ?_); rintro e w1 ⟨rfl, x1⟩; have y1 := hx.trans x1) | (go_at_call 32; refine (cp _).mono ?_; rintro e w2 ⟨rfl, x2⟩; have y2 := y1.trans x2))
                  go_roundw
                  case rel => exact ⟨1, 0, k + 1, rfl, by first | rfl | go_num, by go_num, by omega, by omega, by omega, y2, HF⟩
                  case measure => simp [intOf]; omega
                | false =>
                  have HF : Hid (k0 + haltP n 0 (s.drop k0) = (k + 1) + untR n true 0 (0) (s.drop (k + 1))) := Lib.hid (by
                    have hg := HG.out (.inr rfl)
                    simp [h62, hdd] at hg
                    rw [HR.out, hg]
                    omega)
                  clear HG HP HR HC e45 e62 h62
                  go_wp2_with (first | (go_at_call 68; (with_reducible refine (cw _).mono ?_); rintro e w1 ⟨rfl, x1⟩; have y1 := hx.trans x1) | (go_at_call 32; refine (cp _).mono ?_; rintro e w2 ⟨rfl, x2⟩; have y2 := y1.trans x2))
                  go_roundw
                  case rel => exact ⟨0, 0, k + 1, rfl, by first | rfl | go_num, by go_num, by omega, by omega, by omega, y2, HF⟩
                  case measure => simp [intOf]; omega
              · have fd : ¬ (2 : Int) ≤ (d : Int) := by omega
                cases bp with
                | true =>
                  have HF : Hid (k0 + haltP n 0 (s.drop k0) = (k + 1) + untR n true 1 (0) (s.drop (k + 1))) := Lib.hid (by
                    have hg := HG.out (.inr rfl)
                    simp [h62, hdd] at hg
                    rw [HR.out, hg]
                    omega)
                  clear HG HP HR HC e45 e62 h62
                  go_wp2_with (first | (go_at_call 68; (with_reducible refine (cw _).mono ?_); rintro e w1 ⟨rfl, x1⟩; have y1 := hx.trans x1) | (go_at_call 32; refine (cp _).mono ?_; rintro e w2 ⟨rfl, x2⟩; have y2 := y1.trans x2))
                  go_roundw
                  case rel => exact ⟨1, 0, k + 1, rfl, by first | rfl | go_num, by go_num, by omega, by omega, by omega, y2, HF⟩
                  case measure => simp [intOf]; omega
                | false =>
                  have HF : Hid (k0 + haltP n 0 (s.drop k0) = (k + 1) + untR n true 0 (0) (s.drop (k + 1))) := Lib.hid (by
                    have hg := HG.out (.inr rfl)
                    simp [h62, hdd] at hg
                    rw [HR.out, hg]
                    omega)
                  clear HG HP HR HC e45 e62 h62
                  go_wp2_with (first | (go_at_call 68; (with_reducible refine (cw _).mono ?_); rintro e w1 ⟨rfl, x1⟩; have y1 := hx.trans x1) | (go_at_call 32; refine (cp _).mono ?_; rintro e w2 ⟨rfl, x2⟩; have y2 := y1.trans x2))
                  go_roundw
                  case rel => exact ⟨0, 0, k + 1, rfl, by first | rfl | go_num, by go_num, by omega, by omega, by omega, y2, HF⟩
                  case measure => simp [intOf]; omega
            · have f62 : ((c.toNat : Int) == 62) = false := by rw [e62]; simpa using h62
              cases bp with
              | true =>
                have HF : Hid (k0 + haltP n 0 (s.drop k0) = (k + 1) + untR n true 1 (0) (s.drop (k + 1))) := Lib.hid (by
                  have hg := HG.out (.inr rfl)
                  simp [h45, h62] at hg
                  rw [HR.out, hg]
                  omega)
                clear HG HP HR HC e45 e62 h45 h62
                go_wp2_with (first | (go_at_call 68; (with_reducible refine (cw _).mono ?_); rintro e w1 ⟨rfl, x1⟩; have y1 := hx.trans x1) | (go_at_call 32; refine (cp _).mono ?_; rintro e w2 ⟨rfl, x2⟩; have y2 := y1.trans x2))
                go_roundw
                case rel => exact ⟨1, 0, k + 1, rfl, by first | rfl | go_num, by go_num, by omega, by omega, by omega, y2, HF⟩
                case measure => simp [intOf]; omega
              | false =>
                have HF : Hid (k0 + haltP n 0 (s.drop k0) = (k + 1) + untR n true 0 (0) (s.drop (k + 1))) := Lib.hid (by
                  have hg := HG.out (.inr rfl)
                  simp [h45, h62] at hg
                  rw [HR.out, hg]
                  omega)
                clear HG HP HR HC e45 e62 h45 h62
                go_wp2_with (first | (go_at_call 68; (with_reducible refine (cw _).mono ?_); rintro e w1 ⟨rfl, x1⟩; have y1 := hx.trans x1) | (go_at_call 32; refine (cp _).mono ?_; rintro e w2 ⟨rfl, x2⟩; have y2 := y1.trans x2))
                go_roundw
                case rel => exact ⟨0, 0, k + 1, rfl, by first | rfl | go_num, by go_num, by omega, by omega, by omega, y2, HF⟩
                case measure => simp [intOf]; omega
      · cases bw with
        | true =>
          have HF : Hid (k0 + haltP n 0 (s.drop k0) = k) := Lib.hid (by rw [HR.out, HP.out (by decide) rfl]; rfl)
          clear HG HP HR HC e45 e62
          go_wp2_with (go_at_call 68; (with_reducible refine (cw _).mono ?_); rintro e w1 ⟨rfl, x1⟩; have y1 := hx.trans x1)
          go_ret
          exact ⟨ret_inj (int_eq (by rw [HF.out])), y1⟩
        | false =>
          by_cases h45 : c = 45
          · have f45 : ((c.toNat : Int) == 45) = true := by rw [e45, h45]; rfl
            cases bo with
            | true =>
              have HF : Hid (k0 + haltP n 0 (s.drop k0) = (k + 1) + untR n true 2 (d + 1) (s.drop (k + 1))) := Lib.hid (by
                have hg := HG.out (.inr rfl)
                simp [h45] at hg
                rw [HR.out, hg]
                omega)
              clear HG HP HR HC e45 e62 h45
              go_wp2_with (first | (go_at_call 68; (with_reducible refine (cw _).mono ?_); rintro e w1 ⟨rfl, x1⟩; have y1 := hx.trans x1) | (go_at_call 68; (with_reducible refine (co _).mono ?_); rintro e w2 ⟨rfl, x2⟩; have y2 := y1.trans x2))
              go_roundw
              case rel => exact ⟨2, d + 1, k + 1, rfl, by first | rfl | go_num, by go_num, by omega, by omega, by omega, y2, HF⟩
              case measure => simp [intOf]; omega
            | false =>
              have HF : Hid (k0 + haltP n 0 (s.drop k0) = (k + 1) + untR n true 1 (d + 1) (s.drop (k + 1))) := Lib.hid (by
                have hg := HG.out (.inr rfl)
                simp [h45] at hg
                rw [HR.out, hg]
                omega)
              clear HG HP HR HC e45 e62 h45
              go_wp2_with (first | (go_at_call 68; (with_reducible refine (cw _).mono ?_); rintro e w1 ⟨rfl, x1⟩; have y1 := hx.trans x1) | (go_at_call 68; (with_reducible refine (co _).mono ?_); rintro e w2 ⟨rfl, x2⟩; have y2 := y1.trans x2))
              go_roundw
              case rel => exact ⟨1, d + 1, k + 1, rfl, by first | rfl | go_num, by go_num, by omega, by omega, by omega, y2, HF⟩
              case measure => simp [intOf]; omega
          · have f45 : ((c.toNat : Int) == 45) = false := by rw [e45]; simpa using h45
            by_cases h62 : c = 62
            · have f62 : ((c.toNat : Int) == 62) = true := by rw [e62, h62]; rfl
              clear h45
              by_cases hdd : 2 ≤ d
              · have fd : (2 : Int) ≤ (d : Int) := by omega
                cases bp with
                | true =>
                  have HF : Hid (k0 + haltP n 0 (s.drop k0) = (k + 1) + untR n true 1 (0) (s.drop (k + 1))) := Lib.hid (by
                    have hg := HG.out (.inr rfl)
                    simp [h62, hdd] at hg
                    rw [HR.out, hg]
                    omega)
                  clear HG HP HR HC e45 e62 h62
                  go_wp2_with (first | (go_at_call 68; (with_reducible refine (cw _).mono ?_); rintro e w1 ⟨rfl, x1⟩; have y1 := hx.trans x1) | (go_at_call 32; refine (cp _).mono ?_; rintro e w2 ⟨rfl, x2⟩; have y2 := y1.trans x2))
                  go_roundw
                  case rel => exact ⟨1, 0, k + 1, rfl, by first | rfl | go_num, by go_num, by omega, by omega, by omega, y2, HF⟩
                  case measure => simp [intOf]; omega
                | false =>
                  have HF : Hid (k0 + haltP n 0 (s.drop k0) = (k + 1) + untR n true 0 (0) (s.drop (k + 1))) := Lib.hid (by
                    have hg := HG.out (.inr rfl)
                    simp [h62, hdd] at hg
                    rw [HR.out, hg]
                    omega)
                  clear HG HP HR HC e45 e62 h62
                  go_wp2_with (first | (go_at_call 68; (with_reducible refine (cw _).mono ?_); rintro e w1 ⟨rfl, x1⟩; have y1 := hx.trans x1) | (go_at_call 32; refine (cp _).mono ?_; rintro e w2 ⟨rfl, x2⟩; have y2 := y1.trans x2))
                  go_roundw
                  case rel => exact ⟨0, 0, k + 1, rfl, by first | rfl | go_num, by go_num, by omega, by omega, by omega, y2, HF⟩
                  case measure => simp [intOf]; omega
              · have fd : ¬ (2 : Int) ≤ (d : Int) := by omega
                cases bo with
                | true =>
                  have HF : Hid (k0 + haltP n 0 (s.drop k0) = (k + 1) + untR n true 2 (0) (s.drop (k + 1))) := Lib.hid (by
                    have hg := HG.out (.inr rfl)
                    simp [h62, hdd] at hg
                    rw [HR.out, hg]
                    omega)
                  clear HG HP HR HC e45 e62 h62
                  go_wp2_with (first | (go_at_call 68; (with_reducible refine (cw _).mono ?_); rintro e w1 ⟨rfl, x1⟩; have y1 := hx.trans x1) | (go_at_call 68; (with_reducible refine (co _).mono ?_); rintro e w2 ⟨rfl, x2⟩; have y2 := y1.trans x2))
                  go_roundw
                  case rel => exact ⟨2, 0, k + 1, rfl, by first | rfl | go_num, by go_num, by omega, by omega, by omega, y2, HF⟩
                  case measure => simp [intOf]; omega
                | false =>
                  have HF : Hid (k0 + haltP n 0 (s.drop k0) = (k + 1) + untR n true 1 (0) (s.drop (k + 1))) := Lib.hid (by
                    have hg := HG.out (.inr rfl)
                    simp [h62, hdd] at hg
                    rw [HR.out, hg]
                    omega)
                  clear HG HP HR HC e45 e62 h62
                  go_wp2_with (first | (go_at_call 68; (with_reducible refine (cw _).mono ?_); rintro e w1 ⟨rfl, x1⟩; have y1 := hx.trans x1) | (go_at_call 68; (with_reducible refine (co _).mono ?_); rintro e w2 ⟨rfl, x2⟩; have y2 := y1.trans x2))
                  go_roundw
                  case rel => exact ⟨1, 0, k + 1, rfl, by first | rfl | go_num, by go_num, by omega, by omega, by omega, y2, HF⟩
                  case measure => simp [intOf]; omega
            · have f62 : ((c.toNat : Int) == 62) = false := by rw [e62]; simpa using h62
              cases bo with
              | true =>
                have HF : Hid (k0 + haltP n 0 (s.drop k0) = (k + 1) + untR n true 2 (0) (s.drop (k + 1))) := Lib.hid (by
                  have hg := HG.out (.inr rfl)
                  simp [h45, h62] at hg
                  rw [HR.out, hg]
                  omega)
                clear HG HP HR HC e45 e62 h45 h62
                go_wp2_with (first | (go_at_call 68; (with_reducible refine (cw _).mono ?_); rintro e w1 ⟨rfl, x1⟩; have y1 := hx.trans x1) | (go_at_call 68; (with_reducible refine (co _).mono ?_); rintro e w2 ⟨rfl, x2⟩; have y2 := y1.trans x2))
                go_roundw
                case rel => exact ⟨2, 0, k + 1, rfl, by first | rfl | go_num, by go_num, by omega, by omega, by omega, y2, HF⟩
                case measure => simp [intOf]; omega
              | false =>
                have HF : Hid (k0 + haltP n 0 (s.drop k0) = (k + 1) + untR n true 1 (0) (s.drop (k + 1))) := Lib.hid (by
                  have hg := HG.out (.inr rfl)
                  simp [h45, h62] at hg
                  rw [HR.out, hg]
                  omega)
                clear HG HP HR HC e45 e62 h45 h62
                go_wp2_with (first | (go_at_call 68; (with_reducible refine (cw _).mono ?_); rintro e w1 ⟨rfl, x1⟩; have y1 := hx.trans x1) | (go_at_call 68; (with_reducible refine (co _).mono ?_); rintro e w2 ⟨rfl, x2⟩; have y2 := y1.trans x2))
                go_roundw
                case rel => exact ⟨1, 0, k + 1, rfl, by first | rfl | go_num, by go_num, by omega, by omega, by omega, y2, HF⟩
                case measure => simp [intOf]; omega
      · by_cases h45 : c = 45
        · have f45 : ((c.toNat : Int) == 45) = true := by rw [e45, h45]; rfl
          cases be with
          | true =>
            have HF : Hid (k0 + haltP n 0 (s.drop k0) = (k + 1) + untR n true 1 (d + 1) (s.drop (k + 1))) := Lib.hid (by
              have hg := HG.out (.inl rfl)
              simp [h45] at hg
              rw [HR.out, hg]
              omega)
            clear HG HP HR HC e45 e62 h45
            go_wp2_with (go_at_call 68; (with_reducible refine (ce _).mono ?_); rintro e w2 ⟨rfl, x2⟩; have y2 := hx.trans x2)
            go_roundw
            case rel => exact ⟨1, d + 1, k + 1, rfl, by first | rfl | go_num, by go_num, by omega, by omega, by omega, y2, HF⟩
            case measure => simp [intOf]; omega
          | false =>
            have HF : Hid (k0 + haltP n 0 (s.drop k0) = (k + 1) + untR n true 2 (d + 1) (s.drop (k + 1))) := Lib.hid (by
              have hg := HG.out (.inl rfl)
              simp [h45] at hg
              rw [HR.out, hg]
              omega)
            clear HG HP HR HC e45 e62 h45
            go_wp2_with (go_at_call 68; (with_reducible refine (ce _).mono ?_); rintro e w2 ⟨rfl, x2⟩; have y2 := hx.trans x2)
            go_roundw
            case rel => exact ⟨2, d + 1, k + 1, rfl, by first | rfl | go_num, by go_num, by omega, by omega, by omega, y2, HF⟩
            case measure => simp [intOf]; omega
        · have f45 : ((c.toNat : Int) == 45) = false := by rw [e45]; simpa using h45
          by_cases h62 : c = 62
          · have f62 : ((c.toNat : Int) == 62) = true := by rw [e62, h62]; rfl
            clear h45
            by_cases hdd : 2 ≤ d
            · have fd : (2 : Int) ≤ (d : Int) := by omega
              cases bp with
              | true =>
                have HF : Hid (k0 + haltP n 0 (s.drop k0) = (k + 1) + untR n true 1 (0) (s.drop (k + 1))) := Lib.hid (by
                  have hg := HG.out (.inl rfl)
                  simp [h62, hdd] at hg
                  rw [HR.out, hg]
                  omega)
                clear HG HP HR HC e45 e62 h62
                go_wp2_with (go_at_call 32; refine (cp _).mono ?_; rintro e w2 ⟨rfl, x2⟩; have y2 := hx.trans x2)
                go_roundw
                case rel => exact ⟨1, 0, k + 1, rfl, by first | rfl | go_num, by go_num, by omega, by omega, by omega, y2, HF⟩
                case measure => simp [intOf]; omega
              | false =>
                have HF : Hid (k0 + haltP n 0 (s.drop k0) = (k + 1) + untR n true 0 (0) (s.drop (k + 1))) := Lib.hid (by
                  have hg := HG.out (.inl rfl)
                  simp [h62, hdd] at hg
                  rw [HR.out, hg]
                  omega)
                clear HG HP HR HC e45 e62 h62
                go_wp2_with (go_at_call 32; refine (cp _).mono ?_; rintro e w2 ⟨rfl, x2⟩; have y2 := hx.trans x2)
                go_roundw
                case rel => exact ⟨0, 0, k + 1, rfl, by first | rfl | go_num, by go_num, by omega, by omega, by omega, y2, HF⟩
                case measure => simp [intOf]; omega
            · have fd : ¬ (2 : Int) ≤ (d : Int) := by omega
              cases be with
              | true =>
                have HF : Hid (k0 + haltP n 0 (s.drop k0) = (k + 1) + untR n true 1 (0) (s.drop (k + 1))) := Lib.hid (by
                  have hg := HG.out (.inl rfl)
                  simp [h62, hdd] at hg
                  rw [HR.out, hg]
                  omega)
                clear HG HP HR HC e45 e62 h62
                go_wp2_with (go_at_call 68; (with_reducible refine (ce _).mono ?_); rintro e w2 ⟨rfl, x2⟩; have y2 := hx.trans x2)
                go_roundw
                case rel => exact ⟨1, 0, k + 1, rfl, by first | rfl | go_num, by go_num, by omega, by omega, by omega, y2, HF⟩
                case measure => simp [intOf]; omega
              | false =>
                have HF : Hid (k0 + haltP n 0 (s.drop k0) = (k + 1) + untR n true 2 (0) (s.drop (k + 1))) := Lib.hid (by
                  have hg := HG.out (.inl rfl)
                  simp [h62, hdd] at hg
                  rw [HR.out, hg]
                  omega)
                clear HG HP HR HC e45 e62 h62
                go_wp2_with (go_at_call 68; (with_reducible refine (ce _).mono ?_); rintro e w2 ⟨rfl, x2⟩; have y2 := hx.trans x2)
                go_roundw
                case rel => exact ⟨2, 0, k + 1, rfl, by first | rfl | go_num, by go_num, by omega, by omega, by omega, y2, HF⟩
                case measure => simp [intOf]; omega
          · have f62 : ((c.toNat : Int) == 62) = false := by rw [e62]; simpa using h62
            cases be with
            | true =>
              have HF : Hid (k0 + haltP n 0 (s.drop k0) = (k + 1) + untR n true 1 (0) (s.drop (k + 1))) := Lib.hid (by
                have hg := HG.out (.inl rfl)
                simp [h45, h62] at hg
                rw [HR.out, hg]
                omega)
              clear HG HP HR HC e45 e62 h45 h62
              go_wp2_with (go_at_call 68; (with_reducible refine (ce _).mono ?_); rintro e w2 ⟨rfl, x2⟩; have y2 := hx.trans x2)
              go_roundw
              case rel => exact ⟨1, 0, k + 1, rfl, by first | rfl | go_num, by go_num, by omega, by omega, by omega, y2, HF⟩
              case measure => simp [intOf]; omega
            | false =>
              have HF : Hid (k0 + haltP n 0 (s.drop k0) = (k + 1) + untR n true 2 (0) (s.drop (k + 1))) := Lib.hid (by
                have hg := HG.out (.inl rfl)
                simp [h45, h62] at hg
                rw [HR.out, hg]
                omega)
              clear HG HP HR HC e45 e62 h45 h62
              go_wp2_with (go_at_call 68; (with_reducible refine (ce _).mono ?_); rintro e w2 ⟨rfl, x2⟩; have y2 := hx.trans x2)
              go_roundw
              case rel => exact ⟨2, 0, k + 1, rfl, by first | rfl | go_num, by go_num, by omega, by omega, by omega, y2, HF⟩
              case measure => simp [intOf]; omega
    · obtain rfl : k = s.length := by omega
      have HF : Hid (k0 + haltP n 0 (s.drop k0) = s.length) := Lib.hid (by rw [HR.out]; simp [untR])
      go_wp2_with fail
      go_ret
      exact ⟨ret_inj (int_eq (by rw [HF.out])), hx⟩
end Go.Proofs.YtbolajljfkjfaaaDoor

