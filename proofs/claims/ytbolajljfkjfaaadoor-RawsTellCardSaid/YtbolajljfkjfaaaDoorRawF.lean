/-
  What is proved: where a script ends, raw texts, as the program reads them: contracts. Conditions: texts of less than 100000 bytes; the library's variable holds an integer, the program's table what its text lays.
-/
import Derived.Test.YtbolajljfkjfaaaDoorRawE
namespace Go.Proofs.YtbolajljfkjfaaaDoor
open Go.RowKit

theorem halt_end (n : List UInt8) {d : Nat} {x : List UInt8} {c : UInt8} {t : List UInt8} (hx : x = c :: t) (hd : d ≠ 2) (h : wordB (60 :: 47 :: n) x = true) : haltP n d x = 0 := by
  subst hx
  have h2 : wordB (endN n) (c :: t) = true := h
  unfold haltP
  rw [if_pos ⟨hd, h2⟩]
def haltT (n : List UInt8) : List UInt8 → Nat
  | [] => 1
  | _ :: u => haltP n 1 u + 2
theorem halt_go (n : List UInt8) {d : Nat} {x : List UInt8} {c : UInt8} {t : List UInt8} (hx : x = c :: t) (h : d = 2 ∨ wordB (60 :: 47 :: n) x = false) : haltP n d x =
    if d = 0 ∧ openC.isPrefixOf x = true then haltT n t
    else if d ≠ 0 ∧ shutC.isPrefixOf x = true then haltP n 0 t + 1
    else if d = 1 ∧ wordB scO x = true then haltP n 2 t + 1
    else if d = 2 ∧ wordB scE x = true then haltP n 1 t + 1
    else haltP n d t + 1 := by
  subst hx
  have h2 : ¬ (d ≠ 2 ∧ wordB (endN n) (c :: t) = true) := by
    rintro ⟨h3, h4⟩
    rcases h with h | h
    · exact h3 h
    · rw [show wordB (60 :: 47 :: n) (c :: t) = true from h4] at h
      cases h
  conv => lhs; unfold haltP
  rw [if_neg h2]
  cases t <;> rfl
theorem open_long {x : List UInt8} (h : [60, 33, 45, 45].isPrefixOf x = true) : 4 ≤ x.length := (List.isPrefixOf_iff_prefix.1 h).length_le
set_option maxRecDepth 100000 in
set_option maxHeartbeats 16000000 in
theorem halt_any (s n : List UInt8) (w : World) (hs : s.length < 100000) (hn : n.length < 90000) :
    Calls Tryd.prog 44 #[.string ⟨⟨s⟩⟩, .string ⟨⟨n⟩⟩] w fun e w' => e = .returned (.int .i64 (haltP n 0 s : Nat)) ∧ Ext w w' := by
  have cw := fun k W => word_any (60 :: 47 :: n) (s.drop k) W (by simp; omega) (by simp; omega)
  have co := fun k W => word_any [60, 115, 99, 114, 105, 112, 116] (s.drop k) W (by simp; omega) (by decide)
  have ce := fun k W => word_any [60, 47, 115, 99, 114, 105, 112, 116] (s.drop k) W (by simp; omega) (by decide)
  have cp := fun k W => hasPrefix_any (s.drop k) [60, 33, 45, 45] W
  have cq := fun k W => hasPrefix_any (s.drop k) [45, 45, 62] W
  go_enter Tryd.func44, Tryd.ntmps44
  go_wp2_with fail
  go_step3
  go_wp2_with fail
  go_step3
  go_wp2_with fail
  go_loopw [5, 6] (fun v i wr => ∃ d k : Nat, v = .int .i64 d ∧ i = .int .i64 k ∧ k ≤ s.length ∧ d ≤ 2 ∧ Ext w wr ∧ Hid (haltP n 0 s = k + haltP n d (s.drop k))) (fun _ i _ => s.length - (intOf i).toNat)
  case atStart => exact ⟨0, 0, rfl, rfl, by omega, by omega, Ext.refl _, Lib.hid (by simp)⟩
  case round =>
    obtain ⟨d, k, rfl, rfl, hk, hd, hx, HR⟩ := hrel
    by_cases hlt : k < s.length
    · obtain ⟨c, hc⟩ : ∃ c, s[k] = c := ⟨_, rfl⟩
      have hdr := drop_one hlt
      rw [hc] at hdr
      have k1 : (k : Int) < (s.length : Int) := by omega
      have cwk := cw k
      have cok := co k
      have cek := ce k
      have cpk := cp k
      have cqk := cq k
      obtain ⟨bw, hbw⟩ : ∃ b, wordB (60 :: 47 :: n) (s.drop k) = b := ⟨_, rfl⟩
      obtain ⟨bo, hbo⟩ : ∃ b, wordB [60, 115, 99, 114, 105, 112, 116] (s.drop k) = b := ⟨_, rfl⟩
      obtain ⟨be, hbe⟩ : ∃ b, wordB [60, 47, 115, 99, 114, 105, 112, 116] (s.drop k) = b := ⟨_, rfl⟩
      obtain ⟨bp, hbp⟩ : ∃ b, [60, 33, 45, 45].isPrefixOf (s.drop k) = b := ⟨_, rfl⟩
      obtain ⟨bq, hbq⟩ : ∃ b, [45, 45, 62].isPrefixOf (s.drop k) = b := ⟨_, rfl⟩
      have hlo : bp = true → k + 4 ≤ s.length := fun e => by
        have := open_long (hbp.trans e)
        rw [List.length_drop] at this
        omega
      have hep := halt_end n (d := d) hdr
      have hgo := halt_go n (d := d) hdr
      have hb4 : openC.isPrefixOf (s.drop k) = bp := hbp
      have hb5 : shutC.isPrefixOf (s.drop k) = bq := hbq
      have hb6 : wordB scO (s.drop k) = bo := hbo
      have hb7 : wordB scE (s.drop k) = be := hbe
      rw [hb4, hb5, hb6, hb7, hbw] at hgo
      rw [hbw] at cwk hep
      rw [hbo] at cok
      rw [hbe] at cek
      rw [hbp] at cpk
      rw [hbq] at cqk
      clear hbw hbo hbe hbp hbq hb4 hb5 hb6 hb7 hc cw co ce cp cq
      have HP := Lib.hid hep
      have HG := Lib.hid hgo
      have HD := Lib.hid hdr
      clear hep hgo hdr
      have hd3 : d = 0 ∨ d = 1 ∨ d = 2 := by omega
      rcases hd3 with rfl | rfl | rfl
      · cases bw with
        | true =>
          have HF : Hid (haltP n 0 s = k) := Lib.hid (by rw [HR.out, HP.out (by decide) rfl]; rfl)
          clear hlo HR HP HG HD
          go_wp2_with (go_at_call 65; (with_reducible refine (cwk _).mono ?_); rintro e w1 ⟨rfl, x1⟩; have y1 := Ext.trans hx x1)
          (try rw [Exit.noGoto_ret])
          go_ret
          exact ⟨ret_inj (int_eq (by rw [HF.out])), y1⟩
        | false =>
          cases bp with
          | true =>
            have HF : Hid (haltP n 0 s = (k + 2) + haltP n 1 (s.drop (k + 2))) := Lib.hid (by
              have h4 := hlo rfl
              rw [HR.out, HG.out (.inr rfl), drop_one (show k + 1 < s.length by omega), show k + 1 + 1 = k + 2 from rfl]
              simp [haltT]; omega)
            have h4 := hlo rfl
            clear hlo HR HP HG HD
            go_wp2_with (first | (go_at_call 65; (with_reducible refine (cwk _).mono ?_); rintro e w1 ⟨rfl, x1⟩; have y1 := Ext.trans hx x1) | (go_at_call 67; refine (cpk _).mono ?_; rintro e w9 ⟨rfl, rfl⟩))
            go_roundw
            case rel => exact ⟨1, k + 2, by go_num, by go_num, by omega, by omega, y1, HF⟩
            case measure => simp [intOf]; omega
          | false =>
            have HF : Hid (haltP n 0 s = (k + 1) + haltP n 0 (s.drop (k + 1))) := Lib.hid (by
              rw [HR.out, HG.out (.inr rfl)]
              simp; omega)
            clear hlo HR HP HG HD
            go_wp2_with (first | (go_at_call 65; (with_reducible refine (cwk _).mono ?_); rintro e w1 ⟨rfl, x1⟩; have y1 := Ext.trans hx x1) | (go_at_call 67; refine (cpk _).mono ?_; rintro e w9 ⟨rfl, rfl⟩))
            go_roundw
            case rel => exact ⟨0, k + 1, by go_num, by go_num, by omega, by omega, y1, HF⟩
            case measure => simp [intOf]; omega
      · cases bw with
        | true =>
          have HF : Hid (haltP n 0 s = k) := Lib.hid (by rw [HR.out, HP.out (by decide) rfl]; rfl)
          clear hlo HR HP HG HD
          go_wp2_with (go_at_call 65; (with_reducible refine (cwk _).mono ?_); rintro e w1 ⟨rfl, x1⟩; have y1 := Ext.trans hx x1)
          (try rw [Exit.noGoto_ret])
          go_ret
          exact ⟨ret_inj (int_eq (by rw [HF.out])), y1⟩
        | false =>
          cases bq with
          | true =>
            have HF : Hid (haltP n 0 s = (k + 1) + haltP n 0 (s.drop (k + 1))) := Lib.hid (by
              rw [HR.out, HG.out (.inr rfl)]
              simp; omega)
            clear hlo HR HP HG HD
            go_wp2_with (first | (go_at_call 65; (with_reducible refine (cwk _).mono ?_); rintro e w1 ⟨rfl, x1⟩; have y1 := Ext.trans hx x1) | (go_at_call 67; refine (cqk _).mono ?_; rintro e w9 ⟨rfl, rfl⟩))
            go_roundw
            case rel => exact ⟨0, k + 1, by go_num, by go_num, by omega, by omega, y1, HF⟩
            case measure => simp [intOf]; omega
          | false =>
            cases bo with
            | true =>
              have HF : Hid (haltP n 0 s = (k + 1) + haltP n 2 (s.drop (k + 1))) := Lib.hid (by
                rw [HR.out, HG.out (.inr rfl)]
                simp; omega)
              clear hlo HR HP HG HD
              go_wp2_with (first | (go_at_call 65; (with_reducible refine (cwk _).mono ?_); rintro e w1 ⟨rfl, x1⟩; have y1 := Ext.trans hx x1) | (go_at_call 67; refine (cqk _).mono ?_; rintro e w9 ⟨rfl, rfl⟩) | (go_at_call 65; (with_reducible refine (cok _).mono ?_); rintro e w2 ⟨rfl, x2⟩; have y2 := Ext.trans y1 x2))
              go_roundw
              case rel => exact ⟨2, k + 1, by go_num, by go_num, by omega, by omega, y2, HF⟩
              case measure => simp [intOf]; omega
            | false =>
              have HF : Hid (haltP n 0 s = (k + 1) + haltP n 1 (s.drop (k + 1))) := Lib.hid (by
                rw [HR.out, HG.out (.inr rfl)]
                simp; omega)
              clear hlo HR HP HG HD
              go_wp2_with (first | (go_at_call 65; (with_reducible refine (cwk _).mono ?_); rintro e w1 ⟨rfl, x1⟩; have y1 := Ext.trans hx x1) | (go_at_call 67; refine (cqk _).mono ?_; rintro e w9 ⟨rfl, rfl⟩) | (go_at_call 65; (with_reducible refine (cok _).mono ?_); rintro e w2 ⟨rfl, x2⟩; have y2 := Ext.trans y1 x2))
              go_roundw
              case rel => exact ⟨1, k + 1, by go_num, by go_num, by omega, by omega, y2, HF⟩
              case measure => simp [intOf]; omega
      · cases bq with
        | true =>
          have HF : Hid (haltP n 0 s = (k + 1) + haltP n 0 (s.drop (k + 1))) := Lib.hid (by
            rw [HR.out, HG.out (.inl rfl)]
            simp; omega)
          clear hlo HR HP HG HD
          go_wp2_with (go_at_call 67; refine (cqk _).mono ?_; rintro e w9 ⟨rfl, rfl⟩)
          go_roundw
          case rel => exact ⟨0, k + 1, by go_num, by go_num, by omega, by omega, hx, HF⟩
          case measure => simp [intOf]; omega
        | false =>
          cases be with
          | true =>
            have HF : Hid (haltP n 0 s = (k + 1) + haltP n 1 (s.drop (k + 1))) := Lib.hid (by
              rw [HR.out, HG.out (.inl rfl)]
              simp; omega)
            clear hlo HR HP HG HD
            go_wp2_with (first | (go_at_call 67; refine (cqk _).mono ?_; rintro e w9 ⟨rfl, rfl⟩) | (go_at_call 65; (with_reducible refine (cek _).mono ?_); rintro e w3 ⟨rfl, x3⟩; have y3 := Ext.trans hx x3))
            go_roundw
            case rel => exact ⟨1, k + 1, by go_num, by go_num, by omega, by omega, y3, HF⟩
            case measure => simp [intOf]; omega
          | false =>
            have HF : Hid (haltP n 0 s = (k + 1) + haltP n 2 (s.drop (k + 1))) := Lib.hid (by
              rw [HR.out, HG.out (.inl rfl)]
              simp; omega)
            clear hlo HR HP HG HD
            go_wp2_with (first | (go_at_call 67; refine (cqk _).mono ?_; rintro e w9 ⟨rfl, rfl⟩) | (go_at_call 65; (with_reducible refine (cek _).mono ?_); rintro e w3 ⟨rfl, x3⟩; have y3 := Ext.trans hx x3))
            go_roundw
            case rel => exact ⟨2, k + 1, by go_num, by go_num, by omega, by omega, y3, HF⟩
            case measure => simp [intOf]; omega
    · obtain rfl : k = s.length := by omega
      have HF : Hid (haltP n 0 s = s.length) := Lib.hid (by rw [HR.out]; simp [haltP])
      go_wp2_with fail
      (try rw [Exit.noGoto_ret])
      go_ret
      exact ⟨ret_inj (int_eq (by rw [HF.out])), hx⟩
end Go.Proofs.YtbolajljfkjfaaaDoor

