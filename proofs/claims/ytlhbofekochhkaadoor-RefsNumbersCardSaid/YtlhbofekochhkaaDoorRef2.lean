/-
  What is proved: the walk of RefsNumbers. Condition: the library's tables hold what their texts lay.
-/
import Derived.Test.YtlhbofekochhkaaDoorRef1
import Derived.Deep.CutRange
namespace Go.Proofs.YtlhbofekochhkaaDoor
open Go.RowKit

def okN (n : Nat) : Bool := decide (0 < n) && decide (n ≤ 1114111) && (decide (n < 55296) || decide (57343 < n))
theorem okN_eq {n : Nat} {b : Bool} (h : b = true ↔ (0 < n ∧ n ≤ 1114111 ∧ (n < 55296 ∨ 57343 < n))) : okN n = b := by
  rw [Bool.eq_iff_iff, h]
  unfold okN
  simp only [Bool.and_eq_true, Bool.or_eq_true, decide_eq_true_eq, and_assoc]
theorem hex_len : ∀ (f n : Nat), (hexL f n).length ≤ f + 1
  | 0, n => by simp [hexL]
  | f + 1, n => by
    have := hex_len f (n / 16)
    unfold hexL
    split <;> simp <;> omega
theorem dec_len0 : ∀ (f n : Nat), n < 10 ^ (f + 1) → (Lib.decDigits n).length ≤ f + 1
  | 0, n, h => by
    rw [Lib.decDigits, dif_pos (by omega)]
    simp
  | f + 1, n, h => by
    rw [Lib.decDigits]
    split
    · simp
    · have := dec_len0 f (n / 10) (by rw [Nat.pow_succ] at h; omega)
      simp
      omega
theorem dec_len {n : Nat} (h : n < 10000000000) : (Lib.decDigits n).length ≤ 10 := dec_len0 9 n h
theorem mid_eq {n : Nat} {b : Bool} (h : b = true ↔ (128 ≤ n ∧ n ≤ 159)) : (decide (128 ≤ n) && decide (n ≤ 159)) = b := by
  rw [Bool.eq_iff_iff, h]
  simp only [Bool.and_eq_true, decide_eq_true_eq]
/-- The character that the law wants; the numbers 128 to 159 apart. -/
def wantB (n : Nat) : List UInt8 := if okN n then (Utf8.encode n).data.toList else [239, 191, 189]
theorem want_ok {n : Nat} (h : okN n = true) : wantB n = (Utf8.encode n).data.toList := if_pos h
theorem want_is {n : Nat} (h : ¬ (128 ≤ n ∧ n ≤ 159)) : charB (min n 1114112) = wantB n := by
  unfold wantB okN
  by_cases h1 : n = 0 ∨ 1114111 < n ∨ (55296 ≤ n ∧ n < 57344)
  · rw [charB_bad (by omega), if_neg]
    simp only [Bool.and_eq_true, Bool.or_eq_true, decide_eq_true_eq]
    omega
  · have e : min n 1114112 = n := by omega
    rw [e, charB_else h1 (by omega), if_pos]
    simp only [Bool.and_eq_true, Bool.or_eq_true, decide_eq_true_eq]
    omega
set_option maxHeartbeats 1000000 in
theorem itoaS_st (w0 : World) (n : Nat) (w : World) (h : StN w0 w) (hn : n < 4294967296) :
    Calls Tryd.prog 11 #[.int .i64 n] w fun e w' => e = .returned (.string ⟨⟨Lib.decDigits n⟩⟩) ∧ StN w0 w' := by
  go_enter Tryd.func11, Tryd.ntmps11
  go_wp2_with fail
  refine (itoa_st w0 n _ h hn).mono ?_
  rintro e w1 ⟨rfl, h1⟩
  go_wp2_with fail
  go_ret
  exact ⟨rfl, h1⟩
set_option maxHeartbeats 1000000 in
theorem fmtS_st (w0 : World) (n : Nat) (w : World) (h : StN w0 w) (hn : n < 4294967296) :
    Calls Tryd.prog 12 #[.int .u64 n, .int .i64 16] w fun e w' => e = .returned (.string ⟨⟨hexL 7 n⟩⟩) ∧ StN w0 w' := by
  go_enter Tryd.func12, Tryd.ntmps12
  go_wp2_with fail
  refine (fmt_st w0 n _ h hn).mono ?_
  rintro e w1 ⟨rfl, h1⟩
  go_wp2_with fail
  go_ret
  exact ⟨rfl, h1⟩
theorem ix0 (A B C : ByteArray) (w : World) : (Instr.index 37 (.agg #[.string A, .string B, .string C]) (.int .i64 0)).run Tryd.prog w = .ok (.string A) w := by kernel_rfl
theorem ix1 (A B C : ByteArray) (w : World) : (Instr.index 37 (.agg #[.string A, .string B, .string C]) (.int .i64 1)).run Tryd.prog w = .ok (.string B) w := by kernel_rfl
theorem ix2 (A B C : ByteArray) (w : World) : (Instr.index 37 (.agg #[.string A, .string B, .string C]) (.int .i64 2)).run Tryd.prog w = .ok (.string C) w := by kernel_rfl
set_option maxRecDepth 100000 in
set_option maxHeartbeats 4000000 in
theorem numbers_walk (n0 z : Int) (a : List UInt8) (w : World) (h : StN w w) (hn0 : 0 ≤ n0) (hn1 : n0 ≤ 4294967295) (hz0 : 0 ≤ z) (hz1 : z ≤ 255) (hs : a.length ≤ maxLen) :
    Calls Tryd.prog 6 #[.int .u32 n0, .int .u8 z, .string ⟨⟨a⟩⟩] w fun e w' => e = .returned (.bool true) ∧ Ext w w' := by
  unfold maxLen at hs
  by_cases hl : a.length ≤ 500
  · obtain ⟨n, hn, hnl⟩ : ∃ n : Nat, n0 % 1179648 = n ∧ n < 1179648 := ⟨(n0 % 1179648).toNat, by omega, by omega⟩
    obtain ⟨kk, hk, hkl⟩ : ∃ k : Nat, z % 30 = k ∧ k < 30 := ⟨(z % 30).toNat, by omega, by omega⟩
    have HK := Lib.hid hk
    have HN := Lib.hid hn
    clear hk
    go_enter Tryd.func6, Tryd.ntmps6
    go_upto_region 5 with fail
    rw [HN.out]
    clear hn
    obtain ⟨ok, hok⟩ : ∃ b, okN n = b := ⟨_, rfl⟩
    have HOK := Lib.hid hok
    clear hok
    go_cut [37] from 24 to 37 (fun c wx => c = .bool ok ∧ w = wx)
    case first =>
      go_wp2_with fail
      all_goals (go_meet; case rel => exact ⟨congrArg Value.bool ((okN_eq (by first | (simp only [Bool.false_eq_true, false_iff]; omega) | (simp only [true_iff]; omega) | (simp only [Bool.or_eq_true, decide_eq_true_eq]; omega))).symm.trans HOK.out), rfl⟩)
    case rest =>
      obtain ⟨rfl, rfl⟩ := hcut
      go_upto_if 37 with fail
      go_cut [7] from 38 to 40 (fun s wx => s = .string ⟨⟨wantB n⟩⟩ ∧ w = wx)
      case first =>
        cases ok
        · go_wp2_with fail
          go_meet
          case rel => exact ⟨by unfold wantB; rw [HOK.out]; rfl, rfl⟩
        · go_wp2_with fail
          go_meet
          case rel => exact ⟨by rw [want_ok HOK.out], rfl⟩
      case rest =>
        obtain ⟨rfl, rfl⟩ := hcut
        go_upto_region 7 with fail
        obtain ⟨mid, hmid⟩ : ∃ b, (decide (128 ≤ n) && decide (n ≤ 159)) = b := ⟨_, rfl⟩
        have HM := Lib.hid hmid
        clear hmid
        go_cut [46] from 41 to 46 (fun c wx => c = .bool mid ∧ w = wx)
        case first =>
          go_wp2_with fail
          all_goals (go_meet; case rel => exact ⟨by rw [← HM.out]; exact congrArg Value.bool (mid_eq (by first | (simp only [Bool.false_eq_true, false_iff]; omega) | (simp only [true_iff]; omega) | (simp only [decide_eq_true_eq]; omega))).symm, rfl⟩)
        case rest =>
          obtain ⟨rfl, rfl⟩ := hcut
          cases mid
          · go_wp2_with fail
            go_loop [8, 9] (fun s i => ∃ (k : Nat) (Z : List UInt8), s = .string ⟨⟨Z⟩⟩ ∧ i = .int .i64 k ∧ k ≤ kk ∧ Hid (Z = List.replicate k 48)) (fun _ i => kk - (intOf i).toNat)
            case atStart => exact ⟨0, [], rfl, rfl, by omega, Lib.hid rfl⟩
            case round =>
              obtain ⟨k, Z, rfl, rfl, hkk, HZ⟩ := hrel
              have hZl : Z.length ≤ 30 := by rw [HZ.out, List.length_replicate]; omega
              by_cases hlt : k < kk
              · have hlt2 : (k : Int) < z % 30 := by rw [HK.out]; omega
                go_wp2_with fail
                go_round
                case rel => exact ⟨k + 1, Z ++ [48], rfl, by go_num, by omega, Lib.hid (by rw [HZ.out]; exact (List.replicate_succ' ..).symm)⟩
                case measure => simp [intOf]; omega
              · have hlt2 : ¬ (k : Int) < z % 30 := by rw [HK.out]; omega
                obtain ⟨D, hD⟩ : ∃ D, Lib.decDigits n = D := ⟨_, rfl⟩
                obtain ⟨X, hX⟩ : ∃ D, hexL 7 n = D := ⟨_, rfl⟩
                have HD := Lib.hid hD
                have HX := Lib.hid hX
                have hDl : D.length ≤ 10 := by rw [← hD]; exact dec_len (by omega)
                have hXl : X.length ≤ 8 := by rw [← hX]; exact hex_len 7 n
                clear hD hX
                go_wp2_with fail
                refine (itoaS_st w n _ h (by omega)).mono ?_
                rw [HD.out]
                rintro e w1 ⟨rfl, h1⟩
                go_wp2_with fail
                refine (fmtS_st w n _ h1 (by omega)).mono ?_
                rw [HX.out]
                rintro e w2 ⟨rfl, h2⟩
                go_wp2_with fail
                refine (fmtS_st w n _ h2 (by omega)).mono ?_
                rw [HX.out]
                rintro e w3 ⟨rfl, h3⟩
                have hmd : ¬ (128 ≤ n ∧ n ≤ 159) := by
                  have := HM.out
                  intro hh
                  rw [decide_eq_true hh.1, decide_eq_true hh.2] at this
                  cases this
                have e1 : semiN (59 :: [59]) = 1 := rfl
                have e2 : semiN (103 :: []) = 0 := rfl
                have zl : Z.length = k := by rw [HZ.out, List.length_replicate]
                have HF0 : Hid (findB (38 :: 35 :: (Z ++ D ++ [59, 59])) 0 true = (wantB n, Z.length + D.length + 3, true)) := Lib.hid (by
                  have := find_dec k n 59 [59] true (by decide)
                  rw [← HZ.out, HD.out, want_is hmd, e1] at this
                  rw [this, zl]
                  congr 2
                  omega)
                have HG0 : Hid (findB (38 :: 35 :: (Z ++ D ++ [103])) 0 true = (wantB n, Z.length + D.length + 2, true)) := Lib.hid (by
                  have := find_dec k n 103 [] true (by decide)
                  rw [← HZ.out, HD.out, want_is hmd, e2] at this
                  rw [this, zl]
                  congr 2
                  omega)
                have hex (c : UInt8) (hc : c = 120 ∨ c = 88) : findB (38 :: 35 :: c :: (Z ++ X ++ [59, 59])) 0 true = (wantB n, Z.length + X.length + 4, true) := by
                  have := find_hex c hc k 7 n (by omega) 59 [59] true (by decide)
                  rw [← HZ.out, HX.out, want_is hmd, e1] at this
                  rw [this, zl]
                  congr 2
                  omega
                have hex2 (c : UInt8) (hc : c = 120 ∨ c = 88) : findB (38 :: 35 :: c :: (Z ++ X ++ [103])) 0 true = (wantB n, Z.length + X.length + 3, true) := by
                  have := find_hex c hc k 7 n (by omega) 103 [] true (by decide)
                  rw [← HZ.out, HX.out, want_is hmd, e2] at this
                  rw [this, zl]
                  congr 2
                  omega
                have HF1 := Lib.hid (hex 120 (.inl rfl))
                have HG1 := Lib.hid (hex2 120 (.inl rfl))
                have HF2 := Lib.hid (hex 88 (.inr rfl))
                have HG2 := Lib.hid (hex2 88 (.inr rfl))
                clear hex hex2 zl e1 e2 hmd
                go_wp2_with fail
                go_loopw [76] (fun i wr => ∃ j : Nat, i = .int .i64 j ∧ j ≤ 3 ∧ StN w wr) (fun i _ => 3 - (intOf i).toNat)
                case atStart => exact ⟨0, rfl, by omega, h3⟩
                case round =>
                  obtain ⟨j, rfl, hj, hb⟩ := hrel
                  have i0 := ix0
                  have i1 := ix1
                  have i2 := ix2
                  have hc : j = 0 ∨ j = 1 ∨ j = 2 ∨ j = 3 := by omega
                  rcases hc with rfl | rfl | rfl | rfl
                  · go_wp2_with fail
                    refine (find_at w a (38 :: 35 :: (Z ++ D ++ [59, 59])) _ _ true _ hb (by simp; omega) (by simp) rfl _ _ HF0.out).mono ?_
                    rintro e w4 ⟨rfl, h4⟩
                    go_wp2_with fail
                    refine (find_at w a (38 :: 35 :: (Z ++ D ++ [103])) _ _ true _ h4 (by simp; omega) (by simp) rfl _ _ HG0.out).mono ?_
                    rintro e w5 ⟨rfl, h5⟩
                    go_wp2_with fail
                    go_roundw
                    case rel => exact ⟨1, rfl, by omega, h5⟩
                    case measure => simp [intOf]
                  · go_wp2_with fail
                    refine (find_at w a (38 :: 35 :: 120 :: (Z ++ X ++ [59, 59])) _ _ true _ hb (by simp; omega) (by simp) rfl _ _ HF1.out).mono ?_
                    rintro e w4 ⟨rfl, h4⟩
                    go_wp2_with fail
                    refine (find_at w a (38 :: 35 :: 120 :: (Z ++ X ++ [103])) _ _ true _ h4 (by simp; omega) (by simp) rfl _ _ HG1.out).mono ?_
                    rintro e w5 ⟨rfl, h5⟩
                    go_wp2_with fail
                    go_roundw
                    case rel => exact ⟨2, rfl, by omega, h5⟩
                    case measure => simp [intOf]
                  · go_wp2_with fail
                    refine (find_at w a (38 :: 35 :: 88 :: (Z ++ X ++ [59, 59])) _ _ true _ hb (by simp; omega) (by simp) rfl _ _ HF2.out).mono ?_
                    rintro e w4 ⟨rfl, h4⟩
                    go_wp2_with fail
                    refine (find_at w a (38 :: 35 :: 88 :: (Z ++ X ++ [103])) _ _ true _ h4 (by simp; omega) (by simp) rfl _ _ HG2.out).mono ?_
                    rintro e w5 ⟨rfl, h5⟩
                    go_wp2_with fail
                    go_roundw
                    case rel => exact ⟨3, rfl, by omega, h5⟩
                    case measure => simp [intOf]
                  · go_wp2_with fail
                    refine (refers_stn w _ hb).mono ?_
                    rintro e w5 ⟨rfl, h5⟩
                    go_wp2_with fail
                    go_ret
                    exact ⟨rfl, h5⟩
          · go_wp2_with fail
            refine (refers_stn w _ h).mono ?_
            rintro e w5 ⟨rfl, h5⟩
            go_wp2_with fail
            go_ret
            exact ⟨rfl, h5⟩
  · go_enter Tryd.func6, Tryd.ntmps6
    go_wp2_with fail
    refine (refers_stn w _ h).mono ?_
    rintro e w5 ⟨rfl, h5⟩
    go_wp2_with fail
    go_ret
    exact ⟨rfl, h5⟩
end Go.Proofs.YtlhbofekochhkaaDoor
