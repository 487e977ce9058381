/-
  What is proved: what percent.Encode and percent.Decode compute: contracts. Condition: texts of at most 100000 bytes.
-/
import Derived.Test.YtdohpkdfmceimaaPctX
namespace Go.Proofs.Ytdohpkdfmceimaa
open Go.RowKit

set_option maxHeartbeats 400000 in
theorem triple_any (l : List UInt8) (w : World) (hs : l.length ≤ maxLen)  :
    Calls Try.prog 18 #[.string ⟨⟨l⟩⟩] w fun e w' => e = .returned (.tuple #[.int .u8 (tri l).1.toNat, .bool (tri l).2]) ∧ w = w' := by
  unfold maxLen at hs
  match l, hs with
  | [], hs =>
    go_enter Try.func18, Try.ntmps18
    go_wp2
    go_ret2
    exact ⟨rfl, rfl⟩
  | [a], hs =>
    go_enter Try.func18, Try.ntmps18
    go_wp2
    go_ret2
    exact ⟨rfl, rfl⟩
  | [a, b], hs =>
    go_enter Try.func18, Try.ntmps18
    go_wp2
    go_ret2
    exact ⟨rfl, rfl⟩
  | a :: b :: c :: r, hs =>
    simp only [List.length_cons] at hs
    have h3 : decide ((r.length : Int) + 1 + 1 + 1 < 3) = false := by simp; omega
    have hb := hexN_le b
    have hc := hexN_le c
    by_cases ha : a = 37
    · have ha' : ((a.toNat : Int) != 37) = false := by rw [ha]; rfl
      have e1 : tri (a :: b :: c :: r) = (UInt8.ofNat (16 * hexN b + hexN c), isHex b && isHex c) := by simp [tri, ha]
      have e2 := or16 ⟨hexN b, by omega⟩ ⟨hexN c, by omega⟩
      simp only at e2
      rw [e1]
      have E2 := Lib.hid e2
      clear e2 e1 ha
      cases hx : isHex b
      · go_enter Try.func18, Try.ntmps18
        go_wp2_with (go_at_call 22; refine (hex_any _ _).mono ?_; rintro e w' ⟨rfl, rfl⟩)
        go_ret2
        exact ⟨by simp [E2.out]; omega, rfl⟩
      · go_enter Try.func18, Try.ntmps18
        go_wp2_with (go_at_call 22; refine (hex_any _ _).mono ?_; rintro e w' ⟨rfl, rfl⟩)
        go_ret2
        exact ⟨by simp [E2.out]; omega, rfl⟩
    · have ha' : ((a.toNat : Int) != 37) = true := by
        rw [bne_iff_ne]
        intro h
        exact ha (UInt8.toNat.inj (by have : (37 : UInt8).toNat = 37 := rfl; omega))
      have e1 : tri (a :: b :: c :: r) = (0, false) := by simp [tri, ha]
      rw [e1]
      clear e1 ha
      go_enter Try.func18, Try.ntmps18
      go_wp2
      go_ret2
      exact ⟨rfl, rfl⟩
set_option maxHeartbeats 400000 in
theorem dec_any (l : List UInt8) (w : World) (hs : l.length ≤ 100000)  :
    Calls Try.prog 10 #[.string ⟨⟨l⟩⟩] w fun e w' => e = .returned (.string ⟨⟨dec l⟩⟩) ∧ Below w.heap.size w w' := by
  go_enter Try.func10, Try.ntmps10
  go_wp2_with fail
  go_loopw [0] (fun s wr => ∃ rest acc : List UInt8, s = .string ⟨⟨rest⟩⟩ ∧ IsB w.heap.size acc wr ∧ Below w.heap.size w wr ∧ acc ++ dec rest = dec l ∧ rest.length + acc.length ≤ l.length) (fun s _ => strLen s)
  case atStart => exact ⟨l, [], rfl, IsB.fresh w, (Below.refl _ _).alloc (by simp) _, rfl, by simp⟩
  case round =>
    obtain ⟨rest, acc, rfl, hI, hb, hd, hl⟩ := hrel
    have HD := Lib.hid hd
    clear hd
    match rest, HD, hl with
    | [], HD, hl =>
      go_wp2_with (go_at_call 16; refine (bld_string _ _ _ hI).mono ?_; rintro e w' ⟨rfl, h1, h2, h3⟩)
      go_ret
      exact ⟨ret_inj (str_eq (by rw [← HD.out]; simp [dec])), hb.trans h2⟩
    | c :: r, HD, hl =>
      simp only [List.length_cons] at hl
      cases ht : (tri (c :: r)).2
      · have hd2 := dec_not ht
        have HD2 := Lib.hid hd2
        clear hd2
        go_wp2_with (first | (go_at_call 18; refine (triple_any _ _ (by unfold maxLen; simp; omega)).mono ?_; rintro e w' ⟨rfl, rfl⟩) | (go_at_call 15; refine (bld_writeByte _ _ _ _ hI (by omega)).mono ?_; rintro e w' ⟨rfl, h1, h2, h3⟩))
        go_roundw
        case rel => exact ⟨r, acc ++ [c], rfl, h1, hb.trans h2, by rw [← HD.out, HD2.out]; simp, by simp; omega⟩
        case measure => simp [strLen]
      · match r, HD, hl, ht with
        | a :: b :: r, HD, hl, ht =>
          simp only [List.length_cons] at hl
          have hd2 := dec_tri _ _ _ _ ht
          have HD2 := Lib.hid hd2
          clear hd2
          go_wp2_with (first | (go_at_call 18; refine (triple_any _ _ (by unfold maxLen; simp; omega)).mono ?_; rintro e w' ⟨rfl, rfl⟩) | (go_at_call 15; refine (bld_writeByte _ _ _ _ hI (by omega)).mono ?_; rintro e w' ⟨rfl, h1, h2, h3⟩))
          go_roundw
          case rel => exact ⟨r, _, rfl, h1, hb.trans h2, by rw [← HD.out, HD2.out]; simp, by simp; omega⟩
          case measure => simp [strLen]; omega

theorem enc_off (k : Int) (l : List UInt8) (w : World) (hk : k < 0 ∨ 7 ≤ k) :
    Calls Try.prog 8 #[.string ⟨⟨l⟩⟩, .int .i64 k] w fun e w' => e = .returned (.string ⟨⟨enc k l⟩⟩) ∧ Below w.heap.size w w' := by
  have e : enc k l = [] := by unfold enc; rw [if_neg (by omega)]
  rw [e]
  clear e
  rcases hk with h | h
  · go_enter Try.func8, Try.ntmps8
    go_wp2_with fail
    go_ret
    exact ⟨rfl, Below.refl _ _⟩
  · have h' : ¬ k < 0 := by omega
    go_enter Try.func8, Try.ntmps8
    go_wp2_with fail
    go_ret
    exact ⟨rfl, Below.refl _ _⟩
theorem flat_le (k : Int) (l : List UInt8) : (l.flatMap (enc1 k)).length ≤ 3 * l.length := by
  induction l with
  | nil => simp
  | cons c l ih =>
    have : (enc1 k c).length ≤ 3 := by unfold enc1; split <;> simp
    simp only [List.flatMap_cons, List.length_append, List.length_cons]
    omega
theorem dig_slice (n : Nat) (h : n < 16) : ([48, 49, 50, 51, 52, 53, 54, 55, 56, 57, 65, 66, 67, 68, 69, (70 : UInt8)].drop n).take 1 = [dig n] := by
  have key : ∀ n : Fin 16, ([48, 49, 50, 51, 52, 53, 54, 55, 56, 57, 65, 66, 67, 68, 69, (70 : UInt8)].drop n).take 1 = [dig n] := by decide +kernel
  exact key ⟨n, h⟩
theorem and15 (c : UInt8) : bits .and .u8 c.toNat 15 = (c.toNat : Int) % 16 := by
  have h : ∀ n : Fin 256, bits .and .u8 ((n : Nat) : Int) 15 = ((n : Nat) : Int) % 16 := by decide +kernel
  exact h ⟨c.toNat, c.toNat_lt⟩
set_option maxHeartbeats 400000 in
theorem enc_on (k : Int) (l : List UInt8) (w : World) (h1 : 0 ≤ k) (h2 : k < 7) (hs : l.length ≤ 100000) :
    Calls Try.prog 8 #[.string ⟨⟨l⟩⟩, .int .i64 k] w fun e w' => e = .returned (.string ⟨⟨l.flatMap (enc1 k)⟩⟩) ∧ Below w.heap.size w w' := by
  go_enter Try.func8, Try.ntmps8
  go_wp2_with (go_at_call 12; refine (more_any _ _).mono ?_; rintro e w' ⟨rfl, rfl⟩)
  go_loopw [19] (fun i wr => ∃ n : Nat, i = .int .i64 n ∧ n ≤ l.length ∧ IsB w.heap.size ((l.take n).flatMap (enc1 k)) wr ∧ Below w.heap.size w wr) (fun i _ => l.length - (intOf i).toNat)
  case atStart => exact ⟨0, rfl, by omega, IsB.fresh w, (Below.refl _ _).alloc (by simp) _⟩
  case round =>
    obtain ⟨n, rfl, hn, hI, hb⟩ := hrel
    by_cases hlt : n < l.length
    · obtain ⟨c, hc⟩ : ∃ c, l[n] = c := ⟨_, rfl⟩
      have hcl := c.toNat_lt
      have hix : inSet k c = (decide (c.toNat < 32) || decide (126 < c.toNat) || decide (0 ≤ Lib.indexByte (moreL k) c)) := by
        rw [indexByte_nonneg]
        rfl
      have htk : (l.take (n + 1)).flatMap (enc1 k) = (l.take n).flatMap (enc1 k) ++ enc1 k c := by
        rw [List.take_succ_eq_append_getElem hlt, hc, List.flatMap_append]
        simp
      have HT := Lib.hid htk
      clear htk
      have hfl := flat_le k (l.take n)
      have hfl2 : (l.take n).length ≤ n := List.length_take_le _ _
      by_cases hin : inSet k c = true
      · have hcs : c.toNat < 32 ∨ (¬ c.toNat < 32 ∧ 126 < c.toNat) ∨ (¬ c.toNat < 32 ∧ ¬ 126 < c.toNat ∧ 0 ≤ Lib.indexByte (moreL k) c) := by
          rw [hix] at hin
          simp only [Bool.or_eq_true, decide_eq_true_eq] at hin
          omega
        have h1c : enc1 k c = [37, dig (c.toNat / 16), dig (c.toNat % 16)] := by unfold enc1; rw [if_pos hin]
        rw [h1c] at HT
        clear hin hix h1c
        rcases hcs with hcs | ⟨hcs, hcs2⟩ | ⟨hcs, hcs2, hcs3⟩
        all_goals
          go_wp2_with (go_at_call 13; refine (indexByte_any _ _ _).mono ?_; rintro e w' ⟨rfl, rfl⟩)
          have e1 : IntKind.u8.wrap ((c.toNat : Int) / 16 + 1) = (c.toNat : Int) / 16 + 1 := IntWalk.u8_in _ (by omega)
          have e2 : 0 ≤ (c.toNat : Int) / 16 := by omega
          have e3 : ((c.toNat : Int) / 16).toNat = c.toNat / 16 := by omega
          have e4 : ((c.toNat : Int) / 16 + 1).toNat = c.toNat / 16 + 1 := by omega
          have e5 : (c.toNat : Int) / 16 + 1 ≤ 16 := by omega
          have e6 := and15 c
          have e7 : (c.toNat : Int) / 16 ≤ (c.toNat : Int) / 16 + 1 := by omega
          have f1 : IntKind.u8.wrap ((c.toNat : Int) % 16 + 1) = (c.toNat : Int) % 16 + 1 := IntWalk.u8_in _ (by omega)
          have f2 : 0 ≤ (c.toNat : Int) % 16 := by omega
          have f3 : ((c.toNat : Int) % 16).toNat = c.toNat % 16 := by omega
          have f4 : ((c.toNat : Int) % 16 + 1).toNat = c.toNat % 16 + 1 := by omega
          have f5 : (c.toNat : Int) % 16 + 1 ≤ 16 := by omega
          have f7 : (c.toNat : Int) % 16 ≤ (c.toNat : Int) % 16 + 1 := by omega
          have g1 := dig_slice (c.toNat / 16) (by omega)
          have g2 := dig_slice (c.toNat % 16) (by omega)
          go_still_tail 14, (by kernel_rfl)
          clear e1 e2 e3 e4 e5 e6 e7 f1 f2 f3 f4 f5 f7 g1 g2
          go_wp2_with (go_at_call 14; refine (bld_writeString _ _ _ _ hI.drew (by simp only [bsize, List.length_cons, List.length_nil]; omega)).mono ?_; rintro e w' ⟨rfl, h1, h2, h3⟩)
          go_roundw
          case rel => exact ⟨n + 1, by go_num, by omega, by rw [HT.out]; exact h1, hb.drew.trans h2⟩
          case measure => simp [intOf]; omega
      · have hcs : ¬ c.toNat < 32 ∧ ¬ 126 < c.toNat ∧ Lib.indexByte (moreL k) c < 0 := by
          rw [hix] at hin
          simp only [Bool.or_eq_true, decide_eq_true_eq] at hin
          omega
        have h1c : enc1 k c = [c] := by unfold enc1; rw [if_neg hin]
        rw [h1c] at HT
        clear hin hix h1c
        obtain ⟨hcs, hcs2, hcs3⟩ := hcs
        go_wp2_with (first | (go_at_call 13; refine (indexByte_any _ _ _).mono ?_; rintro e w' ⟨rfl, rfl⟩) | (go_at_call 15; refine (bld_writeByte _ _ _ _ hI (by omega)).mono ?_; rintro e w' ⟨rfl, h1, h2, h3⟩))
        go_roundw
        case rel => exact ⟨n + 1, by go_num, by omega, by rw [HT.out]; exact h1, hb.trans h2⟩
        case measure => simp [intOf]; omega
    · go_wp2_with (go_at_call 16; refine (bld_string _ _ _ hI).mono ?_; rintro e w' ⟨rfl, h1, h2, h3⟩)
      go_ret
      exact ⟨ret_inj (str_eq (by rw [List.take_of_length_le (by omega)])), hb.trans h2⟩
end Go.Proofs.Ytdohpkdfmceimaa
