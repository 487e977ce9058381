/-
  What is proved: the walks of the statements PercentTwice and PercentPieces. No condition of ours.
-/
import Derived.Test.YtdohpkdfmceimaaPctL
import Derived.Test.YtdohpkdfmceimaaPctT
namespace Go.Proofs.Ytdohpkdfmceimaa
open Go.RowKit

theorem hasP_snoc (l : List UInt8) (n : Nat) (h : n < l.length) : hasP (l.take (n + 1)) = (hasP (l.take n) || decide ((l[n].toNat : Int) = 37)) := by
  unfold hasP
  rw [List.take_succ_eq_append_getElem h]
  rw [Bool.eq_iff_iff]
  simp only [List.contains_append, Bool.or_eq_true, List.contains_cons, List.contains_nil, Bool.or_false, beq_iff_eq, decide_eq_true_eq]
  constructor
  · rintro (h1 | h1)
    · exact .inl h1
    · exact .inr (by rw [← h1]; rfl)
  · rintro (h1 | h1)
    · exact .inl h1
    · exact .inr (UInt8.toNat.inj (by have : (37 : UInt8).toNat = 37 := rfl; omega))
set_option maxHeartbeats 1000000 in
theorem twice_walk (l : List UInt8) (s : Int) (w : World) (hs : l.length ≤ maxLen) (hs0 : 0 ≤ s) (hs1 : s ≤ 255) :
    Calls Try.prog 4 #[.string ⟨⟨l⟩⟩, .int .u8 s] w fun e w' => e = .returned (.bool true) ∧ Below w.heap.size w w' := by
  unfold maxLen at hs
  by_cases h : l.length ≤ 1500
  · obtain ⟨k, hk⟩ : ∃ k, s % 7 = k := ⟨_, rfl⟩
    have hk0 : 0 ≤ k := by omega
    have hk7 : k < 7 := by omega
    obtain ⟨t, ht⟩ : ∃ t, enc k l = t := ⟨_, rfl⟩
    have htl : t.length ≤ 3 * l.length := by
      rw [← ht]
      unfold enc
      rw [if_pos (by omega)]
      exact flat_le k l
    have hback : k = 6 ∨ hasP l = false → dec t = l := by
      rw [← ht]
      unfold enc
      rw [if_pos (by omega)]
      exact enc_back_of k l
    have htw : k ≠ 6 → enc k t = t := by
      intro h6
      rw [← ht]
      unfold enc
      rw [if_pos (by omega), if_pos (by omega)]
      exact enc_twice k hk0 (by omega) l
    have HB := Lib.hid hback
    have HW := Lib.hid htw
    clear hback htw
    go_enter Try.func4, Try.ntmps4
    go_wp2_with fail
    refine (enc_any _ _ _ (by omega)).mono ?_
    rintro e w1 ⟨rfl, b1⟩
    rw [ht]
    have HTT := Lib.hid ht
    clear ht
    go_wp2_with fail
    go_loopw [7, 8] (fun b i wr => ∃ n : Nat, i = .int .i64 n ∧ n ≤ l.length ∧ b = .bool (hasP (l.take n)) ∧ wr = w1) (fun _ i _ => l.length - (intOf i).toNat)
    case atStart => exact ⟨0, rfl, by omega, rfl, rfl⟩
    case round =>
      obtain ⟨n, rfl, hn, rfl, rfl⟩ := hrel
      by_cases hlt : n < l.length
      · have hsn := hasP_snoc l n hlt
        have HSN := Lib.hid hsn
        clear hsn
        cases hp : hasP (l.take n)
        · go_wp2_with fail
          go_roundw
          case rel => exact ⟨n + 1, by go_num, by omega, by rw [HSN.out, hp]; simp; rfl, by trivial⟩
          case measure => simp [intOf]; omega
        · go_wp2_with fail
          go_roundw
          case rel => exact ⟨n + 1, by go_num, by omega, by rw [HSN.out, hp]; simp, by trivial⟩
          case measure => simp [intOf]; omega
      · have hl := List.take_of_length_le (l := l) (i := n) (by omega)
        rw [hl]
        clear hl
        by_cases h6 : k = 6
        · have hb2 := HB.out (.inl h6)
          clear HW HB
          cases hp : hasP l
          all_goals
            go_wp2_with fail
            refine (dec_any _ _ (by omega)).mono ?_
            rintro e w2 ⟨rfl, b2⟩
            go_wp2_with fail
            refine (signs_any _).mono ?_
            rintro e w3 ⟨rfl, b3⟩
            go_wp2_with fail
            go_ret
            exact ⟨rfl, Ext.trans b1 (Ext.trans b2 b3)⟩
        · have hw2 := HW.out h6
          have k1 : (k != 6) = true := by simpa using h6
          have k2 : (k == 6) = false := by simpa using h6
          cases hp : hasP l
          · have hb2 := HB.out (.inr hp)
            clear HW HB
            go_wp2_with fail
            refine (enc_any _ _ _ (by omega)).mono ?_
            rintro e w2 ⟨rfl, b2⟩
            go_wp2_with fail
            refine (dec_any _ _ (by omega)).mono ?_
            rintro e w3 ⟨rfl, b3⟩
            go_wp2_with fail
            refine (signs_any _).mono ?_
            rintro e w4 ⟨rfl, b4⟩
            go_wp2_with fail
            go_ret
            exact ⟨rfl, Ext.trans b1 (Ext.trans b2 (Ext.trans b3 b4))⟩
          · clear HW HB
            go_wp2_with fail
            refine (enc_any _ _ _ (by omega)).mono ?_
            rintro e w2 ⟨rfl, b2⟩
            go_wp2_with fail
            refine (signs_any _).mono ?_
            rintro e w3 ⟨rfl, b3⟩
            go_wp2_with fail
            go_ret
            exact ⟨rfl, Ext.trans b1 (Ext.trans b2 b3)⟩
  · go_enter Try.func4, Try.ntmps4
    go_wp2_with fail
    refine (signs_any _).mono ?_
    rintro e w5 ⟨rfl, b5⟩
    go_wp2_with fail
    go_ret
    exact ⟨rfl, b5⟩
end Go.Proofs.Ytdohpkdfmceimaa
