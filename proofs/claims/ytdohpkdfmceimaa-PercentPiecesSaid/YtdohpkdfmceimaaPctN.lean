/-
  What is proved: the walk of the statement PercentPieces. No condition of ours.
-/
import Derived.Test.YtdohpkdfmceimaaPctL
import Derived.Test.YtdohpkdfmceimaaPctT
namespace Go.Proofs.Ytdohpkdfmceimaa
open Go.RowKit

theorem enc_append (k : Int) (a b : List UInt8) : enc k (a ++ b) = enc k a ++ enc k b := by
  unfold enc
  split
  · exact List.flatMap_append
  · rfl
theorem enc_le (k : Int) (l : List UInt8) : (enc k l).length ≤ 3 * l.length := by
  unfold enc
  split
  · exact flat_le k l
  · simp
theorem dec_le : ∀ (n : Nat) (l : List UInt8), l.length ≤ n → (dec l).length ≤ l.length := by
  intro n
  induction n with
  | zero =>
    intro l h
    have := List.eq_nil_of_length_eq_zero (by omega : l.length = 0)
    subst this
    exact Nat.le_refl _
  | succ n ih =>
    intro l h
    match l, h with
    | [], _ => exact Nat.le_refl _
    | c :: r, h =>
      simp only [List.length_cons] at h
      cases ht : (tri (c :: r)).2
      · rw [dec_not ht]
        have := ih r (by omega)
        simp only [List.length_cons]
        omega
      · match r, ht, h with
        | x :: y :: r, ht, h =>
          simp only [List.length_cons] at h
          rw [dec_tri _ _ _ _ ht]
          have := ih r (by omega)
          simp only [List.length_cons]
          omega
set_option maxHeartbeats 1000000 in
theorem pieces_walk (a b : List UInt8) (s : Int) (w : World) (ha : a.length ≤ maxLen) (hb : b.length ≤ maxLen) (hs0 : 0 ≤ s) (hs1 : s ≤ 255) :
    Calls Try.prog 6 #[.string ⟨⟨a⟩⟩, .string ⟨⟨b⟩⟩, .int .u8 s] w fun e w' => e = .returned (.bool true) ∧ Below w.heap.size w w' := by
  unfold maxLen at ha hb
  by_cases h1 : a.length ≤ 1000
  · by_cases h2 : b.length ≤ 1000
    · obtain ⟨k, hk⟩ : ∃ k, s % 7 = k := ⟨_, rfl⟩
      have hk0 : 0 ≤ k := by omega
      have hk7 : k < 7 := by omega
      have hap := enc_append k a b
      have hla := enc_le k a
      have hlb := enc_le k b
      have hda := dec_le _ a (Nat.le_refl _)
      have hdb := dec_le _ b (Nat.le_refl _)
      have HA := Lib.hid hap
      clear hap
      go_enter Try.func6, Try.ntmps6
      go_wp2_with fail
      refine (enc_any _ _ _ (by simp; omega)).mono ?_
      rintro e w1 ⟨rfl, b1⟩
      rw [HA.out]
      go_wp2_with fail
      refine (enc_any _ _ _ (by omega)).mono ?_
      rintro e w2 ⟨rfl, b2⟩
      go_wp2_with fail
      refine (enc_any _ _ _ (by omega)).mono ?_
      rintro e w3 ⟨rfl, b3⟩
      go_wp2_with fail
      go_loopw [8] (fun i wr => ∃ n : Nat, i = .int .i64 n ∧ n ≤ a.length ∧ a.length - 2 ≤ n ∧ wr = w3 ∧ ∀ j, a.length - 2 ≤ j → j < n → ∀ h : j < a.length, a[j] ≠ 37) (fun i _ => a.length - (intOf i).toNat)
      case atStart => exact ⟨a.length - 2, int_eq (by omega), by omega, by omega, rfl, fun j h1 h2 => by omega⟩
      case round =>
        obtain ⟨n, rfl, hn, hn2, rfl, hall⟩ := hrel
        have HALL := Lib.hid hall
        clear hall
        by_cases hlt : n < a.length
        · obtain ⟨c, hc⟩ : ∃ c, a[n] = c := ⟨_, rfl⟩
          by_cases h37 : ((c.toNat : Int) == 37) = true
          · go_wp2_with fail
            refine (signs_any _).mono ?_
            rintro e w4 ⟨rfl, b4⟩
            go_wp2_with fail
            go_ret
            exact ⟨rfl, Ext.trans b1 (Ext.trans b2 (Ext.trans b3 b4))⟩
          · have h37' : ((c.toNat : Int) == 37) = false := by simpa using h37
            clear h37
            go_wp2_with fail
            go_roundw
            case rel =>
              refine ⟨n + 1, by go_num, by omega, by omega, by trivial, fun j h1 h2 h3 => ?_⟩
              by_cases hj : j = n
              · subst hj
                rw [hc]
                intro h
                subst h
                simp at h37'
              · exact HALL.out j h1 (by omega) h3
            case measure => simp [intOf]; omega
        · have hcalm : calm a := fun j h1 h2 => HALL.out j h1 (by omega) h2
          have hdap := dec_append _ a b (Nat.le_refl _) hcalm
          have HD := Lib.hid hdap
          clear hdap hcalm
          go_wp2_with fail
          refine (dec_any _ _ (by simp; omega)).mono ?_
          rintro e w4 ⟨rfl, b4⟩
          rw [HD.out]
          go_wp2_with fail
          refine (dec_any _ _ (by omega)).mono ?_
          rintro e w5 ⟨rfl, b5⟩
          go_wp2_with fail
          refine (dec_any _ _ (by omega)).mono ?_
          rintro e w6 ⟨rfl, b6⟩
          go_wp2_with fail
          refine (signs_any _).mono ?_
          rintro e w7 ⟨rfl, b7⟩
          go_wp2_with fail
          go_ret
          exact ⟨rfl, Ext.trans b1 (Ext.trans b2 (Ext.trans b3 (Ext.trans b4 (Ext.trans b5 (Ext.trans b6 b7)))))⟩
    · go_enter Try.func6, Try.ntmps6
      go_wp2_with fail
      refine (signs_any _).mono ?_
      rintro e w5 ⟨rfl, b5⟩
      go_wp2_with fail
      go_ret
      exact ⟨rfl, b5⟩
  · go_enter Try.func6, Try.ntmps6
    go_wp2_with fail
    refine (signs_any _).mono ?_
    rintro e w5 ⟨rfl, b5⟩
    go_wp2_with fail
    go_ret
    exact ⟨rfl, b5⟩
end Go.Proofs.Ytdohpkdfmceimaa
