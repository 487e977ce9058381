/-
  What is proved: what the reference's Encode and Decode compute: contracts. Condition: texts of at most 100000 bytes.
-/
import Derived.Test.YtdohpkdfmceimaaPctE
import Derived.Test.YtdohpkdfmceimaaPctI
import Derived.BigQuiet
namespace Go.Proofs.Ytdohpkdfmceimaa
open Go.RowKit

set_option maxHeartbeats 400000 in
theorem refEnc_off (k : Int) (l : List UInt8) (w : World) (hs : l.length ≤ 100000) (hk : k < 0 ∨ 7 ≤ k) :
    Calls Try.prog 9 #[.string ⟨⟨l⟩⟩, .int .i64 k] w fun e w' => e = .returned (.string ⟨⟨enc k l⟩⟩) ∧ Below w.heap.size w w' := by
  have e : enc k l = [] := by unfold enc; rw [if_neg (by omega)]
  rw [e]
  clear e
  have hlen : 0 < l.length ∨ l.length = 0 := by omega
  rcases hk with h | h
  all_goals
    rcases hlen with hl | hl
    · go_enter Try.func9, Try.ntmps9
      go_wp2_with fail
      refine wp_loop_rounds 1 ?_
      rw [rounds_succ]
      go_wp2
      go_ret
      exact ⟨rfl, Below.refl _ _⟩
    · have hl0 := List.eq_nil_of_length_eq_zero hl
      subst hl0
      go_enter Try.func9, Try.ntmps9
      go_wp2_with fail
      refine wp_loop_rounds 1 ?_
      rw [rounds_succ]
      go_wp2
      go_ret
      exact ⟨rfl, Below.refl _ _⟩
set_option maxHeartbeats 400000 in
theorem refEnc_on (k : Int) (l : List UInt8) (w : World) (h1 : 0 ≤ k) (h2 : k < 7) (hs : l.length ≤ 100000) :
    Calls Try.prog 9 #[.string ⟨⟨l⟩⟩, .int .i64 k] w fun e w' => e = .returned (.string ⟨⟨l.flatMap (enc1 k)⟩⟩) ∧ Below w.heap.size w w' := by
  have h3 : k ≤ 6 := by omega
  go_enter Try.func9, Try.ntmps9
  go_wp2_with fail
  go_loopw [5, 7] (fun o i wr => ∃ n : Nat, i = .int .i64 n ∧ n ≤ l.length ∧ o = .string ⟨⟨(l.take n).flatMap (enc1 k)⟩⟩ ∧ Below w.heap.size w wr) (fun _ i _ => l.length - (intOf i).toNat)
  case atStart => exact ⟨0, rfl, by omega, rfl, Below.refl _ _⟩
  case round =>
    obtain ⟨n, rfl, hn, rfl, hb⟩ := hrel
    by_cases hlt : n < l.length
    · obtain ⟨c, hc⟩ : ∃ c, l[n] = c := ⟨_, rfl⟩
      have hcl := c.toNat_lt
      have htk : (l.take (n + 1)).flatMap (enc1 k) = (l.take n).flatMap (enc1 k) ++ enc1 k c := by
        rw [List.take_succ_eq_append_getElem hlt, hc, List.flatMap_append]
        simp
      have HT := Lib.hid htk
      clear htk
      have hfl := flat_le k (l.take n)
      have hfl2 : (l.take n).length ≤ n := List.length_take_le _ _
      generalize hg : (l.take n).flatMap (enc1 k) = acc at *
      have HG := Lib.hid hg
      clear hg
      have hacc : acc.length ≤ 300000 := by omega
      clear hfl hfl2
      cases hin : inSet k c
      · have h1c : enc1 k c = [c] := by unfold enc1; rw [hin]; rfl
        have htk1 : (l.drop n).take 1 = [c] := by
          rw [List.drop_eq_getElem_cons hlt, hc]
          rfl
        rw [h1c] at HT
        clear h1c
        go_wp2_with (go_at_call 17; refine (in_any _ _ _).mono ?_; rintro e w' ⟨rfl, rfl⟩)
        go_roundw
        case rel => exact ⟨n + 1, by go_num, by omega, by rw [HT.out], hb⟩
        case measure => simp [intOf]; omega
      · have h1c : enc1 k c = [37, dig (c.toNat / 16), dig (c.toNat % 16)] := by unfold enc1; rw [hin]; rfl
        rw [h1c] at HT
        clear h1c
        have e1 : IntKind.u8.wrap ((c.toNat : Int) / 16 + 1) = (c.toNat : Int) / 16 + 1 := IntWalk.u8_in _ (by omega)
        have e2 : 0 ≤ (c.toNat : Int) / 16 := by omega
        have e3 : ((c.toNat : Int) / 16).toNat = c.toNat / 16 := by omega
        have e4 : ((c.toNat : Int) / 16 + 1).toNat = c.toNat / 16 + 1 := by omega
        have e5 : (c.toNat : Int) / 16 + 1 ≤ 16 := by omega
        have e7 : (c.toNat : Int) / 16 ≤ (c.toNat : Int) / 16 + 1 := by omega
        have f1 : IntKind.u8.wrap ((c.toNat : Int) % 16 + 1) = (c.toNat : Int) % 16 + 1 := IntWalk.u8_in _ (by omega)
        have f2 : 0 ≤ (c.toNat : Int) % 16 := by omega
        have f3 : ((c.toNat : Int) % 16).toNat = c.toNat % 16 := by omega
        have f4 : ((c.toNat : Int) % 16 + 1).toNat = c.toNat % 16 + 1 := by omega
        have f5 : (c.toNat : Int) % 16 + 1 ≤ 16 := by omega
        have f7 : (c.toNat : Int) % 16 ≤ (c.toNat : Int) % 16 + 1 := by omega
        have g1 := dig_slice (c.toNat / 16) (by omega)
        have g2 := dig_slice (c.toNat % 16) (by omega)
        go_wp2_with (go_at_call 17; refine (in_any _ _ _).mono ?_; rintro e w' ⟨rfl, rfl⟩)
        go_quiet (fail)
        clear e1 e2 e3 e4 e5 e7 f1 f2 f3 f4 f5 f7 g1 g2
        go_wp2
        go_roundw
        case rel => exact ⟨n + 1, by go_num, by omega, by rw [HT.out], below_drewN hb _⟩
        case measure => simp [intOf]; omega
    · have hl := List.take_of_length_le (l := l) (i := n) (by omega)
      rw [hl]
      clear hl
      go_wp2
      go_ret
      exact ⟨rfl, hb⟩

theorem enc_any (k : Int) (l : List UInt8) (w : World) (hs : l.length ≤ 100000) :
    Calls Try.prog 8 #[.string ⟨⟨l⟩⟩, .int .i64 k] w fun e w' => e = .returned (.string ⟨⟨enc k l⟩⟩) ∧ Below w.heap.size w w' := by
  by_cases h : 0 ≤ k ∧ k < 7
  · have e : enc k l = l.flatMap (enc1 k) := by unfold enc; rw [if_pos (by omega)]
    rw [e]
    exact enc_on k l w h.1 h.2 hs
  · exact enc_off k l w (by omega)
theorem refEnc_any (k : Int) (l : List UInt8) (w : World) (hs : l.length ≤ 100000) :
    Calls Try.prog 9 #[.string ⟨⟨l⟩⟩, .int .i64 k] w fun e w' => e = .returned (.string ⟨⟨enc k l⟩⟩) ∧ Below w.heap.size w w' := by
  by_cases h : 0 ≤ k ∧ k < 7
  · have e : enc k l = l.flatMap (enc1 k) := by unfold enc; rw [if_pos (by omega)]
    rw [e]
    exact refEnc_on k l w h.1 h.2 hs
  · exact refEnc_off k l w hs (by omega)
end Go.Proofs.Ytdohpkdfmceimaa
