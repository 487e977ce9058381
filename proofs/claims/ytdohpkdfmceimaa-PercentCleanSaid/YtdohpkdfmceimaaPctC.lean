/-
  What is proved: the walk of the statement PercentClean. No condition of ours.
-/
import Derived.Test.YtdohpkdfmceimaaPctL
import Derived.Test.YtdohpkdfmceimaaPctT
namespace Go.Proofs.Ytdohpkdfmceimaa
open Go.RowKit

theorem alnum_iff (c : UInt8) : alnum c = decide ((48 ≤ c.toNat ∧ c.toNat ≤ 57) ∨ (97 ≤ c.toNat ∧ c.toNat ≤ 122) ∨ (65 ≤ c.toNat ∧ c.toNat ≤ 90)) := by
  unfold alnum
  rw [Bool.eq_iff_iff]
  simp only [Bool.or_eq_true, Bool.and_eq_true, decide_eq_true_eq, UInt8.le_iff_toNat_le]
  have h1 : (48 : UInt8).toNat = 48 := rfl
  have h2 : (57 : UInt8).toNat = 57 := rfl
  have h3 : (97 : UInt8).toNat = 97 := rfl
  have h4 : (122 : UInt8).toNat = 122 := rfl
  have h5 : (65 : UInt8).toNat = 65 := rfl
  have h6 : (90 : UInt8).toNat = 90 := rfl
  rw [h1, h2, h3, h4, h5, h6]
  omega
theorem plain_snoc (l : List UInt8) (n : Nat) (h : n < l.length) : plainOf (l.take (n + 1)) = plainOf (l.take n) ++ (if alnum l[n] then [l[n]] else []) := by
  unfold plainOf
  rw [List.take_succ_eq_append_getElem h, List.filter_append, List.filter_cons, List.filter_nil]
theorem plain_le (l : List UInt8) : (plainOf l).length ≤ l.length := List.length_filter_le _ _
theorem clean_facts {k : Int} {c : UInt8} (h : dirty k c = false) : 32 ≤ c.toNat ∧ c.toNat ≤ 126 ∧ (k < 4 ∨ (((c.toNat : Int) == 32) = false ∧ ((c.toNat : Int) == 34) = false ∧ ((c.toNat : Int) == 60) = false ∧ ((c.toNat : Int) == 62) = false ∧ ((c.toNat : Int) == 35) = false ∧ ((c.toNat : Int) == 63) = false ∧ ((c.toNat : Int) == 123) = false ∧ ((c.toNat : Int) == 125) = false)) := by
  unfold dirty at h
  simp only [Bool.or_eq_false_iff, Bool.and_eq_false_iff, decide_eq_false_iff_not, UInt8.lt_iff_toNat_lt] at h
  obtain ⟨⟨h1, h2⟩, h3⟩ := h
  have e1 : (32 : UInt8).toNat = 32 := rfl
  have e2 : (126 : UInt8).toNat = 126 := rfl
  rw [e1] at h1
  rw [e2] at h2
  refine ⟨by omega, by omega, ?_⟩
  rcases h3 with h3 | h3
  · exact .inl (by omega)
  · refine .inr ?_
    simp only [List.contains_cons, List.contains_nil, Bool.or_false, Bool.or_eq_false_iff, beq_eq_false_iff_ne, ne_eq] at h3
    obtain ⟨a1, a2, a3, a4, a5, a6, a7, a8⟩ := h3
    exact ⟨ne_byte a1 rfl, ne_byte a2 rfl, ne_byte a3 rfl, ne_byte a4 rfl, ne_byte a5 rfl, ne_byte a6 rfl, ne_byte a7 rfl, ne_byte a8 rfl⟩
set_option maxRecDepth 100000 in
set_option maxHeartbeats 1000000 in
theorem clean_walk (l : List UInt8) (s : Int) (w : World) (hs : l.length ≤ maxLen) (hs0 : 0 ≤ s) (hs1 : s ≤ 255) :
    Calls Try.prog 5 #[.string ⟨⟨l⟩⟩, .int .u8 s] w fun e w' => e = .returned (.bool true) ∧ Below w.heap.size w w' := by
  unfold maxLen at hs
  by_cases h : l.length ≤ 1500
  · obtain ⟨k, hk⟩ : ∃ k, s % 7 = k := ⟨_, rfl⟩
    have hk0 : 0 ≤ k := by omega
    have hk7 : k < 7 := by omega
    obtain ⟨t, ht⟩ : ∃ t, enc k l = t := ⟨_, rfl⟩
    have htl : t.length ≤ 3 * l.length := by
      rw [← ht]
      unfold enc
      rw [if_pos (by omega)]
      exact flat_le k l
    have hcl : ∀ c ∈ t, dirty k c = false := by
      rw [← ht]
      unfold enc
      rw [if_pos (by omega)]
      exact enc_clean k hk0 hk7 l
    have HC := Lib.hid hcl
    clear hcl
    go_enter Try.func5, Try.ntmps5
    go_wp2_with fail
    refine (enc_any _ _ _ (by omega)).mono ?_
    rintro e w1 ⟨rfl, b1⟩
    rw [ht]
    clear ht
    go_wp2_with fail
    go_loopw [7, 8] (fun p i wr => ∃ n : Nat, i = .int .i64 n ∧ n ≤ l.length ∧ p = .string ⟨⟨plainOf (l.take n)⟩⟩ ∧ w1 = wr) (fun _ i _ => l.length - (intOf i).toNat)
    case atStart => exact ⟨0, rfl, by omega, rfl, rfl⟩
    case round =>
      obtain ⟨n, rfl, hn, rfl, rfl⟩ := hrel
      by_cases hlt : n < l.length
      · have hsn := plain_snoc l n hlt
        obtain ⟨c, hc⟩ : ∃ c, l[n] = c := ⟨_, rfl⟩
        rw [hc] at hsn
        have hpl := plain_le (l.take n)
        have hpl2 : (l.take n).length ≤ n := List.length_take_le _ _
        generalize plainOf (l.take n) = acc at *
        have hacc : acc.length ≤ 1500 := by omega
        clear hpl hpl2
        have htk1 : (l.drop n).take 1 = [c] := by
          rw [List.drop_eq_getElem_cons hlt, hc]
          rfl
        by_cases ha : alnum c = true
        · rw [if_pos ha] at hsn
          have HSN := Lib.hid hsn
          clear hsn
          rw [alnum_iff] at ha
          simp only [decide_eq_true_eq] at ha
          rcases ha with ⟨a1, a2⟩ | ⟨a1, a2⟩ | ⟨a1, a2⟩
          all_goals
            go_wp2_with fail
            go_roundw
            case rel => exact ⟨n + 1, by go_num, by omega, by rw [HSN.out], by trivial⟩
            case measure => simp [intOf]; omega
        · rw [if_neg ha, List.append_nil] at hsn
          have HSN := Lib.hid hsn
          clear hsn
          rw [alnum_iff] at ha
          simp only [decide_eq_true_eq] at ha
          have ha' : c.toNat < 48 ∨ (58 ≤ c.toNat ∧ c.toNat < 65) ∨ (91 ≤ c.toNat ∧ c.toNat < 97) ∨ 123 ≤ c.toNat := by omega
          clear ha htk1
          rcases ha' with a1 | ⟨a1, a2⟩ | ⟨a1, a2⟩ | a1
          all_goals
            go_wp2_with fail
            go_roundw
            case rel => exact ⟨n + 1, by go_num, by omega, by rw [HSN.out], by trivial⟩
            case measure => simp [intOf]; omega
      · have hl := List.take_of_length_le (l := l) (i := n) (by omega)
        rw [hl]
        clear hl
        have e1 := enc_plain k hk0 hk7 l
        have e2 := dec_plain l
        have e3 := plain_le l
        have e4 : enc k (plainOf l) = plainOf l := by
          unfold enc
          rw [if_pos (by omega)]
          exact e1
        generalize plainOf l = p at *
        have E4 := Lib.hid e4
        have E2 := Lib.hid e2
        clear e1 e2 e4
        go_wp2_with fail
        go_loopw [9] (fun i wr => ∃ n : Nat, i = .int .i64 n ∧ n ≤ t.length ∧ w1 = wr) (fun i _ => t.length - (intOf i).toNat)
        case atStart => exact ⟨0, rfl, by omega, rfl⟩
        case round =>
          obtain ⟨m, rfl, hm, rfl⟩ := hrel
          by_cases hmt : m < t.length
          · obtain ⟨c, hc⟩ : ∃ c, t[m] = c := ⟨_, rfl⟩
            obtain ⟨c1, c2, c3⟩ := clean_facts (HC.out c (by rw [← hc]; exact List.getElem_mem _))
            rcases c3 with c3 | ⟨d1, d2, d3, d4, d5, d6, d7, d8⟩
            · go_wp2_with fail
              go_roundw
              case rel => exact ⟨m + 1, by go_num, by omega, by trivial⟩
              case measure => simp [intOf]; omega
            · by_cases c3 : k < 4
              all_goals
                go_wp2_with fail
                go_roundw
                case rel => exact ⟨m + 1, by go_num, by omega, by trivial⟩
                case measure => simp [intOf]; omega
          · go_wp2_with fail
            refine (enc_any _ _ _ (by omega)).mono ?_
            rintro e w2 ⟨rfl, b2⟩
            rw [E4.out]
            go_wp2_with fail
            refine (dec_any _ _ (by omega)).mono ?_
            rintro e w3 ⟨rfl, b3⟩
            rw [E2.out]
            go_wp2_with fail
            refine (signs_any _).mono ?_
            rintro e w4 ⟨rfl, b4⟩
            go_wp2_with fail
            go_ret
            exact ⟨rfl, Ext.trans b1 (Ext.trans b2 (Ext.trans b3 b4))⟩
  · go_enter Try.func5, Try.ntmps5
    go_wp2_with fail
    refine (signs_any _).mono ?_
    rintro e w5 ⟨rfl, b5⟩
    go_wp2_with fail
    go_ret
    exact ⟨rfl, b5⟩
end Go.Proofs.Ytdohpkdfmceimaa
