/-
  What is proved: the reference's Encode: a contract. Condition: texts of at most 100000 bytes.
-/
import Derived.Test.YtkgieaokckidmaaBasV
import Derived.Test.YtkgieaokckidmaaBasB
import Derived.Test.YtkgieaokckidmaaOwn
import Derived.Laws.BitsAllLaws
namespace Go.Proofs.Ytkgieaokckidmaa
open Go.RowKit

theorem cells_of_litB {w : World} {t : TypeId} {cs : Array Value} {b : Nat} (h : w.heap[b]? = some (.cells cs t)) (i : Nat) : w.cell? ⟨b, i, none⟩ = cs[i]? := by
  simp [World.cell?, h]
theorem conv_oneB (w : World) (c : UInt8) (n : Int) (hn : n = (c.toNat : Int)) : (convert 33 9 (.slice (some ⟨w.heap.size, 0, none⟩) 1 1)).run Try.prog (w.alloc (.cells #[.int .u8 n] 5)) = .ok (.string ⟨⟨[c]⟩⟩) (w.alloc (.cells #[.int .u8 n] 5)) := by
  subst hn
  refine run_convert_bytes_back _ 33 9 5 ⟨w.heap.size, 0, none⟩ 1 [c] Try.underlying33 Try.underlying5 Try.underlying9 fun j hj => ?_
  have hj : j < 1 := hj
  obtain rfl : j = 0 := by omega
  exact cells_of_litB (heap_alloc_new w _) 0
set_option maxHeartbeats 4000000 in
theorem bit_at (c : UInt8) (j : Nat) : (bits .and .u8 ((c.toNat : Int) / 2 ^ j) 1 == 1) = decide (c.toNat / 2 ^ j % 2 = 1) := by
  have hc := c.toNat_lt
  have h1 : c.toNat / 2 ^ j < 256 := Nat.lt_of_le_of_lt (Nat.div_le_self _ _) hc
  have e : ((c.toNat : Int) / 2 ^ j) = ((c.toNat / 2 ^ j : Nat) : Int) := by rw [Int.natCast_ediv, Int.natCast_pow]; rfl
  have h2 := u8_and_nat (c.toNat / 2 ^ j) 1 h1 (by decide)
  rw [Nat.and_one_is_mod] at h2
  have h3 : bits .and .u8 ((c.toNat : Int) / 2 ^ j) 1 = ((c.toNat / 2 ^ j % 2 : Nat) : Int) := by rw [e]; exact h2
  rw [h3, Bool.eq_iff_iff, beq_iff_eq, decide_eq_true_iff]
  omega
theorem bitB_at (l : List UInt8) (k : Nat) (h : k < 8 * l.length) (h8 : k / 8 < l.length) : bitB l k = l[k / 8].toNat / 2 ^ (7 - k % 8) % 2 := by
  unfold bitB
  rw [if_pos h, List.getD_eq_getElem?_getD, List.getElem?_eq_getElem h8]
  rfl
theorem bitB_out (l : List UInt8) (k : Nat) (h : ¬ k < 8 * l.length) : bitB l k = 0 := by
  unfold bitB
  rw [if_neg h]
theorem pad_nums (l : List UInt8) : ∃ pd, padL l.length = List.replicate pd 61 ∧ pd ≤ 2 ∧ ((l.length * 4 + 2) / 3 + pd) % 4 = 0 := by
  unfold padL
  split
  · exact ⟨2, rfl, by omega, by omega⟩
  · split
    · exact ⟨1, rfl, by omega, by omega⟩
    · exact ⟨0, rfl, by omega, by omega⟩
set_option maxRecDepth 100000 in
set_option maxHeartbeats 1000000 in
theorem refEnc_any (l : List UInt8) (w : World) (hs : l.length ≤ 100000) :
    Calls Try.prog 11 #[.string ⟨⟨l⟩⟩] w fun e w' => e = .returned (.string ⟨⟨encL l⟩⟩) ∧ Ext w w' := by
  go_enter Try.func11, Try.ntmps11
  go_wp2_with fail
  go_loopw [3, 4] (fun o a wr => ∃ i : Nat, i ≤ (l.length * 4 + 2) / 3 ∧ a = .int .i64 ((6 * i : Nat) : Int) ∧ o = .string ⟨⟨(sixV l i).map letN⟩⟩ ∧ Below w.heap.size w wr) (fun _ a _ => 8 * l.length - (intOf a).toNat)
  case atStart => exact ⟨0, Nat.zero_le _, rfl, rfl, Below.refl _ _⟩
  case round =>
    obtain ⟨i, hi, rfl, rfl, hb⟩ := hrel
    obtain ⟨at0, ha⟩ : ∃ at0, 6 * i = at0 := ⟨_, rfl⟩
    rw [ha]
    have HA := Lib.hid ha
    by_cases hlt : at0 < 8 * l.length
    · have hal : at0 ≤ 800000 := by omega
      have hd0 : decide ((at0 : Int) < 8 * (l.length : Int)) = true := by rw [decide_eq_true_iff]; omega
      clear ha
      go_wp2_with fail
      go_loop [5, 6] (fun nv kv => ∃ m : Nat, m ≤ 6 ∧ nv = .int .i64 ((numB6 l at0 m : Nat) : Int) ∧ kv = .int .i64 ((at0 + m : Nat) : Int)) (fun _ kv => at0 + 6 - (intOf kv).toNat)
      case atStart => exact ⟨0, by omega, rfl, rfl⟩
      case round =>
        obtain ⟨m, hm, rfl, rfl⟩ := hrel
        obtain ⟨k, hk⟩ : ∃ k, at0 + m = k := ⟨_, rfl⟩
        rw [hk]
        by_cases hm6 : m < 6
        · obtain ⟨x, hx⟩ : ∃ x, numB6 l at0 m = x := ⟨_, rfl⟩
          rw [hx]
          have hxl : x < 64 := by
            have := numB6_lt l at0 m
            rw [hx] at this
            have : (2 : Nat) ^ m ≤ 2 ^ 6 := Nat.pow_le_pow_right (by omega) (by omega)
            omega
          have HX := Lib.hid hx
          have hk6 : k < at0 + 6 := by omega
          have HK := Lib.hid hk
          clear hx hk
          by_cases hkl : k < 8 * l.length
          · have h8 : k / 8 < l.length := by omega
            have hba := bit_at l[k / 8] (7 - k % 8)
            have hbb := bitB_at l k hkl h8
            have hd1 : decide ((k : Int) < 8 * (l.length : Int)) = true := by rw [decide_eq_true_iff]; omega
            by_cases hz : l[k / 8].toNat / 2 ^ (7 - k % 8) % 2 = 1
            · have hbt : (bits .and .u8 ((l[k / 8].toNat : Int) / 2 ^ (7 - k % 8)) 1 == 1) = true := by rw [hba, decide_eq_true hz]
              have hnx : numB6 l at0 (m + 1) = 2 * x + 1 := by simp only [numB6]; rw [HX.out, HK.out, hbb, hz]
              have HN := Lib.hid hnx
              clear hnx hba hbb hz
              go_wp2_with fail
              go_round
              case rel => exact ⟨m + 1, by omega, by rw [HN.out]; go_num, by rw [← HK.out]; go_num⟩
              case measure => simp [intOf]; omega
            · have hbt : (bits .and .u8 ((l[k / 8].toNat : Int) / 2 ^ (7 - k % 8)) 1 == 1) = false := by rw [hba, decide_eq_false hz]
              have hnx : numB6 l at0 (m + 1) = 2 * x := by simp only [numB6]; rw [HX.out, HK.out, hbb]; omega
              have HN := Lib.hid hnx
              clear hnx hba hbb hz
              go_wp2_with fail
              go_round
              case rel => exact ⟨m + 1, by omega, by rw [HN.out]; go_num, by rw [← HK.out]; go_num⟩
              case measure => simp [intOf]; omega
          · have hbb := bitB_out l k hkl
            have hnx : numB6 l at0 (m + 1) = 2 * x := by simp only [numB6]; rw [HX.out, HK.out, hbb]; omega
            have hd1 : decide ((k : Int) < 8 * (l.length : Int)) = false := by rw [decide_eq_false_iff_not]; omega
            have HN := Lib.hid hnx
            clear hnx hbb
            go_wp2_with fail
            go_round
            case rel => exact ⟨m + 1, by omega, by rw [HN.out]; go_num, by rw [← HK.out]; go_num⟩
            case measure => simp [intOf]; omega
        · obtain rfl : m = 6 := by omega
          obtain ⟨x, hx⟩ : ∃ x, numB6 l at0 6 = x := ⟨_, rfl⟩
          rw [hx]
          have hxl : x < 64 := by
            have := numB6_lt l at0 6
            rw [hx] at this
            omega
          have HX := Lib.hid hx
          have hd6 : decide ((k : Int) < (at0 : Int) + 6) = false := by rw [decide_eq_false_iff_not]; omega
          clear hk
          have hconv := conv_oneB wr (letN x) ((letN x).toNat : Nat) rfl
          have hsx : (sixV l i).length ≤ 200000 := by simp [sixV]; omega
          have hstep : (sixV l (i + 1)).map letN = (sixV l i).map letN ++ [letN x] := by
            rw [sixV_succ, List.map_append, HA.out, hx]
            rfl
          have HS := Lib.hid hstep
          clear hstep hx
          go_wp2_with (go_at_call 21; refine (letter_any x _ _ hxl rfl).mono ?_; rintro e w' ⟨rfl, rfl⟩)
          go_roundw
          case rel => exact ⟨i + 1, by have := HA.out; omega, by rw [show 6 * (i + 1) = at0 + 6 by have := HA.out; omega]; go_num, by rw [HS.out], hb.alloc (by have := hb.size; omega) _⟩
          case measure => simp [intOf]; omega
    · have hd0 : decide ((at0 : Int) < 8 * (l.length : Int)) = false := by rw [decide_eq_false_iff_not]; omega
      obtain rfl : i = (l.length * 4 + 2) / 3 := by omega
      rw [sixV_enc]
      obtain ⟨pd, hp1, hp2, hp3⟩ := pad_nums l
      have HP := Lib.hid hp1
      have hel := encV_len l
      obtain ⟨n, hn⟩ : ∃ n, (encV l).length = n := ⟨_, rfl⟩
      have hnl : n ≤ 200000 := by omega
      have hnp : (n + pd) % 4 = 0 := by rw [← hn, hel]; exact hp3
      have HN := Lib.hid hn
      have HNP := Lib.hid hnp
      obtain ⟨E, hE⟩ : ∃ E, (encV l).map letN = E := ⟨_, rfl⟩
      rw [hE]
      have hEl : E.length = n := by rw [← hE, List.length_map, hn]
      have HE := Lib.hid hE
      have HEL := Lib.hid hEl
      clear ha hel hn hnp hp1 hp3 hE hEl
      go_wp2_with fail
      go_loop [3] (fun o => ∃ (j : Nat) (T : List UInt8), j ≤ pd ∧ o = .string ⟨⟨T⟩⟩ ∧ Hid (T = E ++ List.replicate j 61)) (fun o => 300000 - strLen o)
      case atStart => exact ⟨0, E, Nat.zero_le _, rfl, Lib.hid (by simp)⟩
      case round =>
        obtain ⟨j, T, hj, rfl, HT⟩ := hrel
        have htl : T.length = n + j := by rw [HT.out, List.length_append, HEL.out, List.length_replicate]
        have htb : T.length ≤ 200010 := by omega
        have HTL := Lib.hid htl
        by_cases hz : (n + j) % 4 = 0
        · have hb4 : ((T.length : Int) % 4 != 0) = false := by simp; omega
          have hjp : j = pd := by have := HNP.out; omega
          have hfin : T = encL l := by
            rw [HT.out, hjp, ← HE.out, ← HP.out]
            rfl
          have HF := Lib.hid hfin
          clear htl hz hjp hfin
          go_wp2_with fail
          go_ret
          exact ⟨ret_inj (str_eq HF.out), hb⟩
        · have hb4 : ((T.length : Int) % 4 != 0) = true := by simp; omega
          have hjp : j < pd := by
            have := HNP.out
            apply Classical.byContradiction
            intro hc
            have : j = pd := by omega
            subst this
            exact hz HNP.out
          clear htl hz
          go_wp2_with fail
          go_round
          case rel => exact ⟨j + 1, T ++ [61], by omega, rfl, Lib.hid (by rw [HT.out, List.append_assoc, List.replicate_succ'])⟩
          case measure => simp [strLen]; omega
end Go.Proofs.Ytkgieaokckidmaa
