/-
  What is proved: the walks of TextsWhole: the language's own loop over a text of characters. Condition: the package's table holds what its text lays.
-/
import Derived.Test.YthcbkgiphfgbcaaDoorTxtG
import Derived.Laws.RangeAny
namespace Go.Proofs.YthcbkgiphfgbcaaDoor
open Go.RowKit

theorem decB_len : ∀ (n : Nat) (l : List UInt8), l.length ≤ n → (decB l).length ≤ 3 * l.length
  | 0, l, h => by
    have : l = [] := by cases l with | nil => rfl | cons a t => simp at h
    subst this; simp [decB_nil]
  | n + 1, l, h => by
    by_cases hl : l = []
    · subst hl; simp [decB_nil]
    · have hp := partB_le hl
      have he := emit_len hl
      have ih := decB_len n (l.drop (partB l).1) (by rw [List.length_drop]; omega)
      rw [decB_step hl, List.length_append]
      rw [List.length_drop] at ih
      omega
theorem enc_eq {v : Nat} {ch : List UInt8} (h : (Utf8.encode v).data.toList = ch) : Utf8.encode v = ⟨⟨ch⟩⟩ := (eta (Utf8.encode v)).trans (congrArg (fun l => ByteArray.mk (Array.mk l)) h)
theorem enc_bad : (Utf8.encode (65533 : Nat)).data.toList = [239, 191, 189] := by
  rw [enc_is 65533 (by omega), if_neg (by omega), if_neg (by omega), if_pos (by omega)]
  decide
theorem below_iter {B : Nat} {w : World} (h : B ≤ w.heap.size) (s : ByteArray) (p : Nat) : Below B w (w.iter s p) := (Below.refl _ _).alloc h _
set_option maxRecDepth 10000000 in
set_option maxHeartbeats 2000000 in
theorem whole_any (s : List UInt8) (w : World) (hv : Val s) (hl : s.length < 100000) :
    Calls Tryd.prog 12 #[.string ⟨⟨s⟩⟩] w fun e w' => e = .returned (.bool true) ∧ Ext w w' := by
  have HV := Lib.hid hv
  clear hv
  obtain ⟨K0, hK0⟩ : ∃ k : Int, 65533 = k := ⟨_, rfl⟩
  have HK := Lib.hid hK0
  go_enter Tryd.func12, Tryd.ntmps12
  rw [hK0]
  clear hK0
  go_wp2_with fail
  go_loopw [3] (fun sn wr => ∃ p r : List UInt8, sn = .int .i64 p.length ∧ wr = w.iter ⟨⟨s⟩⟩ p.length ∧ Hid (s = p ++ r) ∧ Hid (Val r) ∧ p.length ≤ s.length) (fun sn _ => s.length - (intOf sn).toNat)
  case atStart => exact ⟨[], s, rfl, rfl, Lib.hid rfl, HV, by simp⟩
  case round =>
    obtain ⟨p, r, rfl, rfl, hs, hr, hp⟩ := hrel
    by_cases hre : r = []
    · have hpl : p.length = s.length := by rw [hs.out, hre, List.append_nil]
      have hnx := fun ty => run_next_end (P := Tryd.prog) w ⟨⟨s⟩⟩ p.length ty (by show ¬ p.length < s.length; omega)
      have hb : ((p.length : Int) == s.length) = true := by rw [beq_iff_eq]; omega
      clear hpl hre
      go_wp2_with fail
      go_ret
      exact ⟨rfl, below_iter (Nat.le_refl _) _ _⟩
    · obtain ⟨ch, t, hct, hc, ht⟩ := hr.out.head hre
      obtain ⟨v, hd, he⟩ := decode_chr hc p t
      have hs2 : s = p ++ (ch ++ t) := by rw [hs.out, hct]
      have hs3 : s = (p ++ ch) ++ t := by rw [hs2, List.append_assoc]
      have hlen : s.length = p.length + ch.length + t.length := by rw [hs2]; simp; omega
      have hch : 0 < ch.length := List.length_pos_iff.2 hc.1
      have hnx := fun ty => run_next_any (P := Tryd.prog) w ⟨⟨s⟩⟩ p.length ty (by show p.length < s.length; omega)
      rw [← hs2] at hd
      rw [hd] at hnx
      have hE := enc_eq he
      have hsl : (s.drop p.length).take ch.length = ch := by rw [hs2]; simp
      have HS := Lib.hid hs3
      have HT := Lib.hid ht
      have hl2 : p.length + ch.length ≤ s.length := by omega
      have hpc : ((p ++ ch).length : Int) = (p.length : Int) + ch.length := by simp
      have HPC := Lib.hid hpc
      have hpn : (p ++ ch).length = p.length + ch.length := by simp
      have HPN := Lib.hid hpn
      have HEE := Lib.hid he
      clear hs2 hs3 hd he hct hre hlen ht hpc hpn
      by_cases hv : v = 65533
      · have hch3 : ch = [239, 191, 189] := by
          subst hv
          exact HEE.out.symm.trans enc_bad
        have hb : ((v : Int) == K0) = true := by rw [beq_iff_eq, ← HK.out]; omega
        clear hv
        subst hch3
        simp only [List.length_cons, List.length_nil, Nat.zero_add, Nat.reduceAdd] at hsl hl2 hnx hch
        go_wp2_with fail
        go_roundw
        case rel => exact ⟨p ++ [239, 191, 189], t, int_eq (by rw [HPC.out]; rfl), by rw [HPN.out]; rfl, HS, HT, by rw [HPN.out]; exact hl2⟩
        case measure => simp [intOf]; omega
      · have hb : ((v : Int) == K0) = false := by rw [beq_eq_false_iff_ne, ← HK.out]; omega
        clear hv
        go_wp2_with fail
        go_roundw
        case rel => exact ⟨p ++ ch, t, int_eq HPC.out.symm, by rw [HPN.out], HS, HT, by rw [HPN.out]; exact hl2⟩
        case measure => simp [intOf]; omega
theorem whole_st (w0 : World) (s : List UInt8) (w : World) (h : St w0 w) (hv : Val s) (hl : s.length < 100000) :
    Calls Tryd.prog 12 #[.string ⟨⟨s⟩⟩] w fun e w' => e = .returned (.bool true) ∧ St w0 w' := (whole_any s w hv hl).mono fun _ _ ⟨a, b⟩ => ⟨a, h.next b⟩
theorem mark_take (s : List UInt8) : markB.isPrefixOf s = (decide (3 ≤ s.length) && (s.take 3 == [239, 187, 191])) := isPrefix_iff markB s
set_option maxHeartbeats 1000000 in
theorem whole_walk (l : List UInt8) (w : World) (hL : LeadsIs w) (hM : MaxIs w) (hs : l.length ≤ maxLen) :
    Calls Tryd.prog 4 #[.string ⟨⟨l⟩⟩] w fun e w' => e = .returned (.bool true) ∧ Below w.heap.size w w' := by
  have h : St w w := ⟨Ext.refl _, hL, hM⟩
  clear hL hM
  unfold maxLen at hs
  by_cases hl : l.length ≤ 3000
  · have hlen := decB_len _ (unmark l) (Nat.le_refl _)
    have hul : (unmark l).length ≤ l.length := by unfold unmark; split <;> simp
    have hval := decB_val (unmark l)
    obtain ⟨s, hsd⟩ : ∃ s, decB (unmark l) = s := ⟨_, rfl⟩
    rw [hsd] at hlen hval
    have hag := dec_again hval
    have hmm : decB (unmark ([239, 187, 191] ++ s)) = s := (congrArg decB (unmark_on s)).trans hval.dec
    have HSD := Lib.hid hsd
    have HMM := Lib.hid hmm
    have HVV := Lib.hid hval
    have hmt := mark_take s
    have hsl : s.length < 10000 := by omega
    clear hlen hul hsd hmm hval
    obtain ⟨t, htd⟩ : ∃ t, decB (unmark s) = t := ⟨_, rfl⟩
    rw [htd] at hag
    have HTD := Lib.hid htd
    clear htd
    by_cases hm : markB.isPrefixOf s = true
    · rw [if_pos hm] at hag
      rw [hm] at hmt
      have hm3 := Bool.and_eq_true_iff.1 hmt.symm
      have h3 : (3 : Int) ≤ s.length := by have := of_decide_eq_true hm3.1; omega
      have h4 : (s.take 3 == [239, 187, 191]) = true := hm3.2
      have HAG : Hid (([239, 187, 191] : List UInt8) ++ t = s) := Lib.hid hag
      have htl : t.length ≤ s.length := by rw [← HAG.out]; simp; omega
      clear hm hmt hag hm3
      go_enter Tryd.func4, Tryd.ntmps4
      go_wp2_with fail
      refine (decode_is w _ _ _ h (by omega) HSD.out).mono ?_
      rintro e w1 ⟨rfl, h1⟩
      go_wp2_with fail
      refine (decode_is w _ _ _ h1 (by omega) HTD.out).mono ?_
      rintro e w2 ⟨rfl, h2⟩
      have hag2 : 239 :: 187 :: 191 :: t = s := HAG.out
      go_wp2_with fail
      refine (whole_st w _ _ h2 HVV.out (by omega)).mono ?_
      rintro e w3 ⟨rfl, h3⟩
      go_wp2_with fail
      refine (decode_is w _ _ _ h3 (by simp; omega) HMM.out).mono ?_
      rintro e w4 ⟨rfl, h4⟩
      go_wp2_with fail
      refine (shown_st w _ h4).mono ?_
      rintro e w5 ⟨rfl, h5⟩
      go_wp2_with fail
      go_ret
      exact ⟨rfl, h5.1⟩
    · have hm2 : markB.isPrefixOf s = false := Bool.eq_false_iff.2 hm
      rw [if_neg hm] at hag
      subst hag
      rw [hm2] at hmt
      clear hm hm2
      by_cases h3 : 3 ≤ t.length
      · have h4 : (t.take 3 == [239, 187, 191]) = false := by
          rw [decide_eq_true h3, Bool.true_and] at hmt
          exact hmt.symm
        have h3' : (3 : Int) ≤ t.length := by omega
        clear hmt h3
        go_enter Tryd.func4, Tryd.ntmps4
        go_wp2_with fail
        refine (decode_is w _ _ _ h (by omega) HSD.out).mono ?_
        rintro e w1 ⟨rfl, h1⟩
        go_wp2_with fail
        refine (decode_is w _ _ _ h1 (by omega) HTD.out).mono ?_
        rintro e w2 ⟨rfl, h2⟩
        go_wp2_with fail
        refine (whole_st w _ _ h2 HVV.out (by omega)).mono ?_
        rintro e w3 ⟨rfl, h3⟩
        go_wp2_with fail
        refine (decode_is w _ _ _ h3 (by simp; omega) HMM.out).mono ?_
        rintro e w4 ⟨rfl, h4⟩
        go_wp2_with fail
        refine (shown_st w _ h4).mono ?_
        rintro e w5 ⟨rfl, h5⟩
        go_wp2_with fail
        go_ret
        exact ⟨rfl, h5.1⟩
      · have h3' : (t.length : Int) < 3 := by omega
        clear hmt h3
        go_enter Tryd.func4, Tryd.ntmps4
        go_wp2_with fail
        refine (decode_is w _ _ _ h (by omega) HSD.out).mono ?_
        rintro e w1 ⟨rfl, h1⟩
        go_wp2_with fail
        refine (decode_is w _ _ _ h1 (by omega) HTD.out).mono ?_
        rintro e w2 ⟨rfl, h2⟩
        go_wp2_with fail
        refine (whole_st w _ _ h2 HVV.out (by omega)).mono ?_
        rintro e w3 ⟨rfl, h3⟩
        go_wp2_with fail
        refine (decode_is w _ _ _ h3 (by simp; omega) HMM.out).mono ?_
        rintro e w4 ⟨rfl, h4⟩
        go_wp2_with fail
        refine (shown_st w _ h4).mono ?_
        rintro e w5 ⟨rfl, h5⟩
        go_wp2_with fail
        go_ret
        exact ⟨rfl, h5.1⟩
  · go_enter Tryd.func4, Tryd.ntmps4
    go_wp2_with fail
    refine (shown_st w _ h).mono ?_
    rintro e w5 ⟨rfl, h5⟩
    go_wp2_with fail
    go_ret
    exact ⟨rfl, h5.1⟩
end Go.Proofs.YthcbkgiphfgbcaaDoor
