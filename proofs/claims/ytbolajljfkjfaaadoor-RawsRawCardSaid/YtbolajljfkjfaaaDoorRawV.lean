/-
  What is proved: the reference's raw texts are the program's: a contract. Conditions: texts of less than 100000 bytes.
-/
import Derived.Test.YtbolajljfkjfaaaDoorRawU
namespace Go.Proofs.YtbolajljfkjfaaaDoor
open Go.RowKit

theorem take_drop_part {s : List UInt8} {k m : Nat} : (s.take (k + m)).drop k = (s.drop k).take m := by
  rw [List.drop_take]
  congr 1
  omega
set_option maxRecDepth 100000 in
set_option maxHeartbeats 16000000 in
theorem rawR_any (s n : List UInt8) (i st : Int) (w : World) (hs : s.length < 100000) (hn : n.length < 90000) (h0 : -9223372036854775808 ≤ i) (h1 : i ≤ 9223372036854775807) :
    Calls Tryd.prog 20 #[.string ⟨⟨s⟩⟩, .int .i64 i, .int .i64 st, .string ⟨⟨n⟩⟩] w fun e w' => e = .returned (rawV s i st n) ∧ Ext w w' := by
  by_cases hneg : i < 0
  · rw [rawV_out (.inl hneg)]
    go_enter Tryd.func20, Tryd.ntmps20
    go_wp2_with fail
    go_ret2
    exact ⟨rfl, Ext.refl _⟩
  by_cases hbig : (s.length : Int) < i
  · rw [rawV_out (.inr hbig)]
    go_enter Tryd.func20, Tryd.ntmps20
    go_wp2_with fail
    go_ret2
    exact ⟨rfl, Ext.refl _⟩
  obtain ⟨k, rfl⟩ : ∃ k : Nat, i = k := ⟨i.toNat, by omega⟩
  have hk : k ≤ s.length := by omega
  have g1 : ¬ (k : Int) < 0 := by omega
  have g2 : ¬ (s.length : Int) < (k : Int) := by omega
  clear hneg hbig h0 h1
  obtain ⟨r, hr⟩ : ∃ r, s.drop k = r := ⟨_, rfl⟩
  have hrl : k + r.length = s.length := by rw [← hr, List.length_drop]; omega
  have HR := Lib.hid hr
  have hsl := stopP_le n r
  have hhl := haltP_le n r.length r (Nat.le_refl _) 0
  by_cases h4 : st = 4
  · subst h4
    have HV : Hid (rawV s k 4 n = .tuple #[.string ⟨⟨cleanL r⟩⟩, .int .i64 s.length]) := Lib.hid (by rw [rawV_in (t := cleanL r) (m := r.length) hk (by rw [HR.out]; rfl), show (k : Int) + r.length = s.length by omega])
    go_enter Tryd.func20, Tryd.ntmps20
    go_wp2_with (go_at_call 23; refine (cleanR_any r _ (by omega)).mono ?_; rintro e w2 ⟨rfl, rfl⟩)
    go_ret2
    exact ⟨ret_inj HV.out.symm, Ext.refl _⟩
  have f4 : (st == 4) = false := by rw [int_beq]; simpa using h4
  by_cases h2 : st = 2
  · subst h2
    have HV : Hid (rawV s k 2 n = .tuple #[.string ⟨⟨cleanL (r.take (stopP n r))⟩⟩, .int .i64 (k + stopP n r : Nat)]) := Lib.hid (by rw [rawV_in (t := cleanL (r.take (stopP n r))) (m := stopP n r) hk (by rw [HR.out]; rfl)]; rfl)
    have cu := until_plain s n k w hs hn hk
    rw [hr] at cu
    obtain ⟨m, hmm⟩ : ∃ m, stopP n r = m := ⟨_, rfl⟩
    rw [hmm] at cu hsl HV
    obtain ⟨e, he⟩ : ∃ e, k + m = e := ⟨_, rfl⟩
    have hem : e - k = m := by omega
    have hel : e ≤ s.length := by omega
    have hke : k ≤ e := by omega
    rw [he] at cu HV
    clear hmm hhl he
    go_enter Tryd.func20, Tryd.ntmps20
    go_wp2_with (first
      | (go_at_call 45; refine cu.mono ?_; rintro e w1 ⟨rfl, x1⟩)
      | (go_at_call 23; refine (cleanR_any (r.take m) _ (by simp; omega)).mono ?_; rintro e w2 ⟨rfl, rfl⟩))
    go_ret2
    exact ⟨ret_inj HV.out.symm, x1⟩
  have f2 : (st == 2) = false := by rw [int_beq]; simpa using h2
  have e2 : (st != 2) = true := by unfold bne; rw [f2]; rfl
  by_cases h3 : st = 3
  · subst h3
    have HV : Hid (rawV s k 3 n = .tuple #[.string ⟨⟨cleanL (r.take (haltP n 0 r))⟩⟩, .int .i64 (k + haltP n 0 r : Nat)]) := Lib.hid (by rw [rawV_in (t := cleanL (r.take (haltP n 0 r))) (m := haltP n 0 r) hk (by rw [HR.out]; rfl)]; rfl)
    have cu := until_script s n k w hs hn hk
    rw [hr] at cu
    obtain ⟨m, hmm⟩ : ∃ m, haltP n 0 r = m := ⟨_, rfl⟩
    rw [hmm] at cu hhl HV
    obtain ⟨e, he⟩ : ∃ e, k + m = e := ⟨_, rfl⟩
    have hem : e - k = m := by omega
    have hel : e ≤ s.length := by omega
    have hke : k ≤ e := by omega
    rw [he] at cu HV
    clear hmm hsl he f2 e2
    go_enter Tryd.func20, Tryd.ntmps20
    go_wp2_with (first
      | (go_at_call 45; refine cu.mono ?_; rintro e w1 ⟨rfl, x1⟩)
      | (go_at_call 23; refine (cleanR_any (r.take m) _ (by simp; omega)).mono ?_; rintro e w2 ⟨rfl, rfl⟩))
    go_ret2
    exact ⟨ret_inj HV.out.symm, x1⟩
  have f3 : (st == 3) = false := by rw [int_beq]; simpa using h3
  have e3 : (st != 3) = true := by unfold bne; rw [f3]; rfl
  by_cases h1 : st = 1
  · subst h1
    have HV : Hid (rawV s k 1 n = .tuple #[.string ⟨⟨refsL false (r.take (stopP n r))⟩⟩, .int .i64 (k + stopP n r : Nat)]) := Lib.hid (by rw [rawV_in (t := refsL false (r.take (stopP n r))) (m := stopP n r) hk (by rw [HR.out]; rfl)]; rfl)
    have cu := until_plain s n k w hs hn hk
    rw [hr] at cu
    obtain ⟨m, hmm⟩ : ∃ m, stopP n r = m := ⟨_, rfl⟩
    rw [hmm] at cu hsl HV
    obtain ⟨e, he⟩ : ∃ e, k + m = e := ⟨_, rfl⟩
    have hel : e ≤ s.length := by omega
    have hke : k ≤ e := by omega
    obtain ⟨p, hp⟩ : ∃ p, s.take e = p := ⟨_, rfl⟩
    have hpl : p.length = e := by rw [← hp, List.length_take]; omega
    have HP : Hid (p.drop k = r.take m) := Lib.hid (by rw [← hp, ← he, take_drop_part, hr])
    have HPS : Hid (∀ a, ∀ h : a < p.length, ∀ h2 : a < s.length, p[a] = s[a]) := Lib.hid (fun a h h2 => by subst hp; simp)
    rw [he] at cu HV
    clear hmm hhl he hr
    go_enter Tryd.func20, Tryd.ntmps20
    go_wp2_with (go_at_call 45; refine cu.mono ?_; rintro e w1 ⟨rfl, x1⟩)
    clear cu
    go_loopw [11, 12] (fun v u wr => ∃ (a : Nat) (acc : List UInt8), v = .string ⟨⟨acc⟩⟩ ∧ u = .int .i64 a ∧ k ≤ a ∧ a ≤ e ∧ acc.length ≤ 16 * a ∧ Ext w wr ∧ Hid (refsL false (r.take m) = acc ++ refsL false (p.drop a))) (fun _ u _ => s.length - (intOf u).toNat)
    case atStart => exact ⟨k, [], rfl, rfl, by omega, by omega, by simp, x1, Lib.hid (by rw [HP.out]; rfl)⟩
    case round =>
      obtain ⟨a, acc, rfl, rfl, ha1, ha2, hal, hx, HQ⟩ := hrel
      clear x1
      by_cases hlt : a < e
      · have l1 : (a : Int) < (e : Int) := by omega
        have l2 : (e : Int) ≤ (s.length : Int) := by omega
        have hap : a < p.length := by omega
        have cf := fun W => refRefsFind_any p a false W (by omega)
        have hfi : findI p a false = findB p a false := by unfold findI; rw [if_neg (by omega), Int.toNat_natCast]
        rw [hfi] at cf
        have hfs := findB_short p a false
        obtain ⟨t, q, b, hf⟩ : ∃ t q b, findB p a false = (t, q, b) := ⟨_, _, _, rfl⟩
        rw [hf] at cf hfs
        cases b with
        | true =>
          obtain ⟨r1, r2, r3⟩ := refs_yes hap hf
          have HF : Hid (refsL false (r.take m) = (acc ++ t) ++ refsL false (p.drop q)) := Lib.hid (by rw [HQ.out, r1, List.append_assoc])
          clear r1 hf hfi HQ
          dsimp only at cf hfs
          go_wp2_with (go_at_call 46; refine (cf _).mono ?_; rintro e w2 ⟨rfl, x2⟩)
          go_roundw
          case rel => exact ⟨q, acc ++ t, rfl, rfl, by omega, by omega, by simp; omega, hx.trans x2, HF⟩
          case measure => simp [intOf]; omega
        | false =>
          obtain ⟨c, hc⟩ : ∃ c, s[a]'(by omega) = c := ⟨_, rfl⟩
          have ht1 := take_one (show a < s.length by omega)
          have hbl := cleanB_len c
          rw [hc] at ht1
          have HF : Hid (refsL false (r.take m) = (acc ++ cleanB c) ++ refsL false (p.drop (a + 1))) := Lib.hid (by rw [HQ.out, refs_no hap (by rw [hf]), HPS.out a hap (by omega), hc, List.append_assoc])
          have hcl1 : cleanL [c] = cleanB c := by rw [cleanL_cons, cleanL_nil, List.append_nil]
          have cc := fun W => cleanR_any [c] W (by simp)
          rw [hcl1] at cc
          clear hf hfi hc hcl1 HQ
          dsimp only at cf hfs
          go_wp2_with (first
            | (go_at_call 46; refine (cf _).mono ?_; rintro e w2 ⟨rfl, x2⟩)
            | (go_at_call 23; refine (cc _).mono ?_; rintro e w3 ⟨rfl, rfl⟩))
          go_roundw
          case rel => exact ⟨a + 1, acc ++ cleanB c, rfl, by go_num, by omega, by omega, by simp; omega, hx.trans x2, HF⟩
          case measure => simp [intOf]; omega
      · have l1 : ¬ (a : Int) < (e : Int) := by omega
        have HF : Hid (acc = refsL false (r.take m)) := Lib.hid (by
          rw [HQ.out, List.drop_eq_nil_of_le (by omega), refsL_nil, List.append_nil])
        go_wp2_with fail
        go_ret2
        exact ⟨ret_inj (by rw [HV.out, ← HF.out]; rfl), hx⟩
  have f1 : (st == 1) = false := by rw [int_beq]; simpa using h1
  have e1 : (st != 1) = true := by unfold bne; rw [f1]; rfl
  have HV : Hid (rawV s k st n = .tuple #[.string ⟨⟨[]⟩⟩, .int .i64 k]) := Lib.hid (rawV_none hk (by unfold rawP; rw [if_neg h4, if_neg h1, if_neg h2, if_neg h3]))
  clear h4 h1 h2 h3
  go_enter Tryd.func20, Tryd.ntmps20
  go_wp2_with fail
  go_ret2
  exact ⟨ret_inj HV.out.symm, Ext.refl _⟩
end Go.Proofs.YtbolajljfkjfaaaDoor
