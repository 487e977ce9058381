/-
  What is proved: raw texts, as the program reads them: a contract. Conditions: texts of less than 100000 bytes; the library's variable holds an integer, the program's table what its text lays.
-/
import Derived.Test.YtbolajljfkjfaaaDoorRawF
namespace Go.Proofs.YtbolajljfkjfaaaDoor
open Go.RowKit

def rawV (s : List UInt8) (i st : Int) (n : List UInt8) : Value :=
  if i < 0 ∨ (s.length : Int) < i then .tuple #[.string ⟨⟨[]⟩⟩, .int .i64 i]
  else match rawP n st (s.drop i.toNat) with
  | none => .tuple #[.string ⟨⟨[]⟩⟩, .int .i64 i]
  | some (t, k) => .tuple #[.string ⟨⟨t⟩⟩, .int .i64 (i + k)]
theorem rawV_out {s : List UInt8} {i st : Int} {n : List UInt8} (h : i < 0 ∨ (s.length : Int) < i) : rawV s i st n = .tuple #[.string ⟨⟨[]⟩⟩, .int .i64 i] := by
  unfold rawV
  rw [if_pos h]
theorem rawV_in {s : List UInt8} {k : Nat} {st : Int} {n t : List UInt8} {m : Nat} (h : k ≤ s.length) (hr : rawP n st (s.drop k) = some (t, m)) : rawV s k st n = .tuple #[.string ⟨⟨t⟩⟩, .int .i64 (k + m)] := by
  unfold rawV
  rw [if_neg (by omega), Int.toNat_natCast, hr]
theorem rawV_none {s : List UInt8} {k : Nat} {st : Int} {n : List UInt8} (h : k ≤ s.length) (hr : rawP n st (s.drop k) = none) : rawV s k st n = .tuple #[.string ⟨⟨[]⟩⟩, .int .i64 k] := by
  unfold rawV
  rw [if_neg (by omega), Int.toNat_natCast, hr]
theorem int_beq {a b : Int} : (a == b) = decide (a = b) := by
  rw [Bool.eq_iff_iff]
  simp
set_option maxRecDepth 100000 in
set_option maxHeartbeats 8000000 in
theorem raw_any (s n : List UInt8) (i st : Int) (w : World) (hm : MaxIs w) (hO : OthersIs w) (hg : 3 < w.heap.size) (hs : s.length < 100000) (hn : n.length < 90000) (h0 : -9223372036854775808 ≤ i) (h1 : i ≤ 9223372036854775807) :
    Calls Tryd.prog 19 #[.string ⟨⟨s⟩⟩, .int .i64 i, .int .i64 st, .string ⟨⟨n⟩⟩] w fun e w' => e = .returned (rawV s i st n) ∧ Ext w w' := by
  by_cases h : i < 0 ∨ (s.length : Int) < i
  · have cb := behind_none (behI_out (f := []) h) hs (by decide) h0 h1
    rw [rawV_out h]
    clear h
    go_enter Tryd.func19, Tryd.ntmps19
    go_wp2_with (go_at_call 28; refine (cb _).mono ?_; rintro e w1 ⟨rfl, x1⟩)
    go_ret2
    exact ⟨rfl, x1⟩
  · obtain ⟨k, rfl⟩ : ∃ k : Nat, i = k := ⟨i.toNat, by omega⟩
    have hk : k ≤ s.length := by omega
    have hb : behI [] s k = some (s.drop k) := by
      rw [behI_in h, Int.toNat_natCast, if_pos (standsB_empty _)]
      rfl
    have cb := behind_some hb hs (by decide) h0 h1
    clear hb h
    obtain ⟨r, hr⟩ : ∃ r, s.drop k = r := ⟨_, rfl⟩
    have hrl : k + r.length = s.length := by rw [← hr, List.length_drop]; omega
    rw [hr] at cb
    have HR := Lib.hid hr
    clear hr
    have hsl := stopP_le n r
    have hhl := haltP_le n r.length r (Nat.le_refl _) 0
    by_cases h4 : st = 4
    · subst h4
      have HV : Hid (rawV s k 4 n = .tuple #[.string ⟨⟨cleanL r⟩⟩, .int .i64 s.length]) := Lib.hid (by rw [rawV_in (t := cleanL r) (m := r.length) hk (by rw [HR.out]; rfl), show (k : Int) + r.length = s.length by omega])
      go_enter Tryd.func19, Tryd.ntmps19
      go_wp2_with (first
        | (go_at_call 28; refine (cb _).mono ?_; rintro e w1 ⟨rfl, x1⟩; have hm1 := hm.ext x1)
        | (go_at_call 31; refine (clean_any r _ hm1 (by omega)).mono ?_; rintro e w2 ⟨rfl, x2⟩))
      go_ret2
      exact ⟨ret_inj HV.out.symm, x1.trans x2⟩
    · have f4 : (st == 4) = false := by rw [int_beq]; simpa using h4
      by_cases h1 : st = 1
      · subst h1
        have HV : Hid (rawV s k 1 n = .tuple #[.string ⟨⟨refsL false (r.take (stopP n r))⟩⟩, .int .i64 (k + stopP n r)]) := Lib.hid (rawV_in hk (by rw [HR.out]; rfl))
        have cs := fun W => stop_any r n W (by omega) hn
        obtain ⟨m, hmm⟩ : ∃ m, stopP n r = m := ⟨_, rfl⟩
        rw [hmm] at cs hsl HV
        clear hmm hhl
        go_enter Tryd.func19, Tryd.ntmps19
        go_wp2_with (first
          | (go_at_call 28; refine (cb _).mono ?_; rintro e w1 ⟨rfl, x1⟩; have hm1 := hm.ext x1; have hO1 := hO.ext x1 hg; have hg1 := Nat.lt_of_lt_of_le hg x1.size)
          | (go_at_call 42; refine (cs _).mono ?_; rintro e w2 ⟨rfl, x2⟩; have hm2 := hm1.ext x2; have hO2 := hO1.ext x2 hg1; have hg2 := Nat.lt_of_lt_of_le hg1 x2.size)
          | (go_at_call 43; refine (read_any (r.take m) _ hm2 hO2 hg2 (by simp; omega)).mono ?_; rintro e w3 ⟨rfl, x3⟩))
        go_ret2
        exact ⟨ret_inj HV.out.symm, (x1.trans x2).trans x3⟩
      · have f1 : (st == 1) = false := by rw [int_beq]; simpa using h1
        by_cases h2 : st = 2
        · subst h2
          have HV : Hid (rawV s k 2 n = .tuple #[.string ⟨⟨cleanL (r.take (stopP n r))⟩⟩, .int .i64 (k + stopP n r)]) := Lib.hid (rawV_in hk (by rw [HR.out]; rfl))
          have cs := fun W => stop_any r n W (by omega) hn
          obtain ⟨m, hmm⟩ : ∃ m, stopP n r = m := ⟨_, rfl⟩
          rw [hmm] at cs hsl HV
          clear hmm hhl
          go_enter Tryd.func19, Tryd.ntmps19
          go_wp2_with (first
            | (go_at_call 28; refine (cb _).mono ?_; rintro e w1 ⟨rfl, x1⟩; have hm1 := hm.ext x1)
            | (go_at_call 42; refine (cs _).mono ?_; rintro e w2 ⟨rfl, x2⟩; have hm2 := hm1.ext x2)
            | (go_at_call 31; refine (clean_any (r.take m) _ hm2 (by simp; omega)).mono ?_; rintro e w3 ⟨rfl, x3⟩))
          go_ret2
          exact ⟨ret_inj HV.out.symm, (x1.trans x2).trans x3⟩
        · have f2 : (st == 2) = false := by rw [int_beq]; simpa using h2
          by_cases h3 : st = 3
          · subst h3
            have HV : Hid (rawV s k 3 n = .tuple #[.string ⟨⟨cleanL (r.take (haltP n 0 r))⟩⟩, .int .i64 (k + haltP n 0 r)]) := Lib.hid (rawV_in hk (by rw [HR.out]; rfl))
            have cs := fun W => halt_any r n W (by omega) hn
            obtain ⟨m, hmm⟩ : ∃ m, haltP n 0 r = m := ⟨_, rfl⟩
            rw [hmm] at cs hhl HV
            clear hmm hsl
            go_enter Tryd.func19, Tryd.ntmps19
            go_wp2_with (first
              | (go_at_call 28; refine (cb _).mono ?_; rintro e w1 ⟨rfl, x1⟩; have hm1 := hm.ext x1)
              | (go_at_call 44; refine (cs _).mono ?_; rintro e w2 ⟨rfl, x2⟩; have hm2 := hm1.ext x2)
              | (go_at_call 31; refine (clean_any (r.take m) _ hm2 (by simp; omega)).mono ?_; rintro e w3 ⟨rfl, x3⟩))
            go_ret2
            exact ⟨ret_inj HV.out.symm, (x1.trans x2).trans x3⟩
          · have f3 : (st == 3) = false := by rw [int_beq]; simpa using h3
            have HV : Hid (rawV s k st n = .tuple #[.string ⟨⟨[]⟩⟩, .int .i64 k]) := Lib.hid (rawV_none hk (by unfold rawP; rw [if_neg h4, if_neg h1, if_neg h2, if_neg h3]))
            clear h4 h1 h2 h3
            go_enter Tryd.func19, Tryd.ntmps19
            go_wp2_with (go_at_call 28; refine (cb _).mono ?_; rintro e w1 ⟨rfl, x1⟩)
            go_ret2
            exact ⟨ret_inj HV.out.symm, x1⟩
end Go.Proofs.YtbolajljfkjfaaaDoor
