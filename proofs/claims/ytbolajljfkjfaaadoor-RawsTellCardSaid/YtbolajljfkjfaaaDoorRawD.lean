/-
  What is proved: what is told as a comment, marked texts, as the program reads them: contracts. Conditions: texts of less than 100000 bytes; the library's variable holds an integer.
-/
import Derived.Test.YtbolajljfkjfaaaDoorRawC
namespace Go.Proofs.YtbolajljfkjfaaaDoor
open Go.RowKit

theorem behI_in {f s : List UInt8} {i : Int} (h : ¬ (i < 0 ∨ (s.length : Int) < i)) : behI f s i = if standsB f (s.drop i.toNat) then some ((s.drop i.toNat).drop f.length) else none := by
  unfold behI
  rw [if_neg h]
theorem behI_out {f s : List UInt8} {i : Int} (h : i < 0 ∨ (s.length : Int) < i) : behI f s i = none := by
  unfold behI
  rw [if_pos h]
theorem upB_len (e r : List UInt8) : (upB e r).1.length ≤ r.length := by
  unfold upB
  split
  · exact Nat.le_refl _
  · simp; omega
/-- What is told as a comment at a place. -/
def bogI (s : List UInt8) (i : Int) : Option (List UInt8 × Nat) := if i < 0 ∨ (s.length : Int) < i then none else bogP (s.drop i.toNat)
def bogV (s : List UInt8) (i : Int) : Value := match bogI s i with
  | none => noneR
  | some (t, n) => tokR (tokV 4 [] (cleanL t) false i (i + n)) (i + n)
/-- The three fronts, and what they tell. -/
theorem bog_cases (s : List UInt8) (i : Int) :
    (∃ r, behI [60, 33] s i = some r ∧ bogI s i = some ((upB [62] r).1, 2 + (upB [62] r).2.1)) ∨
    (∃ r, behI [60, 33] s i = none ∧ behI [60, 47] s i = some r ∧ bogI s i = some ((upB [62] r).1, 2 + (upB [62] r).2.1)) ∨
    (∃ r, behI [60, 33] s i = none ∧ behI [60, 47] s i = none ∧ behI [60, 63] s i = some r ∧ bogI s i = some ((upB [62] (63 :: r)).1, 1 + (upB [62] (63 :: r)).2.1)) ∨
    (behI [60, 33] s i = none ∧ behI [60, 47] s i = none ∧ behI [60, 63] s i = none ∧ bogI s i = none) := by
  by_cases h : i < 0 ∨ (s.length : Int) < i
  · exact .inr (.inr (.inr ⟨behI_out h, behI_out h, behI_out h, by unfold bogI; rw [if_pos h]⟩))
  · rw [behI_in h, behI_in h, behI_in h]
    unfold bogI bogP
    rw [if_neg h]
    cases h1 : standsB [60, 33] (s.drop i.toNat) with
    | true => exact .inl ⟨_, rfl, by simp⟩
    | false =>
      cases h2 : standsB [60, 47] (s.drop i.toNat) with
      | true => exact .inr (.inl ⟨_, rfl, rfl, by simp⟩)
      | false =>
        cases h3 : standsB [60, 63] (s.drop i.toNat) with
        | true =>
          refine .inr (.inr (.inl ⟨_, rfl, rfl, rfl, ?_⟩))
          have e : (s.drop i.toNat).drop 1 = 63 :: (s.drop i.toNat).drop 2 := by
            generalize s.drop i.toNat = x at h3
            cases x with
            | nil => simp [standsB] at h3
            | cons a x =>
              rw [stands_sign (by simp)] at h3
              cases x with
              | nil => simp [standsB] at h3
              | cons b x =>
                rw [stands_sign (by simp)] at h3
                simp at h3
                simp [h3.2.1]
          simp [e]
        | false => exact .inr (.inr (.inr ⟨rfl, rfl, rfl, by simp⟩))
theorem bog_index (w : World) : (Instr.index 57 (.agg #[.string ⟨⟨[60, 33]⟩⟩, .string ⟨⟨[60, 47]⟩⟩, .string ⟨⟨[60, 63]⟩⟩]) (.int .i64 0)).run Tryd.prog w = .ok (.string ⟨⟨[60, 33]⟩⟩) w ∧ (Instr.index 57 (.agg #[.string ⟨⟨[60, 33]⟩⟩, .string ⟨⟨[60, 47]⟩⟩, .string ⟨⟨[60, 63]⟩⟩]) (.int .i64 1)).run Tryd.prog w = .ok (.string ⟨⟨[60, 47]⟩⟩) w ∧ (Instr.index 57 (.agg #[.string ⟨⟨[60, 33]⟩⟩, .string ⟨⟨[60, 47]⟩⟩, .string ⟨⟨[60, 63]⟩⟩]) (.int .i64 2)).run Tryd.prog w = .ok (.string ⟨⟨[60, 63]⟩⟩) w := ⟨by kernel_rfl, by kernel_rfl, by kernel_rfl⟩
set_option maxRecDepth 100000 in
set_option maxHeartbeats 8000000 in
theorem bog_any (s : List UInt8) (i : Int) (w : World) (hm : MaxIs w) (hs : s.length < 100000) (h0 : -9223372036854775808 ≤ i) (h1 : i ≤ 9223372036854775807) :
    Calls Tryd.prog 12 #[.string ⟨⟨s⟩⟩, .int .i64 i] w fun e w' => e = .returned (bogV s i) ∧ Ext w w' := by
  have i0 := fun w => (bog_index w).1
  have i1 := fun w => (bog_index w).2.1
  have i2 := fun w => (bog_index w).2.2
  unfold bogV
  rcases bog_cases s i with ⟨r, hb1, hv⟩ | ⟨r, hb1, hb2, hv⟩ | ⟨r, hb1, hb2, hb3, hv⟩ | ⟨hb1, hb2, hb3, hv⟩
  · have cb1 := behind_some hb1 hs (by decide) h0 h1
    obtain ⟨q1, q2, q3, q4, q5⟩ := behI_some hb1
    obtain ⟨t, n, b, hu⟩ : ∃ t n b, upB [62] r = (t, n, b) := ⟨_, _, _, rfl⟩
    have hrl : r.length + 2 ≤ s.length := by have : (([60, 33] : List UInt8).length : Int) = 2 := rfl; omega
    have cu := upto_at hu (by omega) (by decide)
    have hn := upB_le [62] r
    have ht := upB_len [62] r
    rw [hv]
    simp only [hu] at hn ht ⊢
    have hol : (2 : Int) = (([60, 33] : List UInt8).length : Int) := rfl
    have hsum : i + 2 + (n : Int) ≤ s.length := by omega
    have hback : i + ((2 + n : Nat) : Int) = i + 2 + n := by omega
    rw [hback]
    clear q5 q3 hv hol hback
    clear hb1
    go_enter Tryd.func12, Tryd.ntmps12
    go_wp2_with fail
    refine wp_loop_rounds 4 ?_
    rw [rounds_succ]
    go_wp2_with (first
      | (go_at_call 28; refine (cb1 _).mono ?_; rintro e w1 ⟨rfl, x1⟩; have hm1 := (hm.ext ((Below.refl _ _).alloc (Nat.le_refl _) _)).ext x1; have y1 := x1; obtain ⟨_, z1, hz1⟩ := tok_block y1)
      | (go_at_call 34; refine (cu _ hm1).mono ?_; rintro e w5 ⟨rfl, rfl⟩)
      | (go_at_call 31; refine (clean_any t _ hm1 (by omega)).mono ?_; rintro e w6 ⟨rfl, x6⟩)
      | (go_at_call 30; refine (token_at _ _ _ _ _).mono ?_; rintro e w7 ⟨rfl, x7⟩; obtain ⟨hB, x8, hz8⟩ := tok_block ((y1.trans x6).trans x7); obtain ⟨⟨c0, c1, c2, c3, c4, c5, c6, c7, c8⟩, f0, f1, f2, f3, f4, f5, f6, f7, f8⟩ := tok_cells hB))
    refine bodyPost_ret (v := tokR (tokV 4 [] (cleanL t) false i (i + 2 + n)) (i + 2 + n)) (by simp [results, Tryd.results12, go_sem, tokV, tokR, c0, c1, c2, c3, c4, c5, c6, c7, c8]) rfl ⟨rfl, ?_⟩
    go_grown
  · have cb1 := behind_none hb1 hs (by decide) h0 h1
    have cb2 := behind_some hb2 hs (by decide) h0 h1
    obtain ⟨q1, q2, q3, q4, q5⟩ := behI_some hb2
    obtain ⟨t, n, b, hu⟩ : ∃ t n b, upB [62] r = (t, n, b) := ⟨_, _, _, rfl⟩
    have hrl : r.length + 2 ≤ s.length := by have : (([60, 47] : List UInt8).length : Int) = 2 := rfl; omega
    have cu := upto_at hu (by omega) (by decide)
    have hn := upB_le [62] r
    have ht := upB_len [62] r
    rw [hv]
    simp only [hu] at hn ht ⊢
    have hol : (2 : Int) = (([60, 47] : List UInt8).length : Int) := rfl
    have hsum : i + 2 + (n : Int) ≤ s.length := by omega
    have hback : i + ((2 + n : Nat) : Int) = i + 2 + n := by omega
    rw [hback]
    clear q5 q3 hv hol hback
    clear hb1 hb2
    go_enter Tryd.func12, Tryd.ntmps12
    go_wp2_with fail
    refine wp_loop_rounds 4 ?_
    rw [rounds_succ]
    go_wp2_with (go_at_call 28; refine (cb1 _).mono ?_; rintro e w1 ⟨rfl, x1⟩; have hm1 := (hm.ext ((Below.refl _ _).alloc (Nat.le_refl _) _)).ext x1; have y1 := x1; obtain ⟨_, z1, hz1⟩ := tok_block y1)
    rw [rounds_succ]
    go_wp2_with (first
      | (go_at_call 28; refine (cb2 _).mono ?_; rintro e w2 ⟨rfl, x2⟩; have hm2 := hm1.ext x2; have y2 := y1.trans x2; obtain ⟨_, z2, hz2⟩ := tok_block y2)
      | (go_at_call 34; refine (cu _ hm2).mono ?_; rintro e w5 ⟨rfl, rfl⟩)
      | (go_at_call 31; refine (clean_any t _ hm2 (by omega)).mono ?_; rintro e w6 ⟨rfl, x6⟩)
      | (go_at_call 30; refine (token_at _ _ _ _ _).mono ?_; rintro e w7 ⟨rfl, x7⟩; obtain ⟨hB, x8, hz8⟩ := tok_block ((y2.trans x6).trans x7); obtain ⟨⟨c0, c1, c2, c3, c4, c5, c6, c7, c8⟩, f0, f1, f2, f3, f4, f5, f6, f7, f8⟩ := tok_cells hB))
    refine bodyPost_ret (v := tokR (tokV 4 [] (cleanL t) false i (i + 2 + n)) (i + 2 + n)) (by simp [results, Tryd.results12, go_sem, tokV, tokR, c0, c1, c2, c3, c4, c5, c6, c7, c8]) rfl ⟨rfl, ?_⟩
    go_grown
  · have cb1 := behind_none hb1 hs (by decide) h0 h1
    have cb2 := behind_none hb2 hs (by decide) h0 h1
    have cb3 := behind_some hb3 hs (by decide) h0 h1
    obtain ⟨q1, q2, q3, q4, q5⟩ := behI_some hb3
    obtain ⟨t, n, b, hu⟩ : ∃ t n b, upB [62] (63 :: r) = (t, n, b) := ⟨_, _, _, rfl⟩
    have hrl : r.length + 2 ≤ s.length := by have : (([60, 63] : List UInt8).length : Int) = 2 := rfl; omega
    have cu := upto_at hu (by simp only [List.length_cons]; omega) (by decide)
    have hn := upB_le [62] (63 :: r)
    have ht := upB_len [62] (63 :: r)
    rw [hv]
    simp only [hu, List.length_cons] at hn ht ⊢
    have hol : (2 : Int) = (([60, 63] : List UInt8).length : Int) := rfl
    have hsum : i + 1 + (n : Int) ≤ s.length := by omega
    have hback : i + ((1 + n : Nat) : Int) = i + 1 + n := by omega
    rw [hback]
    have hone : i + 2 - 1 = i + 1 := by omega
    clear q5 q3 hv hol hback
    clear hb1 hb2 hb3
    go_enter Tryd.func12, Tryd.ntmps12
    go_wp2_with fail
    refine wp_loop_rounds 4 ?_
    rw [rounds_succ]
    go_wp2_with (go_at_call 28; refine (cb1 _).mono ?_; rintro e w1 ⟨rfl, x1⟩; have hm1 := (hm.ext ((Below.refl _ _).alloc (Nat.le_refl _) _)).ext x1; have y1 := x1; obtain ⟨_, z1, hz1⟩ := tok_block y1)
    rw [rounds_succ]
    go_wp2_with (go_at_call 28; refine (cb2 _).mono ?_; rintro e w2 ⟨rfl, x2⟩; have hm2 := hm1.ext x2; have y2 := y1.trans x2; obtain ⟨_, z2, hz2⟩ := tok_block y2)
    rw [rounds_succ]
    go_wp2_with (first
      | (go_at_call 28; refine (cb3 _).mono ?_; rintro e w3 ⟨rfl, x3⟩; have hm3 := hm2.ext x3; have y3 := y2.trans x3; obtain ⟨_, z3, hz3⟩ := tok_block y3)
      | (go_at_call 34; refine (cu _ hm3).mono ?_; rintro e w5 ⟨rfl, rfl⟩)
      | (go_at_call 31; refine (clean_any t _ hm3 (by omega)).mono ?_; rintro e w6 ⟨rfl, x6⟩)
      | (go_at_call 30; refine (token_at _ _ _ _ _).mono ?_; rintro e w7 ⟨rfl, x7⟩; obtain ⟨hB, x8, hz8⟩ := tok_block ((y3.trans x6).trans x7); obtain ⟨⟨c0, c1, c2, c3, c4, c5, c6, c7, c8⟩, f0, f1, f2, f3, f4, f5, f6, f7, f8⟩ := tok_cells hB))
    refine bodyPost_ret (v := tokR (tokV 4 [] (cleanL t) false i (i + 1 + n)) (i + 1 + n)) (by simp [results, Tryd.results12, go_sem, tokV, tokR, c0, c1, c2, c3, c4, c5, c6, c7, c8, hone]) rfl ⟨rfl, ?_⟩
    go_grown
  · have cb1 := behind_none hb1 hs (by decide) h0 h1
    have cb2 := behind_none hb2 hs (by decide) h0 h1
    have cb3 := behind_none hb3 hs (by decide) h0 h1
    rw [hv]
    clear hb1 hb2 hb3
    go_enter Tryd.func12, Tryd.ntmps12
    go_wp2_with fail
    refine wp_loop_rounds 4 ?_
    rw [rounds_succ]
    go_wp2_with (go_at_call 28; refine (cb1 _).mono ?_; rintro e w1 ⟨rfl, x1⟩; have hm1 := (hm.ext ((Below.refl _ _).alloc (Nat.le_refl _) _)).ext x1; have y1 := x1; obtain ⟨_, z1, hz1⟩ := tok_block y1)
    rw [rounds_succ]
    go_wp2_with (go_at_call 28; refine (cb2 _).mono ?_; rintro e w2 ⟨rfl, x2⟩; have hm2 := hm1.ext x2; have y2 := y1.trans x2; obtain ⟨_, z2, hz2⟩ := tok_block y2)
    rw [rounds_succ]
    go_wp2_with (go_at_call 28; refine (cb3 _).mono ?_; rintro e w3 ⟨rfl, x3⟩; have hm3 := hm2.ext x3; have y3 := y2.trans x3; obtain ⟨hB, z3, hz3⟩ := tok_block y3; obtain ⟨⟨c0, c1, c2, c3, c4, c5, c6, c7, c8⟩, f0, f1, f2, f3, f4, f5, f6, f7, f8⟩ := tok_cells hB)
    rw [rounds_succ]
    go_wp2_with fail
    refine bodyPost_ret (v := noneR) (by simp [results, Tryd.results12, go_sem, tokV, noneR, tokR, c0, c1, c2, c3, c4, c5, c6, c7, c8]) rfl ⟨rfl, ?_⟩
    go_grown
end Go.Proofs.YtbolajljfkjfaaaDoor
