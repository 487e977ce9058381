/-
  What is proved: the reference's comments are the program's: a contract. Condition: texts of less than 100000 bytes.
-/
import Derived.Test.YtbolajljfkjfaaaDoorRawR
import Derived.Test.YtbolajljfkjfaaaDoorRawC
namespace Go.Proofs.YtbolajljfkjfaaaDoor
open Go.RowKit

theorem isSuffix_iff (p s : List UInt8) : p.isSuffixOf s = (decide (p.length ≤ s.length) && (s.drop (s.length - p.length) == p)) := by
  rw [Bool.eq_iff_iff, List.isSuffixOf_iff_suffix]
  simp only [Bool.and_eq_true, decide_eq_true_eq, beq_iff_eq]
  constructor
  · rintro ⟨t, rfl⟩
    simp
  · rintro ⟨_, h⟩
    have e := List.take_append_drop (s.length - p.length) s
    rw [h] at e
    exact ⟨_, e⟩
theorem stI_behI (f s : List UInt8) (i : Int) : stI f s i = (behI f s i).isSome := by
  unfold stI behI
  split
  · rfl
  · cases standsB f (s.drop i.toNat) <;> rfl
theorem stands_of {f s : List UInt8} {i : Int} {b : Bool} (h : stI f s i = b) (hs : s.length < 100000) (hf : f.length < 100000) (h0 : -9223372036854775808 ≤ i) (h1 : i ≤ 9223372036854775807) : ∀ w : World,
    Calls Tryd.prog 32 #[.string ⟨⟨s⟩⟩, .int .i64 i, .string ⟨⟨f⟩⟩] w fun e w' => e = .returned (.bool b) ∧ Ext w w' := fun w => by
  rw [← h]
  exact standsR_any s f i w hs hf h0 h1
theorem stands_zero {f s : List UInt8} {b : Bool} (h : standsB f s = b) (hs : s.length < 100000) (hf : f.length < 100000) : ∀ w : World,
    Calls Tryd.prog 32 #[.string ⟨⟨s⟩⟩, .int .i64 0, .string ⟨⟨f⟩⟩] w fun e w' => e = .returned (.bool b) ∧ Ext w w' :=
  stands_of (by rw [← h]; exact stI_nat f s 0 (by omega)) hs hf (by omega) (by omega)
theorem find_zero {t s : List UInt8} {z : Int} (h : fdI t s 0 = z) (hs : s.length < 100000) (ht : t ≠ []) (htl : t.length < 100000) : ∀ w : World,
    Calls Tryd.prog 33 #[.string ⟨⟨s⟩⟩, .int .i64 0, .string ⟨⟨t⟩⟩] w fun e w' => e = .returned (.int .i64 z) ∧ w = w' := fun w => by
  rw [← h]
  exact findR_any s t 0 w hs ht htl (by omega)
theorem fdI_zero_none {t s : List UInt8} (h : idxP t s = none) : fdI t s 0 = -1 := by
  unfold fdI
  rw [List.drop_zero, h]
theorem fdI_zero_some {t s : List UInt8} {j : Nat} (h : idxP t s = some j) : fdI t s 0 = (j : Int) := by
  unfold fdI
  rw [List.drop_zero, h]
  simp
/-- The ends, one by one. -/
theorem cm_leaf (r : List UInt8) : (standsB [62] r = true ∧ cmM 0 r = ([], 1)) ∨ (standsB [62] r = false ∧ standsB [45, 62] r = true ∧ cmM 0 r = ([], 2)) ∨ (standsB [62] r = false ∧ standsB [45, 62] r = false ∧ cmM 0 r = cmF r) := by
  rw [cm_ref]
  unfold cmR
  cases standsB [62] r with
  | true => exact .inl ⟨rfl, rfl⟩
  | false =>
    cases standsB [45, 62] r with
    | true => exact .inr (.inl ⟨rfl, rfl, rfl⟩)
    | false => exact .inr (.inr ⟨rfl, rfl, rfl⟩)
theorem cmE_leaf (r : List UInt8) : (3 ≤ r.length ∧ (r.drop (r.length - 3) == [45, 45, 33]) = true ∧ cmE r = r.take (r.length - 3)) ∨
    ((r.length < 3 ∨ (r.drop (r.length - 3) == [45, 45, 33]) = false) ∧ 2 ≤ r.length ∧ (r.drop (r.length - 2) == [45, 45]) = true ∧ cmE r = r.take (r.length - 2)) ∨
    ((r.length < 3 ∨ (r.drop (r.length - 3) == [45, 45, 33]) = false) ∧ (r.length < 2 ∨ (r.drop (r.length - 2) == [45, 45]) = false) ∧ (∃ h : 1 ≤ r.length, r[r.length - 1] = 45) ∧ cmE r = r.take (r.length - 1)) ∨
    ((r.length < 3 ∨ (r.drop (r.length - 3) == [45, 45, 33]) = false) ∧ (r.length < 2 ∨ (r.drop (r.length - 2) == [45, 45]) = false) ∧ (r.length = 0 ∨ ∃ h : 1 ≤ r.length, r[r.length - 1] ≠ 45) ∧ cmE r = r) := by
  have k (p : List UInt8) (h : p.isSuffixOf r = false) : r.length < p.length ∨ (r.drop (r.length - p.length) == p) = false := by
    rw [isSuffix_iff] at h
    by_cases hl : p.length ≤ r.length
    · right
      simpa [hl] using h
    · left; omega
  have t (p : List UInt8) (h : p.isSuffixOf r = true) : p.length ≤ r.length ∧ (r.drop (r.length - p.length) == p) = true := by
    rw [isSuffix_iff] at h
    exact ⟨of_decide_eq_true (Bool.and_eq_true_iff.1 h).1, (Bool.and_eq_true_iff.1 h).2⟩
  have one (h : 1 ≤ r.length) : r.drop (r.length - 1) = [r[r.length - 1]] := by
    rw [drop_one (by omega), List.drop_eq_nil_of_le (by omega)]
  unfold cmE
  cases h1 : ([45, 45, 33] : List UInt8).isSuffixOf r with
  | true => exact .inl ⟨(t _ h1).1, (t _ h1).2, rfl⟩
  | false =>
    cases h2 : ([45, 45] : List UInt8).isSuffixOf r with
    | true => exact .inr (.inl ⟨k _ h1, (t _ h2).1, (t _ h2).2, rfl⟩)
    | false =>
      cases h3 : ([45] : List UInt8).isSuffixOf r with
      | true =>
        obtain ⟨a, b⟩ := t _ h3
        have a1 : 1 ≤ r.length := a
        refine .inr (.inr (.inl ⟨k _ h1, k _ h2, ⟨a1, ?_⟩, rfl⟩))
        have b1 : (r.drop (r.length - 1) == [45]) = true := b
        rw [one a1] at b1
        simpa using b1
      | false =>
        refine .inr (.inr (.inr ⟨k _ h1, k _ h2, ?_, rfl⟩))
        by_cases h0 : r.length = 0
        · exact .inl h0
        · have a1 : 1 ≤ r.length := by omega
          refine .inr ⟨a1, ?_⟩
          rcases k _ h3 with a | b
          · have : r.length < 1 := a
            omega
          · have b1 : (r.drop (r.length - 1) == [45]) = false := b
            rw [one a1] at b1
            simpa using b1
set_option maxRecDepth 100000 in
set_option maxHeartbeats 16000000 in
theorem comR_any (s : List UInt8) (i : Int) (w : World) (hs : s.length < 100000) (h0 : -9223372036854775808 ≤ i) (h1 : i ≤ 9223372036854775807) :
    Calls Tryd.prog 11 #[.string ⟨⟨s⟩⟩, .int .i64 i] w fun e w' => e = .returned (comR s i) ∧ Ext w w' := by
  unfold comR
  cases hb : behI openC s i with
  | none =>
    have cb := stands_of (f := [60, 33, 45, 45]) (b := false) (by rw [show ([60, 33, 45, 45] : List UInt8) = openC from rfl, stI_behI, hb]; rfl) hs (by decide) h0 h1
    clear hb
    go_enter Tryd.func11, Tryd.ntmps11
    go_wp2_with (go_at_call 32; refine (cb _).mono ?_; rintro e w1 ⟨rfl, x1⟩; obtain ⟨hB, x2, hz⟩ := tok_block x1; obtain ⟨⟨c0, c1, c2, c3, c4, c5, c6, c7, c8⟩, f0, f1, f2, f3, f4, f5, f6, f7, f8⟩ := tok_cells hB)
    refine bodyPost_ret (v := noneR) (by simp [results, Tryd.results11, go_sem, tokV, noneR, tokR, c0, c1, c2, c3, c4, c5, c6, c7, c8]) rfl ⟨rfl, ?_⟩
    go_grown
  | some r =>
    have cb := stands_of (f := [60, 33, 45, 45]) (b := true) (by rw [show ([60, 33, 45, 45] : List UInt8) = openC from rfl, stI_behI, hb]; rfl) hs (by decide) h0 h1
    obtain ⟨q1, q2, q3, q4, q5⟩ := behI_some hb
    have hol : ((openC.length : Nat) : Int) = 4 := rfl
    obtain ⟨k, rfl⟩ : ∃ k : Nat, i = k := ⟨i.toNat, by omega⟩
    have hr : s.drop (k + 4) = r := by rw [q3, Int.toNat_natCast, List.drop_drop]; rfl
    have hk4 : k + 4 + r.length = s.length := by omega
    have k4 : (k : Int) + 4 ≤ s.length := by omega
    have hrl : r.length < 100000 := by omega
    clear q5 q3 hb hol q1 q2 q4
    have HM := cm_leaf r
    obtain ⟨b1, hb1⟩ : ∃ b, standsB [62] r = b := ⟨_, rfl⟩
    obtain ⟨b2, hb2⟩ : ∃ b, standsB [45, 62] r = b := ⟨_, rfl⟩
    have c4 := stands_zero hb1 hrl (by decide)
    have c5 := stands_zero hb2 hrl (by decide)
    obtain ⟨z1, hz1⟩ : ∃ z, fdI [45, 45, 62] r 0 = z := ⟨_, rfl⟩
    obtain ⟨z2, hz2⟩ : ∃ z, fdI [45, 45, 33, 62] r 0 = z := ⟨_, rfl⟩
    have c2 := find_zero hz1 hrl (by decide) (by decide)
    have c3 := find_zero hz2 hrl (by decide) (by decide)
    rw [hb1, hb2] at HM
    simp only
    rcases HM with ⟨rfl, hv⟩ | ⟨rfl, rfl, hv⟩ | ⟨rfl, rfl, hv⟩
    · have HV := Lib.hid hv
      clear hv hb1 hb2 hz1 hz2
      go_enter Tryd.func11, Tryd.ntmps11
      go_wp2_with (first
        | (go_at_call 32; (with_reducible refine (cb _).mono ?_); rintro e w1 ⟨rfl, y1⟩)
        | (go_at_call 32; (with_reducible refine (c4 _).mono ?_); rintro e w2 ⟨rfl, x2⟩; have y2 := y1.trans x2; obtain ⟨hB, z9, hz9⟩ := tok_block y2; obtain ⟨⟨c0, c1, c2, c3, c4, c5, c6, c7, c8⟩, f0, f1, f2, f3, f4, f5, f6, f7, f8⟩ := tok_cells hB)
        | (go_at_call 33; (with_reducible refine (c2 _).mono ?_); rintro e w4 ⟨rfl, rfl⟩)
        | (go_at_call 33; (with_reducible refine (c3 _).mono ?_); rintro e w5 ⟨rfl, rfl⟩)
        | (go_at_call 23; refine (cleanR_any [] _ (by first | decide | (simp; omega) | omega)).mono ?_; rintro e w6 ⟨rfl, rfl⟩))
      refine bodyPost_ret (v := tokR (tokV 4 [] (cleanL []) false k (k + 4 + 1)) (k + 4 + 1)) (by simp [results, Tryd.results11, go_sem, tokV, tokR, c0, c1, c2, c3, c4, c5, c6, c7, c8]) rfl ⟨ret_inj (by rw [HV.out]; try rfl), ?_⟩
      go_grown
    · have HV := Lib.hid hv
      clear hv hb1 hb2 hz1 hz2
      go_enter Tryd.func11, Tryd.ntmps11
      go_wp2_with (first
        | (go_at_call 32; (with_reducible refine (cb _).mono ?_); rintro e w1 ⟨rfl, y1⟩)
        | (go_at_call 32; (with_reducible refine (c4 _).mono ?_); rintro e w2 ⟨rfl, x2⟩; have y2 := y1.trans x2)
        | (go_at_call 32; (with_reducible refine (c5 _).mono ?_); rintro e w3 ⟨rfl, x3⟩; have y3 := y2.trans x3; obtain ⟨hB, z9, hz9⟩ := tok_block y3; obtain ⟨⟨c0, c1, c2, c3, c4, c5, c6, c7, c8⟩, f0, f1, f2, f3, f4, f5, f6, f7, f8⟩ := tok_cells hB)
        | (go_at_call 33; (with_reducible refine (c2 _).mono ?_); rintro e w4 ⟨rfl, rfl⟩)
        | (go_at_call 33; (with_reducible refine (c3 _).mono ?_); rintro e w5 ⟨rfl, rfl⟩)
        | (go_at_call 23; refine (cleanR_any [] _ (by first | decide | (simp; omega) | omega)).mono ?_; rintro e w6 ⟨rfl, rfl⟩))
      refine bodyPost_ret (v := tokR (tokV 4 [] (cleanL []) false k (k + 4 + 2)) (k + 4 + 2)) (by simp [results, Tryd.results11, go_sem, tokV, tokR, c0, c1, c2, c3, c4, c5, c6, c7, c8]) rfl ⟨ret_inj (by rw [HV.out]; try rfl), ?_⟩
      go_grown
    · clear hb1 hb2
      unfold cmF at hv
      cases hi1 : idxP [45, 45, 62] r with
      | none =>
        obtain rfl : -1 = z1 := (fdI_zero_none hi1).symm.trans hz1
        cases hi2 : idxP [45, 45, 33, 62] r with
        | none =>
          obtain rfl : -1 = z2 := (fdI_zero_none hi2).symm.trans hz2
          rw [hi1, hi2] at hv
          simp only at hv
          clear hi1 hi2 hz1 hz2
          rcases cmE_leaf r with ⟨a1, a2, a3⟩ | ⟨a1, a2, a3, a4⟩ | ⟨a1, a2, ⟨a3, a4⟩, a5⟩ | ⟨a1, a2, a3, a4⟩
          · have HV : Hid (cmM 0 r = (r.take (r.length - 3), r.length)) := Lib.hid (by rw [hv, a3])
            have l3 : (3 : Int) ≤ r.length := by omega
            have n3 : ((r.length : Int) - 3).toNat = r.length - 3 := by omega
            clear hv a3
            go_enter Tryd.func11, Tryd.ntmps11
            go_wp2_with (first
              | (go_at_call 32; (with_reducible refine (cb _).mono ?_); rintro e w1 ⟨rfl, y1⟩)
              | (go_at_call 32; (with_reducible refine (c4 _).mono ?_); rintro e w2 ⟨rfl, x2⟩; have y2 := y1.trans x2)
              | (go_at_call 32; (with_reducible refine (c5 _).mono ?_); rintro e w3 ⟨rfl, x3⟩; have y3 := y2.trans x3; obtain ⟨hB, z9, hz9⟩ := tok_block y3; obtain ⟨⟨c0, c1, c2, c3, c4, c5, c6, c7, c8⟩, f0, f1, f2, f3, f4, f5, f6, f7, f8⟩ := tok_cells hB)
              | (go_at_call 33; (with_reducible refine (c2 _).mono ?_); rintro e w4 ⟨rfl, rfl⟩)
              | (go_at_call 33; (with_reducible refine (c3 _).mono ?_); rintro e w5 ⟨rfl, rfl⟩)
              | (go_at_call 23; refine (cleanR_any (r.take (r.length - 3)) _ (by first | decide | (simp; omega) | omega)).mono ?_; rintro e w6 ⟨rfl, rfl⟩))
            refine bodyPost_ret (v := tokR (tokV 4 [] (cleanL (r.take (r.length - 3))) false k (k + 4 + (r.length : Int))) (k + 4 + (r.length : Int))) (by simp [results, Tryd.results11, go_sem, tokV, tokR, c0, c1, c2, c3, c4, c5, c6, c7, c8]) rfl ⟨ret_inj (by rw [HV.out]; try rfl), ?_⟩
            go_grown
          · have HV : Hid (cmM 0 r = (r.take (r.length - 2), r.length)) := Lib.hid (by rw [hv, a4])
            have l2 : (2 : Int) ≤ r.length := by omega
            have n2 : ((r.length : Int) - 2).toNat = r.length - 2 := by omega
            have n3 : ((r.length : Int) - 3).toNat = r.length - 3 := by omega
            clear hv a4
            by_cases l3 : (3 : Int) ≤ r.length
            · have g : (r.drop (r.length - 3) == [45, 45, 33]) = false := a1.resolve_left (by omega)
              clear a1
              go_enter Tryd.func11, Tryd.ntmps11
              go_wp2_with (first
                | (go_at_call 32; (with_reducible refine (cb _).mono ?_); rintro e w1 ⟨rfl, y1⟩)
                | (go_at_call 32; (with_reducible refine (c4 _).mono ?_); rintro e w2 ⟨rfl, x2⟩; have y2 := y1.trans x2)
                | (go_at_call 32; (with_reducible refine (c5 _).mono ?_); rintro e w3 ⟨rfl, x3⟩; have y3 := y2.trans x3; obtain ⟨hB, z9, hz9⟩ := tok_block y3; obtain ⟨⟨c0, c1, c2, c3, c4, c5, c6, c7, c8⟩, f0, f1, f2, f3, f4, f5, f6, f7, f8⟩ := tok_cells hB)
                | (go_at_call 33; (with_reducible refine (c2 _).mono ?_); rintro e w4 ⟨rfl, rfl⟩)
                | (go_at_call 33; (with_reducible refine (c3 _).mono ?_); rintro e w5 ⟨rfl, rfl⟩)
                | (go_at_call 23; refine (cleanR_any (r.take (r.length - 2)) _ (by first | decide | (simp; omega) | omega)).mono ?_; rintro e w6 ⟨rfl, rfl⟩))
              refine bodyPost_ret (v := tokR (tokV 4 [] (cleanL (r.take (r.length - 2))) false k (k + 4 + (r.length : Int))) (k + 4 + (r.length : Int))) (by simp [results, Tryd.results11, go_sem, tokV, tokR, c0, c1, c2, c3, c4, c5, c6, c7, c8]) rfl ⟨ret_inj (by rw [HV.out]; try rfl), ?_⟩
              go_grown
            · clear a1
              go_enter Tryd.func11, Tryd.ntmps11
              go_wp2_with (first
                | (go_at_call 32; (with_reducible refine (cb _).mono ?_); rintro e w1 ⟨rfl, y1⟩)
                | (go_at_call 32; (with_reducible refine (c4 _).mono ?_); rintro e w2 ⟨rfl, x2⟩; have y2 := y1.trans x2)
                | (go_at_call 32; (with_reducible refine (c5 _).mono ?_); rintro e w3 ⟨rfl, x3⟩; have y3 := y2.trans x3; obtain ⟨hB, z9, hz9⟩ := tok_block y3; obtain ⟨⟨c0, c1, c2, c3, c4, c5, c6, c7, c8⟩, f0, f1, f2, f3, f4, f5, f6, f7, f8⟩ := tok_cells hB)
                | (go_at_call 33; (with_reducible refine (c2 _).mono ?_); rintro e w4 ⟨rfl, rfl⟩)
                | (go_at_call 33; (with_reducible refine (c3 _).mono ?_); rintro e w5 ⟨rfl, rfl⟩)
                | (go_at_call 23; refine (cleanR_any (r.take (r.length - 2)) _ (by first | decide | (simp; omega) | omega)).mono ?_; rintro e w6 ⟨rfl, rfl⟩))
              refine bodyPost_ret (v := tokR (tokV 4 [] (cleanL (r.take (r.length - 2))) false k (k + 4 + (r.length : Int))) (k + 4 + (r.length : Int))) (by simp [results, Tryd.results11, go_sem, tokV, tokR, c0, c1, c2, c3, c4, c5, c6, c7, c8]) rfl ⟨ret_inj (by rw [HV.out]; try rfl), ?_⟩
              go_grown
          · have HV : Hid (cmM 0 r = ((r.take (r.length - 1)), r.length)) := Lib.hid (by rw [hv, a5])
            have n1 : ((r.length : Int) - 1).toNat = r.length - 1 := by omega
            have n2 : ((r.length : Int) - 2).toNat = r.length - 2 := by omega
            have n3 : ((r.length : Int) - 3).toNat = r.length - 3 := by omega
            clear hv a5
            have l1 : (1 : Int) ≤ r.length := by omega
            have f45 : (((r[r.length - 1]'(by omega)).toNat : Int) == 45) = true := by rw [a4]; rfl
            by_cases l2 : (2 : Int) ≤ r.length
            · have g2 : (r.drop (r.length - 2) == [45, 45]) = false := a2.resolve_left (by omega)
              clear a4
              by_cases l3 : (3 : Int) ≤ r.length
              · have g : (r.drop (r.length - 3) == [45, 45, 33]) = false := a1.resolve_left (by omega)
                clear a1 a2
                go_enter Tryd.func11, Tryd.ntmps11
                go_wp2_with (first
                  | (go_at_call 32; (with_reducible refine (cb _).mono ?_); rintro e w1 ⟨rfl, y1⟩)
                  | (go_at_call 32; (with_reducible refine (c4 _).mono ?_); rintro e w2 ⟨rfl, x2⟩; have y2 := y1.trans x2)
                  | (go_at_call 32; (with_reducible refine (c5 _).mono ?_); rintro e w3 ⟨rfl, x3⟩; have y3 := y2.trans x3; obtain ⟨hB, z9, hz9⟩ := tok_block y3; obtain ⟨⟨c0, c1, c2, c3, c4, c5, c6, c7, c8⟩, f0, f1, f2, f3, f4, f5, f6, f7, f8⟩ := tok_cells hB)
                  | (go_at_call 33; (with_reducible refine (c2 _).mono ?_); rintro e w4 ⟨rfl, rfl⟩)
                  | (go_at_call 33; (with_reducible refine (c3 _).mono ?_); rintro e w5 ⟨rfl, rfl⟩)
                  | (go_at_call 23; refine (cleanR_any (r.take (r.length - 1)) _ (by first | decide | (simp; omega) | omega)).mono ?_; rintro e w6 ⟨rfl, rfl⟩))
                refine bodyPost_ret (v := tokR (tokV 4 [] (cleanL (r.take (r.length - 1))) false k (k + 4 + (r.length : Int))) (k + 4 + (r.length : Int))) (by simp [results, Tryd.results11, go_sem, tokV, tokR, c0, c1, c2, c3, c4, c5, c6, c7, c8]) rfl ⟨ret_inj (by rw [HV.out]; try rfl), ?_⟩
                go_grown
              · clear a1 a2
                go_enter Tryd.func11, Tryd.ntmps11
                go_wp2_with (first
                  | (go_at_call 32; (with_reducible refine (cb _).mono ?_); rintro e w1 ⟨rfl, y1⟩)
                  | (go_at_call 32; (with_reducible refine (c4 _).mono ?_); rintro e w2 ⟨rfl, x2⟩; have y2 := y1.trans x2)
                  | (go_at_call 32; (with_reducible refine (c5 _).mono ?_); rintro e w3 ⟨rfl, x3⟩; have y3 := y2.trans x3; obtain ⟨hB, z9, hz9⟩ := tok_block y3; obtain ⟨⟨c0, c1, c2, c3, c4, c5, c6, c7, c8⟩, f0, f1, f2, f3, f4, f5, f6, f7, f8⟩ := tok_cells hB)
                  | (go_at_call 33; (with_reducible refine (c2 _).mono ?_); rintro e w4 ⟨rfl, rfl⟩)
                  | (go_at_call 33; (with_reducible refine (c3 _).mono ?_); rintro e w5 ⟨rfl, rfl⟩)
                  | (go_at_call 23; refine (cleanR_any (r.take (r.length - 1)) _ (by first | decide | (simp; omega) | omega)).mono ?_; rintro e w6 ⟨rfl, rfl⟩))
                refine bodyPost_ret (v := tokR (tokV 4 [] (cleanL (r.take (r.length - 1))) false k (k + 4 + (r.length : Int))) (k + 4 + (r.length : Int))) (by simp [results, Tryd.results11, go_sem, tokV, tokR, c0, c1, c2, c3, c4, c5, c6, c7, c8]) rfl ⟨ret_inj (by rw [HV.out]; try rfl), ?_⟩
                go_grown
            · have l3 : ¬ (3 : Int) ≤ r.length := by omega
              clear a1 a2
              clear a4
              go_enter Tryd.func11, Tryd.ntmps11
              go_wp2_with (first
                | (go_at_call 32; (with_reducible refine (cb _).mono ?_); rintro e w1 ⟨rfl, y1⟩)
                | (go_at_call 32; (with_reducible refine (c4 _).mono ?_); rintro e w2 ⟨rfl, x2⟩; have y2 := y1.trans x2)
                | (go_at_call 32; (with_reducible refine (c5 _).mono ?_); rintro e w3 ⟨rfl, x3⟩; have y3 := y2.trans x3; obtain ⟨hB, z9, hz9⟩ := tok_block y3; obtain ⟨⟨c0, c1, c2, c3, c4, c5, c6, c7, c8⟩, f0, f1, f2, f3, f4, f5, f6, f7, f8⟩ := tok_cells hB)
                | (go_at_call 33; (with_reducible refine (c2 _).mono ?_); rintro e w4 ⟨rfl, rfl⟩)
                | (go_at_call 33; (with_reducible refine (c3 _).mono ?_); rintro e w5 ⟨rfl, rfl⟩)
                | (go_at_call 23; refine (cleanR_any (r.take (r.length - 1)) _ (by first | decide | (simp; omega) | omega)).mono ?_; rintro e w6 ⟨rfl, rfl⟩))
              refine bodyPost_ret (v := tokR (tokV 4 [] (cleanL (r.take (r.length - 1))) false k (k + 4 + (r.length : Int))) (k + 4 + (r.length : Int))) (by simp [results, Tryd.results11, go_sem, tokV, tokR, c0, c1, c2, c3, c4, c5, c6, c7, c8]) rfl ⟨ret_inj (by rw [HV.out]; try rfl), ?_⟩
              go_grown
          · have HV : Hid (cmM 0 r = (r, r.length)) := Lib.hid (by rw [hv, a4])
            have n1 : ((r.length : Int) - 1).toNat = r.length - 1 := by omega
            have n2 : ((r.length : Int) - 2).toNat = r.length - 2 := by omega
            have n3 : ((r.length : Int) - 3).toNat = r.length - 3 := by omega
            clear hv a4
            by_cases l2 : (2 : Int) ≤ r.length
            · have g2 : (r.drop (r.length - 2) == [45, 45]) = false := a2.resolve_left (by omega)
              obtain ⟨c, hc, f45⟩ : ∃ c, r[r.length - 1]'(by omega) = c ∧ ((c.toNat : Int) == 45) = false := by
                rcases a3 with a3 | ⟨a3, a5⟩
                · omega
                · exact ⟨_, rfl, (u8_beq (x := 45)).trans (beq_eq_false_iff_ne.2 a5)⟩
              have l1 : (1 : Int) ≤ r.length := by omega
              clear a3
              by_cases l3 : (3 : Int) ≤ r.length
              · have g : (r.drop (r.length - 3) == [45, 45, 33]) = false := a1.resolve_left (by omega)
                clear a1 a2
                go_enter Tryd.func11, Tryd.ntmps11
                go_wp2_with (first
                  | (go_at_call 32; (with_reducible refine (cb _).mono ?_); rintro e w1 ⟨rfl, y1⟩)
                  | (go_at_call 32; (with_reducible refine (c4 _).mono ?_); rintro e w2 ⟨rfl, x2⟩; have y2 := y1.trans x2)
                  | (go_at_call 32; (with_reducible refine (c5 _).mono ?_); rintro e w3 ⟨rfl, x3⟩; have y3 := y2.trans x3; obtain ⟨hB, z9, hz9⟩ := tok_block y3; obtain ⟨⟨c0, c1, c2, c3, c4, c5, c6, c7, c8⟩, f0, f1, f2, f3, f4, f5, f6, f7, f8⟩ := tok_cells hB)
                  | (go_at_call 33; (with_reducible refine (c2 _).mono ?_); rintro e w4 ⟨rfl, rfl⟩)
                  | (go_at_call 33; (with_reducible refine (c3 _).mono ?_); rintro e w5 ⟨rfl, rfl⟩)
                  | (go_at_call 23; refine (cleanR_any r _ (by first | decide | (simp; omega) | omega)).mono ?_; rintro e w6 ⟨rfl, rfl⟩))
                refine bodyPost_ret (v := tokR (tokV 4 [] (cleanL r) false k (k + 4 + (r.length : Int))) (k + 4 + (r.length : Int))) (by simp [results, Tryd.results11, go_sem, tokV, tokR, c0, c1, c2, c3, c4, c5, c6, c7, c8]) rfl ⟨ret_inj (by rw [HV.out]; try rfl), ?_⟩
                go_grown
              · clear a1 a2
                go_enter Tryd.func11, Tryd.ntmps11
                go_wp2_with (first
                  | (go_at_call 32; (with_reducible refine (cb _).mono ?_); rintro e w1 ⟨rfl, y1⟩)
                  | (go_at_call 32; (with_reducible refine (c4 _).mono ?_); rintro e w2 ⟨rfl, x2⟩; have y2 := y1.trans x2)
                  | (go_at_call 32; (with_reducible refine (c5 _).mono ?_); rintro e w3 ⟨rfl, x3⟩; have y3 := y2.trans x3; obtain ⟨hB, z9, hz9⟩ := tok_block y3; obtain ⟨⟨c0, c1, c2, c3, c4, c5, c6, c7, c8⟩, f0, f1, f2, f3, f4, f5, f6, f7, f8⟩ := tok_cells hB)
                  | (go_at_call 33; (with_reducible refine (c2 _).mono ?_); rintro e w4 ⟨rfl, rfl⟩)
                  | (go_at_call 33; (with_reducible refine (c3 _).mono ?_); rintro e w5 ⟨rfl, rfl⟩)
                  | (go_at_call 23; refine (cleanR_any r _ (by first | decide | (simp; omega) | omega)).mono ?_; rintro e w6 ⟨rfl, rfl⟩))
                refine bodyPost_ret (v := tokR (tokV 4 [] (cleanL r) false k (k + 4 + (r.length : Int))) (k + 4 + (r.length : Int))) (by simp [results, Tryd.results11, go_sem, tokV, tokR, c0, c1, c2, c3, c4, c5, c6, c7, c8]) rfl ⟨ret_inj (by rw [HV.out]; try rfl), ?_⟩
                go_grown
            · have l3 : ¬ (3 : Int) ≤ r.length := by omega
              clear a1 a2
              by_cases l1 : (1 : Int) ≤ r.length
              · obtain ⟨c, hc, f45⟩ : ∃ c, r[r.length - 1]'(by omega) = c ∧ ((c.toNat : Int) == 45) = false := by
                  rcases a3 with a3 | ⟨a3, a5⟩
                  · omega
                  · exact ⟨_, rfl, (u8_beq (x := 45)).trans (beq_eq_false_iff_ne.2 a5)⟩
                clear a3
                go_enter Tryd.func11, Tryd.ntmps11
                go_wp2_with (first
                  | (go_at_call 32; (with_reducible refine (cb _).mono ?_); rintro e w1 ⟨rfl, y1⟩)
                  | (go_at_call 32; (with_reducible refine (c4 _).mono ?_); rintro e w2 ⟨rfl, x2⟩; have y2 := y1.trans x2)
                  | (go_at_call 32; (with_reducible refine (c5 _).mono ?_); rintro e w3 ⟨rfl, x3⟩; have y3 := y2.trans x3; obtain ⟨hB, z9, hz9⟩ := tok_block y3; obtain ⟨⟨c0, c1, c2, c3, c4, c5, c6, c7, c8⟩, f0, f1, f2, f3, f4, f5, f6, f7, f8⟩ := tok_cells hB)
                  | (go_at_call 33; (with_reducible refine (c2 _).mono ?_); rintro e w4 ⟨rfl, rfl⟩)
                  | (go_at_call 33; (with_reducible refine (c3 _).mono ?_); rintro e w5 ⟨rfl, rfl⟩)
                  | (go_at_call 23; refine (cleanR_any r _ (by first | decide | (simp; omega) | omega)).mono ?_; rintro e w6 ⟨rfl, rfl⟩))
                refine bodyPost_ret (v := tokR (tokV 4 [] (cleanL r) false k (k + 4 + (r.length : Int))) (k + 4 + (r.length : Int))) (by simp [results, Tryd.results11, go_sem, tokV, tokR, c0, c1, c2, c3, c4, c5, c6, c7, c8]) rfl ⟨ret_inj (by rw [HV.out]; try rfl), ?_⟩
                go_grown
              · clear a3
                go_enter Tryd.func11, Tryd.ntmps11
                go_wp2_with (first
                  | (go_at_call 32; (with_reducible refine (cb _).mono ?_); rintro e w1 ⟨rfl, y1⟩)
                  | (go_at_call 32; (with_reducible refine (c4 _).mono ?_); rintro e w2 ⟨rfl, x2⟩; have y2 := y1.trans x2)
                  | (go_at_call 32; (with_reducible refine (c5 _).mono ?_); rintro e w3 ⟨rfl, x3⟩; have y3 := y2.trans x3; obtain ⟨hB, z9, hz9⟩ := tok_block y3; obtain ⟨⟨c0, c1, c2, c3, c4, c5, c6, c7, c8⟩, f0, f1, f2, f3, f4, f5, f6, f7, f8⟩ := tok_cells hB)
                  | (go_at_call 33; (with_reducible refine (c2 _).mono ?_); rintro e w4 ⟨rfl, rfl⟩)
                  | (go_at_call 33; (with_reducible refine (c3 _).mono ?_); rintro e w5 ⟨rfl, rfl⟩)
                  | (go_at_call 23; refine (cleanR_any r _ (by first | decide | (simp; omega) | omega)).mono ?_; rintro e w6 ⟨rfl, rfl⟩))
                refine bodyPost_ret (v := tokR (tokV 4 [] (cleanL r) false k (k + 4 + (r.length : Int))) (k + 4 + (r.length : Int))) (by simp [results, Tryd.results11, go_sem, tokV, tokR, c0, c1, c2, c3, c4, c5, c6, c7, c8]) rfl ⟨ret_inj (by rw [HV.out]; try rfl), ?_⟩
                go_grown
        | some j =>
          obtain rfl : (j : Int) = z2 := (fdI_zero_some hi2).symm.trans hz2
          have hj := idxP_le hi2
          simp only [List.length_cons, List.length_nil] at hj
          rw [hi1, hi2] at hv
          have HV : Hid (cmM 0 r = (r.take j, j + 4)) := Lib.hid hv
          clear hi1 hi2 hz1 hz2 hv
          have j0 : (0 : Int) ≤ (j : Int) := by omega
          have j1 : ¬ (j : Int) < 0 := by omega
          have jl : j ≤ r.length := by omega
          go_enter Tryd.func11, Tryd.ntmps11
          go_wp2_with (first
            | (go_at_call 32; (with_reducible refine (cb _).mono ?_); rintro e w1 ⟨rfl, y1⟩)
            | (go_at_call 32; (with_reducible refine (c4 _).mono ?_); rintro e w2 ⟨rfl, x2⟩; have y2 := y1.trans x2)
            | (go_at_call 32; (with_reducible refine (c5 _).mono ?_); rintro e w3 ⟨rfl, x3⟩; have y3 := y2.trans x3; obtain ⟨hB, z9, hz9⟩ := tok_block y3; obtain ⟨⟨c0, c1, c2, c3, c4, c5, c6, c7, c8⟩, f0, f1, f2, f3, f4, f5, f6, f7, f8⟩ := tok_cells hB)
            | (go_at_call 33; (with_reducible refine (c2 _).mono ?_); rintro e w4 ⟨rfl, rfl⟩)
            | (go_at_call 33; (with_reducible refine (c3 _).mono ?_); rintro e w5 ⟨rfl, rfl⟩)
            | (go_at_call 23; refine (cleanR_any (r.take j) _ (by first | decide | (simp; omega) | omega)).mono ?_; rintro e w6 ⟨rfl, rfl⟩))
          refine bodyPost_ret (v := tokR (tokV 4 [] (cleanL (r.take j)) false k (k + 4 + ((j : Int) + 4))) (k + 4 + ((j : Int) + 4))) (by simp [results, Tryd.results11, go_sem, tokV, tokR, c0, c1, c2, c3, c4, c5, c6, c7, c8]) rfl ⟨ret_inj (by rw [HV.out]; try rfl), ?_⟩
          go_grown
      | some i =>
        obtain rfl : (i : Int) = z1 := (fdI_zero_some hi1).symm.trans hz1
        have hi := idxP_le hi1
        simp only [List.length_cons, List.length_nil] at hi
        have i0 : (0 : Int) ≤ (i : Int) := by omega
        have il : i ≤ r.length := by omega
        cases hi2 : idxP [45, 45, 33, 62] r with
        | none =>
          obtain rfl : -1 = z2 := (fdI_zero_none hi2).symm.trans hz2
          rw [hi1, hi2] at hv
          have HV : Hid (cmM 0 r = (r.take i, i + 3)) := Lib.hid hv
          clear hi1 hi2 hz1 hz2 hv
          go_enter Tryd.func11, Tryd.ntmps11
          go_wp2_with (first
            | (go_at_call 32; (with_reducible refine (cb _).mono ?_); rintro e w1 ⟨rfl, y1⟩)
            | (go_at_call 32; (with_reducible refine (c4 _).mono ?_); rintro e w2 ⟨rfl, x2⟩; have y2 := y1.trans x2)
            | (go_at_call 32; (with_reducible refine (c5 _).mono ?_); rintro e w3 ⟨rfl, x3⟩; have y3 := y2.trans x3; obtain ⟨hB, z9, hz9⟩ := tok_block y3; obtain ⟨⟨c0, c1, c2, c3, c4, c5, c6, c7, c8⟩, f0, f1, f2, f3, f4, f5, f6, f7, f8⟩ := tok_cells hB)
            | (go_at_call 33; (with_reducible refine (c2 _).mono ?_); rintro e w4 ⟨rfl, rfl⟩)
            | (go_at_call 33; (with_reducible refine (c3 _).mono ?_); rintro e w5 ⟨rfl, rfl⟩)
            | (go_at_call 23; refine (cleanR_any (r.take i) _ (by first | decide | (simp; omega) | omega)).mono ?_; rintro e w6 ⟨rfl, rfl⟩))
          refine bodyPost_ret (v := tokR (tokV 4 [] (cleanL (r.take i)) false k (k + 4 + ((i : Int) + 3))) (k + 4 + ((i : Int) + 3))) (by simp [results, Tryd.results11, go_sem, tokV, tokR, c0, c1, c2, c3, c4, c5, c6, c7, c8]) rfl ⟨ret_inj (by rw [HV.out]; try rfl), ?_⟩
          go_grown
        | some j =>
          obtain rfl : (j : Int) = z2 := (fdI_zero_some hi2).symm.trans hz2
          have hj := idxP_le hi2
          simp only [List.length_cons, List.length_nil] at hj
          rw [hi1, hi2] at hv
          simp only at hv
          have j0 : (0 : Int) ≤ (j : Int) := by omega
          have j1 : ¬ (j : Int) < 0 := by omega
          have jl : j ≤ r.length := by omega
          clear hi1 hi2 hz1 hz2
          by_cases hij : i < j
          · rw [if_pos hij] at hv
            have HV : Hid (cmM 0 r = (r.take i, i + 3)) := Lib.hid hv
            have ij : (i : Int) < (j : Int) := by omega
            clear hv
            go_enter Tryd.func11, Tryd.ntmps11
            go_wp2_with (first
              | (go_at_call 32; (with_reducible refine (cb _).mono ?_); rintro e w1 ⟨rfl, y1⟩)
              | (go_at_call 32; (with_reducible refine (c4 _).mono ?_); rintro e w2 ⟨rfl, x2⟩; have y2 := y1.trans x2)
              | (go_at_call 32; (with_reducible refine (c5 _).mono ?_); rintro e w3 ⟨rfl, x3⟩; have y3 := y2.trans x3; obtain ⟨hB, z9, hz9⟩ := tok_block y3; obtain ⟨⟨c0, c1, c2, c3, c4, c5, c6, c7, c8⟩, f0, f1, f2, f3, f4, f5, f6, f7, f8⟩ := tok_cells hB)
              | (go_at_call 33; (with_reducible refine (c2 _).mono ?_); rintro e w4 ⟨rfl, rfl⟩)
              | (go_at_call 33; (with_reducible refine (c3 _).mono ?_); rintro e w5 ⟨rfl, rfl⟩)
              | (go_at_call 23; refine (cleanR_any (r.take i) _ (by first | decide | (simp; omega) | omega)).mono ?_; rintro e w6 ⟨rfl, rfl⟩))
            refine bodyPost_ret (v := tokR (tokV 4 [] (cleanL (r.take i)) false k (k + 4 + ((i : Int) + 3))) (k + 4 + ((i : Int) + 3))) (by simp [results, Tryd.results11, go_sem, tokV, tokR, c0, c1, c2, c3, c4, c5, c6, c7, c8]) rfl ⟨ret_inj (by rw [HV.out]; try rfl), ?_⟩
            go_grown
          · rw [if_neg hij] at hv
            have HV : Hid (cmM 0 r = (r.take j, j + 4)) := Lib.hid hv
            have ij : ¬ (i : Int) < (j : Int) := by omega
            clear hv
            go_enter Tryd.func11, Tryd.ntmps11
            go_wp2_with (first
              | (go_at_call 32; (with_reducible refine (cb _).mono ?_); rintro e w1 ⟨rfl, y1⟩)
              | (go_at_call 32; (with_reducible refine (c4 _).mono ?_); rintro e w2 ⟨rfl, x2⟩; have y2 := y1.trans x2)
              | (go_at_call 32; (with_reducible refine (c5 _).mono ?_); rintro e w3 ⟨rfl, x3⟩; have y3 := y2.trans x3; obtain ⟨hB, z9, hz9⟩ := tok_block y3; obtain ⟨⟨c0, c1, c2, c3, c4, c5, c6, c7, c8⟩, f0, f1, f2, f3, f4, f5, f6, f7, f8⟩ := tok_cells hB)
              | (go_at_call 33; (with_reducible refine (c2 _).mono ?_); rintro e w4 ⟨rfl, rfl⟩)
              | (go_at_call 33; (with_reducible refine (c3 _).mono ?_); rintro e w5 ⟨rfl, rfl⟩)
              | (go_at_call 23; refine (cleanR_any (r.take j) _ (by first | decide | (simp; omega) | omega)).mono ?_; rintro e w6 ⟨rfl, rfl⟩))
            refine bodyPost_ret (v := tokR (tokV 4 [] (cleanL (r.take j)) false k (k + 4 + ((j : Int) + 4))) (k + 4 + ((j : Int) + 4))) (by simp [results, Tryd.results11, go_sem, tokV, tokR, c0, c1, c2, c3, c4, c5, c6, c7, c8]) rfl ⟨ret_inj (by rw [HV.out]; try rfl), ?_⟩
            go_grown
end Go.Proofs.YtbolajljfkjfaaaDoor

