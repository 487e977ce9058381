/-
  What is proved: the reference's answers to what is told as a comment, to marked texts: the program's: contracts. Condition: texts of less than 100000 bytes.
-/
import Derived.Test.YtbolajljfkjfaaaDoorRawR
import Derived.Test.YtbolajljfkjfaaaDoorRawE
namespace Go.Proofs.YtbolajljfkjfaaaDoor
open Go.RowKit

theorem stI_beh (f s : List UInt8) (i : Int) : stI f s i = (behI f s i).isSome := by
  unfold stI behI
  split
  · rfl
  · cases standsB f (s.drop i.toNat) <;> rfl
theorem stands_is {f s : List UInt8} {i : Int} {b : Bool} (h : (behI f s i).isSome = b) (hs : s.length < 100000) (hf : f.length < 100000) (h0 : -9223372036854775808 ≤ i) (h1 : i ≤ 9223372036854775807) : ∀ w : World,
    Calls Tryd.prog 32 #[.string ⟨⟨s⟩⟩, .int .i64 i, .string ⟨⟨f⟩⟩] w fun e w' => e = .returned (.bool b) ∧ Ext w w' := fun w => by
  rw [← h, ← stI_beh]
  exact standsR_any s f i w hs hf h0 h1
/-- Where some bytes stand, by what stands up to them. -/
theorem find_upB {t s : List UInt8} {k : Nat} (hk : k ≤ s.length) : (fdI t s k = -1 ∧ upB t (s.drop k) = (s.drop k, s.length - k, false)) ∨
    (∃ j : Nat, fdI t s k = ((k + j : Nat) : Int) ∧ k + j + t.length ≤ s.length ∧ upB t (s.drop k) = ((s.drop k).take j, j + t.length, true)) := by
  unfold fdI upB
  cases h : idxP t (s.drop k) with
  | none => exact .inl ⟨rfl, by simp⟩
  | some j =>
    have := idxP_le h
    rw [List.length_drop] at this
    refine .inr ⟨j, rfl, ?_, rfl⟩
    by_cases ht : t.length = 0
    · omega
    · omega
theorem find_is {t s : List UInt8} {k : Nat} {z : Int} (h : fdI t s k = z) (hs : s.length < 100000) (ht : t ≠ []) (htl : t.length < 100000) (hk : k ≤ s.length) : ∀ w : World,
    Calls Tryd.prog 33 #[.string ⟨⟨s⟩⟩, .int .i64 k, .string ⟨⟨t⟩⟩] w fun e w' => e = .returned (.int .i64 z) ∧ w = w' := fun w => by
  rw [← h]
  exact findR_any s t k w hs ht htl hk
theorem two_fronts {a b : UInt8} (ha : a = 60 ∨ a = 62 ∨ a = 45 ∨ a = 33 ∨ a = 47 ∨ a = 63 ∨ a = 91) (hb : b = 60 ∨ b = 62 ∨ b = 45 ∨ b = 33 ∨ b = 47 ∨ b = 63 ∨ b = 91) (hab : a ≠ b) {s r : List UInt8} {i : Int} (h : behI [60, a] s i = some r) : behI [60, b] s i = none := by
  by_cases hr : i < 0 ∨ (s.length : Int) < i
  · exact behI_out hr
  · rw [behI_in hr] at h ⊢
    generalize s.drop i.toNat = x at h ⊢
    cases x with
    | nil => simp [standsB] at h
    | cons c x =>
      cases x with
      | nil => simp [standsB] at h
      | cons d x =>
        rw [stands_sign (by simp), stands_sign ha] at h
        rw [stands_sign (by simp), stands_sign hb]
        by_cases hd : d = a
        · subst hd
          have : (d == b) = false := beq_eq_false_iff_ne.2 hab
          simp [this]
        · have : (d == a) = false := beq_eq_false_iff_ne.2 hd
          simp [this] at h
theorem bogV_some {s t : List UInt8} {k n : Nat} {z : Int} (h : bogI s k = some (t, n)) (hz : ((k + n : Nat) : Int) = z) : bogV s k = tokR (tokV 4 [] (cleanL t) false k z) z := by
  unfold bogV
  rw [h]
  subst hz
  simp
theorem bogV_none {s : List UInt8} {i : Int} (h : bogI s i = none) : bogV s i = noneR := by
  unfold bogV
  rw [h]
set_option maxRecDepth 100000 in
set_option maxHeartbeats 8000000 in
theorem bogR_any (s : List UInt8) (i : Int) (w : World) (hs : s.length < 100000) (h0 : -9223372036854775808 ≤ i) (h1 : i ≤ 9223372036854775807) :
    Calls Tryd.prog 13 #[.string ⟨⟨s⟩⟩, .int .i64 i] w fun e w' => e = .returned (bogV s i) ∧ Ext w w' := by
  rcases bog_cases s i with ⟨r, hb1, hv⟩ | ⟨r, hb1, hb2, hv⟩ | ⟨r, hb1, hb2, hb3, hv⟩ | ⟨hb1, hb2, hb3, hv⟩
  · have cq := stands_is (f := [60, 63]) (i := i) (b := false) (by rw [two_fronts (by simp) (by simp) (by decide) hb1]; rfl) hs (by decide) h0 h1
    have cb := stands_is (f := [60, 33]) (i := i) (b := true) (by rw [hb1]; rfl) hs (by decide) h0 h1
    obtain ⟨q1, q2, q3, q4, q5⟩ := behI_some hb1
    obtain ⟨k, rfl⟩ : ∃ k : Nat, i = k := ⟨i.toNat, by omega⟩
    have hk2 : k + 2 ≤ s.length := by have : ((([60, 33] : List UInt8).length : Nat) : Int) = 2 := rfl; simp only [List.length_cons, List.length_nil] at q4; omega
    have hr : r = s.drop (k + 2) := by rw [q3, Int.toNat_natCast, List.drop_drop]; rfl
    rw [hr] at hv
    rcases find_upB (t := [62]) (s := s) (k := k + 2) (by omega) with ⟨hf, hu⟩ | ⟨j, hf, hj, hu⟩
    · rw [hu] at hv
      have HV : Hid (bogV s k = tokR (tokV 4 [] (cleanL (s.drop (k + 2))) false k s.length) s.length) := Lib.hid (bogV_some hv (by dsimp only; omega))
      have cf := find_is hf hs (by decide) (by decide) (by omega)
      have k2 : (k : Int) + 2 ≤ s.length := by omega
      clear hv hf hu q1 q2 q3 q4 q5 hr hb1
      go_enter Tryd.func13, Tryd.ntmps13
      go_wp2_with (first
        | (go_at_call 32; (with_reducible refine (cq _).mono ?_); rintro e w1 ⟨rfl, x1⟩; have y1 := x1)
        | (go_at_call 32; (with_reducible refine (cb _).mono ?_); rintro e w2 ⟨rfl, x2⟩; have y2 := y1.trans x2; obtain ⟨hB, z9, hz9⟩ := tok_block y2; obtain ⟨⟨c0, c1, c2, c3, c4, c5, c6, c7, c8⟩, f0, f1, f2, f3, f4, f5, f6, f7, f8⟩ := tok_cells hB)
        | (go_at_call 33; refine (cf _).mono ?_; rintro e w7 ⟨rfl, rfl⟩)
        | (go_at_call 23; refine (cleanR_any (s.drop (k + 2)) _ (by simp; omega)).mono ?_; rintro e w8 ⟨rfl, rfl⟩))
      refine bodyPost_ret (v := tokR (tokV 4 [] (cleanL (s.drop (k + 2))) false k (s.length : Int)) (s.length : Int)) (by simp [results, Tryd.results13, go_sem, tokV, tokR, c0, c1, c2, c3, c4, c5, c6, c7, c8]) rfl ⟨ret_inj HV.out.symm, ?_⟩
      go_grown
    · rw [hu] at hv
      simp only [List.length_cons, List.length_nil] at hj hv
      obtain ⟨z, hz⟩ : ∃ z : Nat, k + 2 + j = z := ⟨_, rfl⟩
      have hjz : j = z - (k + 2) := by omega
      rw [hz] at hf
      rw [hjz] at hv
      have HV : Hid (bogV s k = tokR (tokV 4 [] (cleanL ((s.drop (k + 2)).take (z - (k + 2)))) false k (z + 1)) (z + 1)) := Lib.hid (bogV_some hv (by omega))
      have cf := find_is hf hs (by decide) (by decide) (by omega)
      have z1 : z + 1 ≤ s.length := by omega
      have z2 : k + 2 ≤ z := by omega
      clear hjz hz hj
      have k2 : (k : Int) + 2 ≤ s.length := by omega
      clear hv hf hu q1 q2 q3 q4 q5 hr hb1
      go_enter Tryd.func13, Tryd.ntmps13
      go_wp2_with (first
        | (go_at_call 32; (with_reducible refine (cq _).mono ?_); rintro e w1 ⟨rfl, x1⟩; have y1 := x1)
        | (go_at_call 32; (with_reducible refine (cb _).mono ?_); rintro e w2 ⟨rfl, x2⟩; have y2 := y1.trans x2; obtain ⟨hB, z9, hz9⟩ := tok_block y2; obtain ⟨⟨c0, c1, c2, c3, c4, c5, c6, c7, c8⟩, f0, f1, f2, f3, f4, f5, f6, f7, f8⟩ := tok_cells hB)
        | (go_at_call 33; refine (cf _).mono ?_; rintro e w7 ⟨rfl, rfl⟩)
        | (go_at_call 23; refine (cleanR_any ((s.drop (k + 2)).take (z - (k + 2))) _ (by simp; omega)).mono ?_; rintro e w8 ⟨rfl, rfl⟩))
      refine bodyPost_ret (v := tokR (tokV 4 [] (cleanL ((s.drop (k + 2)).take (z - (k + 2)))) false k ((z : Int) + 1)) ((z : Int) + 1)) (by simp [results, Tryd.results13, go_sem, tokV, tokR, c0, c1, c2, c3, c4, c5, c6, c7, c8]) rfl ⟨ret_inj HV.out.symm, ?_⟩
      go_grown
  · have cq := stands_is (f := [60, 63]) (i := i) (b := false) (by rw [two_fronts (by simp) (by simp) (by decide) hb2]; rfl) hs (by decide) h0 h1
    have cb := stands_is (f := [60, 33]) (i := i) (b := false) (by rw [hb1]; rfl) hs (by decide) h0 h1
    have cs := stands_is (f := [60, 47]) (i := i) (b := true) (by rw [hb2]; rfl) hs (by decide) h0 h1
    obtain ⟨q1, q2, q3, q4, q5⟩ := behI_some hb2
    obtain ⟨k, rfl⟩ : ∃ k : Nat, i = k := ⟨i.toNat, by omega⟩
    have hk2 : k + 2 ≤ s.length := by have : ((([60, 33] : List UInt8).length : Nat) : Int) = 2 := rfl; simp only [List.length_cons, List.length_nil] at q4; omega
    have hr : r = s.drop (k + 2) := by rw [q3, Int.toNat_natCast, List.drop_drop]; rfl
    rw [hr] at hv
    rcases find_upB (t := [62]) (s := s) (k := k + 2) (by omega) with ⟨hf, hu⟩ | ⟨j, hf, hj, hu⟩
    · rw [hu] at hv
      have HV : Hid (bogV s k = tokR (tokV 4 [] (cleanL (s.drop (k + 2))) false k s.length) s.length) := Lib.hid (bogV_some hv (by dsimp only; omega))
      have cf := find_is hf hs (by decide) (by decide) (by omega)
      have k2 : (k : Int) + 2 ≤ s.length := by omega
      clear hv hf hu q1 q2 q3 q4 q5 hr hb1 hb2
      go_enter Tryd.func13, Tryd.ntmps13
      go_wp2_with (first
        | (go_at_call 32; (with_reducible refine (cq _).mono ?_); rintro e w1 ⟨rfl, x1⟩; have y1 := x1)
        | (go_at_call 32; (with_reducible refine (cb _).mono ?_); rintro e w2 ⟨rfl, x2⟩; have y2 := y1.trans x2)
        | (go_at_call 32; (with_reducible refine (cs _).mono ?_); rintro e w3 ⟨rfl, x3⟩; have y3 := y2.trans x3; obtain ⟨hB, z9, hz9⟩ := tok_block y3; obtain ⟨⟨c0, c1, c2, c3, c4, c5, c6, c7, c8⟩, f0, f1, f2, f3, f4, f5, f6, f7, f8⟩ := tok_cells hB)
        | (go_at_call 33; refine (cf _).mono ?_; rintro e w7 ⟨rfl, rfl⟩)
        | (go_at_call 23; refine (cleanR_any (s.drop (k + 2)) _ (by simp; omega)).mono ?_; rintro e w8 ⟨rfl, rfl⟩))
      refine bodyPost_ret (v := tokR (tokV 4 [] (cleanL (s.drop (k + 2))) false k (s.length : Int)) (s.length : Int)) (by simp [results, Tryd.results13, go_sem, tokV, tokR, c0, c1, c2, c3, c4, c5, c6, c7, c8]) rfl ⟨ret_inj HV.out.symm, ?_⟩
      go_grown
    · rw [hu] at hv
      simp only [List.length_cons, List.length_nil] at hj hv
      obtain ⟨z, hz⟩ : ∃ z : Nat, k + 2 + j = z := ⟨_, rfl⟩
      have hjz : j = z - (k + 2) := by omega
      rw [hz] at hf
      rw [hjz] at hv
      have HV : Hid (bogV s k = tokR (tokV 4 [] (cleanL ((s.drop (k + 2)).take (z - (k + 2)))) false k (z + 1)) (z + 1)) := Lib.hid (bogV_some hv (by omega))
      have cf := find_is hf hs (by decide) (by decide) (by omega)
      have z1 : z + 1 ≤ s.length := by omega
      have z2 : k + 2 ≤ z := by omega
      clear hjz hz hj
      have k2 : (k : Int) + 2 ≤ s.length := by omega
      clear hv hf hu q1 q2 q3 q4 q5 hr hb1 hb2
      go_enter Tryd.func13, Tryd.ntmps13
      go_wp2_with (first
        | (go_at_call 32; (with_reducible refine (cq _).mono ?_); rintro e w1 ⟨rfl, x1⟩; have y1 := x1)
        | (go_at_call 32; (with_reducible refine (cb _).mono ?_); rintro e w2 ⟨rfl, x2⟩; have y2 := y1.trans x2)
        | (go_at_call 32; (with_reducible refine (cs _).mono ?_); rintro e w3 ⟨rfl, x3⟩; have y3 := y2.trans x3; obtain ⟨hB, z9, hz9⟩ := tok_block y3; obtain ⟨⟨c0, c1, c2, c3, c4, c5, c6, c7, c8⟩, f0, f1, f2, f3, f4, f5, f6, f7, f8⟩ := tok_cells hB)
        | (go_at_call 33; refine (cf _).mono ?_; rintro e w7 ⟨rfl, rfl⟩)
        | (go_at_call 23; refine (cleanR_any ((s.drop (k + 2)).take (z - (k + 2))) _ (by simp; omega)).mono ?_; rintro e w8 ⟨rfl, rfl⟩))
      refine bodyPost_ret (v := tokR (tokV 4 [] (cleanL ((s.drop (k + 2)).take (z - (k + 2)))) false k ((z : Int) + 1)) ((z : Int) + 1)) (by simp [results, Tryd.results13, go_sem, tokV, tokR, c0, c1, c2, c3, c4, c5, c6, c7, c8]) rfl ⟨ret_inj HV.out.symm, ?_⟩
      go_grown
  · have cq := stands_is (f := [60, 63]) (i := i) (b := true) (by rw [hb3]; rfl) hs (by decide) h0 h1
    obtain ⟨q1, q2, q3, q4, q5⟩ := behI_some hb3
    obtain ⟨k, rfl⟩ : ∃ k : Nat, i = k := ⟨i.toNat, by omega⟩
    have hk2 : k + 2 ≤ s.length := by have : ((([60, 33] : List UInt8).length : Nat) : Int) = 2 := rfl; simp only [List.length_cons, List.length_nil] at q4; omega
    have hr : 63 :: r = s.drop (k + 1) := by
      have hst := q5
      rw [Int.toNat_natCast] at hst q3
      rw [drop_one (show k < s.length by omega), stands_sign (by simp), drop_one (show k + 1 < s.length by omega), stands_sign (by simp)] at hst
      simp only [Bool.and_eq_true, beq_iff_eq] at hst
      rw [drop_one (show k + 1 < s.length by omega), hst.2.1, q3, List.drop_drop]
      rfl
    rw [hr] at hv
    rcases find_upB (t := [62]) (s := s) (k := k + 1) (by omega) with ⟨hf, hu⟩ | ⟨j, hf, hj, hu⟩
    · rw [hu] at hv
      have HV : Hid (bogV s k = tokR (tokV 4 [] (cleanL (s.drop (k + 1))) false k s.length) s.length) := Lib.hid (bogV_some hv (by dsimp only; omega))
      have cf := find_is hf hs (by decide) (by decide) (by omega)
      have k2 : (k : Int) + 2 ≤ s.length := by omega
      clear hv hf hu q1 q2 q3 q4 q5 hr hb1 hb2 hb3
      go_enter Tryd.func13, Tryd.ntmps13
      go_wp2_with (first
        | (go_at_call 32; (with_reducible refine (cq _).mono ?_); rintro e w1 ⟨rfl, x1⟩; have y1 := x1; obtain ⟨hB, z9, hz9⟩ := tok_block y1; obtain ⟨⟨c0, c1, c2, c3, c4, c5, c6, c7, c8⟩, f0, f1, f2, f3, f4, f5, f6, f7, f8⟩ := tok_cells hB)
        | (go_at_call 33; refine (cf _).mono ?_; rintro e w7 ⟨rfl, rfl⟩)
        | (go_at_call 23; refine (cleanR_any (s.drop (k + 1)) _ (by simp; omega)).mono ?_; rintro e w8 ⟨rfl, rfl⟩))
      refine bodyPost_ret (v := tokR (tokV 4 [] (cleanL (s.drop (k + 1))) false k (s.length : Int)) (s.length : Int)) (by simp [results, Tryd.results13, go_sem, tokV, tokR, c0, c1, c2, c3, c4, c5, c6, c7, c8]) rfl ⟨ret_inj HV.out.symm, ?_⟩
      go_grown
    · rw [hu] at hv
      simp only [List.length_cons, List.length_nil] at hj hv
      obtain ⟨z, hz⟩ : ∃ z : Nat, k + 1 + j = z := ⟨_, rfl⟩
      have hjz : j = z - (k + 1) := by omega
      rw [hz] at hf
      rw [hjz] at hv
      have HV : Hid (bogV s k = tokR (tokV 4 [] (cleanL ((s.drop (k + 1)).take (z - (k + 1)))) false k (z + 1)) (z + 1)) := Lib.hid (bogV_some hv (by omega))
      have cf := find_is hf hs (by decide) (by decide) (by omega)
      have z1 : z + 1 ≤ s.length := by omega
      have z2 : k + 1 ≤ z := by omega
      clear hjz hz hj
      have k2 : (k : Int) + 2 ≤ s.length := by omega
      clear hv hf hu q1 q2 q3 q4 q5 hr hb1 hb2 hb3
      go_enter Tryd.func13, Tryd.ntmps13
      go_wp2_with (first
        | (go_at_call 32; (with_reducible refine (cq _).mono ?_); rintro e w1 ⟨rfl, x1⟩; have y1 := x1; obtain ⟨hB, z9, hz9⟩ := tok_block y1; obtain ⟨⟨c0, c1, c2, c3, c4, c5, c6, c7, c8⟩, f0, f1, f2, f3, f4, f5, f6, f7, f8⟩ := tok_cells hB)
        | (go_at_call 33; refine (cf _).mono ?_; rintro e w7 ⟨rfl, rfl⟩)
        | (go_at_call 23; refine (cleanR_any ((s.drop (k + 1)).take (z - (k + 1))) _ (by simp; omega)).mono ?_; rintro e w8 ⟨rfl, rfl⟩))
      refine bodyPost_ret (v := tokR (tokV 4 [] (cleanL ((s.drop (k + 1)).take (z - (k + 1)))) false k ((z : Int) + 1)) ((z : Int) + 1)) (by simp [results, Tryd.results13, go_sem, tokV, tokR, c0, c1, c2, c3, c4, c5, c6, c7, c8]) rfl ⟨ret_inj HV.out.symm, ?_⟩
      go_grown
  · have cq := stands_is (f := [60, 63]) (i := i) (b := false) (by rw [hb3]; rfl) hs (by decide) h0 h1
    have cb := stands_is (f := [60, 33]) (i := i) (b := false) (by rw [hb1]; rfl) hs (by decide) h0 h1
    have cs := stands_is (f := [60, 47]) (i := i) (b := false) (by rw [hb2]; rfl) hs (by decide) h0 h1
    have HV := Lib.hid (bogV_none hv)
    clear hv hb1 hb2 hb3
    go_enter Tryd.func13, Tryd.ntmps13
    go_wp2_with (first
      | (go_at_call 32; (with_reducible refine (cq _).mono ?_); rintro e w1 ⟨rfl, x1⟩; have y1 := x1)
      | (go_at_call 32; (with_reducible refine (cb _).mono ?_); rintro e w2 ⟨rfl, x2⟩; have y2 := y1.trans x2)
      | (go_at_call 32; (with_reducible refine (cs _).mono ?_); rintro e w3 ⟨rfl, x3⟩; have y3 := y2.trans x3; obtain ⟨hB, z9, hz9⟩ := tok_block y3; obtain ⟨⟨c0, c1, c2, c3, c4, c5, c6, c7, c8⟩, f0, f1, f2, f3, f4, f5, f6, f7, f8⟩ := tok_cells hB))
    refine bodyPost_ret (v := noneR) (by simp [results, Tryd.results13, go_sem, tokV, noneR, tokR, c0, c1, c2, c3, c4, c5, c6, c7, c8]) rfl ⟨ret_inj HV.out.symm, ?_⟩
    go_grown
set_option maxRecDepth 100000 in
set_option maxHeartbeats 4000000 in
theorem cdR_any (s : List UInt8) (i : Int) (w : World) (hs : s.length < 100000) (h0 : -9223372036854775808 ≤ i) (h1 : i ≤ 9223372036854775807) :
    Calls Tryd.prog 17 #[.string ⟨⟨s⟩⟩, .int .i64 i] w fun e w' => e = .returned (cdV s i) ∧ Ext w w' := by
  have hcd : ∀ j : Int, (behI [60, 33, 91, 99, 100, 97, 116, 97, 91] s j).isSome = (behI cdF s j).isSome := fun j => by
    by_cases hr : j < 0 ∨ (s.length : Int) < j
    · rw [behI_out hr, behI_out hr]
    · rw [behI_in hr, behI_in hr]
      have : standsB [60, 33, 91, 99, 100, 97, 116, 97, 91] (s.drop j.toNat) = standsB cdF (s.drop j.toNat) := by unfold standsB; rfl
      rw [this]
      cases standsB cdF (s.drop j.toNat) <;> rfl
  unfold cdV
  rcases cd_cases s i with ⟨hb, hv⟩ | ⟨k, r, rfl, hb, hq, hv⟩ | ⟨k, r, rfl, hb, hq, hv⟩
  · have cb := stands_is (f := [60, 33, 91, 99, 100, 97, 116, 97, 91]) (i := i) (b := false) (by rw [hcd, hb]; rfl) hs (by decide) h0 h1
    rw [hv]
    clear hb hv hcd
    go_enter Tryd.func17, Tryd.ntmps17
    go_wp2_with (go_at_call 32; refine (cb _).mono ?_; rintro e w1 ⟨rfl, x1⟩)
    go_ret2
    exact ⟨rfl, x1⟩
  · have cb := stands_is (f := [60, 33, 91, 99, 100, 97, 116, 97, 91]) (i := k) (b := true) (by rw [hcd, hb]; rfl) hs (by decide) h0 h1
    obtain ⟨q1, q2, q3, q4, q5⟩ := behI_some hb
    have hol : ((cdF.length : Nat) : Int) = 9 := rfl
    have hk9 : k + 9 ≤ s.length := by omega
    have e4 : ((s.drop k).take 9 != [60, 33, 91, 67, 68, 65, 84, 65, 91]) = true := by unfold bne; rw [hq]; rfl
    rw [hv]
    clear hb hv q5 q3 hol q4 hcd
    go_enter Tryd.func17, Tryd.ntmps17
    go_wp2_with (go_at_call 32; refine (cb _).mono ?_; rintro e w1 ⟨rfl, x1⟩)
    go_ret2
    exact ⟨rfl, x1⟩
  · have cb := stands_is (f := [60, 33, 91, 99, 100, 97, 116, 97, 91]) (i := k) (b := true) (by rw [hcd, hb]; rfl) hs (by decide) h0 h1
    obtain ⟨q1, q2, q3, q4, q5⟩ := behI_some hb
    have hol : ((cdF.length : Nat) : Int) = 9 := rfl
    have hk9 : k + 9 ≤ s.length := by omega
    have hr : r = s.drop (k + 9) := by rw [q3, Int.toNat_natCast, List.drop_drop]; rfl
    have e4 : ((s.drop k).take 9 != [60, 33, 91, 67, 68, 65, 84, 65, 91]) = false := by unfold bne; rw [hq]; rfl
    rw [hr] at hv
    rw [hv]
    clear hb hv q5 q3 hol q4 hcd hr
    rcases find_upB (t := [93, 93, 62]) (s := s) (k := k + 9) hk9 with ⟨hf, hu⟩ | ⟨j, hf, hj, hu⟩
    · rw [hu]
      have cf := find_is hf hs (by decide) (by decide) hk9
      have HE : Hid ((s.length : Int) = k + ((9 + (s.length - (k + 9)) : Nat) : Int)) := Lib.hid (by omega)
      clear hf hu
      go_enter Tryd.func17, Tryd.ntmps17
      go_wp2_with (first
        | (go_at_call 32; refine (cb _).mono ?_; rintro e w1 ⟨rfl, x1⟩)
        | (go_at_call 33; refine (cf _).mono ?_; rintro e w7 ⟨rfl, rfl⟩))
      go_ret2
      exact ⟨by simp only; rw [← HE.out]; rfl, x1⟩
    · rw [hu]
      simp only [List.length_cons, List.length_nil] at hj ⊢
      obtain ⟨z, hz⟩ : ∃ z : Nat, k + 9 + j = z := ⟨_, rfl⟩
      have hjz : j = z - (k + 9) := by omega
      rw [hz] at hf
      have cf := find_is hf hs (by decide) (by decide) hk9
      have z1 : z + 3 ≤ s.length := by omega
      have z2 : k + 9 ≤ z := by omega
      have HE : Hid (((z : Int) + 3) = k + ((9 + (j + (0 + 1 + 1 + 1)) : Nat) : Int)) := Lib.hid (by omega)
      subst hjz
      clear hf hu hz hj
      go_enter Tryd.func17, Tryd.ntmps17
      go_wp2_with (first
        | (go_at_call 32; refine (cb _).mono ?_; rintro e w1 ⟨rfl, x1⟩)
        | (go_at_call 33; refine (cf _).mono ?_; rintro e w7 ⟨rfl, rfl⟩))
      go_ret2
      exact ⟨by rw [← HE.out]; rfl, x1⟩
end Go.Proofs.YtbolajljfkjfaaaDoor
