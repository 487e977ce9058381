/-
  What is proved: the reference's Decode: a contract. Condition: the text's size.
-/
import Derived.Test.YthcbkgiphfgbcaaDoorTxtE
import Derived.Test.YthcbkgiphfgbcaaDoorQui
namespace Go.Proofs.YthcbkgiphfgbcaaDoor
open Go.RowKit

theorem may_q (f c : UInt8) (i : Int) (k : Nat) (w : World) (hi : i = k) (hk : k < 100000) : Calls Tryd.prog 17 #[.int .u8 f.toNat, .int .u8 c.toNat, .int .i64 i] w fun e w' => e = .returned (.bool (mayB f c k)) ∧ w = w' := by
  subst hi
  exact may_any f c k w hk
theorem moreB_le (c : UInt8) : -1 ≤ moreB c ∧ moreB c ≤ 3 := by
  have key : (List.range 256).all (fun n => decide (-1 ≤ moreB (UInt8.ofNat n)) && decide (moreB (UInt8.ofNat n) ≤ 3)) = true := by decide +kernel
  have := u8 (fun c => decide (-1 ≤ moreB c) && decide (moreB c ≤ 3)) key c
  simpa using this
/-- What the loop holds: what was told, what is there, how much is to come. -/
structure RefRel (u : List UInt8) (k : Nat) (out have' : List UInt8) (need : Nat) : Prop where
  at_ : k ≤ u.length
  law : out ++ refD have' need (u.drop k) = decB u
  some_ : 0 < need → have' ≠ []
  len : have'.length + need ≤ 4
  out_ : out.length ≤ 6 * k
theorem RefRel.start (u : List UInt8) : RefRel u 0 [] [] 0 := ⟨Nat.zero_le _, by rw [List.drop_zero, List.nil_append]; exact refD_dec _ u (Nat.le_refl _), fun h => by omega, by simp, by simp⟩
theorem refD_may {f c : UInt8} {h t : List UInt8} {need : Nat} (hn : 0 < need) (hm : mayB f c (h.length + 1) = true) : refD (f :: h) need (c :: t) = if need = 1 then (f :: h) ++ [c] ++ refD [] 0 t else refD ((f :: h) ++ [c]) (need - 1) t := by
  conv => lhs; unfold refD
  simp only [List.headD_cons, List.length_cons, hm, decide_eq_true hn, Bool.and_self, if_true]
theorem refD_new {c : UInt8} {have' t : List UInt8} {need : Nat} (hm : need = 0 ∨ mayB (have'.headD 0) c have'.length = false) : refD have' need (c :: t) = (if 0 < need then fffd else []) ++ (if moreB c < 0 then fffd else if moreB c = 0 then [c] else []) ++ refD [c] (moreB c).toNat t := by
  conv => lhs; unfold refD
  rw [if_neg]
  rcases hm with rfl | hm
  · simp
  · rw [hm, Bool.and_false]; simp
theorem RefRel.done {u out h : List UInt8} {k : Nat} {f : UInt8} (r : RefRel u k out (f :: h) 1) (hk : k < u.length) (hm : mayB f u[k] (h.length + 1) = true) : RefRel u (k + 1) (out ++ (f :: (h ++ [u[k]]))) [] 0 := by
  refine ⟨by omega, ?_, fun h => by omega, by simp, ?_⟩
  · rw [← r.law, List.drop_eq_getElem_cons hk, refD_may (by omega) hm, if_pos rfl]
    simp
  · have := r.out_
    have := r.len
    simp only [List.length_append, List.length_cons, List.length_nil] at this ⊢
    omega
theorem RefRel.more {u out h : List UInt8} {k need : Nat} {f : UInt8} (r : RefRel u k out (f :: h) need) (hk : k < u.length) (hm : mayB f u[k] (h.length + 1) = true) (hn : 2 ≤ need) : RefRel u (k + 1) out (f :: (h ++ [u[k]])) (need - 1) := by
  refine ⟨by omega, ?_, fun _ => by simp, ?_, ?_⟩
  · rw [← r.law, List.drop_eq_getElem_cons hk, refD_may (by omega) hm, if_neg (by omega)]
    simp
  · have := r.len
    simp only [List.length_append, List.length_cons, List.length_nil] at this ⊢
    omega
  · have := r.out_
    omega
theorem RefRel.new {u out have' : List UInt8} {k need : Nat} (r : RefRel u k out have' need) (hk : k < u.length) (hm : need = 0 ∨ mayB (have'.headD 0) u[k] have'.length = false) :
    RefRel u (k + 1) ((out ++ if 0 < need then fffd else []) ++ (if moreB u[k] < 0 then fffd else if moreB u[k] = 0 then [u[k]] else [])) [u[k]] (moreB u[k]).toNat := by
  have hb := moreB_le u[k]
  refine ⟨by omega, ?_, fun _ => by simp, by simp only [List.length_cons, List.length_nil]; omega, ?_⟩
  · rw [← r.law, List.drop_eq_getElem_cons hk, refD_new hm]
    simp
  · have := r.out_
    have h1 : (if 0 < need then fffd else []).length ≤ 3 := by split <;> simp [fffd]
    have h2 : (if moreB u[k] < 0 then fffd else if moreB u[k] = 0 then [u[k]] else []).length ≤ 3 := by
      split
      · simp [fffd]
      · split <;> simp
    simp only [List.length_append]
    omega
theorem RefRel.fin {u out have' : List UInt8} {k need : Nat} (r : RefRel u k out have' need) (hk : u.length ≤ k) : decB u = out ++ if 0 < need then fffd else [] := by
  rw [← r.law, List.drop_eq_nil_of_le hk]
  rfl
set_option maxRecDepth 100000 in
set_option maxHeartbeats 8000000 in
theorem refDecode_short (u0 : List UInt8) (w : World) (hl : u0.length < 10000) (h3 : (u0.length : Int) < 3) :
    Calls Tryd.prog 9 #[.string ⟨⟨u0⟩⟩] w fun e w' => e = .returned (.string ⟨⟨decB (u0)⟩⟩) ∧ Ext w w' := by
  go_enter Tryd.func9, Tryd.ntmps9
  go_wp2_with fail
  obtain ⟨u, rfl⟩ : ∃ u, u = u0 := ⟨_, rfl⟩
  go_loopw [3, 4, 5, 6] (fun so sh sn si wr => ∃ (k need : Nat) (out have' : List UInt8), so = .string ⟨⟨out⟩⟩ ∧ sh = .string ⟨⟨have'⟩⟩ ∧ sn = .int .i64 need ∧ si = .int .i64 k ∧ RefRel u k out have' need ∧ Ext w wr) (fun _ _ _ si _ => u.length - (intOf si).toNat)
  case atStart => exact ⟨0, 0, [], [], rfl, rfl, rfl, rfl, RefRel.start u, Ext.refl _⟩
  case round =>
    obtain ⟨k, need, out, have', rfl, rfl, rfl, rfl, hr, hx⟩ := hrel
    have hk := hr.at_
    have hlen := hr.len
    have hout := hr.out_
    have HR := Lib.hid hr
    clear hr
    by_cases hlt : k < u.length
    · have hs1 := slice_one hlt
      have e1 : IntKind.i64.wrap ((k : Int) + 1) = (k : Int) + 1 := IntWalk.i64_in _ (by omega)
      have e2 : 0 ≤ (k : Int) + 1 := by omega
      have e3 : ((k : Int) + 1).toNat = k + 1 := by omega
      have e4 : (k : Int) + 1 ≤ u.length := by omega
      have e5 : (k : Int) ≤ (k : Int) + 1 := by omega
      have e6 : k + 1 - k = 1 := by omega
      by_cases hn : need = 0
      · have hv0 := HR.out.new hlt (.inl hn)
        rw [if_neg (by omega), List.append_nil] at hv0
        have HN := Lib.hid hv0
        have n1 : decide ((0 : Int) < need) = false := by rw [decide_eq_false_iff_not]; omega
        have n2 : decide (0 < need) = false := by rw [decide_eq_false_iff_not]; omega
        clear hv0 hn
        have hz := moreB_le u[k]
        have hz0 : moreB u[k] < 0 ∨ moreB u[k] = 0 ∨ 0 < moreB u[k] := by omega
        rcases hz0 with hz0 | hz0 | hz0
        · have b1 : decide (moreB u[k] < 0) = true := decide_eq_true hz0
          have hv := HN.out
          rw [if_pos hz0] at hv
          have HV := Lib.hid hv
          clear hv HN
          go_wp2_with fail
          go_quiet (fail)
          go_wp2_with fail
          go_quiet ((go_at_call 18; first | exact still2 (more_any _) | exact still1 (more_any _)))
          go_wp2_with fail
          go_roundw
          case rel => exact ⟨k + 1, (moreB u[k]).toNat, _, _, rfl, rfl, int_eq (by omega), by go_num, by first | exact HV.out | (simpa using HV.out), Ext.trans hx (by first | exact Ext.drewN _ _ | exact Ext.refl _)⟩
          case measure => simp [intOf]; omega
        · have b1 : decide (moreB u[k] < 0) = false := decide_eq_false (by omega)
          have b2 : (moreB u[k] == 0) = true := by rw [beq_iff_eq]; exact hz0
          have hv := HN.out
          rw [if_neg (by omega), if_pos hz0] at hv
          have HV := Lib.hid hv
          have HZ := Lib.hid hz0
          have hz1 : 0 ≤ moreB u[k] := by omega
          clear hv HN hz0
          go_wp2_with fail
          go_quiet (fail)
          go_wp2_with fail
          go_quiet ((go_at_call 18; first | exact still2 (more_any _) | exact still1 (more_any _)))
          go_wp2_with fail
          go_roundw
          case rel => exact ⟨k + 1, (moreB u[k]).toNat, _, _, rfl, rfl, int_eq (by have := HZ.out; omega), by go_num, by first | exact HV.out | (simpa using HV.out), Ext.trans hx (by first | exact Ext.drewN _ _ | exact Ext.refl _)⟩
          case measure => simp [intOf]; omega
        · have b1 : decide (moreB u[k] < 0) = false := decide_eq_false (by omega)
          have b2 : (moreB u[k] == 0) = false := by rw [beq_eq_false_iff_ne]; omega
          have hv := HN.out
          rw [if_neg (by omega), if_neg (by omega)] at hv
          have HV := Lib.hid hv
          clear hv HN
          go_wp2_with fail
          go_quiet (fail)
          go_wp2_with fail
          go_quiet ((go_at_call 18; first | exact still2 (more_any _) | exact still1 (more_any _)))
          go_wp2_with fail
          go_roundw
          case rel => exact ⟨k + 1, (moreB u[k]).toNat, _, _, rfl, rfl, int_eq (by omega), by go_num, by first | exact HV.out | (simpa using HV.out), Ext.trans hx (by first | exact Ext.drewN _ _ | exact Ext.refl _)⟩
          case measure => simp [intOf]; omega
      · have n1 : decide ((0 : Int) < need) = true := by rw [decide_eq_true_eq]; omega
        have n2 : decide (0 < need) = true := by rw [decide_eq_true_eq]; omega
        obtain ⟨f, h, rfl⟩ : ∃ f h, have' = f :: h := by
          cases have' with
          | nil => exact absurd rfl (HR.out.some_ (by omega))
          | cons f h => exact ⟨f, h, rfl⟩
        simp only [List.length_cons] at hlen
        cases hm : mayB f u[k] (h.length + 1)
        · have hv0 := HR.out.new hlt (.inr hm)
          rw [if_pos (by omega)] at hv0
          have HN := Lib.hid hv0
          clear hv0
          have hz := moreB_le u[k]
          have hz0 : moreB u[k] < 0 ∨ moreB u[k] = 0 ∨ 0 < moreB u[k] := by omega
          rcases hz0 with hz0 | hz0 | hz0
          · have b1 : decide (moreB u[k] < 0) = true := decide_eq_true hz0
            have hv := HN.out
            rw [if_pos hz0] at hv
            have HV := Lib.hid hv
            clear hv HN
            go_wp2_with fail
            go_quiet ((go_at_call 17; exact still1 (fun W => may_q _ _ _ (h.length + 1) W (by omega) (by omega))))
            go_wp2_with fail
            go_quiet ((go_at_call 18; first | exact still2 (more_any _) | exact still1 (more_any _)))
            go_wp2_with fail
            go_roundw
            case rel => exact ⟨k + 1, (moreB u[k]).toNat, _, _, rfl, rfl, int_eq (by omega), by go_num, by first | exact HV.out | (simpa [fffd] using HV.out), Ext.trans hx (by first | exact Ext.drewN _ _ | exact Ext.refl _)⟩
            case measure => simp [intOf]; omega
          · have b1 : decide (moreB u[k] < 0) = false := decide_eq_false (by omega)
            have b2 : (moreB u[k] == 0) = true := by rw [beq_iff_eq]; exact hz0
            have hv := HN.out
            rw [if_neg (by omega), if_pos hz0] at hv
            have HV := Lib.hid hv
            have HZ := Lib.hid hz0
            have hz1 : 0 ≤ moreB u[k] := by omega
            clear hv HN hz0
            go_wp2_with fail
            go_quiet ((go_at_call 17; exact still1 (fun W => may_q _ _ _ (h.length + 1) W (by omega) (by omega))))
            go_wp2_with fail
            go_quiet ((go_at_call 18; first | exact still2 (more_any _) | exact still1 (more_any _)))
            go_wp2_with fail
            go_roundw
            case rel => exact ⟨k + 1, (moreB u[k]).toNat, _, _, rfl, rfl, int_eq (by have := HZ.out; omega), by go_num, by first | exact HV.out | (simpa [fffd] using HV.out), Ext.trans hx (by first | exact Ext.drewN _ _ | exact Ext.refl _)⟩
            case measure => simp [intOf]; omega
          · have b1 : decide (moreB u[k] < 0) = false := decide_eq_false (by omega)
            have b2 : (moreB u[k] == 0) = false := by rw [beq_eq_false_iff_ne]; omega
            have hv := HN.out
            rw [if_neg (by omega), if_neg (by omega)] at hv
            have HV := Lib.hid hv
            clear hv HN
            go_wp2_with fail
            go_quiet ((go_at_call 17; exact still1 (fun W => may_q _ _ _ (h.length + 1) W (by omega) (by omega))))
            go_wp2_with fail
            go_quiet ((go_at_call 18; first | exact still2 (more_any _) | exact still1 (more_any _)))
            go_wp2_with fail
            go_roundw
            case rel => exact ⟨k + 1, (moreB u[k]).toNat, _, _, rfl, rfl, int_eq (by omega), by go_num, by first | exact HV.out | (simpa [fffd] using HV.out), Ext.trans hx (by first | exact Ext.drewN _ _ | exact Ext.refl _)⟩
            case measure => simp [intOf]; omega
        · by_cases hn1 : need = 1
          · subst hn1
            have HN := Lib.hid (HR.out.done hlt hm)
            go_wp2_with fail
            go_quiet ((go_at_call 17; exact still1 (fun W => may_q _ _ _ (h.length + 1) W (by omega) (by omega))))
            go_wp2_with fail
            go_roundw
            case rel => exact ⟨k + 1, 0, _, [], rfl, rfl, rfl, by go_num, by first | exact HN.out | (simpa using HN.out), Ext.trans hx (by first | exact Ext.drewN _ _ | exact Ext.refl _)⟩
            case measure => simp [intOf]; omega
          · have HN := Lib.hid (HR.out.more hlt hm (by omega))
            have n3 : (((need : Int) - 1) == 0) = false := by rw [beq_eq_false_iff_ne]; omega
            have n4 : 2 ≤ (need : Int) := by omega
            have n5 : ((need - 1 : Nat) : Int) = (need : Int) - 1 := by omega
            have N5 := Lib.hid n5
            clear hn1 n5 hn
            go_wp2_with fail
            go_quiet ((go_at_call 17; exact still1 (fun W => may_q _ _ _ (h.length + 1) W (by omega) (by omega))))
            go_wp2_with fail
            go_roundw
            case rel => exact ⟨k + 1, need - 1, _, _, rfl, rfl, int_eq N5.out.symm, by go_num, by first | exact HN.out | (simpa using HN.out), Ext.trans hx (by first | exact Ext.drewN _ _ | exact Ext.refl _)⟩
            case measure => simp [intOf]; omega
    · have HF := Lib.hid (HR.out.fin (by omega))
      by_cases hn : need = 0
      · have n1 : decide ((0 : Int) < need) = false := by rw [decide_eq_false_iff_not]; omega
        have n2 : decide (0 < need) = false := by rw [decide_eq_false_iff_not]; omega
        have hv := HF.out
        rw [if_neg (by omega), List.append_nil] at hv
        have HV := Lib.hid hv
        clear hv hn
        go_wp2_with fail
        go_ret
        exact ⟨ret_inj (str_eq HV.out.symm), hx⟩
      · have n1 : decide ((0 : Int) < need) = true := by rw [decide_eq_true_eq]; omega
        have n2 : decide (0 < need) = true := by rw [decide_eq_true_eq]; omega
        have hv := HF.out
        rw [if_pos (by omega)] at hv
        have HV := Lib.hid hv
        clear hv hn
        go_wp2_with fail
        go_ret
        exact ⟨ret_inj (str_eq (by rw [HV.out]; rfl)), hx⟩
set_option maxRecDepth 100000 in
set_option maxHeartbeats 8000000 in
theorem refDecode_off (u0 : List UInt8) (w : World) (hl : u0.length < 10000) (h3 : (3 : Int) ≤ u0.length) (hm0 : (List.take 3 u0 == [239, 187, 191]) = false) :
    Calls Tryd.prog 9 #[.string ⟨⟨u0⟩⟩] w fun e w' => e = .returned (.string ⟨⟨decB (u0)⟩⟩) ∧ Ext w w' := by
  go_enter Tryd.func9, Tryd.ntmps9
  go_wp2_with fail
  obtain ⟨u, rfl⟩ : ∃ u, u = u0 := ⟨_, rfl⟩
  go_loopw [3, 4, 5, 6] (fun so sh sn si wr => ∃ (k need : Nat) (out have' : List UInt8), so = .string ⟨⟨out⟩⟩ ∧ sh = .string ⟨⟨have'⟩⟩ ∧ sn = .int .i64 need ∧ si = .int .i64 k ∧ RefRel u k out have' need ∧ Ext w wr) (fun _ _ _ si _ => u.length - (intOf si).toNat)
  case atStart => exact ⟨0, 0, [], [], rfl, rfl, rfl, rfl, RefRel.start u, Ext.refl _⟩
  case round =>
    obtain ⟨k, need, out, have', rfl, rfl, rfl, rfl, hr, hx⟩ := hrel
    have hk := hr.at_
    have hlen := hr.len
    have hout := hr.out_
    have HR := Lib.hid hr
    clear hr
    by_cases hlt : k < u.length
    · have hs1 := slice_one hlt
      have e1 : IntKind.i64.wrap ((k : Int) + 1) = (k : Int) + 1 := IntWalk.i64_in _ (by omega)
      have e2 : 0 ≤ (k : Int) + 1 := by omega
      have e3 : ((k : Int) + 1).toNat = k + 1 := by omega
      have e4 : (k : Int) + 1 ≤ u.length := by omega
      have e5 : (k : Int) ≤ (k : Int) + 1 := by omega
      have e6 : k + 1 - k = 1 := by omega
      by_cases hn : need = 0
      · have hv0 := HR.out.new hlt (.inl hn)
        rw [if_neg (by omega), List.append_nil] at hv0
        have HN := Lib.hid hv0
        have n1 : decide ((0 : Int) < need) = false := by rw [decide_eq_false_iff_not]; omega
        have n2 : decide (0 < need) = false := by rw [decide_eq_false_iff_not]; omega
        clear hv0 hn
        have hz := moreB_le u[k]
        have hz0 : moreB u[k] < 0 ∨ moreB u[k] = 0 ∨ 0 < moreB u[k] := by omega
        rcases hz0 with hz0 | hz0 | hz0
        · have b1 : decide (moreB u[k] < 0) = true := decide_eq_true hz0
          have hv := HN.out
          rw [if_pos hz0] at hv
          have HV := Lib.hid hv
          clear hv HN
          go_wp2_with fail
          go_quiet (fail)
          go_wp2_with fail
          go_quiet ((go_at_call 18; first | exact still2 (more_any _) | exact still1 (more_any _)))
          go_wp2_with fail
          go_roundw
          case rel => exact ⟨k + 1, (moreB u[k]).toNat, _, _, rfl, rfl, int_eq (by omega), by go_num, by first | exact HV.out | (simpa using HV.out), Ext.trans hx (by first | exact Ext.drewN _ _ | exact Ext.refl _)⟩
          case measure => simp [intOf]; omega
        · have b1 : decide (moreB u[k] < 0) = false := decide_eq_false (by omega)
          have b2 : (moreB u[k] == 0) = true := by rw [beq_iff_eq]; exact hz0
          have hv := HN.out
          rw [if_neg (by omega), if_pos hz0] at hv
          have HV := Lib.hid hv
          have HZ := Lib.hid hz0
          have hz1 : 0 ≤ moreB u[k] := by omega
          clear hv HN hz0
          go_wp2_with fail
          go_quiet (fail)
          go_wp2_with fail
          go_quiet ((go_at_call 18; first | exact still2 (more_any _) | exact still1 (more_any _)))
          go_wp2_with fail
          go_roundw
          case rel => exact ⟨k + 1, (moreB u[k]).toNat, _, _, rfl, rfl, int_eq (by have := HZ.out; omega), by go_num, by first | exact HV.out | (simpa using HV.out), Ext.trans hx (by first | exact Ext.drewN _ _ | exact Ext.refl _)⟩
          case measure => simp [intOf]; omega
        · have b1 : decide (moreB u[k] < 0) = false := decide_eq_false (by omega)
          have b2 : (moreB u[k] == 0) = false := by rw [beq_eq_false_iff_ne]; omega
          have hv := HN.out
          rw [if_neg (by omega), if_neg (by omega)] at hv
          have HV := Lib.hid hv
          clear hv HN
          go_wp2_with fail
          go_quiet (fail)
          go_wp2_with fail
          go_quiet ((go_at_call 18; first | exact still2 (more_any _) | exact still1 (more_any _)))
          go_wp2_with fail
          go_roundw
          case rel => exact ⟨k + 1, (moreB u[k]).toNat, _, _, rfl, rfl, int_eq (by omega), by go_num, by first | exact HV.out | (simpa using HV.out), Ext.trans hx (by first | exact Ext.drewN _ _ | exact Ext.refl _)⟩
          case measure => simp [intOf]; omega
      · have n1 : decide ((0 : Int) < need) = true := by rw [decide_eq_true_eq]; omega
        have n2 : decide (0 < need) = true := by rw [decide_eq_true_eq]; omega
        obtain ⟨f, h, rfl⟩ : ∃ f h, have' = f :: h := by
          cases have' with
          | nil => exact absurd rfl (HR.out.some_ (by omega))
          | cons f h => exact ⟨f, h, rfl⟩
        simp only [List.length_cons] at hlen
        cases hm : mayB f u[k] (h.length + 1)
        · have hv0 := HR.out.new hlt (.inr hm)
          rw [if_pos (by omega)] at hv0
          have HN := Lib.hid hv0
          clear hv0
          have hz := moreB_le u[k]
          have hz0 : moreB u[k] < 0 ∨ moreB u[k] = 0 ∨ 0 < moreB u[k] := by omega
          rcases hz0 with hz0 | hz0 | hz0
          · have b1 : decide (moreB u[k] < 0) = true := decide_eq_true hz0
            have hv := HN.out
            rw [if_pos hz0] at hv
            have HV := Lib.hid hv
            clear hv HN
            go_wp2_with fail
            go_quiet ((go_at_call 17; exact still1 (fun W => may_q _ _ _ (h.length + 1) W (by omega) (by omega))))
            go_wp2_with fail
            go_quiet ((go_at_call 18; first | exact still2 (more_any _) | exact still1 (more_any _)))
            go_wp2_with fail
            go_roundw
            case rel => exact ⟨k + 1, (moreB u[k]).toNat, _, _, rfl, rfl, int_eq (by omega), by go_num, by first | exact HV.out | (simpa [fffd] using HV.out), Ext.trans hx (by first | exact Ext.drewN _ _ | exact Ext.refl _)⟩
            case measure => simp [intOf]; omega
          · have b1 : decide (moreB u[k] < 0) = false := decide_eq_false (by omega)
            have b2 : (moreB u[k] == 0) = true := by rw [beq_iff_eq]; exact hz0
            have hv := HN.out
            rw [if_neg (by omega), if_pos hz0] at hv
            have HV := Lib.hid hv
            have HZ := Lib.hid hz0
            have hz1 : 0 ≤ moreB u[k] := by omega
            clear hv HN hz0
            go_wp2_with fail
            go_quiet ((go_at_call 17; exact still1 (fun W => may_q _ _ _ (h.length + 1) W (by omega) (by omega))))
            go_wp2_with fail
            go_quiet ((go_at_call 18; first | exact still2 (more_any _) | exact still1 (more_any _)))
            go_wp2_with fail
            go_roundw
            case rel => exact ⟨k + 1, (moreB u[k]).toNat, _, _, rfl, rfl, int_eq (by have := HZ.out; omega), by go_num, by first | exact HV.out | (simpa [fffd] using HV.out), Ext.trans hx (by first | exact Ext.drewN _ _ | exact Ext.refl _)⟩
            case measure => simp [intOf]; omega
          · have b1 : decide (moreB u[k] < 0) = false := decide_eq_false (by omega)
            have b2 : (moreB u[k] == 0) = false := by rw [beq_eq_false_iff_ne]; omega
            have hv := HN.out
            rw [if_neg (by omega), if_neg (by omega)] at hv
            have HV := Lib.hid hv
            clear hv HN
            go_wp2_with fail
            go_quiet ((go_at_call 17; exact still1 (fun W => may_q _ _ _ (h.length + 1) W (by omega) (by omega))))
            go_wp2_with fail
            go_quiet ((go_at_call 18; first | exact still2 (more_any _) | exact still1 (more_any _)))
            go_wp2_with fail
            go_roundw
            case rel => exact ⟨k + 1, (moreB u[k]).toNat, _, _, rfl, rfl, int_eq (by omega), by go_num, by first | exact HV.out | (simpa [fffd] using HV.out), Ext.trans hx (by first | exact Ext.drewN _ _ | exact Ext.refl _)⟩
            case measure => simp [intOf]; omega
        · by_cases hn1 : need = 1
          · subst hn1
            have HN := Lib.hid (HR.out.done hlt hm)
            go_wp2_with fail
            go_quiet ((go_at_call 17; exact still1 (fun W => may_q _ _ _ (h.length + 1) W (by omega) (by omega))))
            go_wp2_with fail
            go_roundw
            case rel => exact ⟨k + 1, 0, _, [], rfl, rfl, rfl, by go_num, by first | exact HN.out | (simpa using HN.out), Ext.trans hx (by first | exact Ext.drewN _ _ | exact Ext.refl _)⟩
            case measure => simp [intOf]; omega
          · have HN := Lib.hid (HR.out.more hlt hm (by omega))
            have n3 : (((need : Int) - 1) == 0) = false := by rw [beq_eq_false_iff_ne]; omega
            have n4 : 2 ≤ (need : Int) := by omega
            have n5 : ((need - 1 : Nat) : Int) = (need : Int) - 1 := by omega
            have N5 := Lib.hid n5
            clear hn1 n5 hn
            go_wp2_with fail
            go_quiet ((go_at_call 17; exact still1 (fun W => may_q _ _ _ (h.length + 1) W (by omega) (by omega))))
            go_wp2_with fail
            go_roundw
            case rel => exact ⟨k + 1, need - 1, _, _, rfl, rfl, int_eq N5.out.symm, by go_num, by first | exact HN.out | (simpa using HN.out), Ext.trans hx (by first | exact Ext.drewN _ _ | exact Ext.refl _)⟩
            case measure => simp [intOf]; omega
    · have HF := Lib.hid (HR.out.fin (by omega))
      by_cases hn : need = 0
      · have n1 : decide ((0 : Int) < need) = false := by rw [decide_eq_false_iff_not]; omega
        have n2 : decide (0 < need) = false := by rw [decide_eq_false_iff_not]; omega
        have hv := HF.out
        rw [if_neg (by omega), List.append_nil] at hv
        have HV := Lib.hid hv
        clear hv hn
        go_wp2_with fail
        go_ret
        exact ⟨ret_inj (str_eq HV.out.symm), hx⟩
      · have n1 : decide ((0 : Int) < need) = true := by rw [decide_eq_true_eq]; omega
        have n2 : decide (0 < need) = true := by rw [decide_eq_true_eq]; omega
        have hv := HF.out
        rw [if_pos (by omega)] at hv
        have HV := Lib.hid hv
        clear hv hn
        go_wp2_with fail
        go_ret
        exact ⟨ret_inj (str_eq (by rw [HV.out]; rfl)), hx⟩
set_option maxRecDepth 100000 in
set_option maxHeartbeats 8000000 in
theorem refDecode_on (u0 : List UInt8) (w : World) (hl : u0.length < 10000) (h3 : (3 : Int) ≤ u0.length) (hm0 : (List.take 3 u0 == [239, 187, 191]) = true) :
    Calls Tryd.prog 9 #[.string ⟨⟨u0⟩⟩] w fun e w' => e = .returned (.string ⟨⟨decB (u0.drop 3)⟩⟩) ∧ Ext w w' := by
  go_enter Tryd.func9, Tryd.ntmps9
  go_wp2_with fail
  have hlu : (u0.drop 3).length < 10000 := by rw [List.length_drop]; omega
  obtain ⟨u, hu⟩ : ∃ u, u0.drop 3 = u := ⟨_, rfl⟩
  rw [hu] at hlu ⊢
  have HU := Lib.hid hu
  clear hu
  go_loopw [3, 4, 5, 6] (fun so sh sn si wr => ∃ (k need : Nat) (out have' : List UInt8), so = .string ⟨⟨out⟩⟩ ∧ sh = .string ⟨⟨have'⟩⟩ ∧ sn = .int .i64 need ∧ si = .int .i64 k ∧ RefRel u k out have' need ∧ Ext w wr) (fun _ _ _ si _ => u.length - (intOf si).toNat)
  case atStart => exact ⟨0, 0, [], [], rfl, rfl, rfl, rfl, RefRel.start u, Ext.refl _⟩
  case round =>
    obtain ⟨k, need, out, have', rfl, rfl, rfl, rfl, hr, hx⟩ := hrel
    have hk := hr.at_
    have hlen := hr.len
    have hout := hr.out_
    have HR := Lib.hid hr
    clear hr
    by_cases hlt : k < u.length
    · have hs1 := slice_one hlt
      have e1 : IntKind.i64.wrap ((k : Int) + 1) = (k : Int) + 1 := IntWalk.i64_in _ (by omega)
      have e2 : 0 ≤ (k : Int) + 1 := by omega
      have e3 : ((k : Int) + 1).toNat = k + 1 := by omega
      have e4 : (k : Int) + 1 ≤ u.length := by omega
      have e5 : (k : Int) ≤ (k : Int) + 1 := by omega
      have e6 : k + 1 - k = 1 := by omega
      by_cases hn : need = 0
      · have hv0 := HR.out.new hlt (.inl hn)
        rw [if_neg (by omega), List.append_nil] at hv0
        have HN := Lib.hid hv0
        have n1 : decide ((0 : Int) < need) = false := by rw [decide_eq_false_iff_not]; omega
        have n2 : decide (0 < need) = false := by rw [decide_eq_false_iff_not]; omega
        clear hv0 hn
        have hz := moreB_le u[k]
        have hz0 : moreB u[k] < 0 ∨ moreB u[k] = 0 ∨ 0 < moreB u[k] := by omega
        rcases hz0 with hz0 | hz0 | hz0
        · have b1 : decide (moreB u[k] < 0) = true := decide_eq_true hz0
          have hv := HN.out
          rw [if_pos hz0] at hv
          have HV := Lib.hid hv
          clear hv HN
          go_wp2_with fail
          go_quiet (fail)
          go_wp2_with fail
          go_quiet ((go_at_call 18; first | exact still2 (more_any _) | exact still1 (more_any _)))
          go_wp2_with fail
          go_roundw
          case rel => exact ⟨k + 1, (moreB u[k]).toNat, _, _, rfl, rfl, int_eq (by omega), by go_num, by first | exact HV.out | (simpa using HV.out), Ext.trans hx (by first | exact Ext.drewN _ _ | exact Ext.refl _)⟩
          case measure => simp [intOf]; omega
        · have b1 : decide (moreB u[k] < 0) = false := decide_eq_false (by omega)
          have b2 : (moreB u[k] == 0) = true := by rw [beq_iff_eq]; exact hz0
          have hv := HN.out
          rw [if_neg (by omega), if_pos hz0] at hv
          have HV := Lib.hid hv
          have HZ := Lib.hid hz0
          have hz1 : 0 ≤ moreB u[k] := by omega
          clear hv HN hz0
          go_wp2_with fail
          go_quiet (fail)
          go_wp2_with fail
          go_quiet ((go_at_call 18; first | exact still2 (more_any _) | exact still1 (more_any _)))
          go_wp2_with fail
          go_roundw
          case rel => exact ⟨k + 1, (moreB u[k]).toNat, _, _, rfl, rfl, int_eq (by have := HZ.out; omega), by go_num, by first | exact HV.out | (simpa using HV.out), Ext.trans hx (by first | exact Ext.drewN _ _ | exact Ext.refl _)⟩
          case measure => simp [intOf]; omega
        · have b1 : decide (moreB u[k] < 0) = false := decide_eq_false (by omega)
          have b2 : (moreB u[k] == 0) = false := by rw [beq_eq_false_iff_ne]; omega
          have hv := HN.out
          rw [if_neg (by omega), if_neg (by omega)] at hv
          have HV := Lib.hid hv
          clear hv HN
          go_wp2_with fail
          go_quiet (fail)
          go_wp2_with fail
          go_quiet ((go_at_call 18; first | exact still2 (more_any _) | exact still1 (more_any _)))
          go_wp2_with fail
          go_roundw
          case rel => exact ⟨k + 1, (moreB u[k]).toNat, _, _, rfl, rfl, int_eq (by omega), by go_num, by first | exact HV.out | (simpa using HV.out), Ext.trans hx (by first | exact Ext.drewN _ _ | exact Ext.refl _)⟩
          case measure => simp [intOf]; omega
      · have n1 : decide ((0 : Int) < need) = true := by rw [decide_eq_true_eq]; omega
        have n2 : decide (0 < need) = true := by rw [decide_eq_true_eq]; omega
        obtain ⟨f, h, rfl⟩ : ∃ f h, have' = f :: h := by
          cases have' with
          | nil => exact absurd rfl (HR.out.some_ (by omega))
          | cons f h => exact ⟨f, h, rfl⟩
        simp only [List.length_cons] at hlen
        cases hm : mayB f u[k] (h.length + 1)
        · have hv0 := HR.out.new hlt (.inr hm)
          rw [if_pos (by omega)] at hv0
          have HN := Lib.hid hv0
          clear hv0
          have hz := moreB_le u[k]
          have hz0 : moreB u[k] < 0 ∨ moreB u[k] = 0 ∨ 0 < moreB u[k] := by omega
          rcases hz0 with hz0 | hz0 | hz0
          · have b1 : decide (moreB u[k] < 0) = true := decide_eq_true hz0
            have hv := HN.out
            rw [if_pos hz0] at hv
            have HV := Lib.hid hv
            clear hv HN
            go_wp2_with fail
            go_quiet ((go_at_call 17; exact still1 (fun W => may_q _ _ _ (h.length + 1) W (by omega) (by omega))))
            go_wp2_with fail
            go_quiet ((go_at_call 18; first | exact still2 (more_any _) | exact still1 (more_any _)))
            go_wp2_with fail
            go_roundw
            case rel => exact ⟨k + 1, (moreB u[k]).toNat, _, _, rfl, rfl, int_eq (by omega), by go_num, by first | exact HV.out | (simpa [fffd] using HV.out), Ext.trans hx (by first | exact Ext.drewN _ _ | exact Ext.refl _)⟩
            case measure => simp [intOf]; omega
          · have b1 : decide (moreB u[k] < 0) = false := decide_eq_false (by omega)
            have b2 : (moreB u[k] == 0) = true := by rw [beq_iff_eq]; exact hz0
            have hv := HN.out
            rw [if_neg (by omega), if_pos hz0] at hv
            have HV := Lib.hid hv
            have HZ := Lib.hid hz0
            have hz1 : 0 ≤ moreB u[k] := by omega
            clear hv HN hz0
            go_wp2_with fail
            go_quiet ((go_at_call 17; exact still1 (fun W => may_q _ _ _ (h.length + 1) W (by omega) (by omega))))
            go_wp2_with fail
            go_quiet ((go_at_call 18; first | exact still2 (more_any _) | exact still1 (more_any _)))
            go_wp2_with fail
            go_roundw
            case rel => exact ⟨k + 1, (moreB u[k]).toNat, _, _, rfl, rfl, int_eq (by have := HZ.out; omega), by go_num, by first | exact HV.out | (simpa [fffd] using HV.out), Ext.trans hx (by first | exact Ext.drewN _ _ | exact Ext.refl _)⟩
            case measure => simp [intOf]; omega
          · have b1 : decide (moreB u[k] < 0) = false := decide_eq_false (by omega)
            have b2 : (moreB u[k] == 0) = false := by rw [beq_eq_false_iff_ne]; omega
            have hv := HN.out
            rw [if_neg (by omega), if_neg (by omega)] at hv
            have HV := Lib.hid hv
            clear hv HN
            go_wp2_with fail
            go_quiet ((go_at_call 17; exact still1 (fun W => may_q _ _ _ (h.length + 1) W (by omega) (by omega))))
            go_wp2_with fail
            go_quiet ((go_at_call 18; first | exact still2 (more_any _) | exact still1 (more_any _)))
            go_wp2_with fail
            go_roundw
            case rel => exact ⟨k + 1, (moreB u[k]).toNat, _, _, rfl, rfl, int_eq (by omega), by go_num, by first | exact HV.out | (simpa [fffd] using HV.out), Ext.trans hx (by first | exact Ext.drewN _ _ | exact Ext.refl _)⟩
            case measure => simp [intOf]; omega
        · by_cases hn1 : need = 1
          · subst hn1
            have HN := Lib.hid (HR.out.done hlt hm)
            go_wp2_with fail
            go_quiet ((go_at_call 17; exact still1 (fun W => may_q _ _ _ (h.length + 1) W (by omega) (by omega))))
            go_wp2_with fail
            go_roundw
            case rel => exact ⟨k + 1, 0, _, [], rfl, rfl, rfl, by go_num, by first | exact HN.out | (simpa using HN.out), Ext.trans hx (by first | exact Ext.drewN _ _ | exact Ext.refl _)⟩
            case measure => simp [intOf]; omega
          · have HN := Lib.hid (HR.out.more hlt hm (by omega))
            have n3 : (((need : Int) - 1) == 0) = false := by rw [beq_eq_false_iff_ne]; omega
            have n4 : 2 ≤ (need : Int) := by omega
            have n5 : ((need - 1 : Nat) : Int) = (need : Int) - 1 := by omega
            have N5 := Lib.hid n5
            clear hn1 n5 hn
            go_wp2_with fail
            go_quiet ((go_at_call 17; exact still1 (fun W => may_q _ _ _ (h.length + 1) W (by omega) (by omega))))
            go_wp2_with fail
            go_roundw
            case rel => exact ⟨k + 1, need - 1, _, _, rfl, rfl, int_eq N5.out.symm, by go_num, by first | exact HN.out | (simpa using HN.out), Ext.trans hx (by first | exact Ext.drewN _ _ | exact Ext.refl _)⟩
            case measure => simp [intOf]; omega
    · have HF := Lib.hid (HR.out.fin (by omega))
      by_cases hn : need = 0
      · have n1 : decide ((0 : Int) < need) = false := by rw [decide_eq_false_iff_not]; omega
        have n2 : decide (0 < need) = false := by rw [decide_eq_false_iff_not]; omega
        have hv := HF.out
        rw [if_neg (by omega), List.append_nil] at hv
        have HV := Lib.hid hv
        clear hv hn
        go_wp2_with fail
        go_ret
        exact ⟨ret_inj (str_eq (by rw [HU.out]; exact HV.out.symm)), hx⟩
      · have n1 : decide ((0 : Int) < need) = true := by rw [decide_eq_true_eq]; omega
        have n2 : decide (0 < need) = true := by rw [decide_eq_true_eq]; omega
        have hv := HF.out
        rw [if_pos (by omega)] at hv
        have HV := Lib.hid hv
        clear hv hn
        go_wp2_with fail
        go_ret
        exact ⟨ret_inj (str_eq (by rw [HU.out, HV.out]; rfl)), hx⟩
theorem refDecode_any (l : List UInt8) (w : World) (hl : l.length < 10000) :
    Calls Tryd.prog 9 #[.string ⟨⟨l⟩⟩] w fun e w' => e = .returned (.string ⟨⟨decB (unmark l)⟩⟩) ∧ Ext w w' := by
  unfold unmark
  rw [isPrefix_iff]
  have e3 : markB.length = 3 := rfl
  rw [e3]
  by_cases h3 : 3 ≤ l.length
  · rw [decide_eq_true h3, Bool.true_and]
    cases hm : (l.take 3 == markB)
    · exact refDecode_off l w hl (by omega) hm
    · exact refDecode_on l w hl (by omega) hm
  · rw [decide_eq_false h3, Bool.false_and]
    exact refDecode_short l w hl (by omega)
end Go.Proofs.YthcbkgiphfgbcaaDoor
