/-
  What is proved: the reference's letter and value: contracts. No condition.
-/
import Derived.Test.YtkgieaokckidmaaBasL
import Derived.Test.YtkgieaokckidmaaRows
namespace Go.Proofs.Ytkgieaokckidmaa
open Go.RowKit

theorem let_at (n : Nat) (h2 : n < letA.length) : letA[n] = letN n := by
  unfold letN
  rw [List.getD_eq_getElem?_getD, List.getElem?_eq_getElem h2]
  rfl
theorem letter_any (n : Nat) (i : Int) (w : World) (h : n < 64) (hi : i = n) :
    Calls Try.prog 21 #[.int .i64 i] w fun e w' => e = .returned (.int .u8 ((letN n).toNat : Nat)) ∧ w = w' := by
  subst hi
  have hm : (n : Int) % 64 = n := by omega
  have h2 : n < letA.length := h
  have HL := Lib.hid (let_at n h2)
  go_enter Try.func21, Try.ntmps21
  go_wp2
  go_ret
  exact ⟨by rw [← HL.out]; rfl, rfl⟩
/-- A letter's worth; below 0: it is none. -/
def valI (c : UInt8) : Int := match worB c with | some n => n | none => -1
theorem val_found {c : UInt8} {n : Nat} (h : n < 64) (hl : letN n = plnB c) : valI c = n := by
  have : worB c = some n := by rw [← (pln_facts c).1, ← hl, letN_worth n h]
  unfold valI
  rw [this]
theorem val_none {c : UInt8} (h : ∀ j, j < 64 → letN j ≠ plnB c) : valI c = -1 := by
  unfold valI
  cases hw : worB c with
  | none => rfl
  | some n => exact (h n (worth_letN c n hw).1 (worth_letN c n hw).2).elim
set_option maxHeartbeats 400000 in
theorem value_any (c : UInt8) (w : World) :
    Calls Try.prog 18 #[.int .u8 (c.toNat : Nat)] w fun e w' => e = .returned (.int .i64 (valI c)) ∧ w = w' := by
  have hcs : c = 45 ∨ c = 95 ∨ (c ≠ 45 ∧ c ≠ 95) := by
    by_cases a : c = 45
    · exact .inl a
    · by_cases b : c = 95
      · exact .inr (.inl b)
      · exact .inr (.inr ⟨a, b⟩)
  rcases hcs with rfl | rfl | ⟨h1, h2⟩
  · have e0 : (((45 : UInt8).toNat : Nat) : Int) = 45 := rfl
    rw [e0]
    clear e0
    have hp : plnB 45 = 43 := rfl
    have HP := Lib.hid hp
    clear hp
    go_enter Try.func18, Try.ntmps18
    go_wp2_with fail
    go_loop [3] (fun i => ∃ n : Nat, n ≤ 64 ∧ i = .int .i64 n ∧ Hid (∀ j, j < n → letN j ≠ 43)) (fun i => 64 - (intOf i).toNat)
    case atStart => exact ⟨0, Nat.zero_le _, rfl, Lib.hid (fun j hj => absurd hj (Nat.not_lt_zero _))⟩
    case round =>
      obtain ⟨n, hn, rfl, HA⟩ := hrel
      by_cases hlt : n < 64
      · by_cases hl : letN n = 43
        · have hv := Lib.hid (val_found hlt (hl.trans HP.out.symm))
          have hb : (((letN n).toNat : Int) == 43) = true := by rw [hl]; exact beq_self_eq_true _
          clear hl
          go_wp2_with (go_at_call 21; refine (letter_any n _ _ hlt rfl).mono ?_; rintro e w' ⟨rfl, rfl⟩)
          go_ret
          exact ⟨ret_inj (by rw [hv.out]; rfl), rfl⟩
        · have hb : (((letN n).toNat : Int) == 43) = false := by
            rw [beq_eq_false_iff_ne]
            intro e
            exact hl (UInt8.toNat.inj (by have e2 : (43 : UInt8).toNat = (43 : UInt8).toNat := rfl; have e3 : (43 : UInt8).toNat = 43 := rfl; omega))
          have HL := Lib.hid hl
          clear hl
          go_wp2_with (go_at_call 21; refine (letter_any n _ _ hlt rfl).mono ?_; rintro e w' ⟨rfl, rfl⟩)
          go_round
          case rel => exact ⟨n + 1, by omega, by go_num, Lib.hid (fun j hj => by
            by_cases e : j = n
            · subst e; exact HL.out
            · exact HA.out j (by omega))⟩
          case measure => simp [intOf]; omega
      · obtain rfl : n = 64 := by omega
        have hv := Lib.hid (val_none (fun j hj => by rw [HP.out]; exact HA.out j hj))
        go_wp2_with fail
        go_ret
        exact ⟨ret_inj (by rw [hv.out]; rfl), rfl⟩
  · have e0 : (((95 : UInt8).toNat : Nat) : Int) = 95 := rfl
    rw [e0]
    clear e0
    have hp : plnB 95 = 47 := rfl
    have HP := Lib.hid hp
    clear hp
    go_enter Try.func18, Try.ntmps18
    go_wp2_with fail
    go_loop [3] (fun i => ∃ n : Nat, n ≤ 64 ∧ i = .int .i64 n ∧ Hid (∀ j, j < n → letN j ≠ 47)) (fun i => 64 - (intOf i).toNat)
    case atStart => exact ⟨0, Nat.zero_le _, rfl, Lib.hid (fun j hj => absurd hj (Nat.not_lt_zero _))⟩
    case round =>
      obtain ⟨n, hn, rfl, HA⟩ := hrel
      by_cases hlt : n < 64
      · by_cases hl : letN n = 47
        · have hv := Lib.hid (val_found hlt (hl.trans HP.out.symm))
          have hb : (((letN n).toNat : Int) == 47) = true := by rw [hl]; exact beq_self_eq_true _
          clear hl
          go_wp2_with (go_at_call 21; refine (letter_any n _ _ hlt rfl).mono ?_; rintro e w' ⟨rfl, rfl⟩)
          go_ret
          exact ⟨ret_inj (by rw [hv.out]; rfl), rfl⟩
        · have hb : (((letN n).toNat : Int) == 47) = false := by
            rw [beq_eq_false_iff_ne]
            intro e
            exact hl (UInt8.toNat.inj (by have e2 : (47 : UInt8).toNat = (47 : UInt8).toNat := rfl; have e3 : (47 : UInt8).toNat = 47 := rfl; omega))
          have HL := Lib.hid hl
          clear hl
          go_wp2_with (go_at_call 21; refine (letter_any n _ _ hlt rfl).mono ?_; rintro e w' ⟨rfl, rfl⟩)
          go_round
          case rel => exact ⟨n + 1, by omega, by go_num, Lib.hid (fun j hj => by
            by_cases e : j = n
            · subst e; exact HL.out
            · exact HA.out j (by omega))⟩
          case measure => simp [intOf]; omega
      · obtain rfl : n = 64 := by omega
        have hv := Lib.hid (val_none (fun j hj => by rw [HP.out]; exact HA.out j hj))
        go_wp2_with fail
        go_ret
        exact ⟨ret_inj (by rw [hv.out]; rfl), rfl⟩
  · have HP := Lib.hid (oth_pln c h1 h2).2
    have hb1 : ((c.toNat : Int) == 45) = false := by
      rw [beq_eq_false_iff_ne]
      intro e
      exact h1 (UInt8.toNat.inj (by have e3 : (45 : UInt8).toNat = 45 := rfl; omega))
    have hb2 : ((c.toNat : Int) == 95) = false := by
      rw [beq_eq_false_iff_ne]
      intro e
      exact h2 (UInt8.toNat.inj (by have e3 : (95 : UInt8).toNat = 95 := rfl; omega))
    clear h1 h2
    go_enter Try.func18, Try.ntmps18
    go_wp2_with fail
    go_loop [3] (fun i => ∃ n : Nat, n ≤ 64 ∧ i = .int .i64 n ∧ Hid (∀ j, j < n → letN j ≠ c)) (fun i => 64 - (intOf i).toNat)
    case atStart => exact ⟨0, Nat.zero_le _, rfl, Lib.hid (fun j hj => absurd hj (Nat.not_lt_zero _))⟩
    case round =>
      obtain ⟨n, hn, rfl, HA⟩ := hrel
      by_cases hlt : n < 64
      · by_cases hl : letN n = c
        · have hv := Lib.hid (val_found hlt (hl.trans HP.out.symm))
          have hb : (((letN n).toNat : Int) == (c.toNat : Int)) = true := by rw [hl]; exact beq_self_eq_true _
          clear hl
          go_wp2_with (go_at_call 21; refine (letter_any n _ _ hlt rfl).mono ?_; rintro e w' ⟨rfl, rfl⟩)
          go_ret
          exact ⟨ret_inj (by rw [hv.out]; rfl), rfl⟩
        · have hb : (((letN n).toNat : Int) == (c.toNat : Int)) = false := by
            rw [beq_eq_false_iff_ne]
            intro e
            exact hl (UInt8.toNat.inj (by have e2 : (c : UInt8).toNat = (c : UInt8).toNat := rfl; omega))
          have HL := Lib.hid hl
          clear hl
          go_wp2_with (go_at_call 21; refine (letter_any n _ _ hlt rfl).mono ?_; rintro e w' ⟨rfl, rfl⟩)
          go_round
          case rel => exact ⟨n + 1, by omega, by go_num, Lib.hid (fun j hj => by
            by_cases e : j = n
            · subst e; exact HL.out
            · exact HA.out j (by omega))⟩
          case measure => simp [intOf]; omega
      · obtain rfl : n = 64 := by omega
        have hv := Lib.hid (val_none (fun j hj => by rw [HP.out]; exact HA.out j hj))
        go_wp2_with fail
        go_ret
        exact ⟨ret_inj (by rw [hv.out]; rfl), rfl⟩
end Go.Proofs.Ytkgieaokckidmaa
