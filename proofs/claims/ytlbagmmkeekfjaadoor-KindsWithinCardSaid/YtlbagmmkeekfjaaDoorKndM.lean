/-
  What is proved: the walk of the statement KindsWithin. Condition: the package's table holds what its text lays.
-/
import Derived.Test.YtlbagmmkeekfjaaDoorKndL
import Derived.Deep.DeepCutAuto
namespace Go.Proofs.YtlbagmmkeekfjaaDoor
open Go.RowKit

theorem memB_sub {a b : List (List UInt8)} (h : a.all (fun x => memB b x) = true) {n : List UInt8} (hn : memB a n = true) : memB b n = true := by
  unfold memB at hn
  simp only [decide_eq_true_eq] at hn
  exact List.all_eq_true.1 h n hn
theorem memB_off {a b : List (List UInt8)} (h : a.all (fun x => !memB b x) = true) {n : List UInt8} (hn : memB a n = true) : memB b n = false := by
  unfold memB at hn
  simp only [decide_eq_true_eq] at hn
  simpa using List.all_eq_true.1 h n hn
theorem imp_tho {n : List UInt8} (h : memB impliedW n = true) : thoB n = true := by unfold thoB; rw [h]; rfl
theorem sp_html (n : List UInt8) : spB 0 n = memB specialW n := rfl
theorem form_sp {n : List UInt8} (h : memB formattingW n = true) : spB 0 n = false := memB_off (by decide +kernel) h
theorem head_sp {n : List UInt8} (h : memB headingsW n = true) : spB 0 n = true := memB_sub (by decide +kernel) h
theorem void_st {n : List UInt8} (h : memB voidW n = true) : stN n = 0 := by
  have key : voidW.all (fun x => stN x == 0) = true := by decide +kernel
  unfold memB at h
  simp only [decide_eq_true_eq] at h
  simpa using List.all_eq_true.1 key n h
theorem scope_more (space : Int) {n : List UInt8} (h : scB 0 space n = true) : scB 1 space n = true ∧ scB 2 space n = true := by
  unfold scB at h ⊢
  by_cases h0 : space = 0
  · simp only [h0, if_true] at h ⊢
    exact ⟨memB_sub (a := scopeW 0) (by decide +kernel) h, memB_sub (a := scopeW 0) (by decide +kernel) h⟩
  · simp only [h0, if_false] at h ⊢
    exact ⟨h, h⟩
theorem scope_sp (which space : Int) (h0 : 0 ≤ which) (h3 : which ≤ 3) {n : List UInt8} (h : scB which space n = true) : spB space n = true := by
  unfold scB at h
  rw [if_neg (by omega)] at h
  by_cases hs : space = 0
  · subst hs
    simp only [if_true] at h
    rcases (by omega : which = 0 ∨ which = 1 ∨ which = 2 ∨ which = 3) with rfl | rfl | rfl | rfl
    · exact memB_sub (a := scopeW 0) (b := specialW) (by decide +kernel) h
    · exact memB_sub (a := scopeW 1) (b := specialW) (by decide +kernel) h
    · exact memB_sub (a := scopeW 2) (b := specialW) (by decide +kernel) h
    · exact memB_sub (a := scopeW 3) (b := specialW) (by decide +kernel) h
  · simp only [hs, if_false, Bool.and_eq_true] at h
    exact h.2

set_option maxRecDepth 100000 in
set_option maxHeartbeats 2000000 in
theorem within_walk (n : List UInt8) (space : Int) (w : World) (hg : Glob w) (hs : n.length ≤ maxLen) :
    Calls Tryd.prog 4 #[.string ⟨⟨n⟩⟩, .int .i64 space] w fun e w' => e = .returned (.bool true) ∧ Below w.heap.size w w' := by
  unfold maxLen at hs
  have hG := Lib.hid hg
  clear hg
  by_cases h : n.length ≤ 300
  · go_enter Tryd.func4, Tryd.ntmps4
    go_upto_region 3 with fail
    go_cut [43] from 11 to 43 (fun s wx => s = .bool false ∧ w = wx)
    case first =>
      cases hi : memB impliedW n
      all_goals cases hf : memB formattingW n
      all_goals cases hh : memB headingsW n
      all_goals cases hv : memB voidW n
      all_goals
        (try have f1 := imp_tho hi)
        (try have f2 := form_sp hf)
        (try have f3 := head_sp hh)
        (try have f4 := void_st hv)
        first
          | (exfalso; rw [f2] at f3; cases f3; done)
          | (go_wp2_with (first
              | (go_at_call 9; refine (special_any _ _ _ hG.out h).mono ?_; rintro e w' ⟨rfl, rfl⟩)
              | (go_at_call 21; refine (state_any _ _).mono ?_; rintro e w' ⟨rfl, rfl⟩)
              | (go_at_call 19; refine (heading_any _ _ hG.out h).mono ?_; rintro e w' ⟨rfl, rfl⟩)
              | (go_at_call 11; refine (formatting_any _ _ hG.out h).mono ?_; rintro e w' ⟨rfl, rfl⟩)
              | (go_at_call 13; refine (void_any _ _ hG.out h).mono ?_; rintro e w' ⟨rfl, rfl⟩)
              | (go_at_call 15; refine (implied_any _ _ hG.out h).mono ?_; rintro e w' ⟨rfl, rfl⟩)
              | (go_at_call 17; refine (thorough_any _ _ hG.out h).mono ?_; rintro e w' ⟨rfl, rfl⟩))
             go_meet
             case rel => exact ⟨rfl, rfl⟩)
    case rest =>
      obtain ⟨rfl, rfl⟩ := hcut
      cases hn : scB 0 space n
      · go_wp2_with (go_at_call 7; refine (scope_any _ _ _ _ hG.out h).mono ?_; rintro e w' ⟨rfl, rfl⟩)
        go_loop [6] (fun i => ∃ j : Int, i = .int .i64 j ∧ 0 ≤ j ∧ j ≤ 4) (fun i => (4 - intOf i).toNat)
        case atStart => exact ⟨0, rfl, by omega, by omega⟩
        case round =>
          obtain ⟨j, rfl, hj0, hj4⟩ := hrel
          by_cases hj : j < 4
          · cases hsc : scB j space n
            · go_wp2_with (go_at_call 7; refine (scope_any _ _ _ _ hG.out h).mono ?_; rintro e w' ⟨rfl, rfl⟩)
              go_round
              case rel => exact ⟨j + 1, by go_num, by omega, by omega⟩
              case measure => simp [intOf]; omega
            · have hsp := scope_sp j space hj0 (by omega) hsc
              go_wp2_with (first
                | (go_at_call 7; refine (scope_any _ _ _ _ hG.out h).mono ?_; rintro e w' ⟨rfl, rfl⟩)
                | (go_at_call 9; refine (special_any _ _ _ hG.out h).mono ?_; rintro e w' ⟨rfl, rfl⟩))
              go_round
              case rel => exact ⟨j + 1, by go_num, by omega, by omega⟩
              case measure => simp [intOf]; omega
          · go_wp2_with fail
            refine (listed_any _ hG.out).mono ?_
            rintro e w5 ⟨rfl, rfl⟩
            go_wp2_with fail
            go_ret
            exact ⟨rfl, Below.refl _ _⟩
      · obtain ⟨h1, h2⟩ := scope_more space hn
        go_wp2_with (go_at_call 7; refine (scope_any _ _ _ _ hG.out h).mono ?_; rintro e w' ⟨rfl, rfl⟩)
        go_loop [6] (fun i => ∃ j : Int, i = .int .i64 j ∧ 0 ≤ j ∧ j ≤ 4) (fun i => (4 - intOf i).toNat)
        case atStart => exact ⟨0, rfl, by omega, by omega⟩
        case round =>
          obtain ⟨j, rfl, hj0, hj4⟩ := hrel
          by_cases hj : j < 4
          · cases hsc : scB j space n
            · go_wp2_with (go_at_call 7; refine (scope_any _ _ _ _ hG.out h).mono ?_; rintro e w' ⟨rfl, rfl⟩)
              go_round
              case rel => exact ⟨j + 1, by go_num, by omega, by omega⟩
              case measure => simp [intOf]; omega
            · have hsp := scope_sp j space hj0 (by omega) hsc
              go_wp2_with (first
                | (go_at_call 7; refine (scope_any _ _ _ _ hG.out h).mono ?_; rintro e w' ⟨rfl, rfl⟩)
                | (go_at_call 9; refine (special_any _ _ _ hG.out h).mono ?_; rintro e w' ⟨rfl, rfl⟩))
              go_round
              case rel => exact ⟨j + 1, by go_num, by omega, by omega⟩
              case measure => simp [intOf]; omega
          · go_wp2_with fail
            refine (listed_any _ hG.out).mono ?_
            rintro e w5 ⟨rfl, rfl⟩
            go_wp2_with fail
            go_ret
            exact ⟨rfl, Below.refl _ _⟩
  · go_enter Tryd.func4, Tryd.ntmps4
    go_wp2_with fail
    refine (listed_any _ hG.out).mono ?_
    rintro e w5 ⟨rfl, rfl⟩
    go_wp2_with fail
    go_ret
    exact ⟨rfl, Below.refl _ _⟩
end Go.Proofs.YtlbagmmkeekfjaaDoor
