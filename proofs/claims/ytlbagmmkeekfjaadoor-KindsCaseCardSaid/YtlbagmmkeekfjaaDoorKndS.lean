/-
  What is proved: what the reference's State and Scope compute: contracts. Conditions: names of at most 300 bytes.
-/
import Derived.Test.YtlbagmmkeekfjaaDoorKndR
namespace Go.Proofs.YtlbagmmkeekfjaaDoor
open Go.RowKit

set_option maxHeartbeats 400000 in
theorem refState_any (n : List UInt8) (w : World) :
    Calls Tryd.prog 22 #[.string ⟨⟨n⟩⟩] w fun e w' => e = .returned (.int .i64 (stN n)) ∧ w = w' := by
  by_cases h0 : n = [116, 101, 120, 116, 97, 114, 101, 97]
  · subst h0
    go_enter Tryd.func22, Tryd.ntmps22
    go_wp2_with fail
    go_ret
    exact ⟨rfl, rfl⟩
  by_cases h1 : n = [116, 105, 116, 108, 101]
  · subst h1
    go_enter Tryd.func22, Tryd.ntmps22
    go_wp2_with fail
    go_ret
    exact ⟨rfl, rfl⟩
  by_cases h2 : n = [105, 102, 114, 97, 109, 101]
  · subst h2
    go_enter Tryd.func22, Tryd.ntmps22
    go_wp2_with fail
    go_ret
    exact ⟨rfl, rfl⟩
  by_cases h3 : n = [110, 111, 101, 109, 98, 101, 100]
  · subst h3
    go_enter Tryd.func22, Tryd.ntmps22
    go_wp2_with fail
    go_ret
    exact ⟨rfl, rfl⟩
  by_cases h4 : n = [110, 111, 102, 114, 97, 109, 101, 115]
  · subst h4
    go_enter Tryd.func22, Tryd.ntmps22
    go_wp2_with fail
    go_ret
    exact ⟨rfl, rfl⟩
  by_cases h5 : n = [115, 116, 121, 108, 101]
  · subst h5
    go_enter Tryd.func22, Tryd.ntmps22
    go_wp2_with fail
    go_ret
    exact ⟨rfl, rfl⟩
  by_cases h6 : n = [120, 109, 112]
  · subst h6
    go_enter Tryd.func22, Tryd.ntmps22
    go_wp2_with fail
    go_ret
    exact ⟨rfl, rfl⟩
  by_cases h7 : n = [115, 99, 114, 105, 112, 116]
  · subst h7
    go_enter Tryd.func22, Tryd.ntmps22
    go_wp2_with fail
    go_ret
    exact ⟨rfl, rfl⟩
  by_cases h8 : n = [112, 108, 97, 105, 110, 116, 101, 120, 116]
  · subst h8
    go_enter Tryd.func22, Tryd.ntmps22
    go_wp2_with fail
    go_ret
    exact ⟨rfl, rfl⟩
  have e : stN n = 0 := by simp [stN, h0, h1, h2, h3, h4, h5, h6, h7, h8]
  rw [e]
  have k0 : (n == [116, 101, 120, 116, 97, 114, 101, 97]) = false := by simpa using h0
  have k1 : (n == [116, 105, 116, 108, 101]) = false := by simpa using h1
  have k2 : (n == [105, 102, 114, 97, 109, 101]) = false := by simpa using h2
  have k3 : (n == [110, 111, 101, 109, 98, 101, 100]) = false := by simpa using h3
  have k4 : (n == [110, 111, 102, 114, 97, 109, 101, 115]) = false := by simpa using h4
  have k5 : (n == [115, 116, 121, 108, 101]) = false := by simpa using h5
  have k6 : (n == [120, 109, 112]) = false := by simpa using h6
  have k7 : (n == [115, 99, 114, 105, 112, 116]) = false := by simpa using h7
  have k8 : (n == [112, 108, 97, 105, 110, 116, 101, 120, 116]) = false := by simpa using h8
  clear e h0 h1 h2 h3 h4 h5 h6 h7 h8
  go_enter Tryd.func22, Tryd.ntmps22
  go_wp2_with fail
  go_ret
  exact ⟨rfl, rfl⟩
set_option maxRecDepth 100000 in
set_option maxHeartbeats 1000000 in
theorem refScope_any (which space : Int) (n : List UInt8) (w : World) :
    Calls Tryd.prog 8 #[.int .i64 which, .int .i64 space, .string ⟨⟨n⟩⟩] w fun e w' => e = .returned (.bool (scB which space n)) ∧ Below w.heap.size w w' := by
  by_cases hw : which < 0 ∨ 4 ≤ which
  · have e : scB which space n = false := by simp [scB, hw]
    rw [e]
    clear e
    rcases hw with hw | hw
    all_goals
      go_enter Tryd.func8, Tryd.ntmps8
      go_wp2_with fail
      go_ret
      exact ⟨rfl, Below.refl _ _⟩
  have hw4 : which = 0 ∨ which = 1 ∨ which = 2 ∨ which = 3 := by omega
  by_cases h0 : space = 0
  · subst h0
    clear hw
    rcases hw4 with rfl | rfl | rfl | rfl
    · go_enter Tryd.func8, Tryd.ntmps8
      go_wp2_with fail
      refine (among_new normalW n _ _ _ rfl (by decide) (by kernel_rfl)).mono ?_
      rintro e w' ⟨rfl, rfl⟩
      go_wp2_with fail
      go_ret
      exact ⟨rfl, (Below.refl _ _).alloc (Nat.le_refl _) _⟩
    · by_cases h1 : n = [111, 108]
      · subst h1
        go_enter Tryd.func8, Tryd.ntmps8
        go_wp2_with fail
        go_ret
        exact ⟨rfl, Below.refl _ _⟩
      by_cases h2 : n = [117, 108]
      · subst h2
        go_enter Tryd.func8, Tryd.ntmps8
        go_wp2_with fail
        go_ret
        exact ⟨rfl, Below.refl _ _⟩
      have e : scB 1 0 n = memB normalW n := by simp [scB, scopeW, listW, memB, h1, h2]
      rw [e]
      have k1 : (n == [111, 108]) = false := by simpa using h1
      have k2 : (n == [117, 108]) = false := by simpa using h2
      clear e h1 h2
      go_enter Tryd.func8, Tryd.ntmps8
      go_wp2_with fail
      refine (among_new normalW n _ _ _ rfl (by decide) (by kernel_rfl)).mono ?_
      rintro e w' ⟨rfl, rfl⟩
      go_wp2_with fail
      go_ret
      exact ⟨rfl, (Below.refl _ _).alloc (Nat.le_refl _) _⟩
    · by_cases h1 : n = [98, 117, 116, 116, 111, 110]
      · subst h1
        go_enter Tryd.func8, Tryd.ntmps8
        go_wp2_with fail
        go_ret
        exact ⟨rfl, Below.refl _ _⟩
      have e : scB 2 0 n = memB normalW n := by simp [scB, scopeW, buttonW, memB, h1]
      rw [e]
      have k1 : (n == [98, 117, 116, 116, 111, 110]) = false := by simpa using h1
      clear e h1
      go_enter Tryd.func8, Tryd.ntmps8
      go_wp2_with fail
      refine (among_new normalW n _ _ _ rfl (by decide) (by kernel_rfl)).mono ?_
      rintro e w' ⟨rfl, rfl⟩
      go_wp2_with fail
      go_ret
      exact ⟨rfl, (Below.refl _ _).alloc (Nat.le_refl _) _⟩
    · by_cases h1 : n = [104, 116, 109, 108]
      · subst h1
        go_enter Tryd.func8, Tryd.ntmps8
        go_wp2_with fail
        go_ret
        exact ⟨rfl, Below.refl _ _⟩
      by_cases h2 : n = [116, 97, 98, 108, 101]
      · subst h2
        go_enter Tryd.func8, Tryd.ntmps8
        go_wp2_with fail
        go_ret
        exact ⟨rfl, Below.refl _ _⟩
      by_cases h3 : n = [116, 101, 109, 112, 108, 97, 116, 101]
      · subst h3
        go_enter Tryd.func8, Tryd.ntmps8
        go_wp2_with fail
        go_ret
        exact ⟨rfl, Below.refl _ _⟩
      have e : scB 3 0 n = false := by simp [scB, scopeW, tablesW, memB, h1, h2, h3]
      rw [e]
      have k1 : (n == [104, 116, 109, 108]) = false := by simpa using h1
      have k2 : (n == [116, 97, 98, 108, 101]) = false := by simpa using h2
      have k3 : (n == [116, 101, 109, 112, 108, 97, 116, 101]) = false := by simpa using h3
      clear e h1 h2 h3
      go_enter Tryd.func8, Tryd.ntmps8
      go_wp2_with fail
      go_ret
      exact ⟨rfl, Below.refl _ _⟩
  · have e : scB which space n = (which != 3 && spB space n) := by unfold scB; rw [if_neg hw, if_neg h0]
    rw [e]
    have k0 : (space != 0) = true := by simpa using h0
    clear e h0 hw
    rcases hw4 with rfl | rfl | rfl | rfl
    all_goals
      go_enter Tryd.func8, Tryd.ntmps8
      go_wp2_with (go_at_call 10; refine (refSpecial_any _ _ _).mono ?_; rintro e w' ⟨rfl, hb⟩)
      go_ret
      first
        | exact ⟨rfl, hb⟩
        | exact ⟨rfl, Below.refl _ _⟩
end Go.Proofs.YtlbagmmkeekfjaaDoor
