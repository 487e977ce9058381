/-
  What is proved: the reference of layer 9: the character of a number: a contract. No condition.
-/
import Derived.Test.YtbolajljfkjfaaaDoorRefC
namespace Go.Proofs.YtbolajljfkjfaaaDoor
open Go.RowKit

theorem charB_at (i : Nat) (hi : i < 32) : charB (i + 128) = charT.getD i [] := by
  have e : i + 128 - 128 = i := by omega
  rw [charB_tab (by omega), e]
set_option maxRecDepth 100000 in
set_option maxHeartbeats 1000000 in
theorem refChar_0 (n : Nat) (w : World) (h1 : ((n : Int) == 0) = true) :
    Calls Tryd.prog 71 #[.int .i64 n] w fun e w' => e = .returned (.string ⟨⟨[239, 191, 189]⟩⟩) ∧ w = w' := by
  go_enter Tryd.func71, Tryd.ntmps71
  go_wp2_with fail
  go_ret
  exact ⟨by rfl, rfl⟩
set_option maxRecDepth 100000 in
set_option maxHeartbeats 1000000 in
theorem refChar_last (n : Nat) (w : World) (h1 : ((n : Int) == 0) = false) (h2 : decide (1114111 < (n : Int)) = true) :
    Calls Tryd.prog 71 #[.int .i64 n] w fun e w' => e = .returned (.string ⟨⟨[239, 191, 189]⟩⟩) ∧ w = w' := by
  go_enter Tryd.func71, Tryd.ntmps71
  go_wp2_with fail
  go_ret
  exact ⟨by rfl, rfl⟩
set_option maxRecDepth 100000 in
set_option maxHeartbeats 1000000 in
theorem refChar_half (n : Nat) (w : World) (h1 : ((n : Int) == 0) = false) (h2 : decide (1114111 < (n : Int)) = false) (h3 : decide ((55296 : Int) ≤ n) = true) (h4 : decide ((n : Int) ≤ 57343) = true) :
    Calls Tryd.prog 71 #[.int .i64 n] w fun e w' => e = .returned (.string ⟨⟨[239, 191, 189]⟩⟩) ∧ w = w' := by
  go_enter Tryd.func71, Tryd.ntmps71
  go_wp2_with fail
  go_ret
  exact ⟨by rfl, rfl⟩
set_option maxRecDepth 100000 in
set_option maxHeartbeats 1000000 in
theorem refChar_self (n : Nat) (w : World) (h1 : ((n : Int) == 0) = false) (h2 : decide (1114111 < (n : Int)) = false) (h5 : (n : Int) ≤ 1114111) (h3 : decide ((55296 : Int) ≤ n) = false) (k128 : ((n : Int) == 128) = false) (k130 : ((n : Int) == 130) = false) (k131 : ((n : Int) == 131) = false) (k132 : ((n : Int) == 132) = false) (k133 : ((n : Int) == 133) = false) (k134 : ((n : Int) == 134) = false) (k135 : ((n : Int) == 135) = false) (k136 : ((n : Int) == 136) = false) (k137 : ((n : Int) == 137) = false) (k138 : ((n : Int) == 138) = false) (k139 : ((n : Int) == 139) = false) (k140 : ((n : Int) == 140) = false) (k142 : ((n : Int) == 142) = false) (k145 : ((n : Int) == 145) = false) (k146 : ((n : Int) == 146) = false) (k147 : ((n : Int) == 147) = false) (k148 : ((n : Int) == 148) = false) (k149 : ((n : Int) == 149) = false) (k150 : ((n : Int) == 150) = false) (k151 : ((n : Int) == 151) = false) (k152 : ((n : Int) == 152) = false) (k153 : ((n : Int) == 153) = false) (k154 : ((n : Int) == 154) = false) (k155 : ((n : Int) == 155) = false) (k156 : ((n : Int) == 156) = false) (k158 : ((n : Int) == 158) = false) (k159 : ((n : Int) == 159) = false) :
    Calls Tryd.prog 71 #[.int .i64 n] w fun e w' => e = .returned (.string (Utf8.encode n)) ∧ w = w' := by
  go_enter Tryd.func71, Tryd.ntmps71
  go_wp2_with fail
  go_ret
  exact ⟨by rfl, rfl⟩
set_option maxRecDepth 100000 in
set_option maxHeartbeats 1000000 in
theorem refChar_great (n : Nat) (w : World) (h1 : ((n : Int) == 0) = false) (h2 : decide (1114111 < (n : Int)) = false) (h5 : (n : Int) ≤ 1114111) (h3 : decide ((55296 : Int) ≤ n) = true) (h4 : decide ((n : Int) ≤ 57343) = false) (k128 : ((n : Int) == 128) = false) (k130 : ((n : Int) == 130) = false) (k131 : ((n : Int) == 131) = false) (k132 : ((n : Int) == 132) = false) (k133 : ((n : Int) == 133) = false) (k134 : ((n : Int) == 134) = false) (k135 : ((n : Int) == 135) = false) (k136 : ((n : Int) == 136) = false) (k137 : ((n : Int) == 137) = false) (k138 : ((n : Int) == 138) = false) (k139 : ((n : Int) == 139) = false) (k140 : ((n : Int) == 140) = false) (k142 : ((n : Int) == 142) = false) (k145 : ((n : Int) == 145) = false) (k146 : ((n : Int) == 146) = false) (k147 : ((n : Int) == 147) = false) (k148 : ((n : Int) == 148) = false) (k149 : ((n : Int) == 149) = false) (k150 : ((n : Int) == 150) = false) (k151 : ((n : Int) == 151) = false) (k152 : ((n : Int) == 152) = false) (k153 : ((n : Int) == 153) = false) (k154 : ((n : Int) == 154) = false) (k155 : ((n : Int) == 155) = false) (k156 : ((n : Int) == 156) = false) (k158 : ((n : Int) == 158) = false) (k159 : ((n : Int) == 159) = false) :
    Calls Tryd.prog 71 #[.int .i64 n] w fun e w' => e = .returned (.string (Utf8.encode n)) ∧ w = w' := by
  go_enter Tryd.func71, Tryd.ntmps71
  go_wp2_with fail
  go_ret
  exact ⟨by rfl, rfl⟩
set_option maxRecDepth 100000 in
set_option maxHeartbeats 1000000 in
theorem refChar_128 (w : World) : Calls Tryd.prog 71 #[.int .i64 128] w fun e w' => e = .returned (.string ⟨⟨charT.getD 0 []⟩⟩) ∧ w = w' := by
  go_enter Tryd.func71, Tryd.ntmps71
  go_wp2_with fail
  go_ret
  exact ⟨by rfl, rfl⟩
set_option maxRecDepth 100000 in
set_option maxHeartbeats 1000000 in
theorem refChar_130 (w : World) : Calls Tryd.prog 71 #[.int .i64 130] w fun e w' => e = .returned (.string ⟨⟨charT.getD 2 []⟩⟩) ∧ w = w' := by
  go_enter Tryd.func71, Tryd.ntmps71
  go_wp2_with fail
  go_ret
  exact ⟨by rfl, rfl⟩
set_option maxRecDepth 100000 in
set_option maxHeartbeats 1000000 in
theorem refChar_131 (w : World) : Calls Tryd.prog 71 #[.int .i64 131] w fun e w' => e = .returned (.string ⟨⟨charT.getD 3 []⟩⟩) ∧ w = w' := by
  go_enter Tryd.func71, Tryd.ntmps71
  go_wp2_with fail
  go_ret
  exact ⟨by rfl, rfl⟩
set_option maxRecDepth 100000 in
set_option maxHeartbeats 1000000 in
theorem refChar_132 (w : World) : Calls Tryd.prog 71 #[.int .i64 132] w fun e w' => e = .returned (.string ⟨⟨charT.getD 4 []⟩⟩) ∧ w = w' := by
  go_enter Tryd.func71, Tryd.ntmps71
  go_wp2_with fail
  go_ret
  exact ⟨by rfl, rfl⟩
set_option maxRecDepth 100000 in
set_option maxHeartbeats 1000000 in
theorem refChar_133 (w : World) : Calls Tryd.prog 71 #[.int .i64 133] w fun e w' => e = .returned (.string ⟨⟨charT.getD 5 []⟩⟩) ∧ w = w' := by
  go_enter Tryd.func71, Tryd.ntmps71
  go_wp2_with fail
  go_ret
  exact ⟨by rfl, rfl⟩
set_option maxRecDepth 100000 in
set_option maxHeartbeats 1000000 in
theorem refChar_134 (w : World) : Calls Tryd.prog 71 #[.int .i64 134] w fun e w' => e = .returned (.string ⟨⟨charT.getD 6 []⟩⟩) ∧ w = w' := by
  go_enter Tryd.func71, Tryd.ntmps71
  go_wp2_with fail
  go_ret
  exact ⟨by rfl, rfl⟩
set_option maxRecDepth 100000 in
set_option maxHeartbeats 1000000 in
theorem refChar_135 (w : World) : Calls Tryd.prog 71 #[.int .i64 135] w fun e w' => e = .returned (.string ⟨⟨charT.getD 7 []⟩⟩) ∧ w = w' := by
  go_enter Tryd.func71, Tryd.ntmps71
  go_wp2_with fail
  go_ret
  exact ⟨by rfl, rfl⟩
set_option maxRecDepth 100000 in
set_option maxHeartbeats 1000000 in
theorem refChar_136 (w : World) : Calls Tryd.prog 71 #[.int .i64 136] w fun e w' => e = .returned (.string ⟨⟨charT.getD 8 []⟩⟩) ∧ w = w' := by
  go_enter Tryd.func71, Tryd.ntmps71
  go_wp2_with fail
  go_ret
  exact ⟨by rfl, rfl⟩
set_option maxRecDepth 100000 in
set_option maxHeartbeats 1000000 in
theorem refChar_137 (w : World) : Calls Tryd.prog 71 #[.int .i64 137] w fun e w' => e = .returned (.string ⟨⟨charT.getD 9 []⟩⟩) ∧ w = w' := by
  go_enter Tryd.func71, Tryd.ntmps71
  go_wp2_with fail
  go_ret
  exact ⟨by rfl, rfl⟩
set_option maxRecDepth 100000 in
set_option maxHeartbeats 1000000 in
theorem refChar_138 (w : World) : Calls Tryd.prog 71 #[.int .i64 138] w fun e w' => e = .returned (.string ⟨⟨charT.getD 10 []⟩⟩) ∧ w = w' := by
  go_enter Tryd.func71, Tryd.ntmps71
  go_wp2_with fail
  go_ret
  exact ⟨by rfl, rfl⟩
set_option maxRecDepth 100000 in
set_option maxHeartbeats 1000000 in
theorem refChar_139 (w : World) : Calls Tryd.prog 71 #[.int .i64 139] w fun e w' => e = .returned (.string ⟨⟨charT.getD 11 []⟩⟩) ∧ w = w' := by
  go_enter Tryd.func71, Tryd.ntmps71
  go_wp2_with fail
  go_ret
  exact ⟨by rfl, rfl⟩
set_option maxRecDepth 100000 in
set_option maxHeartbeats 1000000 in
theorem refChar_140 (w : World) : Calls Tryd.prog 71 #[.int .i64 140] w fun e w' => e = .returned (.string ⟨⟨charT.getD 12 []⟩⟩) ∧ w = w' := by
  go_enter Tryd.func71, Tryd.ntmps71
  go_wp2_with fail
  go_ret
  exact ⟨by rfl, rfl⟩
set_option maxRecDepth 100000 in
set_option maxHeartbeats 1000000 in
theorem refChar_142 (w : World) : Calls Tryd.prog 71 #[.int .i64 142] w fun e w' => e = .returned (.string ⟨⟨charT.getD 14 []⟩⟩) ∧ w = w' := by
  go_enter Tryd.func71, Tryd.ntmps71
  go_wp2_with fail
  go_ret
  exact ⟨by rfl, rfl⟩
set_option maxRecDepth 100000 in
set_option maxHeartbeats 1000000 in
theorem refChar_145 (w : World) : Calls Tryd.prog 71 #[.int .i64 145] w fun e w' => e = .returned (.string ⟨⟨charT.getD 17 []⟩⟩) ∧ w = w' := by
  go_enter Tryd.func71, Tryd.ntmps71
  go_wp2_with fail
  go_ret
  exact ⟨by rfl, rfl⟩
set_option maxRecDepth 100000 in
set_option maxHeartbeats 1000000 in
theorem refChar_146 (w : World) : Calls Tryd.prog 71 #[.int .i64 146] w fun e w' => e = .returned (.string ⟨⟨charT.getD 18 []⟩⟩) ∧ w = w' := by
  go_enter Tryd.func71, Tryd.ntmps71
  go_wp2_with fail
  go_ret
  exact ⟨by rfl, rfl⟩
set_option maxRecDepth 100000 in
set_option maxHeartbeats 1000000 in
theorem refChar_147 (w : World) : Calls Tryd.prog 71 #[.int .i64 147] w fun e w' => e = .returned (.string ⟨⟨charT.getD 19 []⟩⟩) ∧ w = w' := by
  go_enter Tryd.func71, Tryd.ntmps71
  go_wp2_with fail
  go_ret
  exact ⟨by rfl, rfl⟩
set_option maxRecDepth 100000 in
set_option maxHeartbeats 1000000 in
theorem refChar_148 (w : World) : Calls Tryd.prog 71 #[.int .i64 148] w fun e w' => e = .returned (.string ⟨⟨charT.getD 20 []⟩⟩) ∧ w = w' := by
  go_enter Tryd.func71, Tryd.ntmps71
  go_wp2_with fail
  go_ret
  exact ⟨by rfl, rfl⟩
set_option maxRecDepth 100000 in
set_option maxHeartbeats 1000000 in
theorem refChar_149 (w : World) : Calls Tryd.prog 71 #[.int .i64 149] w fun e w' => e = .returned (.string ⟨⟨charT.getD 21 []⟩⟩) ∧ w = w' := by
  go_enter Tryd.func71, Tryd.ntmps71
  go_wp2_with fail
  go_ret
  exact ⟨by rfl, rfl⟩
set_option maxRecDepth 100000 in
set_option maxHeartbeats 1000000 in
theorem refChar_150 (w : World) : Calls Tryd.prog 71 #[.int .i64 150] w fun e w' => e = .returned (.string ⟨⟨charT.getD 22 []⟩⟩) ∧ w = w' := by
  go_enter Tryd.func71, Tryd.ntmps71
  go_wp2_with fail
  go_ret
  exact ⟨by rfl, rfl⟩
set_option maxRecDepth 100000 in
set_option maxHeartbeats 1000000 in
theorem refChar_151 (w : World) : Calls Tryd.prog 71 #[.int .i64 151] w fun e w' => e = .returned (.string ⟨⟨charT.getD 23 []⟩⟩) ∧ w = w' := by
  go_enter Tryd.func71, Tryd.ntmps71
  go_wp2_with fail
  go_ret
  exact ⟨by rfl, rfl⟩
set_option maxRecDepth 100000 in
set_option maxHeartbeats 1000000 in
theorem refChar_152 (w : World) : Calls Tryd.prog 71 #[.int .i64 152] w fun e w' => e = .returned (.string ⟨⟨charT.getD 24 []⟩⟩) ∧ w = w' := by
  go_enter Tryd.func71, Tryd.ntmps71
  go_wp2_with fail
  go_ret
  exact ⟨by rfl, rfl⟩
set_option maxRecDepth 100000 in
set_option maxHeartbeats 1000000 in
theorem refChar_153 (w : World) : Calls Tryd.prog 71 #[.int .i64 153] w fun e w' => e = .returned (.string ⟨⟨charT.getD 25 []⟩⟩) ∧ w = w' := by
  go_enter Tryd.func71, Tryd.ntmps71
  go_wp2_with fail
  go_ret
  exact ⟨by rfl, rfl⟩
set_option maxRecDepth 100000 in
set_option maxHeartbeats 1000000 in
theorem refChar_154 (w : World) : Calls Tryd.prog 71 #[.int .i64 154] w fun e w' => e = .returned (.string ⟨⟨charT.getD 26 []⟩⟩) ∧ w = w' := by
  go_enter Tryd.func71, Tryd.ntmps71
  go_wp2_with fail
  go_ret
  exact ⟨by rfl, rfl⟩
set_option maxRecDepth 100000 in
set_option maxHeartbeats 1000000 in
theorem refChar_155 (w : World) : Calls Tryd.prog 71 #[.int .i64 155] w fun e w' => e = .returned (.string ⟨⟨charT.getD 27 []⟩⟩) ∧ w = w' := by
  go_enter Tryd.func71, Tryd.ntmps71
  go_wp2_with fail
  go_ret
  exact ⟨by rfl, rfl⟩
set_option maxRecDepth 100000 in
set_option maxHeartbeats 1000000 in
theorem refChar_156 (w : World) : Calls Tryd.prog 71 #[.int .i64 156] w fun e w' => e = .returned (.string ⟨⟨charT.getD 28 []⟩⟩) ∧ w = w' := by
  go_enter Tryd.func71, Tryd.ntmps71
  go_wp2_with fail
  go_ret
  exact ⟨by rfl, rfl⟩
set_option maxRecDepth 100000 in
set_option maxHeartbeats 1000000 in
theorem refChar_158 (w : World) : Calls Tryd.prog 71 #[.int .i64 158] w fun e w' => e = .returned (.string ⟨⟨charT.getD 30 []⟩⟩) ∧ w = w' := by
  go_enter Tryd.func71, Tryd.ntmps71
  go_wp2_with fail
  go_ret
  exact ⟨by rfl, rfl⟩
set_option maxRecDepth 100000 in
set_option maxHeartbeats 1000000 in
theorem refChar_159 (w : World) : Calls Tryd.prog 71 #[.int .i64 159] w fun e w' => e = .returned (.string ⟨⟨charT.getD 31 []⟩⟩) ∧ w = w' := by
  go_enter Tryd.func71, Tryd.ntmps71
  go_wp2_with fail
  go_ret
  exact ⟨by rfl, rfl⟩
theorem refChar_any (n : Nat) (w : World) (hn : n ≤ 1114112) :
    Calls Tryd.prog 71 #[.int .i64 n] w fun e w' => e = .returned (.string ⟨⟨charB n⟩⟩) ∧ w = w' := by
  by_cases h0 : n = 0
  · rw [charB_bad (.inl h0)]
    exact refChar_0 n w (by simp [h0])
  have g0 : ((n : Int) == 0) = false := by simp [h0]
  by_cases h1 : 1114111 < n
  · rw [charB_bad (.inr (.inl h1))]
    exact refChar_last n w g0 (by rw [decide_eq_true_eq]; omega)
  have g1 : decide (1114111 < (n : Int)) = false := by rw [decide_eq_false_iff_not]; omega
  have nk : ∀ v : Nat, n ≠ v → ((n : Int) == (v : Int)) = false := fun v hv => by
    rw [beq_eq_false_iff_ne]
    omega
  by_cases h2 : 55296 ≤ n
  · have g2 : decide ((55296 : Int) ≤ n) = true := by rw [decide_eq_true_eq]; omega
    by_cases h3 : n < 57344
    · rw [charB_bad (.inr (.inr ⟨h2, h3⟩))]
      exact refChar_half n w g0 g1 g2 (by rw [decide_eq_true_eq]; omega)
    · rw [charB_else (by omega) (by omega), ← enc_eta]
      exact refChar_great n w g0 g1 (by omega) g2 (by rw [decide_eq_false_iff_not]; omega) (nk 128 (by omega)) (nk 130 (by omega)) (nk 131 (by omega)) (nk 132 (by omega)) (nk 133 (by omega)) (nk 134 (by omega)) (nk 135 (by omega)) (nk 136 (by omega)) (nk 137 (by omega)) (nk 138 (by omega)) (nk 139 (by omega)) (nk 140 (by omega)) (nk 142 (by omega)) (nk 145 (by omega)) (nk 146 (by omega)) (nk 147 (by omega)) (nk 148 (by omega)) (nk 149 (by omega)) (nk 150 (by omega)) (nk 151 (by omega)) (nk 152 (by omega)) (nk 153 (by omega)) (nk 154 (by omega)) (nk 155 (by omega)) (nk 156 (by omega)) (nk 158 (by omega)) (nk 159 (by omega))
  · have g2 : decide ((55296 : Int) ≤ n) = false := by rw [decide_eq_false_iff_not]; omega
    by_cases k128 : n = 128
    · subst k128
      exact refChar_128 w
    by_cases k130 : n = 130
    · subst k130
      exact refChar_130 w
    by_cases k131 : n = 131
    · subst k131
      exact refChar_131 w
    by_cases k132 : n = 132
    · subst k132
      exact refChar_132 w
    by_cases k133 : n = 133
    · subst k133
      exact refChar_133 w
    by_cases k134 : n = 134
    · subst k134
      exact refChar_134 w
    by_cases k135 : n = 135
    · subst k135
      exact refChar_135 w
    by_cases k136 : n = 136
    · subst k136
      exact refChar_136 w
    by_cases k137 : n = 137
    · subst k137
      exact refChar_137 w
    by_cases k138 : n = 138
    · subst k138
      exact refChar_138 w
    by_cases k139 : n = 139
    · subst k139
      exact refChar_139 w
    by_cases k140 : n = 140
    · subst k140
      exact refChar_140 w
    by_cases k142 : n = 142
    · subst k142
      exact refChar_142 w
    by_cases k145 : n = 145
    · subst k145
      exact refChar_145 w
    by_cases k146 : n = 146
    · subst k146
      exact refChar_146 w
    by_cases k147 : n = 147
    · subst k147
      exact refChar_147 w
    by_cases k148 : n = 148
    · subst k148
      exact refChar_148 w
    by_cases k149 : n = 149
    · subst k149
      exact refChar_149 w
    by_cases k150 : n = 150
    · subst k150
      exact refChar_150 w
    by_cases k151 : n = 151
    · subst k151
      exact refChar_151 w
    by_cases k152 : n = 152
    · subst k152
      exact refChar_152 w
    by_cases k153 : n = 153
    · subst k153
      exact refChar_153 w
    by_cases k154 : n = 154
    · subst k154
      exact refChar_154 w
    by_cases k155 : n = 155
    · subst k155
      exact refChar_155 w
    by_cases k156 : n = 156
    · subst k156
      exact refChar_156 w
    by_cases k158 : n = 158
    · subst k158
      exact refChar_158 w
    by_cases k159 : n = 159
    · subst k159
      exact refChar_159 w
    have fin : charB n = (Utf8.encode n).data.toList := by
      by_cases h5 : 128 ≤ n ∧ n < 160
      · rw [charB_tab h5]
        have e2 : (((n - 128 : Nat) : Int) + 128) = n := by omega
        rw [← e2]
        have h6 : n = 129 ∨ n = 141 ∨ n = 143 ∨ n = 144 ∨ n = 157 := by omega
        refine tab_none _ (by omega) ?_
        rcases h6 with rfl | rfl | rfl | rfl | rfl <;> decide
      · exact charB_else (by omega) h5
    rw [fin, ← enc_eta]
    exact refChar_self n w g0 g1 (by omega) g2 (nk 128 k128) (nk 130 k130) (nk 131 k131) (nk 132 k132) (nk 133 k133) (nk 134 k134) (nk 135 k135) (nk 136 k136) (nk 137 k137) (nk 138 k138) (nk 139 k139) (nk 140 k140) (nk 142 k142) (nk 145 k145) (nk 146 k146) (nk 147 k147) (nk 148 k148) (nk 149 k149) (nk 150 k150) (nk 151 k151) (nk 152 k152) (nk 153 k153) (nk 154 k154) (nk 155 k155) (nk 156 k156) (nk 158 k158) (nk 159 k159)
end Go.Proofs.YtbolajljfkjfaaaDoor
