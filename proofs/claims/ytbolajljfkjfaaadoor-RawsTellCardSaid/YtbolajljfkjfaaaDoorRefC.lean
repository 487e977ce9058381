/-
  What is proved: the character of a number, in the program and in the reference: contracts. Condition: the program's table holds what its text lays.
-/
import Derived.Test.YtbolajljfkjfaaaDoorPfx
import Derived.Lib.LaidTab
namespace Go.Proofs.YtbolajljfkjfaaaDoor
open Go.RowKit

def othersZ : List Int := [8364, 0, 8218, 402, 8222, 8230, 8224, 8225, 710, 8240, 352, 8249, 338, 0, 381, 0, 0, 8216, 8217, 8220, 8221, 8226, 8211, 8212, 732, 8482, 353, 8250, 339, 0, 382, 376]
def charT : List (List UInt8) := [[226, 130, 172], [194, 129], [226, 128, 154], [198, 146], [226, 128, 158], [226, 128, 166], [226, 128, 160], [226, 128, 161], [203, 134], [226, 128, 176], [197, 160], [226, 128, 185], [197, 146], [194, 141], [197, 189], [194, 143], [194, 144], [226, 128, 152], [226, 128, 153], [226, 128, 156], [226, 128, 157], [226, 128, 162], [226, 128, 147], [226, 128, 148], [203, 156], [226, 132, 162], [197, 161], [226, 128, 186], [197, 147], [194, 157], [197, 190], [197, 184]]
/-- The character of a number. -/
def charB (n : Nat) : List UInt8 :=
  if n = 0 ∨ 1114111 < n ∨ (55296 ≤ n ∧ n < 57344) then [239, 191, 189] else if 128 ≤ n ∧ n < 160 then charT.getD (n - 128) [] else (Utf8.encode n).data.toList
set_option maxRecDepth 100000 in
theorem tab_more (i : Nat) (hi : i < 32) (h : 0 < othersZ.getD i 0) : charT.getD i [] = (Utf8.encode (othersZ.getD i 0)).data.toList := by
  have key : ∀ i : Fin 32, 0 < othersZ.getD i 0 → charT.getD i [] = (Utf8.encode (othersZ.getD i 0)).data.toList := by decide +kernel
  exact key ⟨i, hi⟩ h
set_option maxRecDepth 100000 in
theorem tab_none (i : Nat) (hi : i < 32) (h : othersZ.getD i 0 ≤ 0) : charT.getD i [] = (Utf8.encode ((i : Int) + 128)).data.toList := by
  have key : ∀ i : Fin 32, othersZ.getD i 0 ≤ 0 → charT.getD i [] = (Utf8.encode (((i : Nat) : Int) + 128)).data.toList := by decide +kernel
  have := key ⟨i, hi⟩ h
  simpa only using this
set_option maxRecDepth 100000 in
theorem othersZ_wf : othersZ.all (fun z => decide (0 ≤ z ∧ z < 2147483648)) = true := by decide +kernel
/-- The table as the package lays it. -/
def OthersIs (w : World) : Prop := ∀ i : Nat, i < 32 → w.cell? ⟨3, i, none⟩ = some (.int .i32 (othersZ.getD i 0))
theorem charB_bad {n : Nat} (h : n = 0 ∨ 1114111 < n ∨ (55296 ≤ n ∧ n < 57344)) : charB n = [239, 191, 189] := by unfold charB; rw [if_pos h]
theorem charB_tab {n : Nat} (h : 128 ≤ n ∧ n < 160) : charB n = charT.getD (n - 128) [] := by unfold charB; rw [if_neg (by omega), if_pos h]
theorem charB_else {n : Nat} (h : ¬ (n = 0 ∨ 1114111 < n ∨ (55296 ≤ n ∧ n < 57344))) (h2 : ¬ (128 ≤ n ∧ n < 160)) : charB n = (Utf8.encode n).data.toList := by unfold charB; rw [if_neg h, if_neg h2]
theorem enc_eta (b : ByteArray) : b = ⟨⟨b.data.toList⟩⟩ := rfl

set_option maxRecDepth 100000 in
theorem char_0 (n : Nat) (w : World) (h0 : ((n : Int) == 0) = true) :
    Calls Tryd.prog 100 #[.int .i32 n] w fun e w' => e = .returned (.string ⟨⟨[239, 191, 189]⟩⟩) ∧ w = w' := by
  go_enter Tryd.func100, Tryd.ntmps100
  go_wp2_with fail
  go_ret
  exact ⟨by rfl, rfl⟩
set_option maxRecDepth 100000 in
theorem char_last (n : Nat) (w : World) (h0 : ((n : Int) == 0) = false) (h1 : decide (1114111 < (n : Int)) = true) :
    Calls Tryd.prog 100 #[.int .i32 n] w fun e w' => e = .returned (.string ⟨⟨[239, 191, 189]⟩⟩) ∧ w = w' := by
  go_enter Tryd.func100, Tryd.ntmps100
  go_wp2_with fail
  go_ret
  exact ⟨by rfl, rfl⟩
set_option maxRecDepth 100000 in
theorem char_half (n : Nat) (w : World) (h0 : ((n : Int) == 0) = false) (h1 : decide (1114111 < (n : Int)) = false) (h2 : decide ((55296 : Int) ≤ n) = true) (h3 : decide ((n : Int) < 57344) = true) :
    Calls Tryd.prog 100 #[.int .i32 n] w fun e w' => e = .returned (.string ⟨⟨[239, 191, 189]⟩⟩) ∧ w = w' := by
  go_enter Tryd.func100, Tryd.ntmps100
  go_wp2_with fail
  go_ret
  exact ⟨by rfl, rfl⟩
set_option maxRecDepth 100000 in
theorem char_more (n : Nat) (w : World) (h0 : ((n : Int) == 0) = false) (h1 : decide (1114111 < (n : Int)) = false) (h2 : decide ((55296 : Int) ≤ n) = false) (h4 : decide ((128 : Int) ≤ n) = true) (h5 : decide ((n : Int) < 160) = true) (g1 : (0 : Int) ≤ (n : Int) - 128) (g2 : (n : Int) - 128 < 32) (e1 : ((n : Int) - 128).toNat = n - 128) (z : Int) (hc : w.cell? ⟨3, n - 128, none⟩ = some (.int .i32 z)) (hz : decide (0 < z) = true) :
    Calls Tryd.prog 100 #[.int .i32 n] w fun e w' => e = .returned (.string (Utf8.encode z)) ∧ w = w' := by
  go_enter Tryd.func100, Tryd.ntmps100
  go_wp2_with fail
  go_ret
  exact ⟨by rfl, rfl⟩
set_option maxRecDepth 100000 in
theorem char_self (n : Nat) (w : World) (h0 : ((n : Int) == 0) = false) (h1 : decide (1114111 < (n : Int)) = false) (h2 : decide ((55296 : Int) ≤ n) = false) (h4 : decide ((128 : Int) ≤ n) = true) (h5 : decide ((n : Int) < 160) = true) (g1 : (0 : Int) ≤ (n : Int) - 128) (g2 : (n : Int) - 128 < 32) (e1 : ((n : Int) - 128).toNat = n - 128) (z : Int) (hc : w.cell? ⟨3, n - 128, none⟩ = some (.int .i32 z)) (hz : decide (0 < z) = false) :
    Calls Tryd.prog 100 #[.int .i32 n] w fun e w' => e = .returned (.string (Utf8.encode n)) ∧ w = w' := by
  go_enter Tryd.func100, Tryd.ntmps100
  go_wp2_with fail
  go_ret
  exact ⟨by rfl, rfl⟩
set_option maxRecDepth 100000 in
theorem char_great (n : Nat) (w : World) (h0 : ((n : Int) == 0) = false) (h1 : decide (1114111 < (n : Int)) = false) (h2 : decide ((55296 : Int) ≤ n) = true) (h3 : decide ((n : Int) < 57344) = false) (h4 : decide ((128 : Int) ≤ n) = true) (h5 : decide ((n : Int) < 160) = false) :
    Calls Tryd.prog 100 #[.int .i32 n] w fun e w' => e = .returned (.string (Utf8.encode n)) ∧ w = w' := by
  go_enter Tryd.func100, Tryd.ntmps100
  go_wp2_with fail
  go_ret
  exact ⟨by rfl, rfl⟩
set_option maxRecDepth 100000 in
theorem char_mid (n : Nat) (w : World) (h0 : ((n : Int) == 0) = false) (h1 : decide (1114111 < (n : Int)) = false) (h2 : decide ((55296 : Int) ≤ n) = false) (h4 : decide ((128 : Int) ≤ n) = true) (h5 : decide ((n : Int) < 160) = false) :
    Calls Tryd.prog 100 #[.int .i32 n] w fun e w' => e = .returned (.string (Utf8.encode n)) ∧ w = w' := by
  go_enter Tryd.func100, Tryd.ntmps100
  go_wp2_with fail
  go_ret
  exact ⟨by rfl, rfl⟩
set_option maxRecDepth 100000 in
theorem char_low (n : Nat) (w : World) (h0 : ((n : Int) == 0) = false) (h1 : decide (1114111 < (n : Int)) = false) (h2 : decide ((55296 : Int) ≤ n) = false) (h4 : decide ((128 : Int) ≤ n) = false) :
    Calls Tryd.prog 100 #[.int .i32 n] w fun e w' => e = .returned (.string (Utf8.encode n)) ∧ w = w' := by
  go_enter Tryd.func100, Tryd.ntmps100
  go_wp2_with fail
  go_ret
  exact ⟨by rfl, rfl⟩
theorem character_any (n : Nat) (w : World) (hn : n ≤ 1114112) (hw : OthersIs w) :
    Calls Tryd.prog 100 #[.int .i32 n] w fun e w' => e = .returned (.string ⟨⟨charB n⟩⟩) ∧ w = w' := by
  by_cases h0 : n = 0
  · rw [charB_bad (.inl h0)]
    exact char_0 n w (by simp [h0])
  have g0 : ((n : Int) == 0) = false := by simp [h0]
  by_cases h1 : 1114111 < n
  · rw [charB_bad (.inr (.inl h1))]
    exact char_last n w g0 (by rw [decide_eq_true_eq]; omega)
  have g1 : decide (1114111 < (n : Int)) = false := by rw [decide_eq_false_iff_not]; omega
  by_cases h2 : 55296 ≤ n
  · have g2 : decide ((55296 : Int) ≤ n) = true := by rw [decide_eq_true_eq]; omega
    by_cases h3 : n < 57344
    · rw [charB_bad (.inr (.inr ⟨h2, h3⟩))]
      exact char_half n w g0 g1 g2 (by rw [decide_eq_true_eq]; omega)
    · rw [charB_else (by omega) (by omega), ← enc_eta]
      exact char_great n w g0 g1 g2 (by rw [decide_eq_false_iff_not]; omega) (by rw [decide_eq_true_eq]; omega) (by rw [decide_eq_false_iff_not]; omega)
  · have g2 : decide ((55296 : Int) ≤ n) = false := by rw [decide_eq_false_iff_not]; omega
    by_cases h4 : 128 ≤ n
    · have g4 : decide ((128 : Int) ≤ n) = true := by rw [decide_eq_true_eq]; omega
      by_cases h5 : n < 160
      · have g5 : decide ((n : Int) < 160) = true := by rw [decide_eq_true_eq]; omega
        rw [charB_tab ⟨h4, h5⟩]
        have hc := hw (n - 128) (by omega)
        by_cases h6 : 0 < othersZ.getD (n - 128) 0
        · rw [tab_more _ (by omega) h6, ← enc_eta]
          exact char_more n w g0 g1 g2 g4 g5 (by omega) (by omega) (by omega) _ hc (by rw [decide_eq_true_eq]; exact h6)
        · have e2 : (((n - 128 : Nat) : Int) + 128) = n := by omega
          rw [tab_none _ (by omega) (by omega), e2, ← enc_eta]
          exact char_self n w g0 g1 g2 g4 g5 (by omega) (by omega) (by omega) _ hc (by rw [decide_eq_false_iff_not]; exact h6)
      · rw [charB_else (by omega) (by omega), ← enc_eta]
        exact char_mid n w g0 g1 g2 g4 (by rw [decide_eq_false_iff_not]; omega)
    · rw [charB_else (by omega) (by omega), ← enc_eta]
      exact char_low n w g0 g1 g2 (by rw [decide_eq_false_iff_not]; omega)
end Go.Proofs.YtbolajljfkjfaaaDoor
