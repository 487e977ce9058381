/-
  What is proved: the chapter's examples, and the walk of the statement KindsTell. Condition: the package's table holds what its text lays.
-/
import Derived.Test.YtlbagmmkeekfjaaDoorKndS
namespace Go.Proofs.YtlbagmmkeekfjaaDoor
open Go.RowKit

set_option maxHeartbeats 1000000 in
theorem listed_any (w : World) (hg : Glob w) : Calls Tryd.prog 6 #[] w fun e w' => e = .returned (.bool true) ∧ w = w' := by
  have hG := Lib.hid hg
  clear hg
  have d1 : spB 0 [112] = true := by decide +kernel
  have d2 : spB 1 [112] = false := by decide +kernel
  have d3 : spB 1 [116, 105, 116, 108, 101] = true := by decide +kernel
  have d4 : spB 1 [102, 111, 114, 101, 105, 103, 110, 111, 98, 106, 101, 99, 116] = true := by decide +kernel
  have d5 : spB 1 [102, 111, 114, 101, 105, 103, 110, 79, 98, 106, 101, 99, 116] = false := by decide +kernel
  have d6 : scB 1 0 [117, 108] = true := by decide +kernel
  have d7 : scB 3 0 [116, 100] = false := by decide +kernel
  have d8 : stN [115, 116, 121, 108, 101] = 2 := by decide +kernel
  have d9 : stN [110, 111, 115, 99, 114, 105, 112, 116] = 0 := by decide +kernel
  have d10 : memB headingsW [104, 55] = false := by decide +kernel
  have d11 : memB headingsW [104, 54] = true := by decide +kernel
  have d12 : memB formattingW [110, 111, 98, 114] = true := by decide +kernel
  have d13 : memB voidW [119, 98, 114] = true := by decide +kernel
  have d14 : memB impliedW [114, 116, 99] = true := by decide +kernel
  have d15 : thoB [116, 114] = true := by decide +kernel
  go_enter Tryd.func6, Tryd.ntmps6
  go_wp2_with (first
    | (go_at_call 9; refine (special_any _ _ _ hG.out (by decide)).mono ?_; rintro e w' ⟨rfl, rfl⟩)
    | (go_at_call 7; refine (scope_any _ _ _ _ hG.out (by decide)).mono ?_; rintro e w' ⟨rfl, rfl⟩)
    | (go_at_call 21; refine (state_any _ _).mono ?_; rintro e w' ⟨rfl, rfl⟩)
    | (go_at_call 19; refine (heading_any _ _ hG.out (by decide)).mono ?_; rintro e w' ⟨rfl, rfl⟩)
    | (go_at_call 11; refine (formatting_any _ _ hG.out (by decide)).mono ?_; rintro e w' ⟨rfl, rfl⟩)
    | (go_at_call 13; refine (void_any _ _ hG.out (by decide)).mono ?_; rintro e w' ⟨rfl, rfl⟩)
    | (go_at_call 15; refine (implied_any _ _ hG.out (by decide)).mono ?_; rintro e w' ⟨rfl, rfl⟩)
    | (go_at_call 17; refine (thorough_any _ _ hG.out (by decide)).mono ?_; rintro e w' ⟨rfl, rfl⟩))
  go_ret
  exact ⟨rfl, rfl⟩

set_option maxRecDepth 100000 in
set_option maxHeartbeats 1000000 in
theorem tell_walk (n : List UInt8) (space which : Int) (w : World) (hg : Glob w) (hs : n.length ≤ maxLen) :
    Calls Tryd.prog 3 #[.string ⟨⟨n⟩⟩, .int .i64 space, .int .i64 which] w fun e w' => e = .returned (.bool true) ∧ Below w.heap.size w w' := by
  unfold maxLen at hs
  have hG := Lib.hid hg
  clear hg
  by_cases h : n.length ≤ 300
  · go_enter Tryd.func3, Tryd.ntmps3
    go_wp2_with fail
    go_loopw [7] (fun s wr => ∃ i : Int, s = .int .i64 i ∧ -1 ≤ i ∧ i ≤ 4 ∧ Below w.heap.size w wr) (fun s _ => (4 - intOf s).toNat)
    case atStart => exact ⟨-1, rfl, by omega, by omega, Below.refl _ _⟩
    case round =>
      obtain ⟨i, rfl, hi1, hi2, hb⟩ := hrel
      by_cases hi : i < 4
      · go_wp2_with fail
        obtain ⟨wo, rfl⟩ : ∃ wo : World, wo = wr := ⟨_, rfl⟩
        go_loopw [8] (fun s wr => ∃ j : Int, s = .int .i64 j ∧ -1 ≤ j ∧ j ≤ 5 ∧ Below w.heap.size w wr) (fun s _ => (5 - intOf s).toNat)
        case atStart => exact ⟨-1, rfl, by omega, by omega, hb⟩
        case round =>
          obtain ⟨j, rfl, hj1, hj2, hb2⟩ := hrel
          have hG2 := Lib.hid (hG.out.ext hb2)
          by_cases hj : j < 5
          · go_wp2_with fail
            refine (scope_any _ _ _ _ hG2.out h).mono ?_
            rintro e w1 ⟨rfl, rfl⟩
            go_wp2_with fail
            refine (refScope_any _ _ _ _).mono ?_
            rintro e w2 ⟨rfl, b2⟩
            go_wp2_with fail
            go_roundw
            case rel => exact ⟨j + 1, by go_num, by omega, by omega, Ext.trans hb2 b2⟩
            case measure => simp [intOf]; omega
          · go_wp2_with fail
            refine (special_any _ _ _ hG2.out h).mono ?_
            rintro e w1 ⟨rfl, rfl⟩
            go_wp2_with fail
            refine (refSpecial_any _ _ _).mono ?_
            rintro e w2 ⟨rfl, b2⟩
            go_wp2_with fail
            go_roundw
            case rel => exact ⟨i + 1, by go_num, by omega, by omega, Ext.trans hb2 b2⟩
            case measure => simp [intOf]; omega
      · have hG2 := Lib.hid (hG.out.ext hb)
        go_wp2_with fail
        refine (special_any _ _ _ hG2.out h).mono ?_
        rintro e w1 ⟨rfl, rfl⟩
        go_wp2_with fail
        refine (refSpecial_any _ _ _).mono ?_
        rintro e w1 ⟨rfl, b1⟩
        have hG3 := Lib.hid (hG2.out.ext b1)
        go_wp2_with fail
        refine (scope_any _ _ _ _ hG3.out h).mono ?_
        rintro e w2 ⟨rfl, rfl⟩
        go_wp2_with fail
        refine (refScope_any _ _ _ _).mono ?_
        rintro e w2 ⟨rfl, b2⟩
        have hG4 := Lib.hid (hG3.out.ext b2)
        go_wp2_with fail
        refine (formatting_any _ _ hG4.out h).mono ?_
        rintro e w3 ⟨rfl, rfl⟩
        go_wp2_with fail
        refine (refFormatting_any _ _).mono ?_
        rintro e w3 ⟨rfl, b3⟩
        have hG5 := Lib.hid (hG4.out.ext b3)
        go_wp2_with fail
        refine (void_any _ _ hG5.out h).mono ?_
        rintro e w4 ⟨rfl, rfl⟩
        go_wp2_with fail
        refine (refVoid_any _ _).mono ?_
        rintro e w4 ⟨rfl, b4⟩
        have hG6 := Lib.hid (hG5.out.ext b4)
        go_wp2_with fail
        refine (implied_any _ _ hG6.out h).mono ?_
        rintro e w5 ⟨rfl, rfl⟩
        go_wp2_with fail
        refine (refImplied_any _ _).mono ?_
        rintro e w5 ⟨rfl, b5⟩
        have hG7 := Lib.hid (hG6.out.ext b5)
        go_wp2_with fail
        refine (thorough_any _ _ hG7.out h).mono ?_
        rintro e w6 ⟨rfl, rfl⟩
        go_wp2_with fail
        refine (refThorough_any _ _).mono ?_
        rintro e w6 ⟨rfl, b6⟩
        have hG8 := Lib.hid (hG7.out.ext b6)
        go_wp2_with fail
        refine (heading_any _ _ hG8.out h).mono ?_
        rintro e w7 ⟨rfl, rfl⟩
        go_wp2_with fail
        refine (refHeading_any _ _).mono ?_
        rintro e w7 ⟨rfl, rfl⟩
        go_wp2_with fail
        refine (state_any _ _).mono ?_
        rintro e w7 ⟨rfl, rfl⟩
        go_wp2_with fail
        refine (refState_any _ _).mono ?_
        rintro e w7 ⟨rfl, rfl⟩
        go_wp2_with fail
        refine (listed_any _ hG8.out).mono ?_
        rintro e w7 ⟨rfl, rfl⟩
        go_wp2_with fail
        go_ret
        exact ⟨rfl, Ext.trans hb (Ext.trans b1 (Ext.trans b2 (Ext.trans b3 (Ext.trans b4 (Ext.trans b5 b6)))))⟩
  · go_enter Tryd.func3, Tryd.ntmps3
    go_wp2_with fail
    refine (listed_any _ hG.out).mono ?_
    rintro e w5 ⟨rfl, rfl⟩
    go_wp2_with fail
    go_ret
    exact ⟨rfl, Below.refl _ _⟩
end Go.Proofs.YtlbagmmkeekfjaaDoor
