/-
  What is proved: the chapter's examples hold of the program ('signs' of the statements of layer 6). No condition.
-/
import Derived.Test.YtdohpkdfmceimaaPctF
import Derived.Test.YtdohpkdfmceimaaPctG
namespace Go.Proofs.Ytdohpkdfmceimaa
open Go.RowKit

set_option maxHeartbeats 400000 in
theorem signs_any (w : World) : Calls Try.prog 7 #[] w fun e w' => e = .returned (.bool true) ∧ Below w.heap.size w w' := by
  have d1 : dec [37, 52, 49, 37, 52] = [65, 37, 52] := by decide +kernel
  have d2 : dec [37, 122, 122, 37, 50, 37, 54, 50] = [37, 122, 122, 37, 50, 98] := by decide +kernel
  have d3 : enc 4 [97, 32, 98, 47, 37, 195, 169] = [97, 37, 50, 48, 98, 47, 37, 37, 67, 51, 37, 65, 57] := by decide +kernel
  have d4 : enc 6 [97, 32, 98, 47, 37, 195, 169] = [97, 37, 50, 48, 98, 37, 50, 70, 37, 50, 53, 37, 67, 51, 37, 65, 57] := by decide +kernel
  have d5 : enc 7 [97] = [] := by decide +kernel
  go_enter Try.func7, Try.ntmps7
  go_wp2_with fail
  refine (dec_any _ _ (by decide)).mono ?_
  rintro e w1 ⟨rfl, b1⟩
  go_wp2_with fail
  refine (dec_any _ _ (by decide)).mono ?_
  rintro e w2 ⟨rfl, b2⟩
  go_wp2_with fail
  refine (enc_any _ _ _ (by decide)).mono ?_
  rintro e w3 ⟨rfl, b3⟩
  go_wp2_with fail
  refine (enc_any _ _ _ (by decide)).mono ?_
  rintro e w4 ⟨rfl, b4⟩
  go_wp2_with fail
  refine (enc_any _ _ _ (by decide)).mono ?_
  rintro e w5 ⟨rfl, b5⟩
  go_wp2_with fail
  go_ret
  exact ⟨rfl, Ext.trans b1 (Ext.trans b2 (Ext.trans b3 (Ext.trans b4 b5)))⟩

set_option maxHeartbeats 400000 in
theorem tell_walk (l : List UInt8) (k : Int) (w : World) (hs : l.length ≤ maxLen) :
    Calls Try.prog 3 #[.string ⟨⟨l⟩⟩, .int .i64 k] w fun e w' => e = .returned (.bool true) ∧ Below w.heap.size w w' := by
  unfold maxLen at hs
  by_cases h : l.length ≤ 2000
  · go_enter Try.func3, Try.ntmps3
    go_wp2_with fail
    go_loopw [5] (fun i wr => ∃ n : Nat, i = .int .i64 n ∧ n ≤ 7 ∧ Below w.heap.size w wr) (fun i _ => 7 - (intOf i).toNat)
    case atStart => exact ⟨0, rfl, by omega, Below.refl _ _⟩
    case round =>
      obtain ⟨n, rfl, hn, hb⟩ := hrel
      by_cases h7 : n < 7
      · go_wp2_with fail
        refine (enc_any _ _ _ (by omega)).mono ?_
        rintro e w1 ⟨rfl, b1⟩
        go_wp2_with fail
        refine (refEnc_any _ _ _ (by omega)).mono ?_
        rintro e w2 ⟨rfl, b2⟩
        go_wp2_with fail
        go_roundw
        case rel => exact ⟨n + 1, by go_num, by omega, Ext.trans hb (Ext.trans b1 b2)⟩
        case measure => simp [intOf]; omega
      · go_wp2_with fail
        refine (dec_any _ _ (by omega)).mono ?_
        rintro e w1 ⟨rfl, b1⟩
        go_wp2_with fail
        refine (refDec_any _ _ (by omega)).mono ?_
        rintro e w2 ⟨rfl, b2⟩
        go_wp2_with fail
        refine (enc_any _ _ _ (by omega)).mono ?_
        rintro e w3 ⟨rfl, b3⟩
        go_wp2_with fail
        refine (refEnc_any _ _ _ (by omega)).mono ?_
        rintro e w4 ⟨rfl, b4⟩
        go_wp2_with fail
        refine (signs_any _).mono ?_
        rintro e w5 ⟨rfl, b5⟩
        go_wp2_with fail
        go_ret
        exact ⟨rfl, Ext.trans (Ext.below hb hb.size b1) (Ext.trans b2 (Ext.trans b3 (Ext.trans b4 b5)))⟩
  · go_enter Try.func3, Try.ntmps3
    go_wp2_with fail
    refine (signs_any _).mono ?_
    rintro e w5 ⟨rfl, b5⟩
    go_wp2_with fail
    go_ret
    exact ⟨rfl, b5⟩
end Go.Proofs.Ytdohpkdfmceimaa
