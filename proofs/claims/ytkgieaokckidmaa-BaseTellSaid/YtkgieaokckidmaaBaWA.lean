/-
  What is proved: what the law BaseTell computes: true. No condition but that lengths are ints.
-/
import Derived.Test.YtkgieaokckidmaaBasY
import Derived.Test.YtkgieaokckidmaaBasR
import Derived.Test.YtkgieaokckidmaaBasS
import Derived.Test.YtkgieaokckidmaaBasT
namespace Go.Proofs.Ytkgieaokckidmaa
open Go.RowKit

theorem decR2_eq (x : Option (List UInt8)) : decR2 x = decR x := by cases x <;> rfl
set_option maxRecDepth 100000 in
set_option maxHeartbeats 1600000 in
theorem baseTell_walk (l : List UInt8) (w : World) (hs : l.length ≤ maxLen) :
    Calls Try.prog 3 #[.string ⟨⟨l⟩⟩] w fun e w' => e = .returned (.bool true) ∧ Below w.heap.size w w' := by
  unfold maxLen at hs
  by_cases hl : l.length ≤ 2000
  · cases hd : decL l with
    | none =>
      have HD := Lib.hid hd
      have HD2 := Lib.hid (decR2_eq (decL l))
      clear hd
      go_enter Try.func3, Try.ntmps3
      go_wp2_with (first
        | (go_at_call 8; refine (decode_any l _ (by omega)).mono ?_; rintro e w1 ⟨rfl, x1⟩; rw [HD.out]; unfold decR)
        | (go_at_call 9; refine (refDec_any l _ (by omega)).mono ?_; rintro e w2 ⟨rfl, x2⟩; rw [HD2.out, HD.out]; unfold decR)
        | (go_at_call 10; refine (encode_any l _ (by omega)).mono ?_; rintro e w3 ⟨rfl, x3⟩)
        | (go_at_call 11; refine (refEnc_any l _ (by omega)).mono ?_; rintro e w4 ⟨rfl, x4⟩)
        | (go_at_call 12; refine (plain_any l _ (by omega)).mono ?_; rintro e w5 ⟨rfl, x5⟩)
        | (go_at_call 13; refine (refPlain_any l _ (by omega)).mono ?_; rintro e w6 ⟨rfl, x6⟩)
        | (go_at_call 7; refine (lettered_any _).mono ?_; rintro e w7 ⟨rfl, x7⟩))
      go_ret
      exact ⟨rfl, Ext.trans (Ext.trans (Ext.trans (Ext.trans (Ext.trans (Ext.trans x1 x2) x3) x4) x5) x6) x7⟩
    | some u =>
      have HD := Lib.hid hd
      have HD2 := Lib.hid (decR2_eq (decL l))
      clear hd
      go_enter Try.func3, Try.ntmps3
      go_wp2_with (first
        | (go_at_call 8; refine (decode_any l _ (by omega)).mono ?_; rintro e w1 ⟨rfl, x1⟩; rw [HD.out]; unfold decR)
        | (go_at_call 9; refine (refDec_any l _ (by omega)).mono ?_; rintro e w2 ⟨rfl, x2⟩; rw [HD2.out, HD.out]; unfold decR)
        | (go_at_call 10; refine (encode_any l _ (by omega)).mono ?_; rintro e w3 ⟨rfl, x3⟩)
        | (go_at_call 11; refine (refEnc_any l _ (by omega)).mono ?_; rintro e w4 ⟨rfl, x4⟩)
        | (go_at_call 12; refine (plain_any l _ (by omega)).mono ?_; rintro e w5 ⟨rfl, x5⟩)
        | (go_at_call 13; refine (refPlain_any l _ (by omega)).mono ?_; rintro e w6 ⟨rfl, x6⟩)
        | (go_at_call 7; refine (lettered_any _).mono ?_; rintro e w7 ⟨rfl, x7⟩))
      go_ret
      exact ⟨rfl, Ext.trans (Ext.trans (Ext.trans (Ext.trans (Ext.trans (Ext.trans x1 x2) x3) x4) x5) x6) x7⟩
  · go_enter Try.func3, Try.ntmps3
    go_wp2_with (go_at_call 7; refine (lettered_any _).mono ?_; rintro e w7 ⟨rfl, x7⟩)
    go_ret
    exact ⟨rfl, x7⟩
end Go.Proofs.Ytkgieaokckidmaa
