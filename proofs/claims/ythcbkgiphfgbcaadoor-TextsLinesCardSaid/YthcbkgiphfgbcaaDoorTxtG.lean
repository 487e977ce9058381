/-
  What is proved: the chapter's examples, and the walk of TextsTell. Condition: the package's table holds what its text lays.
-/
import Derived.Test.YthcbkgiphfgbcaaDoorTxtD
import Derived.Test.YthcbkgiphfgbcaaDoorTxtF
namespace Go.Proofs.YthcbkgiphfgbcaaDoor
open Go.RowKit

/-- What holds of the world from call to call. -/
def St (w0 w : World) : Prop := Ext w0 w ∧ LeadsIs w ∧ MaxIs w
theorem St.next {w0 w w' : World} (h : St w0 w) (k : Ext w w') : St w0 w' := ⟨Ext.trans h.1 k, h.2.1.ext k, h.2.2.ext k⟩
theorem decode_st (w0 : World) (l : List UInt8) (w : World) (h : St w0 w) (hl : l.length < 20000) :
    Calls Tryd.prog 8 #[.string ⟨⟨l⟩⟩] w fun e w' => e = .returned (.string ⟨⟨decB (unmark l)⟩⟩) ∧ St w0 w' :=
  (decode_any l w hl h.2.1).mono fun _ _ ⟨a, b⟩ => ⟨a, h.next b⟩
theorem lines_st (w0 : World) (l : List UInt8) (w : World) (h : St w0 w) (hl : l.length < 20000) :
    Calls Tryd.prog 10 #[.string ⟨⟨l⟩⟩] w fun e w' => e = .returned (.string ⟨⟨linesB l⟩⟩) ∧ St w0 w' :=
  (lines_any l w hl h.2.2).mono fun _ _ ⟨a, b⟩ => ⟨a, h.next b⟩
theorem decode_is (w0 : World) (l r : List UInt8) (w : World) (h : St w0 w) (hl : l.length < 20000) (hr : decB (unmark l) = r) :
    Calls Tryd.prog 8 #[.string ⟨⟨l⟩⟩] w fun e w' => e = .returned (.string ⟨⟨r⟩⟩) ∧ St w0 w' := by
  subst hr; exact decode_st w0 l w h hl
theorem lines_is (w0 : World) (l r : List UInt8) (w : World) (h : St w0 w) (hl : l.length < 20000) (hr : linesB l = r) :
    Calls Tryd.prog 10 #[.string ⟨⟨l⟩⟩] w fun e w' => e = .returned (.string ⟨⟨r⟩⟩) ∧ St w0 w' := by
  subst hr; exact lines_st w0 l w h hl
set_option maxHeartbeats 1000000 in
theorem shown_st (w0 w : World) (h : St w0 w) : Calls Tryd.prog 7 #[] w fun e w' => e = .returned (.bool true) ∧ St w0 w' := by
  go_enter Tryd.func7, Tryd.ntmps7
  go_wp2_with fail
  refine (decode_is w0 _ [97, 239, 187, 191] _ h (by decide) (by decide +kernel)).mono ?_
  rintro e w1 ⟨rfl, h1⟩
  go_wp2_with fail
  refine (decode_is w0 _ [239, 191, 189, 239, 191, 189, 97] _ h1 (by decide) (by decide +kernel)).mono ?_
  rintro e w2 ⟨rfl, h2⟩
  go_wp2_with fail
  refine (decode_is w0 _ [239, 191, 189] _ h2 (by decide) (by decide +kernel)).mono ?_
  rintro e w3 ⟨rfl, h3⟩
  go_wp2_with fail
  refine (decode_is w0 _ [239, 191, 189, 97] _ h3 (by decide) (by decide +kernel)).mono ?_
  rintro e w4 ⟨rfl, h4⟩
  go_wp2_with fail
  refine (decode_is w0 _ [239, 191, 189, 239, 191, 189, 239, 191, 189] _ h4 (by decide) (by decide +kernel)).mono ?_
  rintro e w5 ⟨rfl, h5⟩
  go_wp2_with fail
  refine (decode_is w0 _ [239, 191, 189] _ h5 (by decide) (by decide +kernel)).mono ?_
  rintro e w6 ⟨rfl, h6⟩
  go_wp2_with fail
  refine (lines_is w0 _ [97, 10, 10, 98, 10, 10] _ h6 (by decide) (by decide +kernel)).mono ?_
  rintro e w7 ⟨rfl, h7⟩
  go_wp2_with fail
  go_ret
  exact ⟨rfl, h7⟩
set_option maxHeartbeats 1000000 in
theorem tell_walk (l : List UInt8) (w : World) (hL : LeadsIs w) (hM : MaxIs w) (hs : l.length ≤ maxLen) :
    Calls Tryd.prog 3 #[.string ⟨⟨l⟩⟩] w fun e w' => e = .returned (.bool true) ∧ Below w.heap.size w w' := by
  have h : St w w := ⟨Ext.refl _, hL, hM⟩
  clear hL hM
  unfold maxLen at hs
  by_cases hl : l.length ≤ 3000
  · go_enter Tryd.func3, Tryd.ntmps3
    go_wp2_with fail
    refine (decode_st w _ _ h (by omega)).mono ?_
    rintro e w1 ⟨rfl, h1⟩
    go_wp2_with fail
    refine (refDecode_any _ _ (by omega)).mono ?_
    rintro e w2 ⟨rfl, x2⟩
    have h2 := h1.next x2
    go_wp2_with fail
    refine (lines_st w _ _ h2 (by omega)).mono ?_
    rintro e w3 ⟨rfl, h3⟩
    go_wp2_with fail
    refine (refLines_any _ _ (by omega)).mono ?_
    rintro e w4 ⟨rfl, rfl⟩
    go_wp2_with fail
    refine (shown_st w _ h3).mono ?_
    rintro e w5 ⟨rfl, h5⟩
    go_wp2_with fail
    go_ret
    exact ⟨rfl, h5.1⟩
  · go_enter Tryd.func3, Tryd.ntmps3
    go_wp2_with fail
    refine (shown_st w _ h).mono ?_
    rintro e w5 ⟨rfl, h5⟩
    go_wp2_with fail
    go_ret
    exact ⟨rfl, h5.1⟩
end Go.Proofs.YthcbkgiphfgbcaaDoor
