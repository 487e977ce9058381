/-
  What is proved: the walk of the statement PolicyBack: it answers true. Conditions: a text that fits, what the package's variable holds.
-/
import Derived.Test.YtghafpkkmeibgaaDoorSay
import Derived.Test.YtghafpkkmeibgaaDoorPolS
namespace Go.Proofs.YtghafpkkmeibgaaDoor
open Go.RowKit

set_option maxHeartbeats 4000000 in
theorem back_walk (s : List UInt8) (w : World) (hm : MaxIs w) (hs : s.length ≤ maxLen) :
    Calls Tryd.prog 4 #[.string ⟨⟨s⟩⟩] w fun e w' => e = .returned (.bool true) ∧ Ext w w' := by
  unfold maxLen at hs
  by_cases g1 : 4000 < s.length
  · go_enter Tryd.func4, Tryd.ntmps4
    go_wp2_with (go_at_call 15; refine (says_any _ hm).mono ?_; rintro e w1 ⟨rfl, x1⟩)
    go_ret
    exact ⟨rfl, x1⟩
  · have hsl : s.length < 100000 := by omega
    have c1 := fun W hM => one_any s W hM hsl
    have hok := one_ok (s := s) (by omega)
    have c2 := fun v W H => text_any v false (oneL s) W H hok
    have htl : (textL (oneL s)).length < 100000 := by have := text_size s; omega
    have c3 := fun W hM => one_any (textL (oneL s)) W hM htl
    rw [one_back] at c3
    have hdl : (oneL s).length ≤ maxLen := by have := one_len s; unfold maxLen; omega
    obtain ⟨D, hD⟩ : ∃ D, oneL s = D := ⟨_, rfl⟩
    rw [hD] at c1 c2 c3 hdl
    obtain ⟨T, hT⟩ : ∃ T, textL D = T := ⟨_, rfl⟩
    rw [hT] at c2 c3
    have HDL := Lib.hid hdl
    have e1 : (T == T) = true := by simp
    clear hok htl hD hT hdl
    go_enter Tryd.func4, Tryd.ntmps4
    go_wp2_with fail
    refine (c1 _ hm).mono ?_
    rintro e w1 ⟨v1, rfl, o1, x1⟩
    have h1 := o1.dirs HDL.out
    obtain ⟨a1, p1, rfl⟩ := o1.len
    go_wp2_with fail
    refine (c2 _ _ h1).mono ?_
    rintro e w2 ⟨rfl, x2⟩
    have y2 := Ext.trans x1 x2
    go_wp2_with fail
    refine (c3 _ (hm.ext y2)).mono ?_
    rintro e w3 ⟨v3, rfl, o3, x3⟩
    have h3 := o3.dirs HDL.out
    obtain ⟨a3, p3, rfl⟩ := o3.len
    have y3 := Ext.trans y2 x3
    go_wp2_with fail
    refine (same_true _ _ false D _ h3 (h1.ext (Ext.trans x2 x3))).mono ?_
    rintro e w4 ⟨rfl, x4⟩
    have y4 := Ext.trans y3 x4
    go_wp2_with fail
    refine (c2 _ _ (h3.ext x4)).mono ?_
    rintro e w5 ⟨rfl, x5⟩
    have y5 := Ext.trans y4 x5
    go_wp2_with fail
    refine (says_any _ (hm.ext y5)).mono ?_
    rintro e w6 ⟨rfl, x6⟩
    go_wp2_with fail
    go_ret
    exact ⟨rfl, Ext.trans y5 x6⟩
end Go.Proofs.YtghafpkkmeibgaaDoor
