/-
  What is proved: the walk of the statement PolicyText: it answers true. Conditions: a text that fits, what the package's variable holds.
-/
import Derived.Test.YtghafpkkmeibgaaDoorSay
import Derived.Test.YtghafpkkmeibgaaDoorMtaR
import Derived.Test.YtghafpkkmeibgaaDoorLstR
namespace Go.Proofs.YtghafpkkmeibgaaDoor
open Go.RowKit

set_option maxHeartbeats 8000000 in
set_option maxRecDepth 100000 in
theorem text_walk (s : List UInt8) (rep : Bool) (w : World) (hm : MaxIs w) (hs : s.length ≤ maxLen) :
    Calls Tryd.prog 3 #[.string ⟨⟨s⟩⟩, .bool rep] w fun e w' => e = .returned (.bool true) ∧ Ext w w' := by
  unfold maxLen at hs
  by_cases g1 : 4000 < s.length
  · go_enter Tryd.func3, Tryd.ntmps3
    go_wp2_with (go_at_call 15; refine (says_any _ hm).mono ?_; rintro e w1 ⟨rfl, x1⟩)
    go_ret
    exact ⟨rfl, x1⟩
  · have hsl : s.length < 100000 := by omega
    have c1 := fun W hM => meta_any s W hM hsl
    have c2 := fun W => metaR_any s W hsl
    have c3 := fun W hM => one_any s W hM hsl
    have c4 := fun W => oneR_any s W hsl
    have c5 := fun W hM => list_any s rep W hM hsl
    have c6 := fun W => listR_any s rep W hsl
    have hol := one_len s
    have hll : (polsL s rep).length ≤ 4001 := by have := list_count s; unfold polsL; rw [List.length_map]; omega
    obtain ⟨D, hD⟩ : ∃ D, oneL s = D := ⟨_, rfl⟩
    rw [hD] at c1 c2 c3 c4 hol
    obtain ⟨M, hM⟩ : ∃ M, metaL D = M := ⟨_, rfl⟩
    rw [hM] at c1 c2
    obtain ⟨L, hL⟩ : ∃ L, polsL s rep = L := ⟨_, rfl⟩
    rw [hL] at c5 c6 hll
    have e1 : ((!M.isEmpty) == (!M.isEmpty)) = true := by simp
    obtain ⟨ok, hok⟩ : ∃ ok, (!M.isEmpty) = ok := ⟨_, rfl⟩
    have c1' : ∀ W, MaxIs W → Calls Tryd.prog 16 #[.string ⟨⟨s⟩⟩] W fun e w' => ∃ a cap, e = .returned (.tuple #[.agg #[.slice a M.length cap, .bool false], .bool ok]) ∧ DirsAt w' (.slice a M.length cap) M ∧ Ext W w' := fun W h => by rw [← hok]; exact c1 W h
    have c2' : ∀ W, Calls Tryd.prog 17 #[.string ⟨⟨s⟩⟩] W fun e w' => ∃ a cap, e = .returned (.tuple #[.agg #[.slice a M.length cap, .bool false], .bool ok]) ∧ DirsAt w' (.slice a M.length cap) M ∧ Ext W w' := fun W => by rw [← hok]; exact c2 W
    have e2 : (ok == ok) = true := by simp
    clear hD hM hL hok c1 c2 e1
    go_enter Tryd.func3, Tryd.ntmps3
    go_wp2_with fail
    refine (c1' _ hm).mono ?_
    rintro e w1 ⟨a1, p1, rfl, h1, x1⟩
    have x1b : Ext w1 (w1.alloc (.cells #[.slice a1 M.length p1, .bool false] 25)) := (Below.refl _ _).alloc (Nat.le_refl _) _
    have P1 : PolCell (w1.alloc (.cells #[.slice a1 M.length p1, .bool false] 25)) w1.heap.size a1 M.length p1 false M := ⟨cells_of_lit (heap_alloc_new w1 _) 0, cells_of_lit (heap_alloc_new w1 _) 1, h1.ext x1b⟩
    have y1 := Ext.trans x1 x1b
    go_wp2_with fail
    refine (c2' _).mono ?_
    rintro e w2 ⟨a2, p2, rfl, h2, x2⟩
    have x2b : Ext w2 (w2.alloc (.cells #[.slice a2 M.length p2, .bool false] 25)) := (Below.refl _ _).alloc (Nat.le_refl _) _
    have P2 : PolCell (w2.alloc (.cells #[.slice a2 M.length p2, .bool false] 25)) w2.heap.size a2 M.length p2 false M := ⟨cells_of_lit (heap_alloc_new w2 _) 0, cells_of_lit (heap_alloc_new w2 _) 1, h2.ext x2b⟩
    have P1' := (P1.ext x2).ext x2b
    have y2 := Ext.trans y1 (Ext.trans x2 x2b)
    have s1 := P1'.lst
    have s2 := P1'.rep
    have s3 := P2.lst
    have s4 := P2.rep
    clear h1 h2 x1 x1b P1 x2
    go_wp2_with fail
    refine (same_true _ _ false M _ P1'.dirs P2.dirs).mono ?_
    rintro e w3 ⟨rfl, x3⟩
    have y3 := Ext.trans y2 x3
    clear s1 s2 s3 s4
    go_wp2_with fail
    refine (c3 _ (hm.ext y3)).mono ?_
    rintro e w4 ⟨v4, rfl, o4, x4⟩
    have h4 := o4.dirs (by unfold maxLen; omega)
    obtain ⟨a4, p4, rfl⟩ := o4.len
    have y4 := Ext.trans y3 x4
    go_wp2_with fail
    refine (c4 _).mono ?_
    rintro e w5 ⟨v5, rfl, o5, x5⟩
    have h5 := o5.dirs (by unfold maxLen; omega)
    obtain ⟨a5, p5, rfl⟩ := o5.len
    have y5 := Ext.trans y4 x5
    go_wp2_with fail
    refine (same_true _ _ false D _ (h4.ext x5) h5).mono ?_
    rintro e w6 ⟨rfl, x6⟩
    have y6 := Ext.trans y5 x6
    go_wp2_with fail
    refine (c5 _ (hm.ext y6)).mono ?_
    rintro e w7 ⟨v7, rfl, o7, x7⟩
    have h7 := o7.pols (by unfold maxLen; omega)
    obtain ⟨a7, p7, rfl⟩ := o7.len
    have y7 := Ext.trans y6 x7
    go_wp2_with fail
    refine (c6 _).mono ?_
    rintro e w8 ⟨v8, rfl, o8, x8⟩
    have h8 := o8.pols (by unfold maxLen; omega)
    obtain ⟨a8, p8, rfl⟩ := o8.len
    have y8 := Ext.trans y7 x8
    go_wp2_with fail
    refine (all_true _ _ L _ (h7.ext x8) h8).mono ?_
    rintro e w9 ⟨rfl, x9⟩
    have y9 := Ext.trans y8 x9
    go_wp2_with fail
    refine (says_any _ (hm.ext y9)).mono ?_
    rintro e w10 ⟨rfl, x10⟩
    go_wp2_with fail
    go_ret
    exact ⟨rfl, Ext.trans y9 x10⟩
end Go.Proofs.YtghafpkkmeibgaaDoor
