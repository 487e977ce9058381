/-
  What is proved: the walks of the statements AsciiTexts and AsciiBytes, and of the chapter's examples: they answer true. Conditions: texts that fit, what the package's variable holds.
-/
import Derived.Test.YtghafpkkmeibgaaDoorAscR
import Derived.Test.YtghafpkkmeibgaaDoorAscS
import Derived.Test.YtghafpkkmeibgaaDoorFldB
import Derived.Test.YtghafpkkmeibgaaDoorTxs
import Derived.Test.YtghafpkkmeibgaaDoorAlf
namespace Go.Proofs.YtghafpkkmeibgaaDoor
open Go.RowKit

theorem fields_strs (l : List UInt8) (w : World) (hl : l.length < 100000) :
    Calls Tryd.prog 38 #[.string ⟨⟨l⟩⟩] w fun e w' => ∃ v, e = .returned v ∧ StrsAt w' v (fieldsL l) ∧ Ext w w' := by
  refine (fields_any l w hl).mono ?_
  rintro e w' ⟨v, rfl, hown, hx⟩
  exact ⟨v, rfl, hown.strs (by have := fields_count l; unfold maxLen; omega) (fun s hs => by have := fields_each l s hs; unfold maxLen; omega), hx⟩
theorem fieldsR_strs (l : List UInt8) (w : World) (hl : l.length < 100000) :
    Calls Tryd.prog 39 #[.string ⟨⟨l⟩⟩] w fun e w' => ∃ v, e = .returned v ∧ StrsAt w' v (fieldsL l) ∧ Ext w w' := by
  refine (fieldsR_any l w hl).mono ?_
  rintro e w' ⟨v, rfl, hown, hx⟩
  exact ⟨v, rfl, hown.strs (by have := fields_count l; unfold maxLen; omega) (fun s hs => by have := fields_each l s hs; unfold maxLen; omega), hx⟩
theorem commas_strs (l : List UInt8) (w : World) (hm : MaxIs w) (hl : l.length < 100000) :
    Calls Tryd.prog 40 #[.string ⟨⟨l⟩⟩] w fun e w' => ∃ v, e = .returned v ∧ StrsAt w' v (commasL l) ∧ Ext w w' := by
  refine (commas_any l w hm hl).mono ?_
  rintro e w' ⟨v, rfl, hown, hx⟩
  exact ⟨v, rfl, hown.strs (by have := commas_count l; unfold maxLen; omega) (fun s hs => by have := commas_each l s hs; unfold maxLen; omega), hx⟩
theorem commasR_strs (l : List UInt8) (w : World) (hl : l.length < 100000) :
    Calls Tryd.prog 41 #[.string ⟨⟨l⟩⟩] w fun e w' => ∃ v, e = .returned v ∧ StrsAt w' v (commasL l) ∧ Ext w w' := by
  refine (commasR_any l w hl).mono ?_
  rintro e w' ⟨v, rfl, hown, hx⟩
  exact ⟨v, rfl, hown.strs (by have := commas_count l; unfold maxLen; omega) (fun s hs => by have := commas_each l s hs; unfold maxLen; omega), hx⟩
theorem texts_same (u v : Value) (l : List (List UInt8)) (w : World) (H : StrsAt w u l) (K : StrsAt w v l) :
    Calls Tryd.prog 37 #[u, v] w fun e w' => e = .returned (.bool true) ∧ Ext w w' := by
  have c := texts_any u v l l w H K
  have e : (l == l) = true := by simp
  rwa [e] at c
set_option maxHeartbeats 4000000 in
theorem spelt_any (w : World) (hm : MaxIs w) : Calls Tryd.prog 32 #[] w fun e w' => e = .returned (.bool true) ∧ Ext w w' := by
  have c1 : ∀ W, Calls Tryd.prog 45 #[.int .u8 70] W (TwoRes (.int .i64 15) (.bool true) W) := fun W => hex_any 70 W
  have c2 : ∀ W, Calls Tryd.prog 45 #[.int .u8 103] W (TwoRes (.int .i64 0) (.bool false) W) := fun W => hex_any 103 W
  have c3 := fun W => Lower_any [65, 98, 90, 91] W (by decide)
  rw [show lowL [65, 98, 90, 91] = [97, 98, 122, 91] from by decide] at c3
  have c4 := fun W => same_any [65, 97] [97, 65] W (by decide) (by decide)
  rw [show (lowL [65, 97] == lowL [97, 65]) = true from by decide] at c4
  have c5 := fun W => same_any [75] [226, 132, 170] W (by decide) (by decide)
  rw [show (lowL [75] == lowL [226, 132, 170]) = false from by decide] at c5
  have c6 := fun W => strip_any [32, 97, 9, 98, 99, 13] W (by decide)
  rw [show stripL [32, 97, 9, 98, 99, 13] = [97, 9, 98, 99] from by decide] at c6
  have c7 := fun W => fields_strs [32, 97, 9, 98, 99, 13] W (by decide)
  rw [show fieldsL [32, 97, 9, 98, 99, 13] = [[97], [98, 99]] from by decide] at c7
  have c8 := fun W hM => commas_strs [32, 97, 44, 44, 98, 32, 99, 44] W hM (by decide)
  rw [show commasL [32, 97, 44, 44, 98, 32, 99, 44] = [[97], [98, 32, 99]] from by decide] at c8
  go_enter Tryd.func32, Tryd.ntmps32
  go_wp2_with fail
  refine (c1 _).mono ?_
  rintro e w1 ⟨rfl, rfl⟩
  go_wp2_with fail
  refine (c2 _).mono ?_
  rintro e w1 ⟨rfl, rfl⟩
  go_wp2_with fail
  refine (c3 _).mono ?_
  rintro e w3 ⟨rfl, x3⟩
  go_wp2_with fail
  refine (c4 _).mono ?_
  rintro e w4 ⟨rfl, x4⟩
  have y4 := Ext.trans x3 x4
  go_wp2_with fail
  refine (c5 _).mono ?_
  rintro e w5 ⟨rfl, x5⟩
  have y5 := Ext.trans y4 x5
  go_wp2_with fail
  refine (c6 _).mono ?_
  rintro e w6 ⟨rfl, x6⟩
  have y6 := Ext.trans y5 x6
  go_wp2_with fail
  refine (c7 _).mono ?_
  rintro e w7 ⟨v7, rfl, h7, x7⟩
  have y7 := Ext.trans y6 x7
  go_wp2_with fail
  have l7 : Ext w7 (w7.alloc (.cells (Array.mk (strCells [[97], [98, 99]])) 9)) := (Below.refl _ _).alloc (Nat.le_refl _) _
  have t7 := (OwnS.lit w7 [[97], [98, 99]] 2 rfl (by decide)).strs (by decide) (by decide)
  refine (texts_same _ _ _ _ (h7.ext l7) t7).mono ?_
  rintro e w8 ⟨rfl, x8⟩
  have y8 := Ext.trans y7 (Ext.trans l7 x8)
  go_wp2_with fail
  refine (c8 _ (hm.ext y8)).mono ?_
  rintro e w9 ⟨v9, rfl, h9, x9⟩
  have y9 := Ext.trans y8 x9
  go_wp2_with fail
  have l9 : Ext w9 (w9.alloc (.cells (Array.mk (strCells [[97], [98, 32, 99]])) 9)) := (Below.refl _ _).alloc (Nat.le_refl _) _
  have t9 := (OwnS.lit w9 [[97], [98, 32, 99]] 2 rfl (by decide)).strs (by decide) (by decide)
  refine (texts_same _ _ _ _ (h9.ext l9) t9).mono ?_
  rintro e w10 ⟨rfl, x10⟩
  go_wp2_with fail
  go_ret
  exact ⟨rfl, Ext.trans y9 (Ext.trans l9 x10)⟩
set_option maxHeartbeats 4000000 in
theorem bytes_walk (c : UInt8) (w : World) (hm : MaxIs w) : Calls Tryd.prog 13 #[.int .u8 c.toNat] w fun e w' => e = .returned (.bool true) ∧ Ext w w' := by
  have c1 := fun W => hex_any c W
  have c2 := fun W => refHex_any c W
  obtain ⟨h, hh⟩ : ∃ h, hexN c = h := ⟨_, rfl⟩
  obtain ⟨b, hb⟩ : ∃ b, isHex c = b := ⟨_, rfl⟩
  rw [hh, hb] at c1 c2
  have c3 := fun W => space_any c W
  have c4 := fun W => spaceR_any c W
  obtain ⟨s, hs⟩ : ∃ s, spB c = s := ⟨_, rfl⟩
  rw [hs] at c3 c4
  have c5 := fun W => alpha_any c W
  have c6 := fun W => refAlpha_any c W
  obtain ⟨a, ha⟩ : ∃ a, alphaB c = a := ⟨_, rfl⟩
  rw [ha] at c5 c6
  have c7 := fun W => digit_any c W
  have c8 := fun W => refDigit_any c W
  obtain ⟨d, hd⟩ : ∃ d, digB c = d := ⟨_, rfl⟩
  rw [hd] at c7 c8
  clear hh hb hs ha hd
  have e1 : ((h : Int) == (h : Int)) = true := by simp
  have e2 : (b == b) = true := by simp
  have e3 : (s == s) = true := by simp
  have e4 : (a == a) = true := by simp
  have e5 : (d == d) = true := by simp
  go_enter Tryd.func13, Tryd.ntmps13
  go_wp2_with fail
  refine (c1 _).mono ?_
  rintro e w1 ⟨rfl, rfl⟩
  go_wp2_with fail
  refine (c2 _).mono ?_
  rintro e w1 ⟨rfl, rfl⟩
  go_wp2_with fail
  refine (c3 _).mono ?_
  rintro e w1 ⟨rfl, rfl⟩
  go_wp2_with fail
  refine (c4 _).mono ?_
  rintro e w1 ⟨rfl, rfl⟩
  go_wp2_with fail
  refine (c5 _).mono ?_
  rintro e w1 ⟨rfl, rfl⟩
  go_wp2_with fail
  refine (c6 _).mono ?_
  rintro e w1 ⟨rfl, rfl⟩
  go_wp2_with fail
  refine (c7 _).mono ?_
  rintro e w1 ⟨rfl, rfl⟩
  go_wp2_with fail
  refine (c8 _).mono ?_
  rintro e w1 ⟨rfl, rfl⟩
  go_wp2_with fail
  refine (spelt_any _ hm).mono ?_
  rintro e w1 ⟨rfl, x1⟩
  go_wp2_with fail
  go_ret
  exact ⟨rfl, x1⟩
theorem bytes_walkI (a : Int) (h0 : 0 ≤ a) (h1 : a ≤ 255) (w : World) (hm : MaxIs w) : Calls Tryd.prog 13 #[.int .u8 a] w fun e w' => e = .returned (.bool true) ∧ Ext w w' := by
  obtain ⟨n, rfl⟩ := Int.eq_ofNat_of_zero_le h0
  have h := bytes_walk (UInt8.ofNat n) w hm
  have e : (UInt8.ofNat n).toNat = n := by simp; omega
  rwa [e] at h
set_option maxHeartbeats 4000000 in
theorem asciiTexts_walk (s t : List UInt8) (w : World) (hm : MaxIs w) (hs : s.length ≤ maxLen) (ht : t.length ≤ maxLen) :
    Calls Tryd.prog 10 #[.string ⟨⟨s⟩⟩, .string ⟨⟨t⟩⟩] w fun e w' => e = .returned (.bool true) ∧ Ext w w' := by
  have hs0 := hs
  have ht0 := ht
  unfold maxLen at hs ht
  by_cases g1 : 2000 < s.length
  · go_enter Tryd.func10, Tryd.ntmps10
    go_wp2_with (go_at_call 32; refine (spelt_any _ hm).mono ?_; rintro e w1 ⟨rfl, x1⟩)
    go_ret
    exact ⟨rfl, x1⟩
  · by_cases g2 : 2000 < t.length
    · go_enter Tryd.func10, Tryd.ntmps10
      go_wp2_with (go_at_call 32; refine (spelt_any _ hm).mono ?_; rintro e w1 ⟨rfl, x1⟩)
      go_ret
      exact ⟨rfl, x1⟩
    · have hsl : s.length < 100000 := by omega
      have htl : t.length < 100000 := by omega
      have c1 := fun W => Lower_any s W hsl
      have c2 := fun W => lowR_any s W hsl
      have c3 := fun W => strip_any s W hsl
      have c4 := fun W => stripR_any s W hsl
      have c5 := fun W => fields_strs s W hsl
      have c6 := fun W => fieldsR_strs s W hsl
      have c7 := fun W hM => commas_strs s W hM hsl
      have c8 := fun W => commasR_strs s W hsl
      have c9 := fun W => same_any s t W hs0 ht0
      have c10 := fun W => sameR_any s t W hsl htl
      obtain ⟨L, hL⟩ : ∃ L, lowL s = L := ⟨_, rfl⟩
      rw [hL] at c1 c2
      obtain ⟨q, hq⟩ : ∃ q, (lowL s == lowL t) = q := ⟨_, rfl⟩
      rw [hq] at c9 c10
      obtain ⟨R, hR⟩ : ∃ R, stripL s = R := ⟨_, rfl⟩
      rw [hR] at c3 c4
      obtain ⟨F, hF⟩ : ∃ F, fieldsL s = F := ⟨_, rfl⟩
      rw [hF] at c5 c6
      obtain ⟨C, hC⟩ : ∃ C, commasL s = C := ⟨_, rfl⟩
      rw [hC] at c7 c8
      clear hL hq hR hF hC
      have e1 : (L == L) = true := by simp
      have e2 : (R == R) = true := by simp
      have e3 : (q == q) = true := by simp
      go_enter Tryd.func10, Tryd.ntmps10
      go_wp2_with fail
      refine (c1 _).mono ?_
      rintro e w1 ⟨rfl, x1⟩
      go_wp2_with fail
      refine (c2 _).mono ?_
      rintro e w2 ⟨rfl, x2⟩
      have y2 := Ext.trans x1 x2
      go_wp2_with fail
      refine (c3 _).mono ?_
      rintro e w3 ⟨rfl, x3⟩
      have y3 := Ext.trans y2 x3
      go_wp2_with fail
      refine (c4 _).mono ?_
      rintro e w4 ⟨rfl, rfl⟩
      go_wp2_with fail
      refine (c5 _).mono ?_
      rintro e w5 ⟨v5, rfl, h5, x5⟩
      have y5 := Ext.trans y3 x5
      go_wp2_with fail
      refine (c6 _).mono ?_
      rintro e w6 ⟨v6, rfl, h6, x6⟩
      have y6 := Ext.trans y5 x6
      go_wp2_with fail
      refine (texts_same _ _ _ _ (h5.ext x6) h6).mono ?_
      rintro e w7 ⟨rfl, x7⟩
      have y7 := Ext.trans y6 x7
      go_wp2_with fail
      refine (c7 _ (hm.ext y7)).mono ?_
      rintro e w8 ⟨v8, rfl, h8, x8⟩
      have y8 := Ext.trans y7 x8
      go_wp2_with fail
      refine (c8 _).mono ?_
      rintro e w9 ⟨v9, rfl, h9, x9⟩
      have y9 := Ext.trans y8 x9
      go_wp2_with fail
      refine (texts_same _ _ _ _ (h8.ext x9) h9).mono ?_
      rintro e w10 ⟨rfl, x10⟩
      have y10 := Ext.trans y9 x10
      go_wp2_with fail
      refine (c9 _).mono ?_
      rintro e w11 ⟨rfl, x11⟩
      have y11 := Ext.trans y10 x11
      go_wp2_with fail
      refine (c10 _).mono ?_
      rintro e w12 ⟨rfl, x12⟩
      have y12 := Ext.trans y11 x12
      go_wp2_with fail
      refine (spelt_any _ (hm.ext y12)).mono ?_
      rintro e w13 ⟨rfl, x13⟩
      go_wp2_with fail
      go_ret
      exact ⟨rfl, Ext.trans y12 x13⟩
end Go.Proofs.YtghafpkkmeibgaaDoor
