/-
  What is proved: the walk of the statement TrustedMore: it answers true. Conditions: texts and a list that fit, what the package's variable holds.
-/
import Derived.Test.YtkofccabfkkgjaaDoorTruF
import Derived.Test.YtkofccabfkkgjaaDoorChnM
namespace Go.Proofs.YtkofccabfkkgjaaDoor
open Go.RowKit

def mx1 : List UInt8 := [116, 114, 117, 115, 116, 101, 100, 45, 116, 121, 112, 101, 115, 32, 120, 32, 121]
def mx2 : List UInt8 := [116, 114, 117, 115, 116, 101, 100, 45, 116, 121, 112, 101, 115, 32, 120, 32, 121, 32, 122]
def mx3 : List UInt8 := [114, 101, 113, 117, 105, 114, 101, 45, 116, 114, 117, 115, 116, 101, 100, 45, 116, 121, 112, 101, 115, 45, 102, 111, 114, 32, 39, 115, 99, 114, 105, 112, 116, 39, 32]
theorem mx1_parse : parseN (oneL mx1) = ⟨[[120], [121]], false, false⟩ := namesL_eq (by decide +kernel)
theorem mx2_parse : parseN (oneL mx2) = ⟨[[120], [121], [122]], false, false⟩ := namesL_eq (by decide +kernel)
theorem mx_has : hasN (oneL mx1) = true ∧ hasN (oneL mx2) = true := by decide +kernel
theorem more_creates (n : List UInt8) (there : List (List UInt8)) : (!createsN (oneL mx1) n there || createsN (oneL mx2) n there) = true := by
  unfold createsN
  rw [mx_has.1, mx_has.2, mx1_parse, mx2_parse]
  cases there.contains n
  · simp only [Bool.false_and, Bool.false_or, if_true, if_false, Bool.false_eq_true]
    cases h : ([[120], [121]] : List (List UInt8)).contains n
    · rfl
    · have : ([[120], [121], [122]] : List (List UInt8)).contains n = true := by
        rw [List.contains_iff_mem] at h ⊢
        simp only [List.mem_cons, List.not_mem_nil, or_false] at h ⊢
        rcases h with h | h
        · exact .inl h
        · exact .inr (.inl h)
      rw [this]
      rfl
  · rfl
theorem more_requires (s : List UInt8) : requiresN (oneL (mx3 ++ 59 :: s)) = true := by
  have f1 : (59 : UInt8) ∉ mx3 := by decide
  rw [one_cons f1]
  obtain ⟨more, hm⟩ := fold_pre (splitL 59 s) (addD [] mx3)
  have f2 : (findD (addD [] mx3) rtL).map (·.vals) = some [scL] := by decide +kernel
  obtain ⟨d, hd, hv⟩ := Option.map_eq_some_iff.1 f2
  rw [hm]
  unfold requiresN
  rw [find_app hd more]
  show (d.vals.any fun s => lowL s == scL) = true
  rw [hv]
  decide
set_option maxHeartbeats 8000000 in
set_option maxRecDepth 100000 in
theorem more29_walk (s n : List UInt8) (tv : Value) (there : List (List UInt8)) (w : World) (hm : MaxIs w) (hs : s.length ≤ maxLen) (hn : n.length ≤ maxLen) (K : StrsAt w tv there) :
    Calls Tryd.prog 10 #[.string ⟨⟨s⟩⟩, .string ⟨⟨n⟩⟩, tv] w fun e w' => e = .returned (.bool true) ∧ Ext w w' := by
  have htm : there.length ≤ 9223372036854775807 := by obtain ⟨_, _, _, h, _⟩ := K; exact h
  obtain ⟨ta, tc, rfl, _⟩ := K.cells
  unfold maxLen at hs hn
  by_cases g1 : 300 < s.length
  · go_enter Tryd.func10, Tryd.ntmps10
    go_wp2_with (go_at_call 22; refine (types_any _ hm).mono ?_; rintro e w1 ⟨rfl, x1⟩)
    go_ret
    exact ⟨rfl, x1⟩
  · by_cases g2 : 100 < n.length
    · go_enter Tryd.func10, Tryd.ntmps10
      go_wp2_with (go_at_call 22; refine (types_any _ hm).mono ?_; rintro e w1 ⟨rfl, x1⟩)
      go_ret
      exact ⟨rfl, x1⟩
    · by_cases g3 : 10 < there.length
      · go_enter Tryd.func10, Tryd.ntmps10
        go_wp2_with (go_at_call 22; refine (types_any _ hm).mono ?_; rintro e w1 ⟨rfl, x1⟩)
        go_ret
        exact ⟨rfl, x1⟩
      · have o1 := fun W hM => of_any mx1 W hM (by decide)
        have o2 := fun W hM => of_any mx2 W hM (by decide)
        have hl3 : (mx3 ++ 59 :: s).length < 100000 := by
          have : mx3.length = 35 := by decide
          rw [List.length_append, List.length_cons, this]
          omega
        have o3 := fun W hM => of_any (mx3 ++ 59 :: s) W hM hl3
        have s1 : SmallD (oneL mx1) := one_small (by decide)
        have s2 : SmallD (oneL mx2) := one_small (by decide)
        have s3 : SmallD (oneL (mx3 ++ 59 :: s)) := one_small hl3
        have p1 := more_creates n there
        have p7 := more_requires s
        obtain ⟨D1, hD1⟩ : ∃ D, oneL mx1 = D := ⟨_, rfl⟩
        obtain ⟨D2, hD2⟩ : ∃ D, oneL mx2 = D := ⟨_, rfl⟩
        obtain ⟨D3, hD3⟩ : ∃ D, oneL (mx3 ++ 59 :: s) = D := ⟨_, rfl⟩
        rw [hD1] at o1 s1 p1
        rw [hD2] at o2 s2 p1
        rw [hD3] at o3 s3 p7
        have k1 := fun v W H K => creates_any v false D1 n (.slice ta there.length tc) there W H s1 K
        have k2 := fun v W H K => creates_any v false D2 n (.slice ta there.length tc) there W H s2 K
        have k7 := fun v W H => requires_any v false D3 W H s3
        rw [p7] at k7
        obtain ⟨b1, hb1⟩ : ∃ b, createsN D1 n there = b := ⟨_, rfl⟩
        obtain ⟨b2, hb2⟩ : ∃ b, createsN D2 n there = b := ⟨_, rfl⟩
        rw [hb1] at k1 p1
        rw [hb2] at k2 p1
        simp only [mx3, List.cons_append, List.nil_append] at o3
        have P1 := Lib.hid p1
        clear hD1 hD2 hD3 p1 p7 s1 s2 s3 hb1 hb2
        go_enter Tryd.func10, Tryd.ntmps10
        go_wp2_with fail
        refine (o1 _ hm).mono ?_
        rintro e w1 ⟨a1, c1, rfl, h1, x1⟩
        go_wp2_with fail
        refine (k1 _ _ h1 (K.ext x1)).mono ?_
        rintro e w2 ⟨rfl, x2⟩
        have y2 := Ext.trans x1 x2
        go_wp2_with fail
        refine (o2 _ (hm.ext y2)).mono ?_
        rintro e w3 ⟨a3, c3, rfl, h3, x3⟩
        have y3 := Ext.trans y2 x3
        go_wp2_with fail
        refine (k2 _ _ h3 (K.ext y3)).mono ?_
        rintro e w4 ⟨rfl, x4⟩
        have y4 := Ext.trans y3 x4
        cases b1
        · go_wp2_with fail
          refine (o3 _ (hm.ext y4)).mono ?_
          rintro e w5 ⟨a5, c5, rfl, h5, x5⟩
          have y5 := Ext.trans y4 x5
          go_wp2_with fail
          refine (k7 _ _ h5).mono ?_
          rintro e w6 ⟨rfl, x6⟩
          have y6 := Ext.trans y5 x6
          go_wp2_with fail
          refine (types_any _ (hm.ext y6)).mono ?_
          rintro e w7 ⟨rfl, x7⟩
          go_wp2_with fail
          go_ret
          exact ⟨rfl, Ext.trans y6 x7⟩
        · have hb2 : b2 = true := by have := P1.out; simpa using this
          subst hb2
          go_wp2_with fail
          refine (o3 _ (hm.ext y4)).mono ?_
          rintro e w5 ⟨a5, c5, rfl, h5, x5⟩
          have y5 := Ext.trans y4 x5
          go_wp2_with fail
          refine (k7 _ _ h5).mono ?_
          rintro e w6 ⟨rfl, x6⟩
          have y6 := Ext.trans y5 x6
          go_wp2_with fail
          refine (types_any _ (hm.ext y6)).mono ?_
          rintro e w7 ⟨rfl, x7⟩
          go_wp2_with fail
          go_ret
          exact ⟨rfl, Ext.trans y6 x7⟩
end Go.Proofs.YtkofccabfkkgjaaDoor
