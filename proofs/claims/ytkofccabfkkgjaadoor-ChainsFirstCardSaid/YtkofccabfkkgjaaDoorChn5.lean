/-
  What is proved: the walk of the statement ChainsFirst: it answers true. Conditions: a text that fits, what the package's variables hold.
-/
import Derived.Test.YtkofccabfkkgjaaDoorChnM
namespace Go.Proofs.YtkofccabfkkgjaaDoor
open Go.RowKit

set_option maxHeartbeats 8000000 in
set_option maxRecDepth 100000 in
theorem first_walk (c : Int) (s : List UInt8) (w : World) (G : ChG w) (hc0 : 0 ≤ c) (hc1 : c ≤ 255) (hs : s.length ≤ maxLen) :
    Calls Tryd.prog 5 #[.int .u8 c, .string ⟨⟨s⟩⟩] w fun e w' => e = .returned (.bool true) ∧ Ext w w' := by
  unfold maxLen at hs
  have hK1 : (1 : Int) ≤ 1 + c % 16 := by omega
  have hK2 : 1 + c % 16 ≤ 16 := by omega
  by_cases hlt : 300 < s.length
  · have cf := falls_any w G
    go_enter Tryd.func5, Tryd.ntmps5
    go_wp2_with (go_at_call 11; refine cf.mono ?_; rintro e w1 ⟨rfl, x1⟩)
    go_ret
    exact ⟨rfl, x1⟩
  · obtain ⟨N, hN⟩ : ∃ N, effL (1 + c % 16) = N := ⟨_, rfl⟩
    have hNe := eff_ne hK1 hK2
    have hNl := eff_len (1 + c % 16)
    have q1 := first_name hK1 hK2 s
    have q2 := last_name hK1 hK2
    have ce := fun W G => effective_any (1 + c % 16) W G
    have cn1 := fun W G (h : (N ++ ([32, 120, 59] ++ s)).length < 100000) => named28_any (N ++ ([32, 120, 59] ++ s)) (1 + c % 16) W G h
    have cn2 := fun W G (h : ([100, 101, 102, 97, 117, 108, 116, 45, 115, 114, 99, 32, 121, 59, 32, 120, 45] ++ N).length < 100000) => named28_any ([100, 101, 102, 97, 117, 108, 116, 45, 115, 114, 99, 32, 121, 59, 32, 120, 45] ++ N) (1 + c % 16) W G h
    rw [hN] at hNe hNl q1 q2 ce
    rw [q1] at cn1
    rw [q2] at cn2
    simp only [List.cons_append, List.nil_append] at cn1 cn2
    have HN := Lib.hid hN
    clear hN q1 q2
    obtain ⟨M, hM⟩ : ∃ M, lastC (1 + c % 16) = M := ⟨_, rfl⟩
    rw [hM] at cn2
    have hMd : M = if 1 + c % 16 = 15 ∨ 1 + c % 16 = 16 then [] else [100, 101, 102, 97, 117, 108, 116, 45, 115, 114, 99] := hM.symm
    clear hM
    have eN : (N == N) = true := by simp
    have eM : (M == M) = true := by simp
    by_cases h15 : 1 + c % 16 = 15
    · have e15 : ((1 + c % 16 : Int) != 15) = false := by rw [h15]; rfl
      rw [if_pos (.inl h15)] at hMd
      subst hMd
      clear h15
      go_enter Tryd.func5, Tryd.ntmps5
      go_wp2_with (go_at_call 13; refine (ce _ G).mono ?_; rintro e w1 ⟨rfl, rfl⟩)
      refine (cn1 _ G (by simp; omega)).mono ?_
      rintro e w1 ⟨rfl, x1⟩
      go_wp2_with fail
      refine (cn2 _ (G.ext x1) (by simp; omega)).mono ?_
      rintro e w2 ⟨rfl, x2⟩
      go_wp2_with fail
      refine (falls_any _ (G.ext (Ext.trans x1 x2))).mono ?_
      rintro e w3 ⟨rfl, x3⟩
      go_wp2_with fail
      go_ret
      exact ⟨rfl, Ext.trans (Ext.trans x1 x2) x3⟩
    · have e15 : ((1 + c % 16 : Int) != 15) = true := by rw [bne_iff_ne]; exact h15
      by_cases h16 : 1 + c % 16 = 16
      · have e16 : ((1 + c % 16 : Int) != 16) = false := by rw [h16]; rfl
        rw [if_pos (.inr h16)] at hMd
        subst hMd
        clear h16 h15
        go_enter Tryd.func5, Tryd.ntmps5
        go_wp2_with (go_at_call 13; refine (ce _ G).mono ?_; rintro e w1 ⟨rfl, rfl⟩)
        refine (cn1 _ G (by simp; omega)).mono ?_
        rintro e w1 ⟨rfl, x1⟩
        go_wp2_with fail
        refine (cn2 _ (G.ext x1) (by simp; omega)).mono ?_
        rintro e w2 ⟨rfl, x2⟩
        go_wp2_with fail
        refine (falls_any _ (G.ext (Ext.trans x1 x2))).mono ?_
        rintro e w3 ⟨rfl, x3⟩
        go_wp2_with fail
        go_ret
        exact ⟨rfl, Ext.trans (Ext.trans x1 x2) x3⟩
      · have e16 : ((1 + c % 16 : Int) != 16) = true := by rw [bne_iff_ne]; exact h16
        rw [if_neg (by rintro (h | h); exact h15 h; exact h16 h)] at hMd
        subst hMd
        clear h16 h15
        go_enter Tryd.func5, Tryd.ntmps5
        go_wp2_with (go_at_call 13; refine (ce _ G).mono ?_; rintro e w1 ⟨rfl, rfl⟩)
        refine (cn1 _ G (by simp; omega)).mono ?_
        rintro e w1 ⟨rfl, x1⟩
        go_wp2_with fail
        refine (cn2 _ (G.ext x1) (by simp; omega)).mono ?_
        rintro e w2 ⟨rfl, x2⟩
        go_wp2_with fail
        refine (falls_any _ (G.ext (Ext.trans x1 x2))).mono ?_
        rintro e w3 ⟨rfl, x3⟩
        go_wp2_with fail
        go_ret
        exact ⟨rfl, Ext.trans (Ext.trans x1 x2) x3⟩
end Go.Proofs.YtkofccabfkkgjaaDoor
