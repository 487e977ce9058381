/-
  What is proved: refs.Find: the reference at a place. A contract. Conditions: the text's size; the program's table holds what its text lays.
-/
import Derived.Test.YtbolajljfkjfaaaDoorRefT
namespace Go.Proofs.YtbolajljfkjfaaaDoor
open Go.RowKit

/-- A call that hands back a text, a number and a truth. -/
def Res3 (r : List UInt8 × Nat × Bool) (w : World) (e : Ending) (w' : World) : Prop :=
  e = .returned (.tuple #[.string ⟨⟨r.1⟩⟩, .int .i64 r.2.1, .bool r.2.2]) ∧ Ext w w'
theorem res3_eq {r r' : List UInt8 × Nat × Bool} {w w' : World} {e : Ending} (h : r = r') (k : e = .returned (.tuple #[.string ⟨⟨r'.1⟩⟩, .int .i64 r'.2.1, .bool r'.2.2]) ∧ Ext w w') : Res3 r w e w' := by rw [h]; exact k
theorem getD_get {l : List UInt8} {i : Nat} (h : i < l.length) : l.getD i 0 = l[i] := by
  rw [List.getD_eq_getElem?_getD, List.getElem?_eq_getElem h]; rfl
theorem find_off {s : List UInt8} {k : Nat} {attr : Bool} (h : ¬ (k < s.length ∧ s.getD k 0 = 38)) : findB s k attr = ([], 0, false) := by
  unfold findB; rw [if_neg h]
theorem find_num {s : List UInt8} {k : Nat} {attr : Bool} (h : k < s.length) (h1 : s[k] = 38) (h2 : ([35] : List UInt8).isPrefixOf (s.drop (k + 1)) = true) :
    findB s k attr = if (numB (s.drop (k + 1 + 1))).2 = 0 then ([], 0, false) else ((numB (s.drop (k + 1 + 1))).1, k + 1 + 1 + (numB (s.drop (k + 1 + 1))).2, true) := by
  unfold findB
  rw [if_pos ⟨h, by rw [getD_get h]; exact h1⟩, if_pos h2]
theorem find_name {s : List UInt8} {k : Nat} {attr : Bool} (h : k < s.length) (h1 : s[k] = 38) (h2 : ([35] : List UInt8).isPrefixOf (s.drop (k + 1)) = false) :
    findB s k attr = if (bestF (s.drop (k + 1))).2 = 0 then ([], 0, false) else if shut s attr (k + 1 + (bestF (s.drop (k + 1))).2) then ([], 0, false) else ((bestF (s.drop (k + 1))).1, k + 1 + (bestF (s.drop (k + 1))).2, true) := by
  unfold findB
  rw [if_pos ⟨h, by rw [getD_get h]; exact h1⟩, h2]
  rfl
theorem hash_at {s : List UInt8} {k : Nat} (h : ([35] : List UInt8).isPrefixOf (s.drop k) = true) : ∃ h' : k < s.length, s[k] = 35 := by
  rw [List.isPrefixOf_iff_prefix] at h
  obtain ⟨t, ht⟩ := h
  have hk : k < s.length := by
    apply Classical.byContradiction
    intro hk
    rw [List.drop_eq_nil_of_le (by omega)] at ht
    cases ht
  refine ⟨hk, ?_⟩
  rw [drop_cons hk] at ht
  simp only [List.cons_append, List.cons.injEq] at ht
  exact ht.1.symm
theorem OthersIs.ext {w w' : World} (h : OthersIs w) (k : Ext w w') (hs : 3 < w.heap.size) : OthersIs w' := fun i hi => by
  rw [← h i hi]
  exact k.cell (p := ⟨3, i, none⟩) hs
set_option maxRecDepth 100000 in
set_option maxHeartbeats 1000000 in
theorem find_neg (s : List UInt8) (i : Int) (attr : Bool) (w : World) (hi : i < 0) :
    Calls Tryd.prog 66 #[.string ⟨⟨s⟩⟩, .int .i64 i, .bool attr] w (Res3 ([], 0, false) w) := by
  go_enter Tryd.func66, Tryd.ntmps66
  go_wp2_with fail
  go_ret3
  exact ⟨rfl, Ext.refl _⟩
set_option maxRecDepth 100000 in
set_option maxHeartbeats 1000000 in
theorem find_none (s : List UInt8) (k : Nat) (attr : Bool) (w : World) (hk : ¬ (k < s.length ∧ s.getD k 0 = 38)) :
    Calls Tryd.prog 66 #[.string ⟨⟨s⟩⟩, .int .i64 k, .bool attr] w (Res3 ([], 0, false) w) := by
  by_cases hlt : k < s.length
  · have hc : ((s[k].toNat : Int) != 38) = true := by
      have h2 : s[k] ≠ 38 := fun e => hk ⟨hlt, by rw [getD_get hlt]; exact e⟩
      have h3 : s[k].toNat ≠ (38 : UInt8).toNat := fun e => h2 (UInt8.toNat_inj.1 e)
      have h4 : (38 : UInt8).toNat = 38 := rfl
      simp only [bne_iff_ne, ne_eq]
      omega
    clear hk
    go_enter Tryd.func66, Tryd.ntmps66
    go_wp2_with fail
    go_ret3
    exact ⟨rfl, Ext.refl _⟩
  · have hge : (s.length : Int) ≤ k := by omega
    clear hk hlt
    go_enter Tryd.func66, Tryd.ntmps66
    go_wp2_with fail
    go_ret3
    exact ⟨rfl, Ext.refl _⟩
theorem shut_off (s : List UInt8) (n : Nat) : shut s false n = false := by
  unfold shut; rfl
/-- The test as the walk spells it. -/
theorem shutI {s : List UInt8} {k m : Nat} (h : k + m < s.length) : shut s true (k + 1 + m) = (!decide ((s[k + m].toNat : Int) = 59) && (if h3 : k + 1 + m < s.length then (decide ((s[k + 1 + m].toNat : Int) = 61) || alphaB s[k + 1 + m] || digB s[k + 1 + m]) else false)) := by
  unfold shut
  have e0 : k + 1 + m - 1 = k + m := by omega
  rw [e0, getD_get h]
  have key : ∀ c d : UInt8, (c == d) = decide ((c.toNat : Int) = d.toNat) := fun c d => by
    rw [Bool.eq_iff_iff, beq_iff_eq, decide_eq_true_eq, ← UInt8.toNat_inj]
    omega
  have e1 : (s[k + m] != 59) = !decide ((s[k + m].toNat : Int) = 59) := by
    show (!(s[k + m] == 59)) = _
    rw [key]; rfl
  rw [e1]
  by_cases h3 : k + 1 + m < s.length
  · rw [getD_get h3, dif_pos h3]
    unfold goesOn
    rw [key]
    simp only [h3, decide_true, Bool.and_true, Bool.true_and]
    rfl
  · simp [h3]
theorem named_best (s : List UInt8) (w : World) (hs : s.length ≤ 100000) : Calls Tryd.prog 85 #[.string ⟨⟨s⟩⟩] w fun e w' => e = .returned (.tuple #[.string ⟨⟨(bestF s).1⟩⟩, .int .i64 (bestF s).2]) ∧ Ext w w' :=
  (named_any s w hs).mono fun e w' ⟨t, m, he, hb, hx⟩ => by
    rw [best_is hb]
    exact ⟨he, hx⟩
set_option maxRecDepth 100000 in
set_option maxHeartbeats 1000000 in
theorem find_hash (s : List UInt8) (k : Nat) (attr : Bool) (w : World) (hl : s.length < 100000) (hw : OthersIs w) (hlt : k < s.length) (h1 : s[k] = 38) (h2 : ([35] : List UInt8).isPrefixOf (s.drop (k + 1)) = true) :
    Calls Tryd.prog 66 #[.string ⟨⟨s⟩⟩, .int .i64 k, .bool attr] w (Res3 (findB s k attr) w) := by
  have HF := Lib.hid (find_num (attr := attr) hlt h1 h2)
  obtain ⟨hlt2, h3⟩ := hash_at h2
  have hc : ((s[k].toNat : Int) != 38) = false := by rw [h1]; rfl
  have hc2 : ((s[k + 1].toNat : Int) == 38) = false := by rw [h3]; rfl
  have hnl : (numB (s.drop (k + 1 + 1))).2 ≤ s.length := by
    have := numB_le (s.drop (k + 1 + 1))
    simp only [List.length_drop] at this
    omega
  have HH := Lib.hid h2
  have HW := Lib.hid hw
  clear hw h1 h2 h3
  by_cases h0 : (numB (s.drop (k + 1 + 1))).2 = 0
  · have h0b : (((numB (s.drop (k + 1 + 1))).2 : Int) == 0) = true := by simpa using h0
    have H0 := Lib.hid h0
    clear h0
    go_enter Tryd.func66, Tryd.ntmps66
    go_wp2_with (go_at_call 67; refine (hasPrefix_any _ _ _).mono ?_; rintro e w' ⟨rfl, rfl⟩; rw [HH.out])
    refine (number_any _ _ HW.out (by simp; omega)).mono ?_
    rintro e w1 ⟨rfl, rfl⟩
    go_wp2_with fail
    go_ret3
    rw [HF.out, if_pos H0.out]
    exact ⟨rfl, Ext.refl _⟩
  · have h0b : (((numB (s.drop (k + 1 + 1))).2 : Int) == 0) = false := by simpa using h0
    have H0 := Lib.hid h0
    clear h0
    cases attr
    all_goals
      go_enter Tryd.func66, Tryd.ntmps66
      go_wp2_with (go_at_call 67; refine (hasPrefix_any _ _ _).mono ?_; rintro e w' ⟨rfl, rfl⟩; rw [HH.out])
      refine (number_any _ _ HW.out (by simp; omega)).mono ?_
      rintro e w1 ⟨rfl, rfl⟩
      go_wp2_with fail
      go_ret3
      rw [HF.out, if_neg H0.out]
      exact ⟨by first | rfl | (congr 2; go_num), Ext.refl _⟩
set_option maxRecDepth 100000 in
set_option maxHeartbeats 1000000 in
theorem find_word (s : List UInt8) (k : Nat) (attr : Bool) (w : World) (hl : s.length < 100000) (hlt : k < s.length) (h1 : s[k] = 38) (h2 : ([35] : List UInt8).isPrefixOf (s.drop (k + 1)) = false) :
    Calls Tryd.prog 66 #[.string ⟨⟨s⟩⟩, .int .i64 k, .bool attr] w (Res3 (findB s k attr) w) := by
  have HF := Lib.hid (find_name (attr := attr) hlt h1 h2)
  have hc : ((s[k].toNat : Int) != 38) = false := by rw [h1]; rfl
  have hc2 : ((s[k].toNat : Int) == 38) = true := by rw [h1]; rfl
  have hnl : (bestF (s.drop (k + 1))).2 + k + 1 ≤ s.length := by
    have := bestF_le (s.drop (k + 1))
    simp only [List.length_drop] at this
    omega
  have HH := Lib.hid h2
  clear h1 h2
  by_cases h0 : (bestF (s.drop (k + 1))).2 = 0
  · have h0b : (((bestF (s.drop (k + 1))).2 : Int) == 0) = true := by simpa using h0
    have H0 := Lib.hid h0
    clear h0
    go_enter Tryd.func66, Tryd.ntmps66
    go_wp2_with (go_at_call 67; refine (hasPrefix_any _ _ _).mono ?_; rintro e w' ⟨rfl, rfl⟩; rw [HH.out])
    refine (named_best _ _ (by simp; omega)).mono ?_
    rintro e w1 ⟨rfl, x1⟩
    go_wp2_with fail
    go_ret3
    rw [HF.out, if_pos H0.out]
    exact ⟨rfl, x1⟩
  · have h0b : (((bestF (s.drop (k + 1))).2 : Int) == 0) = false := by simpa using h0
    have h0p : 0 < (bestF (s.drop (k + 1))).2 := by omega
    have H0 := Lib.hid h0
    clear h0
    obtain ⟨m, hm⟩ : ∃ m, (bestF (s.drop (k + 1))).2 = m := ⟨_, rfl⟩
    rw [hm] at hnl h0b h0p H0 HF
    have HM := Lib.hid hm
    clear hm
    cases attr
    · go_enter Tryd.func66, Tryd.ntmps66
      go_wp2_with (go_at_call 67; refine (hasPrefix_any _ _ _).mono ?_; rintro e w' ⟨rfl, rfl⟩; rw [HH.out])
      refine (named_best _ _ (by simp; omega)).mono ?_
      rw [HM.out]
      rintro e w1 ⟨rfl, x1⟩
      go_wp2_with fail
      go_ret3
      rw [HF.out, if_neg H0.out]
      exact ⟨by first | rfl | (congr 2; go_num), x1⟩
    · go_enter Tryd.func66, Tryd.ntmps66
      go_wp2_with (go_at_call 67; refine (hasPrefix_any _ _ _).mono ?_; rintro e w' ⟨rfl, rfl⟩; rw [HH.out])
      refine (named_best _ _ (by simp; omega)).mono ?_
      rw [HM.out]
      rintro e w1 ⟨rfl, x1⟩
      go_wp2_with (first
        | (go_at_call 87; refine (alpha_any _ _).mono ?_; rintro e w' ⟨rfl, rfl⟩)
        | (go_at_call 88; refine (digit_any _ _).mono ?_; rintro e w' ⟨rfl, rfl⟩))
      all_goals
        go_ret3
        first
          | (have h3 : k + 1 + m < s.length := by omega
             have hs : shut s true (k + 1 + m) = true := by rw [shutI (by omega), dif_pos h3]; clear HF H0 hc hc2 hnl h0b HM; first | (simp [*]; done) | simp_all
             rw [HF.out, if_neg H0.out, if_pos hs]
             exact ⟨rfl, x1⟩)
          | (have h3 : k + 1 + m < s.length := by omega
             have hs : ¬ shut s true (k + 1 + m) = true := by rw [shutI (by omega), dif_pos h3]; clear HF H0 hc hc2 hnl h0b HM; first | (simp [*]; done) | simp_all
             rw [HF.out, if_neg H0.out, if_neg hs]
             exact ⟨by first | rfl | (congr 2; go_num), x1⟩)
          | (have h3 : ¬ k + 1 + m < s.length := by omega
             have hs : ¬ shut s true (k + 1 + m) = true := by rw [shutI (by omega), dif_neg h3]; simp
             rw [HF.out, if_neg H0.out, if_neg hs]
             exact ⟨by first | rfl | (congr 2; go_num), x1⟩)
          | (have hs : ¬ shut s true (k + 1 + m) = true := by rw [shutI (by omega)]; simp [*]
             rw [HF.out, if_neg H0.out, if_neg hs]
             exact ⟨by first | rfl | (congr 2; go_num), x1⟩)
theorem refsFind_any (s : List UInt8) (i : Int) (attr : Bool) (w : World) (hl : s.length < 100000) (hw : OthersIs w) :
    Calls Tryd.prog 66 #[.string ⟨⟨s⟩⟩, .int .i64 i, .bool attr] w (Res3 (findI s i attr) w) := by
  unfold findI
  by_cases hi : i < 0
  · rw [if_pos hi]
    exact find_neg s i attr w hi
  · rw [if_neg hi]
    obtain ⟨k, rfl⟩ : ∃ k : Nat, i = k := ⟨i.toNat, by omega⟩
    rw [Int.toNat_natCast]
    by_cases hk : k < s.length ∧ s.getD k 0 = 38
    · obtain ⟨hk, hc⟩ := hk
      rw [getD_get hk] at hc
      cases hp : ([35] : List UInt8).isPrefixOf (s.drop (k + 1))
      · exact find_word s k attr w hl hk hc hp
      · exact find_hash s k attr w hl hw hk hc hp
    · rw [find_off hk]
      exact find_none s k attr w hk
end Go.Proofs.YtbolajljfkjfaaaDoor
