/-
  What is proved: the reference of layer 9: the reference at a place: a contract. Condition: the text's size.
-/
import Derived.Test.YtbolajljfkjfaaaDoorRefG
import Derived.Test.YtbolajljfkjfaaaDoorRefH
namespace Go.Proofs.YtbolajljfkjfaaaDoor
open Go.RowKit

theorem begins_at (s t : List UInt8) (i : Int) (k : Nat) (w : World) (h0 : i = k) (hk : k ≤ s.length) (hl : s.length < 100000) (ht : t.length < 100000) :
    Calls Tryd.prog 69 #[.string ⟨⟨s⟩⟩, .int .i64 i, .string ⟨⟨t⟩⟩] w fun e w' => e = .returned (.bool (t.isPrefixOf (s.drop k))) ∧ w = w' := by
  subst h0
  exact begins_any s t k w hk hl ht
theorem amp_hash {s : List UInt8} {k : Nat} (h : k < s.length) (h1 : s[k] = 38) : ([38, 35] : List UInt8).isPrefixOf (s.drop k) = ([35] : List UInt8).isPrefixOf (s.drop (k + 1)) := by
  rw [drop_cons h, h1]
  simp [List.isPrefixOf]
set_option maxRecDepth 100000 in
set_option maxHeartbeats 1000000 in
theorem refFind_neg (s : List UInt8) (i : Int) (attr : Bool) (w : World) (hi : i < 0) :
    Calls Tryd.prog 46 #[.string ⟨⟨s⟩⟩, .int .i64 i, .bool attr] w (Res3 ([], 0, false) w) := by
  go_enter Tryd.func46, Tryd.ntmps46
  go_wp2_with fail
  go_ret3
  exact ⟨rfl, Ext.refl _⟩
set_option maxRecDepth 100000 in
set_option maxHeartbeats 1000000 in
theorem refFind_none (s : List UInt8) (k : Nat) (attr : Bool) (w : World) (hk : ¬ (k < s.length ∧ s.getD k 0 = 38)) :
    Calls Tryd.prog 46 #[.string ⟨⟨s⟩⟩, .int .i64 k, .bool attr] w (Res3 ([], 0, false) w) := by
  by_cases hlt : k < s.length
  · have hc : ((s[k].toNat : Int) != 38) = true := by
      have h2 : s[k] ≠ 38 := fun e => hk ⟨hlt, by rw [getD_get hlt]; exact e⟩
      have h3 : s[k].toNat ≠ (38 : UInt8).toNat := fun e => h2 (UInt8.toNat_inj.1 e)
      have h4 : (38 : UInt8).toNat = 38 := rfl
      simp only [bne_iff_ne, ne_eq]
      omega
    clear hk
    go_enter Tryd.func46, Tryd.ntmps46
    go_wp2_with fail
    go_ret3
    exact ⟨rfl, Ext.refl _⟩
  · have hge : (s.length : Int) ≤ k := by omega
    clear hk hlt
    go_enter Tryd.func46, Tryd.ntmps46
    go_wp2_with fail
    go_ret3
    exact ⟨rfl, Ext.refl _⟩
/-- What the loop over digits holds: the place, the number, how many digits. -/
def NumRel (b o : Nat) (s : List UInt8) (k i n m : Nat) : Prop := i = k + 2 + o + m ∧ DigRel b o (s.drop (k + 2)) (o + m) n
theorem NumRel.le {b o : Nat} {s : List UInt8} {k i n m : Nat} (h : NumRel b o s k i n m) (hk : k + 2 ≤ s.length) : i ≤ s.length ∧ n ≤ 1114112 ∧ m ≤ s.length := by
  obtain ⟨e, h⟩ := h
  have h1 := h.2.1
  have h2 := h.2.2.1
  simp only [List.length_drop] at h1
  omega
theorem NumRel.get {b o : Nat} {s : List UInt8} {k i n m : Nat} (h : NumRel b o s k i n m) (hi : i < s.length) : ∃ h' : o + m < (s.drop (k + 2)).length, (s.drop (k + 2))[o + m] = s[i] := by
  obtain ⟨rfl, h⟩ := h
  refine ⟨by simp only [List.length_drop]; omega, ?_⟩
  rw [List.getElem_drop]
  congr 1
  omega
theorem NumRel.more {b o : Nat} {s : List UInt8} {k i n m : Nat} (h : NumRel b o s k i n m) (hi : i < s.length) (h1 : isHex s[i] = true) (h2 : hexN s[i] < b) : NumRel b o s k (i + 1) (min (b * n + hexN s[i]) 1114112) (m + 1) := by
  obtain ⟨h', e⟩ := h.get hi
  rw [← e] at h1 h2 ⊢
  exact ⟨by have := h.1; omega, digRel_more h.2 h' h1 h2⟩
theorem NumRel.stop {b o : Nat} {s : List UInt8} {k i n m : Nat} (h : NumRel b o s k i n m) (hi : i < s.length) (h1 : isHex s[i] = false ∨ b ≤ hexN s[i]) : digs b ((s.drop (k + 2)).drop (o + m)) n = (n, 0) := by
  obtain ⟨h', e⟩ := h.get hi
  rw [← e] at h1
  exact digs_stop h' h1
theorem NumRel.over {b o : Nat} {s : List UInt8} {k i n m : Nat} (h : NumRel b o s k i n m) (hi : ¬ i < s.length) : digs b ((s.drop (k + 2)).drop (o + m)) n = (n, 0) :=
  digs_end (by have := h.1; simp only [List.length_drop]; omega)
theorem NumRel.none {b o : Nat} {s : List UInt8} {k i n : Nat} {attr : Bool} (h : NumRel b o s k i n 0) (hd : digs b ((s.drop (k + 2)).drop (o + 0)) n = (n, 0)) (hB : numB (s.drop (k + 2)) = numAt b o (s.drop (k + 2)))
    (hF : findB s k attr = if (numB (s.drop (k + 1 + 1))).2 = 0 then ([], 0, false) else ((numB (s.drop (k + 1 + 1))).1, k + 1 + 1 + (numB (s.drop (k + 1 + 1))).2, true)) : findB s k attr = ([], 0, false) := by
  rw [hF]
  show (if (numB (s.drop (k + 2))).2 = 0 then _ else _) = _
  rw [hB, numAt_none h.2 hd rfl, if_pos rfl]
theorem NumRel.some {b o : Nat} {s : List UInt8} {k i n m : Nat} {attr : Bool} (h : NumRel b o s k i n m) (hd : digs b ((s.drop (k + 2)).drop (o + m)) n = (n, 0)) (hm : 0 < m) (hB : numB (s.drop (k + 2)) = numAt b o (s.drop (k + 2)))
    (hF : findB s k attr = if (numB (s.drop (k + 1 + 1))).2 = 0 then ([], 0, false) else ((numB (s.drop (k + 1 + 1))).1, k + 1 + 1 + (numB (s.drop (k + 1 + 1))).2, true)) : findB s k attr = (charB n, i + semiN (s.drop i), true) := by
  rw [hF]
  show (if (numB (s.drop (k + 2))).2 = 0 then _ else ((numB (s.drop (k + 2))).1, k + 2 + (numB (s.drop (k + 2))).2, true)) = _
  rw [hB, numAt_some h.2 hd (by omega), if_neg (by simp only; omega), List.drop_drop]
  have e : k + 2 + (o + m) = i := by have := h.1; omega
  simp only [← Nat.add_assoc] at e ⊢
  rw [e]
theorem min_ref10 (n d : Nat) : (if 1114112 < (n : Int) * 10 + d then 1114112 else (n : Int) * 10 + d) = ((min (10 * n + d) 1114112 : Nat) : Int) := by split <;> omega
theorem min_ref16 (n d : Nat) : (if 1114112 < (n : Int) * 16 + d then 1114112 else (n : Int) * 16 + d) = ((min (16 * n + d) 1114112 : Nat) : Int) := by split <;> omega
set_option maxRecDepth 100000 in
set_option maxHeartbeats 2000000 in
theorem refFind_10 (s : List UInt8) (k : Nat) (attr : Bool) (w : World) (hl : s.length < 100000) (hlt : k < s.length) (h1 : s[k] = 38) (h2 : ([35] : List UInt8).isPrefixOf (s.drop (k + 1)) = true) (hx : xP (s.drop (k + 2)) = false) :
    Calls Tryd.prog 46 #[.string ⟨⟨s⟩⟩, .int .i64 k, .bool attr] w (Res3 (findB s k attr) w) := by
  have HF := Lib.hid (find_num (attr := attr) hlt h1 h2)
  obtain ⟨hlt2, h3⟩ := hash_at h2
  have hc : ((s[k].toNat : Int) != 38) = false := by rw [h1]; rfl
  have hp := amp_hash hlt h1
  rw [h2] at hp
  have HH := Lib.hid hp
  have HB : Hid (numB (s.drop (k + 2)) = numAt 10 0 (s.drop (k + 2))) := Lib.hid (by unfold numB; rw [hx]; rfl)
  unfold xP at hx
  rw [Bool.or_eq_false_iff] at hx
  obtain ⟨hx1, hx2⟩ := hx
  have X1 := Lib.hid hx1
  have X2 := Lib.hid hx2
  clear hx1 hx2
  clear h1 h2 h3 hp
  go_enter Tryd.func46, Tryd.ntmps46
  go_wp2_with (first
    | (go_at_call 69; (first | refine (begins_at _ _ _ k _ (by omega) (by omega) hl (by decide)).mono ?_ | refine (begins_at _ _ _ (k + 2) _ (by omega) (by omega) hl (by decide)).mono ?_); rintro e w' ⟨rfl, rfl⟩; first | rw [HH.out] | rw [X1.out] | rw [X2.out])
    | fail)
  go_loop [10, 11, 12] (fun si sn sm => ∃ (i n m : Nat), si = .int .i64 i ∧ sn = .int .i64 n ∧ sm = .int .i64 m ∧ NumRel 10 0 s k i n m) (fun si _ _ => s.length - (intOf si).toNat)
  case atStart => exact ⟨k + 2 + 0, 0, 0, by first | rfl | go_num, rfl, rfl, rfl, digRel_start (by simp only [List.length_drop]; omega)⟩
  case round =>
    obtain ⟨i, n, m, rfl, rfl, rfl, hr⟩ := hrel
    obtain ⟨hi1, hn1, hm1⟩ := hr.le (by omega)
    have HR := Lib.hid hr
    clear hr
    by_cases hi : i < s.length
    · cases h1 : isHex s[i]
      · have H1 := Lib.hid h1
        have HS := Lib.hid (HR.out.stop hi (.inl h1))
        clear h1
        by_cases hm0 : m = 0
        · subst hm0
          have HA := Lib.hid (HR.out.none HS.out HB.out HF.out)
          go_wp2_with (go_at_call 70; refine (refHex_any _ _).mono ?_; rintro e w' ⟨rfl, rfl⟩; rw [H1.out])
          go_ret3
          rw [HA.out]
          exact ⟨rfl, Ext.refl _⟩
        · have hm1 : 0 < m := by omega
          have HA := Lib.hid (HR.out.some HS.out hm1 HB.out HF.out)
          cases hs : ([59] : List UInt8).isPrefixOf (s.drop i)
          all_goals
            have HT := Lib.hid hs
            clear hs
            go_wp2_with (first
              | (go_at_call 70; refine (refHex_any _ _).mono ?_; rintro e w' ⟨rfl, rfl⟩; rw [H1.out])
              | (go_at_call 69; refine (begins_any _ _ _ _ hi1 hl (by decide)).mono ?_; rintro e w' ⟨rfl, rfl⟩; rw [HT.out])
              | (go_at_call 71; refine (refChar_any _ _ hn1).mono ?_; rintro e w' ⟨rfl, rfl⟩))
            go_ret3
            rw [HA.out, semiN, HT.out]
            exact ⟨by first | rfl | (congr 2; go_num), Ext.refl _⟩
      · have H1 := Lib.hid h1
        by_cases h2 : hexN s[i] < 10
        · have HN := Lib.hid (HR.out.more hi h1 h2)
          have HM := Lib.hid (min_ref10 n (hexN s[i]))
          have h2' : ((hexN s[i] : Nat) : Int) < 10 := by omega
          clear h1 h2
          go_wp2_with (go_at_call 70; refine (refHex_any _ _).mono ?_; rintro e w' ⟨rfl, rfl⟩; rw [H1.out])
          go_round
          case rel => exact ⟨i + 1, _, m + 1, by go_num, int_eq HM.out, by go_num, HN.out⟩
          case measure => simp [intOf]; omega
        · have h2' : (10 : Int) ≤ ((hexN s[i] : Nat) : Int) := by omega
          have HS := Lib.hid (HR.out.stop hi (.inr (by omega)))
          clear h1 h2
          by_cases hm0 : m = 0
          · subst hm0
            have HA := Lib.hid (HR.out.none HS.out HB.out HF.out)
            go_wp2_with (go_at_call 70; refine (refHex_any _ _).mono ?_; rintro e w' ⟨rfl, rfl⟩; rw [H1.out])
            go_ret3
            rw [HA.out]
            exact ⟨rfl, Ext.refl _⟩
          · have hm1 : 0 < m := by omega
            have HA := Lib.hid (HR.out.some HS.out hm1 HB.out HF.out)
            cases hs : ([59] : List UInt8).isPrefixOf (s.drop i)
            all_goals
              have HT := Lib.hid hs
              clear hs
              go_wp2_with (first
                | (go_at_call 70; refine (refHex_any _ _).mono ?_; rintro e w' ⟨rfl, rfl⟩; rw [H1.out])
                | (go_at_call 69; refine (begins_any _ _ _ _ hi1 hl (by decide)).mono ?_; rintro e w' ⟨rfl, rfl⟩; rw [HT.out])
                | (go_at_call 71; refine (refChar_any _ _ hn1).mono ?_; rintro e w' ⟨rfl, rfl⟩))
              go_ret3
              rw [HA.out, semiN, HT.out]
              exact ⟨by first | rfl | (congr 2; go_num), Ext.refl _⟩
    · have HS := Lib.hid (HR.out.over hi)
      have H1 := trivial
      by_cases hm0 : m = 0
      · subst hm0
        have HA := Lib.hid (HR.out.none HS.out HB.out HF.out)
        go_wp2_with (go_at_call 70; refine (refHex_any _ _).mono ?_; rintro e w' ⟨rfl, rfl⟩; rw [H1.out])
        go_ret3
        rw [HA.out]
        exact ⟨rfl, Ext.refl _⟩
      · have hm1 : 0 < m := by omega
        have HA := Lib.hid (HR.out.some HS.out hm1 HB.out HF.out)
        cases hs : ([59] : List UInt8).isPrefixOf (s.drop i)
        all_goals
          have HT := Lib.hid hs
          clear hs
          go_wp2_with (first
            | (go_at_call 70; refine (refHex_any _ _).mono ?_; rintro e w' ⟨rfl, rfl⟩; rw [H1.out])
            | (go_at_call 69; refine (begins_any _ _ _ _ hi1 hl (by decide)).mono ?_; rintro e w' ⟨rfl, rfl⟩; rw [HT.out])
            | (go_at_call 71; refine (refChar_any _ _ hn1).mono ?_; rintro e w' ⟨rfl, rfl⟩))
          go_ret3
          rw [HA.out, semiN, HT.out]
          exact ⟨by first | rfl | (congr 2; go_num), Ext.refl _⟩
set_option maxRecDepth 100000 in
set_option maxHeartbeats 2000000 in
theorem refFind_16a (s : List UInt8) (k : Nat) (attr : Bool) (w : World) (hl : s.length < 100000) (hlt : k < s.length) (h1 : s[k] = 38) (h2 : ([35] : List UInt8).isPrefixOf (s.drop (k + 1)) = true) (hx : ([120] : List UInt8).isPrefixOf (s.drop (k + 2)) = true) (hk3 : k + 3 ≤ s.length) :
    Calls Tryd.prog 46 #[.string ⟨⟨s⟩⟩, .int .i64 k, .bool attr] w (Res3 (findB s k attr) w) := by
  have HF := Lib.hid (find_num (attr := attr) hlt h1 h2)
  obtain ⟨hlt2, h3⟩ := hash_at h2
  have hc : ((s[k].toNat : Int) != 38) = false := by rw [h1]; rfl
  have hp := amp_hash hlt h1
  rw [h2] at hp
  have HH := Lib.hid hp
  have HB : Hid (numB (s.drop (k + 2)) = numAt 16 1 (s.drop (k + 2))) := Lib.hid (by unfold numB xP; rw [hx]; rfl)
  have X1 := Lib.hid hx
  clear hx
  clear h1 h2 h3 hp
  go_enter Tryd.func46, Tryd.ntmps46
  go_wp2_with (first
    | (go_at_call 69; (first | refine (begins_at _ _ _ k _ (by omega) (by omega) hl (by decide)).mono ?_ | refine (begins_at _ _ _ (k + 2) _ (by omega) (by omega) hl (by decide)).mono ?_); rintro e w' ⟨rfl, rfl⟩; first | rw [HH.out] | rw [X1.out])
    | fail)
  go_loop [10, 11, 12] (fun si sn sm => ∃ (i n m : Nat), si = .int .i64 i ∧ sn = .int .i64 n ∧ sm = .int .i64 m ∧ NumRel 16 1 s k i n m) (fun si _ _ => s.length - (intOf si).toNat)
  case atStart => exact ⟨k + 2 + 1, 0, 0, by first | rfl | go_num, rfl, rfl, rfl, digRel_start (by simp only [List.length_drop]; omega)⟩
  case round =>
    obtain ⟨i, n, m, rfl, rfl, rfl, hr⟩ := hrel
    obtain ⟨hi1, hn1, hm1⟩ := hr.le (by omega)
    have HR := Lib.hid hr
    clear hr
    by_cases hi : i < s.length
    · cases h1 : isHex s[i]
      · have H1 := Lib.hid h1
        have HS := Lib.hid (HR.out.stop hi (.inl h1))
        clear h1
        by_cases hm0 : m = 0
        · subst hm0
          have HA := Lib.hid (HR.out.none HS.out HB.out HF.out)
          go_wp2_with (go_at_call 70; refine (refHex_any _ _).mono ?_; rintro e w' ⟨rfl, rfl⟩; rw [H1.out])
          go_ret3
          rw [HA.out]
          exact ⟨rfl, Ext.refl _⟩
        · have hm1 : 0 < m := by omega
          have HA := Lib.hid (HR.out.some HS.out hm1 HB.out HF.out)
          cases hs : ([59] : List UInt8).isPrefixOf (s.drop i)
          all_goals
            have HT := Lib.hid hs
            clear hs
            go_wp2_with (first
              | (go_at_call 70; refine (refHex_any _ _).mono ?_; rintro e w' ⟨rfl, rfl⟩; rw [H1.out])
              | (go_at_call 69; refine (begins_any _ _ _ _ hi1 hl (by decide)).mono ?_; rintro e w' ⟨rfl, rfl⟩; rw [HT.out])
              | (go_at_call 71; refine (refChar_any _ _ hn1).mono ?_; rintro e w' ⟨rfl, rfl⟩))
            go_ret3
            rw [HA.out, semiN, HT.out]
            exact ⟨by first | rfl | (congr 2; go_num), Ext.refl _⟩
      · have H1 := Lib.hid h1
        by_cases h2 : hexN s[i] < 16
        · have HN := Lib.hid (HR.out.more hi h1 h2)
          have HM := Lib.hid (min_ref16 n (hexN s[i]))
          have h2' : ((hexN s[i] : Nat) : Int) < 16 := by omega
          clear h1 h2
          go_wp2_with (go_at_call 70; refine (refHex_any _ _).mono ?_; rintro e w' ⟨rfl, rfl⟩; rw [H1.out])
          go_round
          case rel => exact ⟨i + 1, _, m + 1, by go_num, int_eq HM.out, by go_num, HN.out⟩
          case measure => simp [intOf]; omega
        · have h2' : (16 : Int) ≤ ((hexN s[i] : Nat) : Int) := by omega
          have HS := Lib.hid (HR.out.stop hi (.inr (by omega)))
          clear h1 h2
          by_cases hm0 : m = 0
          · subst hm0
            have HA := Lib.hid (HR.out.none HS.out HB.out HF.out)
            go_wp2_with (go_at_call 70; refine (refHex_any _ _).mono ?_; rintro e w' ⟨rfl, rfl⟩; rw [H1.out])
            go_ret3
            rw [HA.out]
            exact ⟨rfl, Ext.refl _⟩
          · have hm1 : 0 < m := by omega
            have HA := Lib.hid (HR.out.some HS.out hm1 HB.out HF.out)
            cases hs : ([59] : List UInt8).isPrefixOf (s.drop i)
            all_goals
              have HT := Lib.hid hs
              clear hs
              go_wp2_with (first
                | (go_at_call 70; refine (refHex_any _ _).mono ?_; rintro e w' ⟨rfl, rfl⟩; rw [H1.out])
                | (go_at_call 69; refine (begins_any _ _ _ _ hi1 hl (by decide)).mono ?_; rintro e w' ⟨rfl, rfl⟩; rw [HT.out])
                | (go_at_call 71; refine (refChar_any _ _ hn1).mono ?_; rintro e w' ⟨rfl, rfl⟩))
              go_ret3
              rw [HA.out, semiN, HT.out]
              exact ⟨by first | rfl | (congr 2; go_num), Ext.refl _⟩
    · have HS := Lib.hid (HR.out.over hi)
      have H1 := trivial
      by_cases hm0 : m = 0
      · subst hm0
        have HA := Lib.hid (HR.out.none HS.out HB.out HF.out)
        go_wp2_with (go_at_call 70; refine (refHex_any _ _).mono ?_; rintro e w' ⟨rfl, rfl⟩; rw [H1.out])
        go_ret3
        rw [HA.out]
        exact ⟨rfl, Ext.refl _⟩
      · have hm1 : 0 < m := by omega
        have HA := Lib.hid (HR.out.some HS.out hm1 HB.out HF.out)
        cases hs : ([59] : List UInt8).isPrefixOf (s.drop i)
        all_goals
          have HT := Lib.hid hs
          clear hs
          go_wp2_with (first
            | (go_at_call 70; refine (refHex_any _ _).mono ?_; rintro e w' ⟨rfl, rfl⟩; rw [H1.out])
            | (go_at_call 69; refine (begins_any _ _ _ _ hi1 hl (by decide)).mono ?_; rintro e w' ⟨rfl, rfl⟩; rw [HT.out])
            | (go_at_call 71; refine (refChar_any _ _ hn1).mono ?_; rintro e w' ⟨rfl, rfl⟩))
          go_ret3
          rw [HA.out, semiN, HT.out]
          exact ⟨by first | rfl | (congr 2; go_num), Ext.refl _⟩
set_option maxRecDepth 100000 in
set_option maxHeartbeats 2000000 in
theorem refFind_16b (s : List UInt8) (k : Nat) (attr : Bool) (w : World) (hl : s.length < 100000) (hlt : k < s.length) (h1 : s[k] = 38) (h2 : ([35] : List UInt8).isPrefixOf (s.drop (k + 1)) = true) (hx : ([120] : List UInt8).isPrefixOf (s.drop (k + 2)) = false) (hx2 : ([88] : List UInt8).isPrefixOf (s.drop (k + 2)) = true) (hk3 : k + 3 ≤ s.length) :
    Calls Tryd.prog 46 #[.string ⟨⟨s⟩⟩, .int .i64 k, .bool attr] w (Res3 (findB s k attr) w) := by
  have HF := Lib.hid (find_num (attr := attr) hlt h1 h2)
  obtain ⟨hlt2, h3⟩ := hash_at h2
  have hc : ((s[k].toNat : Int) != 38) = false := by rw [h1]; rfl
  have hp := amp_hash hlt h1
  rw [h2] at hp
  have HH := Lib.hid hp
  have HB : Hid (numB (s.drop (k + 2)) = numAt 16 1 (s.drop (k + 2))) := Lib.hid (by unfold numB xP; rw [hx, hx2]; rfl)
  have X1 := Lib.hid hx
  have X2 := Lib.hid hx2
  clear hx hx2
  clear h1 h2 h3 hp
  go_enter Tryd.func46, Tryd.ntmps46
  go_wp2_with (first
    | (go_at_call 69; (first | refine (begins_at _ _ _ k _ (by omega) (by omega) hl (by decide)).mono ?_ | refine (begins_at _ _ _ (k + 2) _ (by omega) (by omega) hl (by decide)).mono ?_); rintro e w' ⟨rfl, rfl⟩; first | rw [HH.out] | rw [X1.out] | rw [X2.out])
    | fail)
  go_loop [10, 11, 12] (fun si sn sm => ∃ (i n m : Nat), si = .int .i64 i ∧ sn = .int .i64 n ∧ sm = .int .i64 m ∧ NumRel 16 1 s k i n m) (fun si _ _ => s.length - (intOf si).toNat)
  case atStart => exact ⟨k + 2 + 1, 0, 0, by first | rfl | go_num, rfl, rfl, rfl, digRel_start (by simp only [List.length_drop]; omega)⟩
  case round =>
    obtain ⟨i, n, m, rfl, rfl, rfl, hr⟩ := hrel
    obtain ⟨hi1, hn1, hm1⟩ := hr.le (by omega)
    have HR := Lib.hid hr
    clear hr
    by_cases hi : i < s.length
    · cases h1 : isHex s[i]
      · have H1 := Lib.hid h1
        have HS := Lib.hid (HR.out.stop hi (.inl h1))
        clear h1
        by_cases hm0 : m = 0
        · subst hm0
          have HA := Lib.hid (HR.out.none HS.out HB.out HF.out)
          go_wp2_with (go_at_call 70; refine (refHex_any _ _).mono ?_; rintro e w' ⟨rfl, rfl⟩; rw [H1.out])
          go_ret3
          rw [HA.out]
          exact ⟨rfl, Ext.refl _⟩
        · have hm1 : 0 < m := by omega
          have HA := Lib.hid (HR.out.some HS.out hm1 HB.out HF.out)
          cases hs : ([59] : List UInt8).isPrefixOf (s.drop i)
          all_goals
            have HT := Lib.hid hs
            clear hs
            go_wp2_with (first
              | (go_at_call 70; refine (refHex_any _ _).mono ?_; rintro e w' ⟨rfl, rfl⟩; rw [H1.out])
              | (go_at_call 69; refine (begins_any _ _ _ _ hi1 hl (by decide)).mono ?_; rintro e w' ⟨rfl, rfl⟩; rw [HT.out])
              | (go_at_call 71; refine (refChar_any _ _ hn1).mono ?_; rintro e w' ⟨rfl, rfl⟩))
            go_ret3
            rw [HA.out, semiN, HT.out]
            exact ⟨by first | rfl | (congr 2; go_num), Ext.refl _⟩
      · have H1 := Lib.hid h1
        by_cases h2 : hexN s[i] < 16
        · have HN := Lib.hid (HR.out.more hi h1 h2)
          have HM := Lib.hid (min_ref16 n (hexN s[i]))
          have h2' : ((hexN s[i] : Nat) : Int) < 16 := by omega
          clear h1 h2
          go_wp2_with (go_at_call 70; refine (refHex_any _ _).mono ?_; rintro e w' ⟨rfl, rfl⟩; rw [H1.out])
          go_round
          case rel => exact ⟨i + 1, _, m + 1, by go_num, int_eq HM.out, by go_num, HN.out⟩
          case measure => simp [intOf]; omega
        · have h2' : (16 : Int) ≤ ((hexN s[i] : Nat) : Int) := by omega
          have HS := Lib.hid (HR.out.stop hi (.inr (by omega)))
          clear h1 h2
          by_cases hm0 : m = 0
          · subst hm0
            have HA := Lib.hid (HR.out.none HS.out HB.out HF.out)
            go_wp2_with (go_at_call 70; refine (refHex_any _ _).mono ?_; rintro e w' ⟨rfl, rfl⟩; rw [H1.out])
            go_ret3
            rw [HA.out]
            exact ⟨rfl, Ext.refl _⟩
          · have hm1 : 0 < m := by omega
            have HA := Lib.hid (HR.out.some HS.out hm1 HB.out HF.out)
            cases hs : ([59] : List UInt8).isPrefixOf (s.drop i)
            all_goals
              have HT := Lib.hid hs
              clear hs
              go_wp2_with (first
                | (go_at_call 70; refine (refHex_any _ _).mono ?_; rintro e w' ⟨rfl, rfl⟩; rw [H1.out])
                | (go_at_call 69; refine (begins_any _ _ _ _ hi1 hl (by decide)).mono ?_; rintro e w' ⟨rfl, rfl⟩; rw [HT.out])
                | (go_at_call 71; refine (refChar_any _ _ hn1).mono ?_; rintro e w' ⟨rfl, rfl⟩))
              go_ret3
              rw [HA.out, semiN, HT.out]
              exact ⟨by first | rfl | (congr 2; go_num), Ext.refl _⟩
    · have HS := Lib.hid (HR.out.over hi)
      have H1 := trivial
      by_cases hm0 : m = 0
      · subst hm0
        have HA := Lib.hid (HR.out.none HS.out HB.out HF.out)
        go_wp2_with (go_at_call 70; refine (refHex_any _ _).mono ?_; rintro e w' ⟨rfl, rfl⟩; rw [H1.out])
        go_ret3
        rw [HA.out]
        exact ⟨rfl, Ext.refl _⟩
      · have hm1 : 0 < m := by omega
        have HA := Lib.hid (HR.out.some HS.out hm1 HB.out HF.out)
        cases hs : ([59] : List UInt8).isPrefixOf (s.drop i)
        all_goals
          have HT := Lib.hid hs
          clear hs
          go_wp2_with (first
            | (go_at_call 70; refine (refHex_any _ _).mono ?_; rintro e w' ⟨rfl, rfl⟩; rw [H1.out])
            | (go_at_call 69; refine (begins_any _ _ _ _ hi1 hl (by decide)).mono ?_; rintro e w' ⟨rfl, rfl⟩; rw [HT.out])
            | (go_at_call 71; refine (refChar_any _ _ hn1).mono ?_; rintro e w' ⟨rfl, rfl⟩))
          go_ret3
          rw [HA.out, semiN, HT.out]
          exact ⟨by first | rfl | (congr 2; go_num), Ext.refl _⟩
theorem refFind_hash (s : List UInt8) (k : Nat) (attr : Bool) (w : World) (hl : s.length < 100000) (hlt : k < s.length) (h1 : s[k] = 38) (h2 : ([35] : List UInt8).isPrefixOf (s.drop (k + 1)) = true) :
    Calls Tryd.prog 46 #[.string ⟨⟨s⟩⟩, .int .i64 k, .bool attr] w (Res3 (findB s k attr) w) := by
  cases hx : xP (s.drop (k + 2))
  · exact refFind_10 s k attr w hl hlt h1 h2 hx
  · have h1l : k + 3 ≤ s.length := by
      cases hd : s.drop (k + 2) with
      | nil => rw [hd] at hx; cases hx
      | cons a t =>
        have := congrArg List.length hd
        simp only [List.length_drop, List.length_cons] at this
        omega
    cases h3 : ([120] : List UInt8).isPrefixOf (s.drop (k + 2))
    · refine refFind_16b s k attr w hl hlt h1 h2 h3 ?_ h1l
      unfold xP at hx
      rw [h3] at hx
      exact hx
    · exact refFind_16a s k attr w hl hlt h1 h2 h3 h1l
end Go.Proofs.YtbolajljfkjfaaaDoor
