/-
  What is proved: the reference's Space, Same, Strip, Fields, Commas: contracts. Condition: texts of at most 100000 bytes.
-/
import Derived.Test.YtghafpkkmeibgaaDoorAscP
import Derived.Test.YtghafpkkmeibgaaDoorSam
namespace Go.Proofs.YtghafpkkmeibgaaDoor
open Go.RowKit

theorem sp_iff (c : UInt8) : spB c = decide ((c.toNat : Int) = 9 ∨ (c.toNat : Int) = 10 ∨ (c.toNat : Int) = 12 ∨ (c.toNat : Int) = 13 ∨ (c.toNat : Int) = 32) := by
  have key : ∀ n : Fin 256, spB (UInt8.ofNat n) = decide (((n.val : Nat) : Int) = 9 ∨ ((n.val : Nat) : Int) = 10 ∨ ((n.val : Nat) : Int) = 12 ∨ ((n.val : Nat) : Int) = 13 ∨ ((n.val : Nat) : Int) = 32) := by decide +kernel
  have := key ⟨c.toNat, c.toNat_lt⟩
  simpa only [UInt8.ofNat_toNat] using this
theorem spaceR_any (c : UInt8) (w : World) :
    Calls Tryd.prog 47 #[.int .u8 c.toNat] w fun e w' => e = .returned (.bool (spB c)) ∧ w = w' := by
  have h0 := c.toNat_lt
  have HA := Lib.hid (sp_iff c)
  go_enter Tryd.func47, Tryd.ntmps47
  go_wp2
  all_goals
    go_ret
    refine ⟨ret_inj (bool_eq ?_), rfl⟩
    rw [HA.out]
    first | rfl | (simp; omega) | (rw [Bool.eq_iff_iff]; simp; omega)
theorem sameR_any (s t : List UInt8) (w : World) (hs : s.length < 100000) (ht : t.length < 100000) :
    Calls Tryd.prog 43 #[.string ⟨⟨s⟩⟩, .string ⟨⟨t⟩⟩] w fun e w' => e = .returned (.bool (lowL s == lowL t)) ∧ Ext w w' := by
  go_enter Tryd.func43, Tryd.ntmps43
  go_wp2_with fail
  refine (lowR_any s _ hs).mono ?_
  rintro e w1 ⟨rfl, x1⟩
  go_wp2_with fail
  refine (lowR_any t _ ht).mono ?_
  rintro e w2 ⟨rfl, x2⟩
  go_wp2_with fail
  go_ret
  exact ⟨rfl, Ext.trans x1 x2⟩
theorem stripF_cons (x : UInt8) (t : List UInt8) : stripF (x :: t) = if spB x then stripF t else x :: t := by
  unfold stripF
  rw [List.dropWhile_cons]
set_option maxHeartbeats 4000000 in
theorem stripR_any (l : List UInt8) (w : World) (hl : l.length < 100000) :
    Calls Tryd.prog 36 #[.string ⟨⟨l⟩⟩] w fun e w' => e = .returned (.string ⟨⟨stripL l⟩⟩) ∧ w = w' := by
  go_enter Tryd.func36, Tryd.ntmps36
  go_wp2_with fail
  go_loop [0] (fun s => ∃ c : List UInt8, s = .string ⟨⟨c⟩⟩ ∧ c.length < 100000 ∧ Hid (stripF c = stripF l)) (fun s => strLen s)
  case atStart => exact ⟨l, rfl, hl, Lib.hid rfl⟩
  case round =>
    obtain ⟨c, rfl, hc, HC⟩ := hrel
    cases c with
    | nil =>
      have HF : Hid (stripL l = stripR []) := Lib.hid (by unfold stripL; rw [← HC.out]; rfl)
      go_wp2_with fail
      go_loop [0] (fun s => ∃ d : List UInt8, s = .string ⟨⟨d⟩⟩ ∧ d.length < 100000 ∧ Hid (stripR d = stripL l)) (fun s => strLen s)
      case atStart => exact ⟨_, rfl, hc, Lib.hid HF.out.symm⟩
      case round =>
        obtain ⟨d, rfl, hd, HD⟩ := hrel
        rcases List.eq_nil_or_concat d with rfl | ⟨q, y, rfl⟩
        · have HE : Hid (stripL l = []) := Lib.hid (by rw [← HD.out]; rfl)
          go_wp2_with fail
          go_ret
          exact ⟨ret_inj (str_eq HE.out.symm), rfl⟩
        · have hy := y.toNat_lt
          have hq : q.length < 99999 := by simp at hd; omega
          have q0 : (0 : Int) ≤ (q.length : Int) := by omega
          cases hs : spB y
          · have HE : Hid (stripL l = q ++ [y]) := Lib.hid (by rw [← HD.out, List.concat_eq_append, stripR_snoc, hs]; rfl)
            have cs := fun W => spaceR_any y W
            rw [hs] at cs
            clear hs
            go_wp2_with (go_at_call 47; refine (cs _).mono ?_; rintro e w1 ⟨rfl, rfl⟩)
            go_ret
            exact ⟨ret_inj (str_eq HE.out.symm), rfl⟩
          · have HE : Hid (stripR q = stripL l) := Lib.hid (by rw [← HD.out, List.concat_eq_append, stripR_snoc, hs]; rfl)
            have cs := fun W => spaceR_any y W
            rw [hs] at cs
            clear hs
            go_wp2_with (go_at_call 47; refine (cs _).mono ?_; rintro e w1 ⟨rfl, rfl⟩)
            go_round
            case rel => exact ⟨q, rfl, by omega, HE⟩
            case measure => simp [strLen]
    | cons x t =>
      have hx := x.toNat_lt
      cases hs : spB x
      · have HF : Hid (stripL l = stripR (x :: t)) := Lib.hid (by unfold stripL; rw [← HC.out, stripF_cons, hs]; rfl)
        have cs := fun W => spaceR_any x W
        rw [hs] at cs
        clear hs
        go_wp2_with (go_at_call 47; refine (cs _).mono ?_; rintro e w1 ⟨rfl, rfl⟩)
        go_loop [0] (fun s => ∃ d : List UInt8, s = .string ⟨⟨d⟩⟩ ∧ d.length < 100000 ∧ Hid (stripR d = stripL l)) (fun s => strLen s)
        case atStart => exact ⟨_, rfl, hc, Lib.hid HF.out.symm⟩
        case round =>
          obtain ⟨d, rfl, hd, HD⟩ := hrel
          rcases List.eq_nil_or_concat d with rfl | ⟨q, y, rfl⟩
          · have HE : Hid (stripL l = []) := Lib.hid (by rw [← HD.out]; rfl)
            go_wp2_with fail
            go_ret
            exact ⟨ret_inj (str_eq HE.out.symm), rfl⟩
          · have hy := y.toNat_lt
            have hq : q.length < 99999 := by simp at hd; omega
            have q0 : (0 : Int) ≤ (q.length : Int) := by omega
            cases hs : spB y
            · have HE : Hid (stripL l = q ++ [y]) := Lib.hid (by rw [← HD.out, List.concat_eq_append, stripR_snoc, hs]; rfl)
              have cs := fun W => spaceR_any y W
              rw [hs] at cs
              clear hs
              go_wp2_with (go_at_call 47; refine (cs _).mono ?_; rintro e w1 ⟨rfl, rfl⟩)
              go_ret
              exact ⟨ret_inj (str_eq HE.out.symm), rfl⟩
            · have HE : Hid (stripR q = stripL l) := Lib.hid (by rw [← HD.out, List.concat_eq_append, stripR_snoc, hs]; rfl)
              have cs := fun W => spaceR_any y W
              rw [hs] at cs
              clear hs
              go_wp2_with (go_at_call 47; refine (cs _).mono ?_; rintro e w1 ⟨rfl, rfl⟩)
              go_round
              case rel => exact ⟨q, rfl, by omega, HE⟩
              case measure => simp [strLen]
      · have HF : Hid (stripF t = stripF l) := Lib.hid (by rw [← HC.out, stripF_cons, hs]; rfl)
        have cs := fun W => spaceR_any x W
        rw [hs] at cs
        clear hs
        go_wp2_with (go_at_call 47; refine (cs _).mono ?_; rintro e w1 ⟨rfl, rfl⟩)
        go_round
        case rel => exact ⟨t, rfl, by simp at hc; omega, HF⟩
        case measure => simp [strLen]
theorem take_one {l : List UInt8} {k : Nat} (h : k < l.length) : List.take 1 (List.drop k l) = [l[k]] := by
  rw [List.drop_eq_getElem_cons h]
  rfl
theorem pieceL_nil : pieceL [] = [] := rfl
theorem pieceL_some {p : List UInt8} (h : p ≠ []) : pieceL p = [p] := by
  unfold pieceL
  rw [if_neg]
  simpa using h
set_option maxHeartbeats 4000000 in
theorem fieldsR_any (l : List UInt8) (w : World) (hl : l.length < 100000) :
    Calls Tryd.prog 39 #[.string ⟨⟨l⟩⟩] w fun e w' => ∃ v, e = .returned v ∧ OwnS w.heap.size v (fieldsL l) w' ∧ Ext w w' := by
  go_enter Tryd.func39, Tryd.ntmps39
  go_wp2_with fail
  go_loopw [3, 4, 5] (fun v s i wr => ∃ (k : Nat) (out : List (List UInt8)) (p : List UInt8), i = .int .i64 k ∧ s = .string ⟨⟨p⟩⟩ ∧ k ≤ l.length ∧ p.length ≤ k ∧ out.length ≤ k ∧ OwnS w.heap.size v out wr ∧ Ext w wr ∧ Hid (FieldAt l out p k)) (fun _ _ i _ => l.length - (intOf i).toNat)
  case atStart => exact ⟨0, [], [], rfl, rfl, by omega, by simp, by simp, OwnS.nil _ _, Ext.refl _, Lib.hid (FieldAt.start l)⟩
  case round =>
    obtain ⟨k, out, p, rfl, rfl, hk, hp, ho, hown, hx, HF⟩ := hrel
    have hws := hx.size
    by_cases hlt : k < l.length
    · obtain ⟨x, hxx⟩ : ∃ x, l[k] = x := ⟨_, rfl⟩
      have HX := Lib.hid hxx
      have HT := Lib.hid (take_one hlt)
      have k0 : (0 : Int) ≤ (k : Int) := by omega
      have k1 : (k : Int) < (l.length : Int) := by omega
      have hxl := x.toNat_lt
      cases hs : spB x
      · have HN : Hid (FieldAt l out (p ++ [l[k]]) (k + 1)) := Lib.hid (HF.out.other hlt (by rw [hxx]; exact hs))
        have cs := fun W => spaceR_any x W
        rw [hs] at cs
        clear hs
        go_wp2_with (go_at_call 47; refine (cs _).mono ?_; rintro e w1 ⟨rfl, rfl⟩)
        go_roundw
        case rel => exact ⟨k + 1, out, p ++ [l[k]], by go_num, by rw [HT.out], by omega, by simp; omega, by omega, hown, hx, HN⟩
        case measure => simp [intOf]; omega
      · have HN : Hid (FieldAt l (out ++ pieceL p) [] (k + 1)) := Lib.hid (HF.out.space hlt (by rw [hxx]; exact hs))
        have cs := fun W => spaceR_any x W
        rw [hs] at cs
        clear hs
        by_cases hp0 : p = []
        · subst hp0
          go_wp2_with (go_at_call 47; refine (cs _).mono ?_; rintro e w1 ⟨rfl, rfl⟩)
          go_roundw
          case rel => exact ⟨k + 1, out, [], by go_num, rfl, by omega, by simp, by omega, hown, hx, Lib.hid (by have := HN.out; rwa [pieceL_nil, List.append_nil] at this)⟩
          case measure => simp [intOf]; omega
        · have e1 : (p == []) = false := beq_eq_false_iff_ne.2 hp0
          have e2 : (p != []) = true := by unfold bne; rw [e1]; rfl
          have HP := Lib.hid (pieceL_some hp0)
          clear hp0
          go_wp2_with (first
            | (go_at_call 47; refine (cs _).mono ?_; rintro e w1 ⟨rfl, rfl⟩)
            | (at_builtin; refine app_str rfl _ _ rfl p _ wr rfl rfl rfl hown rfl (by omega) hws ?_; intro v4 w4 hown4 y4))
          go_roundw
          case rel => exact ⟨k + 1, out ++ [p], [], by go_num, rfl, by omega, by simp, by simp; omega, hown4, Below.trans hx y4, Lib.hid (by have := HN.out; rwa [HP.out] at this)⟩
          case measure => simp [intOf]; omega
    · obtain rfl : k = l.length := by omega
      have HL := Lib.hid HF.out.last
      by_cases hp0 : p = []
      · subst hp0
        go_wp2_with fail
        go_ret
        exact ⟨_, rfl, by have := HL.out; rw [pieceL_nil, List.append_nil] at this; rw [← this]; exact hown, hx⟩
      · have e1 : (p == []) = false := beq_eq_false_iff_ne.2 hp0
        have e2 : (p != []) = true := by unfold bne; rw [e1]; rfl
        have HP := Lib.hid (pieceL_some hp0)
        clear hp0
        go_wp2_with (at_builtin; refine app_str rfl _ _ rfl p _ wr rfl rfl rfl hown rfl (by omega) hws ?_; intro v4 w4 hown4 y4)
        go_ret
        exact ⟨_, rfl, by have := HL.out; rw [HP.out] at this; rw [← this]; exact hown4, Below.trans hx y4⟩
set_option maxHeartbeats 4000000 in
theorem commasR_any (l : List UInt8) (w : World) (hl : l.length < 100000) :
    Calls Tryd.prog 41 #[.string ⟨⟨l⟩⟩] w fun e w' => ∃ v, e = .returned v ∧ OwnS w.heap.size v (commasL l) w' ∧ Ext w w' := by
  go_enter Tryd.func41, Tryd.ntmps41
  go_wp2_with fail
  go_loopw [3, 4, 5] (fun v s i wr => ∃ (k : Nat) (out : List (List UInt8)) (p : List UInt8), i = .int .i64 k ∧ s = .string ⟨⟨p⟩⟩ ∧ k ≤ l.length + 1 ∧ p.length ≤ l.length ∧ p.length ≤ k ∧ out.length ≤ k ∧ OwnS w.heap.size v out wr ∧ Ext w wr ∧ Hid (if k ≤ l.length then CommaAt l out p k else out = commasL l)) (fun _ _ i _ => l.length + 1 - (intOf i).toNat)
  case atStart => exact ⟨0, [], [], rfl, rfl, by omega, by simp, by simp, by simp, OwnS.nil _ _, Ext.refl _, Lib.hid (by rw [if_pos (Nat.zero_le _)]; exact CommaAt.start l)⟩
  case round =>
    obtain ⟨k, out, p, rfl, rfl, hk, hpl, hp, ho, hown, hx, HF⟩ := hrel
    have hws := hx.size
    have hp1 : p.length < 100000 := by omega
    have cp := fun W => stripR_any p W hp1
    obtain ⟨q, hq⟩ : ∃ q, stripL p = q := ⟨_, rfl⟩
    have hql : q.length ≤ p.length := by rw [← hq]; exact strip_len p
    rw [hq] at cp
    have HQ := Lib.hid hq
    clear hq
    by_cases hle : k ≤ l.length
    · have HF2 : Hid (CommaAt l out p k) := Lib.hid (by have := HF.out; rwa [if_pos hle] at this)
      have kle : (k : Int) ≤ (l.length : Int) := by omega
      by_cases hcm : ∃ h : k < l.length, l[k] ≠ 44
      · obtain ⟨hlt, hne⟩ := hcm
        obtain ⟨x, hxx⟩ : ∃ x, l[k] = x := ⟨_, rfl⟩
        have hxl := x.toNat_lt
        have HT := Lib.hid (take_one hlt)
        have k0 : (0 : Int) ≤ (k : Int) := by omega
        have k1 : (k : Int) < (l.length : Int) := by omega
        have HN : Hid (CommaAt l out (p ++ [l[k]]) (k + 1)) := Lib.hid (HF2.out.other hlt hne)
        have hx44 : (x.toNat : Int) ≠ 44 := by
          rw [hxx] at hne
          intro e
          exact hne (UInt8.toNat_inj.1 (by rw [show (44 : UInt8).toNat = 44 from rfl]; omega))
        have e1 : ((x.toNat : Int) == 44) = false := by simpa using hx44
        have e2 : ((x.toNat : Int) != 44) = true := by simpa using hx44
        clear hne hx44
        go_wp2_with fail
        go_roundw
        case rel => exact ⟨k + 1, out, p ++ [l[k]], by go_num, by rw [HT.out], by omega, by simp; omega, by simp; omega, by omega, hown, hx, Lib.hid (by rw [if_pos (by omega)]; exact HN.out)⟩
        case measure => simp [intOf]; omega
      · have HN : Hid (if k + 1 ≤ l.length then CommaAt l (commaStep out p) [] (k + 1) else commaStep out p = commasL l) := Lib.hid (by
          by_cases hlt : k < l.length
          · rw [if_pos (by omega)]
            exact HF2.out.comma hlt (Classical.not_not.1 fun hn => hcm ⟨hlt, hn⟩)
          · obtain rfl : k = l.length := by omega
            rw [if_neg (by omega)]
            exact HF2.out.last)
        have hsplit : (k < l.length ∧ ∃ h : k < l.length, l[k] = 44) ∨ ¬ k < l.length := by
          by_cases hlt : k < l.length
          · exact .inl ⟨hlt, hlt, Classical.not_not.1 fun hn => hcm ⟨hlt, hn⟩⟩
          · exact .inr hlt
        clear hcm
        rcases hsplit with ⟨_, hlt, h44⟩ | hlt
        · have k0 : (0 : Int) ≤ (k : Int) := by omega
          have k1 : (k : Int) < (l.length : Int) := by omega
          obtain ⟨x, hxx⟩ : ∃ x, l[k] = x := ⟨_, rfl⟩
          have e1 : ((x.toNat : Int) == 44) = true := by rw [← hxx, h44]; rfl
          have e2 : ((x.toNat : Int) != 44) = false := by rw [← hxx, h44]; rfl
          clear h44
          by_cases hq0 : q = []
          · subst hq0
            have HS : Hid (commaStep out p = out) := Lib.hid (by unfold commaStep; rw [if_pos HQ.out])
            go_wp2_with (go_at_call 36; refine (cp _).mono ?_; rintro e w1 ⟨rfl, rfl⟩)
            go_roundw
            case rel => exact ⟨k + 1, out, [], by go_num, rfl, by omega, by simp, by simp, by omega, hown, hx, Lib.hid (by rw [← HS.out]; exact HN.out)⟩
            case measure => simp [intOf]; omega
          · have HS : Hid (commaStep out p = out ++ [q]) := Lib.hid (by unfold commaStep; rw [HQ.out, if_neg hq0])
            have e3 : (q == []) = false := beq_eq_false_iff_ne.2 hq0
            have e4 : (q != []) = true := by unfold bne; rw [e3]; rfl
            clear hq0
            go_wp2_with (first
              | (go_at_call 36; refine (cp _).mono ?_; rintro e w1 ⟨rfl, rfl⟩)
              | (at_builtin; refine app_str rfl _ _ rfl q _ wr rfl rfl rfl hown rfl (by omega) hws ?_; intro v4 w4 hown4 y4))
            go_roundw
            case rel => exact ⟨k + 1, out ++ [q], [], by go_num, rfl, by omega, by simp, by simp, by simp; omega, hown4, Below.trans hx y4, Lib.hid (by rw [← HS.out]; exact HN.out)⟩
            case measure => simp [intOf]; omega
        · have k1 : ¬ (k : Int) < (l.length : Int) := by omega
          have k2 : decide ((k : Int) < (l.length : Int)) = false := by simpa using hlt
          by_cases hq0 : q = []
          · subst hq0
            have HS : Hid (commaStep out p = out) := Lib.hid (by unfold commaStep; rw [if_pos HQ.out])
            go_wp2_with (go_at_call 36; refine (cp _).mono ?_; rintro e w1 ⟨rfl, rfl⟩)
            go_roundw
            case rel => exact ⟨k + 1, out, [], by go_num, rfl, by omega, by simp, by simp, by omega, hown, hx, Lib.hid (by rw [← HS.out]; exact HN.out)⟩
            case measure => simp [intOf]; omega
          · have HS : Hid (commaStep out p = out ++ [q]) := Lib.hid (by unfold commaStep; rw [HQ.out, if_neg hq0])
            have e3 : (q == []) = false := beq_eq_false_iff_ne.2 hq0
            have e4 : (q != []) = true := by unfold bne; rw [e3]; rfl
            clear hq0
            go_wp2_with (first
              | (go_at_call 36; refine (cp _).mono ?_; rintro e w1 ⟨rfl, rfl⟩)
              | (at_builtin; refine app_str rfl _ _ rfl q _ wr rfl rfl rfl hown rfl (by omega) hws ?_; intro v4 w4 hown4 y4))
            go_roundw
            case rel => exact ⟨k + 1, out ++ [q], [], by go_num, rfl, by omega, by simp, by simp, by simp; omega, hown4, Below.trans hx y4, Lib.hid (by rw [← HS.out]; exact HN.out)⟩
            case measure => simp [intOf]; omega
    · have HF2 : Hid (out = commasL l) := Lib.hid (by have := HF.out; rwa [if_neg hle] at this)
      go_wp2_with fail
      go_ret
      exact ⟨_, rfl, by rw [← HF2.out]; exact hown, hx⟩
end Go.Proofs.YtghafpkkmeibgaaDoor
