/-
  What is proved: the statements' own small functions of 03 (bare, other, lettered): contracts. Condition: texts of at most 100000 bytes.
-/
import Derived.Test.YtkgieaokckidmaaBasE
import Derived.Test.YtkgieaokckidmaaBasZ
import Derived.Test.YtkgieaokckidmaaBls
namespace Go.Proofs.Ytkgieaokckidmaa
open Go.RowKit

theorem dec_ex0 (w : World) : Calls Try.prog 8 #[.string ⟨⟨[90, 103]⟩⟩] w fun e w' => e = .returned (.tuple #[.string ⟨⟨[102]⟩⟩, .int .i64 0]) ∧ Ext w w' := by
  refine (decode_any [90, 103] w (by decide)).mono ?_
  rintro e w' ⟨rfl, he⟩
  exact ⟨by rw [show decL [90, 103] = some [102] by decide +kernel]; rfl, he⟩
theorem dec_ex1 (w : World) : Calls Try.prog 8 #[.string ⟨⟨[95, 45, 56]⟩⟩] w fun e w' => e = .returned (.tuple #[.string ⟨⟨[255, 239]⟩⟩, .int .i64 0]) ∧ Ext w w' := by
  refine (decode_any [95, 45, 56] w (by decide)).mono ?_
  rintro e w' ⟨rfl, he⟩
  exact ⟨by rw [show decL [95, 45, 56] = some [255, 239] by decide +kernel]; rfl, he⟩
theorem dec_ex2 (w : World) : Calls Try.prog 8 #[.string ⟨⟨[90, 103, 61]⟩⟩] w fun e w' => e = .returned (.tuple #[.string ⟨⟨[]⟩⟩, .int .i64 30]) ∧ Ext w w' := by
  refine (decode_any [90, 103, 61] w (by decide)).mono ?_
  rintro e w' ⟨rfl, he⟩
  exact ⟨by rw [show decL [90, 103, 61] = none by decide +kernel]; rfl, he⟩
theorem dec_ex3 (w : World) : Calls Try.prog 8 #[.string ⟨⟨[90, 104]⟩⟩] w fun e w' => e = .returned (.tuple #[.string ⟨⟨[]⟩⟩, .int .i64 30]) ∧ Ext w w' := by
  refine (decode_any [90, 104] w (by decide)).mono ?_
  rintro e w' ⟨rfl, he⟩
  exact ⟨by rw [show decL [90, 104] = none by decide +kernel]; rfl, he⟩
theorem dec_ex4 (w : World) : Calls Try.prog 8 #[.string ⟨⟨[90]⟩⟩] w fun e w' => e = .returned (.tuple #[.string ⟨⟨[]⟩⟩, .int .i64 30]) ∧ Ext w w' := by
  refine (decode_any [90] w (by decide)).mono ?_
  rintro e w' ⟨rfl, he⟩
  exact ⟨by rw [show decL [90] = none by decide +kernel]; rfl, he⟩
theorem dec_ex5 (w : World) : Calls Try.prog 8 #[.string ⟨⟨[61, 61, 61, 61]⟩⟩] w fun e w' => e = .returned (.tuple #[.string ⟨⟨[]⟩⟩, .int .i64 30]) ∧ Ext w w' := by
  refine (decode_any [61, 61, 61, 61] w (by decide)).mono ?_
  rintro e w' ⟨rfl, he⟩
  exact ⟨by rw [show decL [61, 61, 61, 61] = none by decide +kernel]; rfl, he⟩
theorem enc_ex0 (w : World) : Calls Try.prog 10 #[.string ⟨⟨[102]⟩⟩] w fun e w' => e = .returned (.string ⟨⟨[90, 103, 61, 61]⟩⟩) ∧ Ext w w' := by
  refine (encode_any [102] w (by decide)).mono ?_
  rintro e w' ⟨rfl, he⟩
  exact ⟨by rw [show encL [102] = [90, 103, 61, 61] by decide +kernel], he⟩
theorem enc_ex1 (w : World) : Calls Try.prog 10 #[.string ⟨⟨[102, 111]⟩⟩] w fun e w' => e = .returned (.string ⟨⟨[90, 109, 56, 61]⟩⟩) ∧ Ext w w' := by
  refine (encode_any [102, 111] w (by decide)).mono ?_
  rintro e w' ⟨rfl, he⟩
  exact ⟨by rw [show encL [102, 111] = [90, 109, 56, 61] by decide +kernel], he⟩
theorem enc_ex2 (w : World) : Calls Try.prog 10 #[.string ⟨⟨[102, 111, 111]⟩⟩] w fun e w' => e = .returned (.string ⟨⟨[90, 109, 57, 118]⟩⟩) ∧ Ext w w' := by
  refine (encode_any [102, 111, 111] w (by decide)).mono ?_
  rintro e w' ⟨rfl, he⟩
  exact ⟨by rw [show encL [102, 111, 111] = [90, 109, 57, 118] by decide +kernel], he⟩
theorem enc_ex3 (w : World) : Calls Try.prog 10 #[.string ⟨⟨[255, 239]⟩⟩] w fun e w' => e = .returned (.string ⟨⟨[47, 43, 56, 61]⟩⟩) ∧ Ext w w' := by
  refine (encode_any [255, 239] w (by decide)).mono ?_
  rintro e w' ⟨rfl, he⟩
  exact ⟨by rw [show encL [255, 239] = [47, 43, 56, 61] by decide +kernel], he⟩
theorem pln_ex (w : World) : Calls Try.prog 12 #[.string ⟨⟨[95, 45, 56, 61]⟩⟩] w fun e w' => e = .returned (.string ⟨⟨[47, 43, 56, 61]⟩⟩) ∧ Ext w w' := by
  refine (plain_any [95, 45, 56, 61] w (by decide)).mono ?_
  rintro e w' ⟨rfl, he⟩
  exact ⟨by rw [show plnL [95, 45, 56, 61] = [47, 43, 56, 61] by decide +kernel], he⟩
set_option maxRecDepth 100000 in
set_option maxHeartbeats 1600000 in
theorem lettered_any (w : World) : Calls Try.prog 7 #[] w fun e w' => e = .returned (.bool true) ∧ Ext w w' := by
  go_enter Try.func7, Try.ntmps7
  go_wp2_with (first
    | (go_at_call 8; (with_reducible refine (dec_ex0 _).mono ?_); rintro e w1 ⟨rfl, x1⟩)
    | (go_at_call 8; (with_reducible refine (dec_ex1 _).mono ?_); rintro e w2 ⟨rfl, x2⟩)
    | (go_at_call 8; (with_reducible refine (dec_ex2 _).mono ?_); rintro e w3 ⟨rfl, x3⟩)
    | (go_at_call 8; (with_reducible refine (dec_ex3 _).mono ?_); rintro e w4 ⟨rfl, x4⟩)
    | (go_at_call 8; (with_reducible refine (dec_ex4 _).mono ?_); rintro e w5 ⟨rfl, x5⟩)
    | (go_at_call 8; (with_reducible refine (dec_ex5 _).mono ?_); rintro e w6 ⟨rfl, x6⟩)
    | (go_at_call 10; (with_reducible refine (enc_ex0 _).mono ?_); rintro e w7 ⟨rfl, x7⟩)
    | (go_at_call 10; (with_reducible refine (enc_ex1 _).mono ?_); rintro e w8 ⟨rfl, x8⟩)
    | (go_at_call 10; (with_reducible refine (enc_ex2 _).mono ?_); rintro e w9 ⟨rfl, x9⟩)
    | (go_at_call 10; (with_reducible refine (enc_ex3 _).mono ?_); rintro e w10 ⟨rfl, x10⟩)
    | (go_at_call 12; (with_reducible refine (pln_ex _).mono ?_); rintro e w11 ⟨rfl, x11⟩))
  go_ret
  exact ⟨rfl, Ext.trans (Ext.trans (Ext.trans (Ext.trans (Ext.trans (Ext.trans (Ext.trans (Ext.trans (Ext.trans (Ext.trans (x1) x2) x3) x4) x5) x6) x7) x8) x9) x10) x11⟩

set_option maxRecDepth 100000 in
theorem bareLaw_any (l : List UInt8) (w : World) (hs : l.length ≤ 1000000) :
    Calls Try.prog 14 #[.string ⟨⟨l⟩⟩] w fun e w' => e = .returned (.string ⟨⟨strQ l⟩⟩) ∧ w = w' := by
  go_enter Try.func14, Try.ntmps14
  go_wp2_with fail
  go_loop [0] (fun s => ∃ t : List UInt8, s = .string ⟨⟨t⟩⟩ ∧ t.length ≤ l.length ∧ Hid (strQ t = strQ l)) (fun s => strLen s)
  case atStart => exact ⟨l, rfl, Nat.le_refl _, Lib.hid rfl⟩
  case round =>
    obtain ⟨t, rfl, htl, HQ⟩ := hrel
    by_cases hpos : 0 < t.length
    · have hp2 : t.length - 1 < t.length := by omega
      have hsp : t = t.take (t.length - 1) ++ [t[t.length - 1]] := by
        have := List.take_append_drop (t.length - 1) t
        rw [List.drop_eq_getElem_cons hp2, show t.length - 1 + 1 = t.length by omega, List.drop_length] at this
        exact this.symm
      by_cases hc : t[t.length - 1] = 61
      · have hbc : ((t[t.length - 1].toNat : Int) == 61) = true := by rw [hc]; rfl
        have HQ2 : Hid (strQ (t.take (t.length - 1)) = strQ l) := Lib.hid (by
          rw [← HQ.out]
          conv => rhs; rw [hsp, hc]
          rw [strQ_snoc])
        clear hc hsp
        go_wp2_with fail
        go_round
        case rel => exact ⟨t.take (t.length - 1), by first | rfl | (apply str_eq; congr 1; omega), by simp; omega, HQ2⟩
        case measure => simp [strLen]; omega
      · have hbc : ((t[t.length - 1].toNat : Int) == 61) = false := by
          rw [beq_eq_false_iff_ne]
          intro e
          exact hc (UInt8.toNat.inj (by have e3 : (61 : UInt8).toNat = 61 := rfl; omega))
        have HF : Hid (t = strQ l) := Lib.hid (by
          rw [← HQ.out]
          conv => rhs; rw [hsp]
          rw [strQ_else _ hc]
          exact hsp)
        clear hc hsp
        go_wp2_with fail
        go_ret
        exact ⟨ret_inj (str_eq HF.out), rfl⟩
    · have hd : decide (0 < (t.length : Int)) = false := by rw [decide_eq_false_iff_not]; omega
      have ht : t = [] := List.eq_nil_of_length_eq_zero (by omega)
      have HF : Hid (t = strQ l) := Lib.hid (by rw [← HQ.out, ht]; rfl)
      clear ht
      go_wp2_with fail
      go_ret
      exact ⟨ret_inj (str_eq HF.out), rfl⟩

theorem othL_len : ∀ (l : List UInt8) (bs : List Bool), (othL l bs).length = l.length
  | [], bs => by cases bs <;> rfl
  | c :: t, [] => rfl
  | c :: t, b :: bs => by simp [othL, othL_len t bs]
theorem othL_get : ∀ (l : List UInt8) (bs : List Bool) (k : Nat) (h : k < l.length), (othL l bs)[k]? = some (if bs.getD k false then othB l[k] else l[k])
  | c :: t, [], k, h => by simp [othL, h]
  | c :: t, b :: bs, 0, _ => by simp [othL]
  | c :: t, b :: bs, k + 1, h => by
    simp only [List.length_cons] at h
    have := othL_get t bs k (by omega)
    simp only [othL, List.getElem?_cons_succ, List.getD_cons_succ, List.getElem_cons_succ]
    exact this
/-- A text with other letters up to a place. -/
def mixO (l : List UInt8) (bs : List Bool) (k : Nat) : List UInt8 := (othL l bs).take k ++ l.drop k
theorem mixO_len (l : List UInt8) (bs : List Bool) (k : Nat) : (mixO l bs k).length = l.length := by
  simp [mixO, othL_len]; omega
theorem mixO_at (l : List UInt8) (bs : List Bool) (k : Nat) (h : k < l.length) (h2 : k < (mixO l bs k).length) : (mixO l bs k)[k] = l[k] := by
  have hl : ((othL l bs).take k).length = k := by rw [List.length_take, othL_len]; omega
  have e : (mixO l bs k)[k]? = some l[k] := by
    unfold mixO
    rw [List.getElem?_append_right (by omega), hl, Nat.sub_self, List.drop_eq_getElem_cons h]
    rfl
  rw [List.getElem?_eq_getElem h2] at e
  exact Option.some.inj e
theorem mixO_set (l : List UInt8) (bs : List Bool) (k : Nat) (h : k < l.length) {x : UInt8} (hx : (if bs.getD k false then othB l[k] else l[k]) = x) : (mixO l bs k).set k x = mixO l bs (k + 1) := by
  have hl : ((othL l bs).take k).length = k := by rw [List.length_take, othL_len]; omega
  have hk : k < (othL l bs).length := by rw [othL_len]; exact h
  have hg := othL_get l bs k h
  rw [hx, List.getElem?_eq_getElem hk] at hg
  have hg := Option.some.inj hg
  unfold mixO
  rw [List.set_append_right _ _ (by omega), hl, Nat.sub_self, List.drop_eq_getElem_cons h, List.take_succ_eq_append_getElem hk, hg, List.append_assoc]
  rfl
theorem mixO_same (l : List UInt8) (bs : List Bool) (k : Nat) (h : k < l.length) (hx : (if bs.getD k false then othB l[k] else l[k]) = l[k]) : mixO l bs (k + 1) = mixO l bs k := by
  rw [← mixO_set l bs k h hx]
  have hk : k < (mixO l bs k).length := by rw [mixO_len]; exact h
  have := mixO_at l bs k h hk
  rw [← this]
  exact List.set_getElem_self hk
theorem mixO_all (l : List UInt8) (bs : List Bool) : mixO l bs l.length = othL l bs := by
  unfold mixO
  rw [List.drop_length, List.append_nil, List.take_of_length_le (by rw [othL_len]; exact Nat.le_refl _)]
theorem byteY_ne {c d : UInt8} (h : c ≠ d) : ((c.toNat : Int) == (d.toNat : Nat)) = false := by
  rw [beq_eq_false_iff_ne]
  intro e
  exact h (UInt8.toNat.inj (by omega))
set_option maxRecDepth 100000 in
set_option maxHeartbeats 1600000 in
theorem other_any (l : List UInt8) (bs : List Bool) (v : Value) (w : World) (hv : BoolsAt w v bs) (hs : l.length ≤ 1000000) :
    Calls Try.prog 15 #[.string ⟨⟨l⟩⟩, v] w fun e w' => e = .returned (.string ⟨⟨othL l bs⟩⟩) ∧ Ext w w' := by
  obtain ⟨a, cap, rfl, hm, hcells⟩ := hv.cells
  have HC := Lib.hid hcells
  clear hcells hv
  unfold maxLen at hm
  obtain ⟨cp, w0, hrun, hcap, hrow0, hext0, hsz0⟩ := row_of_string (P := Try.prog) w 9 33 5 l Try.underlying9 Try.underlying33 Try.underlying5
  have HS0 := Lib.hid hsz0
  clear hsz0
  go_enter Try.func15, Try.ntmps15
  go_wp2_with fail
  go_loopw [6] (fun i wr => ∃ k : Nat, k ≤ l.length ∧ i = .int .i64 k ∧ ByteRow w.heap.size (mixO l bs k) wr ∧ Below w.heap.size w wr) (fun i _ => l.length - (intOf i).toNat)
  case atStart => exact ⟨0, Nat.zero_le _, rfl, hrow0, hext0⟩
  case round =>
    obtain ⟨k, hk, rfl, hrow, hb⟩ := hrel
    clear hrun hrow0 hext0
    by_cases hlt : k < l.length
    · obtain ⟨c, hc⟩ : ∃ c, l[k] = c := ⟨_, rfl⟩
      have hkm : k < (mixO l bs k).length := by rw [mixO_len]; exact hlt
      have hk1 := hrow.cell k hkm
      have hk2 := hrow.free k hkm
      rw [mixO_at l bs k hlt hkm, hc] at hk1
      by_cases hkb : k < bs.length
      · obtain ⟨g, off, rfl, hg, hcell⟩ := HC.out k hkb
        have hcb := (hb.cell (p := ⟨g, off + k, none⟩) hg).trans hcell
        have hgd : bs.getD k false = bs[k] := by rw [List.getD_eq_getElem?_getD, List.getElem?_eq_getElem hkb]; rfl
        cases hbk : bs[k]
        · rw [hbk] at hcb hgd
          have HM := Lib.hid (mixO_same l bs k hlt (by rw [hgd]; rfl))
          clear hcell hgd hc hbk
          go_wp2_with fail
          go_roundw
          case rel => exact ⟨k + 1, by omega, by go_num, by rw [HM.out]; exact hrow, hb⟩
          case measure => simp [intOf]; omega
        · rw [hbk] at hcb hgd
          by_cases h1 : c = 43
          · subst h1
            have HM := Lib.hid (mixO_set l bs k hlt (x := 45) (by rw [hgd, hc]; rfl))
            have hrow2 : ByteRow w.heap.size (mixO l bs (k + 1)) (wr.setCell ⟨w.heap.size, k, none⟩ (.int .u8 45)) := by
              rw [← HM.out]
              exact hrow.set k 45
            have e43 : (((43 : UInt8).toNat : Nat) : Int) = 43 := rfl
            rw [e43] at hk1
            clear hcell hgd hc hbk e43
            go_wp2_with fail
            go_roundw
            case rel => exact ⟨k + 1, by omega, by go_num, hrow2, hb.setCell (Nat.le_refl _) _⟩
            case measure => simp [intOf]; omega
          · have hb1 : ((c.toNat : Int) == 43) = false := byteY_ne h1
            by_cases h2 : c = 47
            · subst h2
              have HM := Lib.hid (mixO_set l bs k hlt (x := 95) (by rw [hgd, hc]; rfl))
              have hrow2 : ByteRow w.heap.size (mixO l bs (k + 1)) (wr.setCell ⟨w.heap.size, k, none⟩ (.int .u8 95)) := by
                rw [← HM.out]
                exact hrow.set k 95
              have e47 : (((47 : UInt8).toNat : Nat) : Int) = 47 := rfl
              rw [e47] at hk1
              clear hcell hgd hc hbk e47 h1 hb1
              go_wp2_with fail
              go_roundw
              case rel => exact ⟨k + 1, by omega, by go_num, hrow2, hb.setCell (Nat.le_refl _) _⟩
              case measure => simp [intOf]; omega
            · have hb2 : ((c.toNat : Int) == 47) = false := byteY_ne h2
              have HM := Lib.hid (mixO_same l bs k hlt (by rw [hgd, hc]; unfold othB; rw [if_pos rfl, if_neg h1, if_neg h2]))
              clear hcell hgd hc hbk h1 h2
              go_wp2_with fail
              go_roundw
              case rel => exact ⟨k + 1, by omega, by go_num, by rw [HM.out]; exact hrow, hb⟩
              case measure => simp [intOf]; omega
      · have hgd : bs.getD k false = false := by rw [List.getD_eq_getElem?_getD, List.getElem?_eq_none (Nat.le_of_not_lt hkb)]; rfl
        have HM := Lib.hid (mixO_same l bs k hlt (by rw [hgd]; rfl))
        have hd : decide ((k : Int) < (bs.length : Int)) = false := by rw [decide_eq_false_iff_not]; omega
        clear hgd hc
        go_wp2_with fail
        go_roundw
        case rel => exact ⟨k + 1, by omega, by go_num, by rw [HM.out]; exact hrow, hb⟩
        case measure => simp [intOf]; omega
    · obtain rfl : k = l.length := by omega
      have HA := Lib.hid (mixO_all l bs)
      have hcv := hrow.back (P := Try.prog) 33 9 5 cp Try.underlying33 Try.underlying5 Try.underlying9
      rw [mixO_len] at hcv
      go_wp2_with fail
      go_ret
      exact ⟨ret_inj (str_eq HA.out), hb⟩
end Go.Proofs.Ytkgieaokckidmaa
