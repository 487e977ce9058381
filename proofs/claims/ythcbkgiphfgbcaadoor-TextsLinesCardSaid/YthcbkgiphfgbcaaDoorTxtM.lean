/-
  What is proved: the walk of TextsLines. Condition: the package's table holds what its text lays.
-/
import Derived.Test.YthcbkgiphfgbcaaDoorTxtK
namespace Go.Proofs.YthcbkgiphfgbcaaDoor
open Go.RowKit

set_option maxHeartbeats 1000000 in
theorem lines_nil (a a2 : Option Addr) (n cap cap2 : Nat) (w : World) (h : St w w) :
    Calls Tryd.prog 6 #[.slice a 0 cap, .slice a2 n cap2] w fun e w' => e = .returned (.bool true) ∧ Below w.heap.size w w' := by
  go_enter Tryd.func6, Tryd.ntmps6
  go_wp2_with fail
  refine wp_loop_rounds 1 ?_
  rw [rounds_succ]
  go_wp2_with fail
  refine (lines_is w _ [] _ h (by decide) (by decide +kernel)).mono ?_
  rintro e w1 ⟨rfl, h1⟩
  go_wp2_with fail
  refine (lines_is w _ [] _ h1 (by decide) (by decide +kernel)).mono ?_
  rintro e w2 ⟨rfl, h2⟩
  go_wp2_with fail
  refine (shown_st w _ h2).mono ?_
  rintro e w5 ⟨rfl, h5⟩
  go_wp2_with fail
  go_ret
  exact ⟨rfl, h5.1⟩
/-- Which end a piece has, by the number beside it. -/
theorem strip_len (l : List UInt8) : (strip l).length ≤ l.length := List.length_filter_le _ _
/-- What the loop holds, of its slots and the world. -/
def LRel (l : List (List UInt8)) (w wr : World) (ss sw si : Value) : Prop :=
  ∃ (i : Nat) (s want : List UInt8), ss = .string ⟨⟨s⟩⟩ ∧ sw = .string ⟨⟨want⟩⟩ ∧ si = .int .i64 i ∧ i ≤ l.length ∧ i ≤ 30 ∧ want.length ≤ 2001 ∧ Hid (LInv s want i) ∧ s.length ≤ want.length + i ∧ St w wr
theorem LRel.next {l : List (List UInt8)} {w wr : World} {i : Nat} {s want : List UInt8} (hV : LInv s want (i + 1)) (hi : i < l.length) (h30 : ¬ 30 ≤ i) (hw : want.length ≤ 2001) (hst : St w wr) :
    LRel l w wr (.string ⟨⟨s⟩⟩) (.string ⟨⟨want⟩⟩) (.int .i64 ((i : Int) + 1)) := ⟨i + 1, s, want, rfl, rfl, by go_num, by omega, by omega, hw, Lib.hid hV, hV.len, hst⟩
theorem LInv.lf1 {s want t : List UInt8} {i : Nat} (h : LInv s want i) (ht : NoEnd t) (h1 : ¬ t = []) : LInv (s ++ (t ++ [10])) (want ++ (t ++ [10])) (i + 1) := h.lf ht (.inl h1)
theorem LInv.lf2 {s want t : List UInt8} {i : Nat} (h : LInv s want i) (ht : NoEnd t) (h1 : ¬ 0 < s.length) : LInv (s ++ (t ++ [10])) (want ++ (t ++ [10])) (i + 1) := h.lf ht (.inr (.inl (List.eq_nil_of_length_eq_zero (by omega))))
theorem LInv.lf3 {s want t : List UInt8} {i : Nat} (h : LInv s want i) (ht : NoEnd t) (h1 : 0 < s.length) (h2 : ¬ ((s[s.length - 1]'(by omega)).toNat : Int) = 13) : LInv (s ++ (t ++ [10])) (want ++ (t ++ [10])) (i + 1) := by
  refine h.lf ht (.inr (.inr ?_))
  rw [last_get h1]
  intro e
  apply h2
  rw [Option.some.inj e]
  rfl
theorem noEnd_nil : NoEnd [] := fun c hc => by cases hc
set_option maxRecDepth 100000 in
set_option maxHeartbeats 16000000 in
theorem lines_some (b off cap : Nat) (l : List (List UInt8)) (b2 off2 cap2 : Nat) (m : List UInt8) (w : World) (h : St w w) (hl : l.length ≤ maxLen) (hsz : ∀ s ∈ l, s.length ≤ maxLen) (hb : b < w.heap.size) (hc : ∀ i (h : i < l.length), w.cell? ⟨b, off + i, none⟩ = some (.string ⟨⟨l[i]⟩⟩)) (hb2 : b2 < w.heap.size) (hc2 : ∀ i (h : i < m.length), w.cell? ⟨b2, off2 + i, none⟩ = some (.int .u8 m[i].toNat)) :
    Calls Tryd.prog 6 #[.slice (some ⟨b, off, none⟩) l.length cap, .slice (some ⟨b2, off2, none⟩) m.length cap2] w fun e w' => e = .returned (.bool true) ∧ Below w.heap.size w w' := by
  unfold maxLen at hl hsz
  have HC := Lib.hid hc
  have HSZ := Lib.hid hsz
  clear hc hsz
  have HC2 := Lib.hid hc2
  clear hc2
  go_enter Tryd.func6, Tryd.ntmps6
  go_wp2_with fail
  go_loopw [5, 6, 7] (fun ss sw si wr => LRel l w wr ss sw si) (fun _ _ si _ => l.length - (intOf si).toNat)
  case atStart => exact ⟨0, [], [], rfl, rfl, rfl, by omega, by omega, by simp, Lib.hid LInv.start, by simp, h⟩
  case round =>
    obtain ⟨i, s, want, rfl, rfl, rfl, hi, hi30, hwl, hV, hsl, hst⟩ := hrel
    by_cases hlt : i < l.length
    · have hcell : wr.cell? ⟨b, off + i, none⟩ = some (.string ⟨⟨l[i]⟩⟩) := (hst.1.cell (p := ⟨b, off + i, none⟩) hb).trans (HC.out i hlt)
      obtain ⟨x, hx⟩ : ∃ x, l[i] = x := ⟨_, rfl⟩
      have hxs := HSZ.out l[i] (List.getElem_mem _)
      rw [hx] at hcell hxs
      clear hx
      by_cases h30 : 30 ≤ i
      · go_wp2_with fail
        refine (shown_st w _ hst).mono ?_
        rintro e w5 ⟨rfl, h5⟩
        go_wp2_with fail
        go_ret
        exact ⟨rfl, h5.1⟩
      · by_cases hbig : 2000 - (want.length : Int) < x.length
        · go_wp2_with fail
          refine (shown_st w _ hst).mono ?_
          rintro e w5 ⟨rfl, h5⟩
          go_wp2_with fail
          go_ret
          exact ⟨rfl, h5.1⟩
        · have hbig2 : (x.length : Int) ≤ 2000 - want.length := by omega
          have n30 : decide ((30 : Int) ≤ i) = false := by rw [decide_eq_false_iff_not]; omega
          have nbig : decide (2000 - (want.length : Int) < x.length) = false := by rw [decide_eq_false_iff_not]; omega
          have nlt : decide (i < l.length) = true := by rw [decide_eq_true_eq]; omega
          clear hbig
          go_wp2_with fail
          go_loop [8, 9] (fun st sk => ∃ k : Nat, st = .string ⟨⟨strip (x.take k)⟩⟩ ∧ sk = .int .i64 k ∧ k ≤ x.length) (fun _ sk => x.length - (intOf sk).toNat)
          case atStart => exact ⟨0, rfl, rfl, by omega⟩
          case round =>
            obtain ⟨k, rfl, rfl, hk⟩ := hrel
            by_cases hkl : k < x.length
            · have hst2 := strip_take hkl
              have hsl2 := strip_len (x.take k)
              have hsl3 : (x.take k).length ≤ k := List.length_take_le _ _
              have hone := slice_one hkl
              by_cases h10 : x[k] = 10
              · have c1 : ((x[k].toNat : Int) != 10) = false := by rw [h10]; rfl
                rw [if_neg (fun hh => hh.1 h10), List.append_nil] at hst2
                have HST := Lib.hid hst2
                clear hst2 h10
                go_wp2_with fail
                go_round
                case rel => exact ⟨k + 1, by rw [HST.out], by go_num, by omega⟩
                case measure => simp [intOf]; omega
              · have c1 : ((x[k].toNat : Int) != 10) = true := by
                  simp only [bne_iff_ne, ne_eq]
                  intro e
                  exact h10 (u8_eq (by have h2 : (10 : UInt8).toNat = 10 := rfl; omega))
                by_cases h13 : x[k] = 13
                · have c2 : ((x[k].toNat : Int) != 13) = false := by rw [h13]; rfl
                  rw [if_neg (fun hh => hh.2 h13), List.append_nil] at hst2
                  have HST := Lib.hid hst2
                  clear hst2 h10 h13
                  go_wp2_with fail
                  go_round
                  case rel => exact ⟨k + 1, by rw [HST.out], by go_num, by omega⟩
                  case measure => simp [intOf]; omega
                · have c2 : ((x[k].toNat : Int) != 13) = true := by
                    simp only [bne_iff_ne, ne_eq]
                    intro e
                    exact h13 (u8_eq (by have h2 : (13 : UInt8).toNat = 13 := rfl; omega))
                  rw [if_pos ⟨h10, h13⟩] at hst2
                  have HST := Lib.hid hst2
                  clear hst2 h10 h13
                  go_wp2_with fail
                  go_round
                  case rel => exact ⟨k + 1, by rw [HST.out], by go_num, by omega⟩
                  case measure => simp [intOf]; omega
            · have hk2 : k = x.length := by omega
              subst hk2
              have hno := strip_noEnd (x.take x.length)
              have htl := strip_len (x.take x.length)
              have htl2 : (x.take x.length).length ≤ x.length := List.length_take_le _ _
              obtain ⟨t, ht⟩ : ∃ t, strip (x.take x.length) = t := ⟨_, rfl⟩
              rw [ht] at hno htl ⊢
              have HNO := Lib.hid hno
              have htl3 : t.length ≤ x.length := by omega
              clear ht hno htl htl2 hk hkl
              have hcell2 : i < m.length → wr.cell? ⟨b2, off2 + i, none⟩ = some (.int .u8 (m.getD i 0).toNat) := fun hm2 => by
                rw [getD_get hm2]
                exact (hst.1.cell (p := ⟨b2, off2 + i, none⟩) hb2).trans (HC2.out i hm2)
              have hyl := (m.getD i 0).toNat_lt
              generalize m.getD i 0 = y at hcell2 hyl
              by_cases hm2 : i < m.length
              · have hc3 := hcell2 hm2
                clear hcell2
                go_wp2_with fail
                all_goals
                  go_roundw
                  case rel =>
                    first
                      | exact LRel.next (hV.out.crlf HNO.out) hlt h30 (by simp; omega) hst
                      | exact LRel.next (hV.out.cr HNO.out) hlt h30 (by simp; omega) hst
                      | exact LRel.next (hV.out.lf1 HNO.out (by assumption)) hlt h30 (by simp; omega) hst
                      | exact LRel.next (hV.out.lf2 HNO.out (by assumption)) hlt h30 (by simp; omega) hst
                      | exact LRel.next (hV.out.lf3 HNO.out (by assumption) (by assumption)) hlt h30 (by simp; omega) hst
                      | exact LRel.next (hV.out.crlf noEnd_nil) hlt h30 (by simp; omega) hst
                      | exact LRel.next (hV.out.cr noEnd_nil) hlt h30 (by simp; omega) hst
                      | exact LRel.next (hV.out.lf2 noEnd_nil (by assumption)) hlt h30 (by simp; omega) hst
                      | exact LRel.next (hV.out.lf3 noEnd_nil (by assumption) (by assumption)) hlt h30 (by simp; omega) hst
                  case measure => simp [intOf]; omega
              · clear hcell2
                have hm3 : (m.length : Int) ≤ i := by omega
                clear hm2
                go_wp2_with fail
                all_goals
                  go_roundw
                  case rel =>
                    first
                      | exact LRel.next (hV.out.crlf HNO.out) hlt h30 (by simp; omega) hst
                      | exact LRel.next (hV.out.cr HNO.out) hlt h30 (by simp; omega) hst
                      | exact LRel.next (hV.out.lf1 HNO.out (by assumption)) hlt h30 (by simp; omega) hst
                      | exact LRel.next (hV.out.lf2 HNO.out (by assumption)) hlt h30 (by simp; omega) hst
                      | exact LRel.next (hV.out.lf3 HNO.out (by assumption) (by assumption)) hlt h30 (by simp; omega) hst
                      | exact LRel.next (hV.out.crlf noEnd_nil) hlt h30 (by simp; omega) hst
                      | exact LRel.next (hV.out.cr noEnd_nil) hlt h30 (by simp; omega) hst
                      | exact LRel.next (hV.out.lf2 noEnd_nil (by assumption)) hlt h30 (by simp; omega) hst
                      | exact LRel.next (hV.out.lf3 noEnd_nil (by assumption) (by assumption)) hlt h30 (by simp; omega) hst
                  case measure => simp [intOf]; omega
    · have hlw := hV.out.law
      have hww := hV.out.want
      have HL := Lib.hid hlw
      have HW := Lib.hid hww
      clear hlw hww
      go_wp2_with fail
      refine (lines_is w _ _ _ hst (by omega) HL.out).mono ?_
      rintro e w1 ⟨rfl, h1⟩
      go_wp2_with fail
      refine (lines_is w _ _ _ h1 (by omega) HW.out).mono ?_
      rintro e w2 ⟨rfl, h2⟩
      go_wp2_with fail
      refine (shown_st w _ h2).mono ?_
      rintro e w5 ⟨rfl, h5⟩
      go_wp2_with fail
      go_ret
      exact ⟨rfl, h5.1⟩
set_option maxRecDepth 100000 in
set_option maxHeartbeats 16000000 in
theorem lines_none (b off cap : Nat) (l : List (List UInt8)) (a2 : Option Addr) (cap2 : Nat) (w : World) (h : St w w) (hl : l.length ≤ maxLen) (hsz : ∀ s ∈ l, s.length ≤ maxLen) (hb : b < w.heap.size) (hc : ∀ i (h : i < l.length), w.cell? ⟨b, off + i, none⟩ = some (.string ⟨⟨l[i]⟩⟩)) :
    Calls Tryd.prog 6 #[.slice (some ⟨b, off, none⟩) l.length cap, .slice a2 0 cap2] w fun e w' => e = .returned (.bool true) ∧ Below w.heap.size w w' := by
  unfold maxLen at hl hsz
  have HC := Lib.hid hc
  have HSZ := Lib.hid hsz
  clear hc hsz
  go_enter Tryd.func6, Tryd.ntmps6
  go_wp2_with fail
  go_loopw [5, 6, 7] (fun ss sw si wr => LRel l w wr ss sw si) (fun _ _ si _ => l.length - (intOf si).toNat)
  case atStart => exact ⟨0, [], [], rfl, rfl, rfl, by omega, by omega, by simp, Lib.hid LInv.start, by simp, h⟩
  case round =>
    obtain ⟨i, s, want, rfl, rfl, rfl, hi, hi30, hwl, hV, hsl, hst⟩ := hrel
    by_cases hlt : i < l.length
    · have hcell : wr.cell? ⟨b, off + i, none⟩ = some (.string ⟨⟨l[i]⟩⟩) := (hst.1.cell (p := ⟨b, off + i, none⟩) hb).trans (HC.out i hlt)
      obtain ⟨x, hx⟩ : ∃ x, l[i] = x := ⟨_, rfl⟩
      have hxs := HSZ.out l[i] (List.getElem_mem _)
      rw [hx] at hcell hxs
      clear hx
      by_cases h30 : 30 ≤ i
      · go_wp2_with fail
        refine (shown_st w _ hst).mono ?_
        rintro e w5 ⟨rfl, h5⟩
        go_wp2_with fail
        go_ret
        exact ⟨rfl, h5.1⟩
      · by_cases hbig : 2000 - (want.length : Int) < x.length
        · go_wp2_with fail
          refine (shown_st w _ hst).mono ?_
          rintro e w5 ⟨rfl, h5⟩
          go_wp2_with fail
          go_ret
          exact ⟨rfl, h5.1⟩
        · have hbig2 : (x.length : Int) ≤ 2000 - want.length := by omega
          have n30 : decide ((30 : Int) ≤ i) = false := by rw [decide_eq_false_iff_not]; omega
          have nbig : decide (2000 - (want.length : Int) < x.length) = false := by rw [decide_eq_false_iff_not]; omega
          have nlt : decide (i < l.length) = true := by rw [decide_eq_true_eq]; omega
          clear hbig
          go_wp2_with fail
          go_loop [8, 9] (fun st sk => ∃ k : Nat, st = .string ⟨⟨strip (x.take k)⟩⟩ ∧ sk = .int .i64 k ∧ k ≤ x.length) (fun _ sk => x.length - (intOf sk).toNat)
          case atStart => exact ⟨0, rfl, rfl, by omega⟩
          case round =>
            obtain ⟨k, rfl, rfl, hk⟩ := hrel
            by_cases hkl : k < x.length
            · have hst2 := strip_take hkl
              have hsl2 := strip_len (x.take k)
              have hsl3 : (x.take k).length ≤ k := List.length_take_le _ _
              have hone := slice_one hkl
              by_cases h10 : x[k] = 10
              · have c1 : ((x[k].toNat : Int) != 10) = false := by rw [h10]; rfl
                rw [if_neg (fun hh => hh.1 h10), List.append_nil] at hst2
                have HST := Lib.hid hst2
                clear hst2 h10
                go_wp2_with fail
                go_round
                case rel => exact ⟨k + 1, by rw [HST.out], by go_num, by omega⟩
                case measure => simp [intOf]; omega
              · have c1 : ((x[k].toNat : Int) != 10) = true := by
                  simp only [bne_iff_ne, ne_eq]
                  intro e
                  exact h10 (u8_eq (by have h2 : (10 : UInt8).toNat = 10 := rfl; omega))
                by_cases h13 : x[k] = 13
                · have c2 : ((x[k].toNat : Int) != 13) = false := by rw [h13]; rfl
                  rw [if_neg (fun hh => hh.2 h13), List.append_nil] at hst2
                  have HST := Lib.hid hst2
                  clear hst2 h10 h13
                  go_wp2_with fail
                  go_round
                  case rel => exact ⟨k + 1, by rw [HST.out], by go_num, by omega⟩
                  case measure => simp [intOf]; omega
                · have c2 : ((x[k].toNat : Int) != 13) = true := by
                    simp only [bne_iff_ne, ne_eq]
                    intro e
                    exact h13 (u8_eq (by have h2 : (13 : UInt8).toNat = 13 := rfl; omega))
                  rw [if_pos ⟨h10, h13⟩] at hst2
                  have HST := Lib.hid hst2
                  clear hst2 h10 h13
                  go_wp2_with fail
                  go_round
                  case rel => exact ⟨k + 1, by rw [HST.out], by go_num, by omega⟩
                  case measure => simp [intOf]; omega
            · have hk2 : k = x.length := by omega
              subst hk2
              have hno := strip_noEnd (x.take x.length)
              have htl := strip_len (x.take x.length)
              have htl2 : (x.take x.length).length ≤ x.length := List.length_take_le _ _
              obtain ⟨t, ht⟩ : ∃ t, strip (x.take x.length) = t := ⟨_, rfl⟩
              rw [ht] at hno htl ⊢
              have HNO := Lib.hid hno
              have htl3 : t.length ≤ x.length := by omega
              clear ht hno htl htl2 hk hkl
              go_wp2_with fail
              all_goals
                go_roundw
                case rel =>
                  first
                    | exact LRel.next (hV.out.crlf HNO.out) hlt h30 (by simp; omega) hst
                    | exact LRel.next (hV.out.cr HNO.out) hlt h30 (by simp; omega) hst
                    | exact LRel.next (hV.out.lf1 HNO.out (by assumption)) hlt h30 (by simp; omega) hst
                    | exact LRel.next (hV.out.lf2 HNO.out (by assumption)) hlt h30 (by simp; omega) hst
                    | exact LRel.next (hV.out.lf3 HNO.out (by assumption) (by assumption)) hlt h30 (by simp; omega) hst
                    | exact LRel.next (hV.out.crlf noEnd_nil) hlt h30 (by simp; omega) hst
                    | exact LRel.next (hV.out.cr noEnd_nil) hlt h30 (by simp; omega) hst
                    | exact LRel.next (hV.out.lf2 noEnd_nil (by assumption)) hlt h30 (by simp; omega) hst
                    | exact LRel.next (hV.out.lf3 noEnd_nil (by assumption) (by assumption)) hlt h30 (by simp; omega) hst
                case measure => simp [intOf]; omega
    · have hlw := hV.out.law
      have hww := hV.out.want
      have HL := Lib.hid hlw
      have HW := Lib.hid hww
      clear hlw hww
      go_wp2_with fail
      refine (lines_is w _ _ _ hst (by omega) HL.out).mono ?_
      rintro e w1 ⟨rfl, h1⟩
      go_wp2_with fail
      refine (lines_is w _ _ _ h1 (by omega) HW.out).mono ?_
      rintro e w2 ⟨rfl, h2⟩
      go_wp2_with fail
      refine (shown_st w _ h2).mono ?_
      rintro e w5 ⟨rfl, h5⟩
      go_wp2_with fail
      go_ret
      exact ⟨rfl, h5.1⟩
theorem lines_walk (v v2 : Value) (l : List (List UInt8)) (m : List UInt8) (w : World) (hL : LeadsIs w) (hM : MaxIs w) (hv : StrsAt w v l) (hv2 : BytesAt w v2 m) :
    Calls Tryd.prog 6 #[v, v2] w fun e w' => e = .returned (.bool true) ∧ Below w.heap.size w w' := by
  have h : St w w := ⟨Ext.refl _, hL, hM⟩
  obtain ⟨a, cap, rfl, hl, hsz, hc⟩ := hv
  obtain ⟨a2, cap2, rfl, hm, hc2⟩ := hv2
  rcases hc with rfl | ⟨b, off, rfl, hb, hc⟩
  · exact lines_nil a a2 _ cap cap2 w h
  · rcases hc2 with rfl | ⟨b2, off2, rfl, hb2, hc2⟩
    · exact lines_none b off cap l a2 cap2 w h hl hsz hb hc
    · exact lines_some b off cap l b2 off2 cap2 m w h hl hsz hb hc hb2 hc2
end Go.Proofs.YthcbkgiphfgbcaaDoor
