/-
  What is proved: the walk of TextsPieces. Condition: the package's table holds what its text lays.
-/
import Derived.Test.YthcbkgiphfgbcaaDoorTxtI
import Derived.Test.YthcbkgiphfgbcaaDoorFrm
namespace Go.Proofs.YthcbkgiphfgbcaaDoor
open Go.RowKit

set_option maxHeartbeats 1000000 in
theorem pieces_nil (a : Option Addr) (cap : Nat) (w : World) (h : St w w) :
    Calls Tryd.prog 5 #[.slice a 0 cap] w fun e w' => e = .returned (.bool true) ∧ Below w.heap.size w w' := by
  go_enter Tryd.func5, Tryd.ntmps5
  go_wp2_with fail
  refine wp_loop_rounds 1 ?_
  rw [rounds_succ]
  go_wp2_with fail
  refine (decode_is w _ [] _ h (by decide) (by decide +kernel)).mono ?_
  rintro e w1 ⟨rfl, h1⟩
  go_wp2_with fail
  refine (shown_st w _ h1).mono ?_
  rintro e w5 ⟨rfl, h5⟩
  go_wp2_with fail
  go_ret
  exact ⟨rfl, h5.1⟩
set_option maxRecDepth 100000 in
set_option maxHeartbeats 4000000 in
theorem pieces_some (b off cap : Nat) (l : List (List UInt8)) (w : World) (h : St w w) (hl : l.length ≤ maxLen) (hsz : ∀ s ∈ l, s.length ≤ maxLen) (hb : b < w.heap.size) (hc : ∀ i (h : i < l.length), w.cell? ⟨b, off + i, none⟩ = some (.string ⟨⟨l[i]⟩⟩)) :
    Calls Tryd.prog 5 #[.slice (some ⟨b, off, none⟩) l.length cap] w fun e w' => e = .returned (.bool true) ∧ Below w.heap.size w w' := by
  unfold maxLen at hl hsz
  have HC := Lib.hid hc
  have HSZ := Lib.hid hsz
  clear hc hsz
  go_enter Tryd.func5, Tryd.ntmps5
  go_wp2_with fail
  go_loopw [3, 4, 5] (fun sa sp si wr => ∃ (i : Nat) (all : List UInt8), sa = .string ⟨⟨all⟩⟩ ∧ sp = .string ⟨⟨all⟩⟩ ∧ si = .int .i64 i ∧ i ≤ l.length ∧ all.length ≤ 2000 ∧ Hid (Val all) ∧ Hid (markB.isPrefixOf all = false) ∧ St w wr) (fun _ _ si _ => l.length - (intOf si).toNat)
  case atStart => exact ⟨0, [], rfl, rfl, rfl, by omega, by simp, Lib.hid .nil, Lib.hid rfl, h⟩
  case round =>
    obtain ⟨i, all, rfl, rfl, rfl, hi, hal, hV, hN, hst⟩ := hrel
    by_cases hlt : i < l.length
    · have hcell : wr.cell? ⟨b, off + i, none⟩ = some (.string ⟨⟨l[i]⟩⟩) := (hst.1.cell (p := ⟨b, off + i, none⟩) hb).trans (HC.out i hlt)
      obtain ⟨x, hx⟩ : ∃ x, l[i] = x := ⟨_, rfl⟩
      have hxs := HSZ.out l[i] (List.getElem_mem _)
      rw [hx] at hcell hxs
      clear hx
      by_cases h20 : 20 ≤ i
      · go_wp2_with fail
        refine (shown_st w _ hst).mono ?_
        rintro e w5 ⟨rfl, h5⟩
        go_wp2_with fail
        go_ret
        exact ⟨rfl, h5.1⟩
      · by_cases hbig : 2000 - (all.length : Int) < x.length
        · go_wp2_with fail
          refine (shown_st w _ hst).mono ?_
          rintro e w5 ⟨rfl, h5⟩
          go_wp2_with fail
          go_ret
          exact ⟨rfl, h5.1⟩
        · have hbig2 : (x.length : Int) ≤ 2000 - all.length := by omega
          have hd1 : decB (unmark ([239, 187, 191] ++ x)) = decB x := congrArg decB (unmark_on x)
          have hsl := decB_len _ x (Nat.le_refl _)
          have hval := decB_val x
          obtain ⟨s, hs⟩ : ∃ s, decB x = s := ⟨_, rfl⟩
          rw [hs] at hd1 hsl hval
          have HD1 := Lib.hid hd1
          have HVV := Lib.hid hval
          have hmt := mark_take s
          clear hd1 hval hs hbig
          by_cases hm : markB.isPrefixOf s = true
          · rw [hm] at hmt
            have hm3 := Bool.and_eq_true_iff.1 hmt.symm
            have h3 : (3 : Int) ≤ s.length := by have := of_decide_eq_true hm3.1; omega
            have h4 : (s.take 3 == [239, 187, 191]) = true := hm3.2
            clear hm hmt hm3
            go_wp2_with fail
            refine (decode_is w _ _ _ hst (by simp; omega) HD1.out).mono ?_
            rintro e w1 ⟨rfl, h1⟩
            go_wp2_with fail
            refine (shown_st w _ h1).mono ?_
            rintro e w5 ⟨rfl, h5⟩
            go_wp2_with fail
            go_ret
            exact ⟨rfl, h5.1⟩
          · have hm2 : markB.isPrefixOf s = false := Bool.eq_false_iff.2 hm
            have hdd : decB (unmark s) = s := by rw [unmark_off hm2, HVV.out.dec]
            have HDD := Lib.hid hdd
            have HV2 := Lib.hid (hV.out.append HVV.out)
            have HN2 := Lib.hid (mark_none hV.out hN.out hm2)
            rw [hm2] at hmt
            clear hm hm2 hdd
            have hgt : (all.length : Int) + s.length ≤ 2000 ∨ 2000 < (all.length : Int) + s.length := by omega
            have hap : (((all ++ s).length : Nat) : Int) = (all.length : Int) + s.length := by simp
            have HAP := Lib.hid hap
            clear hap
            by_cases h3 : 3 ≤ s.length
            · have h4 : (s.take 3 == [239, 187, 191]) = false := by
                rw [decide_eq_true h3, Bool.true_and] at hmt
                exact hmt.symm
              have h3' : (3 : Int) ≤ s.length := by omega
              clear hmt h3
              rcases hgt with hgt | hgt
              · go_wp2_with fail
                refine (decode_is w _ _ _ hst (by simp; omega) HD1.out).mono ?_
                rintro e w1 ⟨rfl, h1⟩
                go_wp2_with fail
                refine (decode_is w _ _ _ h1 (by omega) HDD.out).mono ?_
                rintro e w2 ⟨rfl, h2⟩
                go_wp2_with fail
                go_roundw
                case rel => exact ⟨i + 1, all ++ s, rfl, rfl, by go_num, by omega, by have := HAP.out; omega, HV2, HN2, h2⟩
                case measure => simp [intOf]; omega
              · go_wp2_with fail
                refine (decode_is w _ _ _ hst (by simp; omega) HD1.out).mono ?_
                rintro e w1 ⟨rfl, h1⟩
                go_wp2_with fail
                refine (decode_is w _ _ _ h1 (by omega) HDD.out).mono ?_
                rintro e w2 ⟨rfl, h2⟩
                go_wp2_with fail
                refine (shown_st w _ h2).mono ?_
                rintro e w5 ⟨rfl, h5⟩
                go_wp2_with fail
                go_ret
                exact ⟨rfl, h5.1⟩
            · have h3' : (s.length : Int) < 3 := by omega
              clear hmt h3
              rcases hgt with hgt | hgt
              · go_wp2_with fail
                refine (decode_is w _ _ _ hst (by simp; omega) HD1.out).mono ?_
                rintro e w1 ⟨rfl, h1⟩
                go_wp2_with fail
                refine (decode_is w _ _ _ h1 (by omega) HDD.out).mono ?_
                rintro e w2 ⟨rfl, h2⟩
                go_wp2_with fail
                go_roundw
                case rel => exact ⟨i + 1, all ++ s, rfl, rfl, by go_num, by omega, by have := HAP.out; omega, HV2, HN2, h2⟩
                case measure => simp [intOf]; omega
              · go_wp2_with fail
                refine (decode_is w _ _ _ hst (by simp; omega) HD1.out).mono ?_
                rintro e w1 ⟨rfl, h1⟩
                go_wp2_with fail
                refine (decode_is w _ _ _ h1 (by omega) HDD.out).mono ?_
                rintro e w2 ⟨rfl, h2⟩
                go_wp2_with fail
                refine (shown_st w _ h2).mono ?_
                rintro e w5 ⟨rfl, h5⟩
                go_wp2_with fail
                go_ret
                exact ⟨rfl, h5.1⟩
    · have hdd : decB (unmark all) = all := by rw [unmark_off hN.out, hV.out.dec]
      have HDD := Lib.hid hdd
      clear hdd
      go_wp2_with fail
      refine (decode_is w _ _ _ hst (by omega) HDD.out).mono ?_
      rintro e w2 ⟨rfl, h2⟩
      go_wp2_with fail
      refine (shown_st w _ h2).mono ?_
      rintro e w5 ⟨rfl, h5⟩
      go_wp2_with fail
      go_ret
      exact ⟨rfl, h5.1⟩
theorem pieces_walk (v : Value) (l : List (List UInt8)) (w : World) (hL : LeadsIs w) (hM : MaxIs w) (hv : StrsAt w v l) :
    Calls Tryd.prog 5 #[v] w fun e w' => e = .returned (.bool true) ∧ Below w.heap.size w w' := by
  have h : St w w := ⟨Ext.refl _, hL, hM⟩
  obtain ⟨a, cap, rfl, hl, hsz, hc⟩ := hv
  rcases hc with rfl | ⟨b, off, rfl, hb, hc⟩
  · exact pieces_nil a cap w h
  · exact pieces_some b off cap l w h hl hsz hb hc
end Go.Proofs.YthcbkgiphfgbcaaDoor
