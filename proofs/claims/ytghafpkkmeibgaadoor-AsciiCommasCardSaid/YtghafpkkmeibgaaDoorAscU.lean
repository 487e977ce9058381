/-
  What is proved: the walk of the statement AsciiFields: it answers true. Conditions: a text and a list that fit, what the package's variable holds.
-/
import Derived.Test.YtghafpkkmeibgaaDoorAscT
import Derived.Test.YtghafpkkmeibgaaDoorAscQ
import Derived.Lib.Join
namespace Go.Proofs.YtghafpkkmeibgaaDoor
open Go.RowKit

theorem BytesAt.cells {w : World} {v : Value} {l : List UInt8} (h : BytesAt w v l) : ∃ a cap, v = .slice a l.length cap ∧ l.length ≤ maxLen ∧ ∀ k (hk : k < l.length), ∃ b off, a = some ⟨b, off, none⟩ ∧ b < w.heap.size ∧ w.cell? ⟨b, off + k, none⟩ = some (.int .u8 l[k].toNat) := by
  obtain ⟨a, cap, e1, hm, e4⟩ := h
  refine ⟨a, cap, e1, hm, fun k hk => ?_⟩
  rcases e4 with rfl | ⟨b, off, e, hb, hc⟩
  · simp at hk
  · exact ⟨b, off, e, hb, hc k hk⟩
def GapIs (w : World) (v : Value) (w' : World) : Prop := ∃ g : Nat, g < 5 ∧ v = .int .i64 g ∧ w = w'
theorem gap_of (w : World) (n : Int) (_ : 0 ≤ n) (v : Value) (hv : v = .int .i64 (n % 5)) : GapIs w v w := by
  refine ⟨(n % 5).toNat, by omega, ?_, rfl⟩
  rw [hv]
  congr 1
  omega
theorem lens_fields (s : List UInt8) : Lib.lens (fieldsL s) ≤ s.length := by
  have := fields_total s []
  unfold Lib.lens fieldsL
  simpa using this
theorem lens_le (l : List (List UInt8)) (k : Nat) : Lib.lens (l.take k) ≤ Lib.lens l := Lib.lens_take_le l k
set_option maxHeartbeats 8000000 in
set_option maxRecDepth 100000 in
theorem asciiFields_walk (s : List UInt8) (gv : Value) (gs : List UInt8) (w : World) (hm : MaxIs w) (hs : s.length ≤ maxLen) (K : BytesAt w gv gs) :
    Calls Tryd.prog 11 #[.string ⟨⟨s⟩⟩, gv] w fun e w' => e = .returned (.bool true) ∧ Ext w w' := by
  unfold maxLen at hs
  obtain ⟨ga, gc, rfl, hgl, hgc⟩ := K.cells
  unfold maxLen at hgl
  have HGC := Lib.hid hgc
  clear hgc K
  by_cases g1 : 1000 < s.length
  · go_enter Tryd.func11, Tryd.ntmps11
    go_wp2_with (go_at_call 32; refine (spelt_any _ hm).mono ?_; rintro e w1 ⟨rfl, x1⟩)
    go_ret
    exact ⟨rfl, x1⟩
  · have hsl : s.length < 100000 := by omega
    have cf := fun W => fields_strs s W hsl
    have cst := fun W => strip_any s W hsl
    have hq := fields_strip s
    have hql := strip_len s
    have cf2 := fun W => fields_strs (stripL s) W (by omega)
    rw [hq] at cf2
    obtain ⟨R, hR⟩ : ∃ R, stripL s = R := ⟨_, rfl⟩
    rw [hR] at cst cf2
    have hcount := fields_count s
    have hlens := lens_fields s
    have hW : ∀ x ∈ fieldsL s, WordB x := fields_words s [] (by simp)
    obtain ⟨F, hF⟩ : ∃ F, fieldsL s = F := ⟨_, rfl⟩
    rw [hF] at cf cf2 hcount hlens hW
    have HW := Lib.hid hW
    clear hq hql hR hF hW
    go_enter Tryd.func11, Tryd.ntmps11
    go_wp2_with fail
    refine (cf _).mono ?_
    rintro e w1 ⟨v1, rfl, h1, x1⟩
    obtain ⟨a1, c1, rfl, hcl⟩ := h1.cells
    have HC := Lib.hid hcl
    clear hcl cf
    go_wp2_with fail
    go_loopw [7, 8] (fun tv i wr => ∃ (k : Nat) (t : List UInt8), i = .int .i64 k ∧ tv = .string ⟨⟨t⟩⟩ ∧ k ≤ F.length ∧ t.length ≤ Lib.lens (F.take k) + 2 * k ∧ Hid (ClosedF t (F.take k)) ∧ Ext w1 wr) (fun _ i _ => F.length - (intOf i).toNat)
    case atStart => exact ⟨0, [], rfl, rfl, by omega, by simp, Lib.hid ClosedF.nil, Ext.refl _⟩
    case round =>
      obtain ⟨k, t, rfl, rfl, hk, htl, HT, hx⟩ := hrel
      have hle := lens_le F k
      by_cases hlt : k < F.length
      · obtain ⟨b1, o1, rfl, hb1, d1⟩ := HC.out k hlt
        have d1 := (hx.cell (p := ⟨b1, o1 + k, none⟩) hb1).trans d1
        have hw := HW.out F[k] (List.getElem_mem hlt)
        have HTK : Hid (F.take (k + 1) = F.take k ++ [F[k]]) := Lib.hid (List.take_succ_eq_append_getElem hlt)
        have hls := Lib.lens_take_succ F k F[k] (List.getElem?_eq_getElem hlt)
        have hle2 := lens_le F (k + 1)
        obtain ⟨x, hxx⟩ : ∃ x, F[k] = x := ⟨_, rfl⟩
        rw [hxx] at d1 hw HTK hls
        have HLS := Lib.hid hls
        have e1 : (x == []) = false := beq_eq_false_iff_ne.2 hw.1
        have hxl : x.length ≤ 1000 := by omega
        have k0 : (0 : Int) ≤ (k : Int) := by omega
        have k1 : (k : Int) < (F.length : Int) := by omega
        have HX := Lib.hid hw
        clear hxx hw hls
        go_wp2_with fail
        go_loop [9] (fun q => ∃ j : Nat, q = .int .i64 j ∧ j ≤ x.length) (fun q => x.length - (intOf q).toNat)
        case atStart => exact ⟨0, rfl, by omega⟩
        case round =>
          obtain ⟨j, rfl, hj⟩ := hrel
          by_cases hjl : j < x.length
          · have hsp := HX.out.2 x[j] (List.getElem_mem hjl)
            obtain ⟨y, hy⟩ : ∃ y, x[j] = y := ⟨_, rfl⟩
            rw [hy] at hsp
            have cs := fun W => space_any y W
            rw [hsp] at cs
            have hyl := y.toNat_lt
            have j0 : (0 : Int) ≤ (j : Int) := by omega
            have j1 : (j : Int) < (x.length : Int) := by omega
            clear hsp
            go_wp2_with (go_at_call 44; refine (cs _).mono ?_; rintro e w2 ⟨rfl, rfl⟩)
            go_round
            case rel => exact ⟨j + 1, by go_num, by omega⟩
            case measure => simp [intOf]; omega
          · obtain rfl : j = x.length := by omega
            go_upto_if 47 with fail
            go_cut [10] from 44 to 53 (fun v wx => GapIs wr v wx)
            case first =>
              by_cases hg : k < gs.length
              · obtain ⟨b2, o2, rfl, hb2, d2⟩ := HGC.out k hg
                have d2 := (hx.cell (p := ⟨b2, o2 + k, none⟩) (Nat.lt_of_lt_of_le hb2 x1.size)).trans ((x1.cell (p := ⟨b2, o2 + k, none⟩) hb2).trans d2)
                obtain ⟨z, hz⟩ : ∃ z, gs[k] = z := ⟨_, rfl⟩
                rw [hz] at d2
                have hzl := z.toNat_lt
                have g0 : (k : Int) < (gs.length : Int) := by omega
                go_wp2_with fail
                go_meet
                case rel => exact gap_of _ (z.toNat : Int) (by omega) _ rfl
              · go_wp2_with fail
                go_meet
                case rel => exact ⟨0, by omega, rfl, rfl⟩
            case rest =>
              obtain ⟨g, hg, rfl, rfl⟩ := hcut
              obtain ⟨T, hT⟩ : ∃ T, t ++ [spcAt g] ++ x ++ [spcAt (4 - g)] = T := ⟨_, rfl⟩
              have HM : Hid (ClosedF T (F.take (k + 1))) := Lib.hid (by rw [HTK.out, ← hT]; exact HT.out.more HX.out (spcAt_sp _) (spcAt_sp _))
              have hTl : T.length ≤ Lib.lens (F.take (k + 1)) + 2 * (k + 1) := by rw [← hT, HLS.out]; simp; omega
              have HTT := Lib.hid hT
              clear hT
              have hcase : g = 0 ∨ g = 1 ∨ g = 2 ∨ g = 3 ∨ g = 4 := by omega
              rcases hcase with rfl | rfl | rfl | rfl | rfl
              all_goals
                go_wp2_with fail
                go_quiet (fail)
                go_wp2_with fail
                go_roundw
                case rel =>
                  exact ⟨k + 1, T, by go_num, by rw [← HTT.out]; simp [spcAt, spcL], by omega, hTl, HM, below_drewN hx _⟩
                case measure => simp [intOf]; omega
      · obtain rfl : k = F.length := by omega
        have HE : Hid (fieldsL t = F) := Lib.hid (by have := HT.out.eq; rwa [List.take_length] at this)
        have htl2 : t.length < 100000 := by omega
        have cf3 := fun W => fields_strs t W htl2
        rw [HE.out] at cf3
        go_wp2_with fail
        refine (cf3 _).mono ?_
        rintro e w2 ⟨v2, rfl, h2, x2⟩
        go_wp2_with fail
        refine (texts_same _ _ _ _ h2 ((h1.ext hx).ext x2)).mono ?_
        rintro e w3 ⟨rfl, x3⟩
        have y3 := Ext.trans hx (Ext.trans x2 x3)
        go_wp2_with fail
        refine (cst _).mono ?_
        rintro e w4 ⟨rfl, x4⟩
        have y4 := Ext.trans y3 x4
        go_wp2_with fail
        refine (cf2 _).mono ?_
        rintro e w5 ⟨v5, rfl, h5, x5⟩
        have y5 := Ext.trans y4 x5
        go_wp2_with fail
        refine (texts_same _ _ _ _ h5 (h1.ext y5)).mono ?_
        rintro e w6 ⟨rfl, x6⟩
        have y6 := Ext.trans x1 (Ext.trans y5 x6)
        go_wp2_with fail
        refine (spelt_any _ (hm.ext y6)).mono ?_
        rintro e w7 ⟨rfl, x7⟩
        go_wp2_with fail
        go_ret
        exact ⟨rfl, Ext.trans y6 x7⟩
end Go.Proofs.YtghafpkkmeibgaaDoor
