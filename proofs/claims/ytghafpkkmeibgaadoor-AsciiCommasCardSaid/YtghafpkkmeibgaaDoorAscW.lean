/-
  What is proved: the walk of the statement AsciiCommas: it answers true. Conditions: a text and a list that fit, what the package's variable holds.
-/
import Derived.Test.YtghafpkkmeibgaaDoorAscU
import Derived.Deep.RegionHeld3
namespace Go.Proofs.YtghafpkkmeibgaaDoor
open Go.RowKit

theorem lens_split (c : UInt8) : ∀ (l p : List UInt8), Lib.lens (splitG c p l) ≤ p.length + l.length
  | [], p => by simp [splitG, Lib.lens]
  | d :: t, p => by
    unfold splitG
    split
    · have := lens_split c t []
      simp only [Lib.lens, List.map_cons, List.sum_cons, List.length_cons, List.length_nil] at this ⊢
      omega
    · have := lens_split c t (p ++ [d])
      simp only [Lib.lens, List.length_append, List.length_cons, List.length_nil] at this ⊢
      omega
theorem lens_fold : ∀ (ps out : List (List UInt8)), Lib.lens (ps.foldl commaStep out) ≤ Lib.lens out + Lib.lens ps
  | [], out => by simp [Lib.lens]
  | p :: ps, out => by
    have h := lens_fold ps (commaStep out p)
    have h2 : Lib.lens (commaStep out p) ≤ Lib.lens out + p.length := by
      have := strip_len p
      unfold commaStep
      split
      · omega
      · simp only [Lib.lens, List.map_append, List.sum_append, List.map_cons, List.map_nil, List.sum_cons, List.sum_nil]
        omega
    simp only [List.foldl_cons]
    have h3 : Lib.lens (p :: ps) = p.length + Lib.lens ps := by simp [Lib.lens]
    omega
theorem lens_commas (s : List UInt8) : Lib.lens (commasL s) ≤ s.length := by
  have h1 := lens_fold (splitL 44 s) []
  have h2 := lens_split 44 s []
  unfold commasL splitL at *
  simp only [Lib.lens, List.map_nil, List.sum_nil, List.length_nil] at h1 h2 ⊢
  omega
set_option maxHeartbeats 8000000 in
set_option maxRecDepth 100000 in
theorem asciiCommas_walk (s : List UInt8) (gv : Value) (gs : List UInt8) (w : World) (hm : MaxIs w) (hs : s.length ≤ maxLen) (K : BytesAt w gv gs) :
    Calls Tryd.prog 12 #[.string ⟨⟨s⟩⟩, gv] w fun e w' => e = .returned (.bool true) ∧ Ext w w' := by
  unfold maxLen at hs
  obtain ⟨ga, gc, rfl, hgl, hgc⟩ := K.cells
  unfold maxLen at hgl
  have HGC := Lib.hid hgc
  clear hgc K
  by_cases g1 : 1000 < s.length
  · go_enter Tryd.func12, Tryd.ntmps12
    go_wp2_with (go_at_call 32; refine (spelt_any _ hm).mono ?_; rintro e w1 ⟨rfl, x1⟩)
    go_ret
    exact ⟨rfl, x1⟩
  · have hsl : s.length < 100000 := by omega
    have cf := fun W hM => commas_strs s W hM hsl
    have hcount := commas_count s
    have hlens := lens_commas s
    have hW : ∀ x ∈ commasL s, CommaW x := commas_words s
    obtain ⟨F, hF⟩ : ∃ F, commasL s = F := ⟨_, rfl⟩
    rw [hF] at cf hcount hlens hW
    have HW := Lib.hid hW
    clear hF hW
    go_enter Tryd.func12, Tryd.ntmps12
    go_wp2_with fail
    refine (cf _ hm).mono ?_
    rintro e w1 ⟨v1, rfl, h1, x1⟩
    obtain ⟨a1, c1, rfl, hcl⟩ := h1.cells
    have HC := Lib.hid hcl
    clear hcl cf
    go_wp2_with fail
    go_loopw [7, 8] (fun tv i wr => ∃ (k : Nat) (t : List UInt8), i = .int .i64 k ∧ tv = .string ⟨⟨t⟩⟩ ∧ k ≤ F.length ∧ t.length ≤ Lib.lens (F.take k) + 5 * k ∧ Hid (ClosedC t (F.take k)) ∧ Ext w1 wr) (fun _ i _ => F.length - (intOf i).toNat)
    case atStart => exact ⟨0, [], rfl, rfl, by omega, by simp, Lib.hid ClosedC.nil, Ext.refl _⟩
    case round =>
      obtain ⟨k, t, rfl, rfl, hk, htl, HT, hx⟩ := hrel
      have hle := lens_le F k
      by_cases hlt : k < F.length
      · obtain ⟨b1, o1, rfl, hb1, d1⟩ := HC.out k hlt
        have d0 := d1
        have d1 := (hx.cell (p := ⟨b1, o1 + k, none⟩) hb1).trans d0
        have hw := HW.out F[k] (List.getElem_mem hlt)
        have HTK : Hid (F.take (k + 1) = F.take k ++ [F[k]]) := Lib.hid (List.take_succ_eq_append_getElem hlt)
        have hls := Lib.lens_take_succ F k F[k] (List.getElem?_eq_getElem hlt)
        have hle2 := lens_le F (k + 1)
        obtain ⟨x, hxx⟩ : ∃ x, F[k] = x := ⟨_, rfl⟩
        rw [hxx] at d0 d1 hw HTK hls
        have HLS := Lib.hid hls
        have e1 : (x == []) = false := beq_eq_false_iff_ne.2 hw.ne
        have hxl : x.length ≤ 1000 := by omega
        have k0 : (0 : Int) ≤ (k : Int) := by omega
        have k1 : (k : Int) < (F.length : Int) := by omega
        have HX := Lib.hid hw
        clear hxx hw hls
        have cst := fun W => strip_any x W (by omega)
        rw [HX.out.strip] at cst
        have e2 : (x == x) = true := by simp
        have e3 : (x != x) = false := by simp
        go_wp2_with fail
        go_region_held3 (fun w' => w'.cell? ⟨b1, o1 + k, none⟩ = some (.string ⟨⟨x⟩⟩)) (go_keep)
          (first | (go_at_call 35; refine (cst _).mono ?_; rintro e ws ⟨rfl, xs⟩; have hx : Ext w1 ws := Ext.trans (by repeat (first | with_reducible exact hx | with_reducible refine Below.drew ?_ | with_reducible refine below_drewN ?_ _)) xs; have d1 := (hx.cell (p := ⟨b1, o1 + k, none⟩) hb1).trans d0))
        go_wp2_with fail
        go_loop [9] (fun q => ∃ j : Nat, q = .int .i64 j ∧ j ≤ x.length) (fun q => x.length - (intOf q).toNat)
        case atStart => exact ⟨0, rfl, by omega⟩
        case round =>
          obtain ⟨j, rfl, hj⟩ := hrel
          by_cases hjl : j < x.length
          · have hsp : x[j] ≠ 44 := fun e => HX.out.no (by rw [← e]; exact List.getElem_mem hjl)
            obtain ⟨y, hy⟩ : ∃ y, x[j] = y := ⟨_, rfl⟩
            rw [hy] at hsp
            have hyl := y.toNat_lt
            have hy44 : (y.toNat : Int) ≠ 44 := fun e => hsp (UInt8.toNat_inj.1 (by rw [show (44 : UInt8).toNat = 44 from rfl]; omega))
            have e4 : ((y.toNat : Int) == 44) = false := by simpa using hy44
            have j0 : (0 : Int) ≤ (j : Int) := by omega
            have j1 : (j : Int) < (x.length : Int) := by omega
            clear hsp hy44
            go_wp2_with fail
            go_round
            case rel => exact ⟨j + 1, by go_num, by omega⟩
            case measure => simp [intOf]; omega
          · obtain rfl : j = x.length := by omega
            go_upto_if 59 with fail
            go_cut [10] from 56 to 65 (fun v wx => GapIs ws v wx)
            case first =>
              by_cases hg : k < gs.length
              · obtain ⟨b2, o2, rfl, hb2, d2⟩ := HGC.out k hg
                have d2 := (hx.cell (p := ⟨b2, o2 + k, none⟩) (Nat.lt_of_lt_of_le hb2 x1.size)).trans ((x1.cell (p := ⟨b2, o2 + k, none⟩) hb2).trans d2)
                obtain ⟨z, hz⟩ : ∃ z, gs[k] = z := ⟨_, rfl⟩
                rw [hz] at d2
                have hzl := z.toNat_lt
                have g0 : (k : Int) < (gs.length : Int) := by omega
                go_wp2_with fail
                go_meet
                case rel => exact gap_of _ (z.toNat : Int) (by omega) _ rfl
              · go_wp2_with fail
                go_meet
                case rel => exact ⟨0, by omega, rfl, rfl⟩
            case rest =>
              obtain ⟨g, hg, rfl, rfl⟩ := hcut
              obtain ⟨T, hT⟩ : ∃ T, t ++ [spcAt g] ++ x ++ [spcAt (4 - g)] ++ [44] ++ [spcAt g] ++ [44] = T := ⟨_, rfl⟩
              have HM : Hid (ClosedC T (F.take (k + 1))) := Lib.hid (by rw [HTK.out, ← hT]; exact HT.out.more HX.out (spcAt_sp _) (spcAt_sp _))
              have hTl : T.length ≤ Lib.lens (F.take (k + 1)) + 5 * (k + 1) := by rw [← hT, HLS.out]; simp; omega
              have HTT := Lib.hid hT
              clear hT
              have hcase : g = 0 ∨ g = 1 ∨ g = 2 ∨ g = 3 ∨ g = 4 := by omega
              rcases hcase with rfl | rfl | rfl | rfl | rfl
              all_goals
                go_wp2_with fail
                go_quiet (fail)
                go_wp2_with fail
                go_roundw
                case rel =>
                  exact ⟨k + 1, T, by go_num, by rw [← HTT.out]; simp [spcAt, spcL], by omega, hTl, HM, below_drewN hx _⟩
                case measure => simp [intOf]; omega
      · obtain rfl : k = F.length := by omega
        have HE : Hid (commasL t = F) := Lib.hid (by have := HT.out.eq; rwa [List.take_length] at this)
        have htl2 : t.length < 100000 := by omega
        have cf3 := fun W hM => commas_strs t W hM htl2
        rw [HE.out] at cf3
        have y0 := Ext.trans x1 hx
        go_wp2_with fail
        refine (cf3 _ (hm.ext y0)).mono ?_
        rintro e w2 ⟨v2, rfl, h2, x2⟩
        go_wp2_with fail
        refine (texts_same _ _ _ _ h2 ((h1.ext hx).ext x2)).mono ?_
        rintro e w3 ⟨rfl, x3⟩
        have y3 := Ext.trans y0 (Ext.trans x2 x3)
        go_wp2_with fail
        refine (spelt_any _ (hm.ext y3)).mono ?_
        rintro e w7 ⟨rfl, x7⟩
        go_wp2_with fail
        go_ret
        exact ⟨rfl, Ext.trans y3 x7⟩
end Go.Proofs.YtghafpkkmeibgaaDoor
