/-
  What is proved: the walk of the statement PolicyOnce: it answers true. Conditions: texts that fit, what the package's variable holds.
-/
import Derived.Test.YtghafpkkmeibgaaDoorSay
namespace Go.Proofs.YtghafpkkmeibgaaDoor
open Go.RowKit

theorem low_not {c : UInt8} (h : lowB c = c) : c.toNat < 65 ∨ 90 < c.toNat := by
  have key : ∀ n : Fin 256, lowB (UInt8.ofNat n) = UInt8.ofNat n → n.val < 65 ∨ 90 < n.val := by decide +kernel
  have := key ⟨c.toNat, c.toNat_lt⟩
  simp only [UInt8.ofNat_toNat] at this
  exact this h
theorem sp_not {c : UInt8} (h : spB c = false) : c.toNat ≠ 32 := by
  have key : ∀ n : Fin 256, spB (UInt8.ofNat n) = false → n.val ≠ 32 := by decide +kernel
  have := key ⟨c.toNat, c.toNat_lt⟩
  simp only [UInt8.ofNat_toNat] at this
  exact this h
theorem DirsAt.front {w : World} {a : Option Addr} {n c : Nat} {A more : List Dir} (h : DirsAt w (.slice a n c) (A ++ more)) : DirsAt w (.slice a A.length c) A := by
  obtain ⟨a', c', us, e, h2, h3, h5, h4⟩ := h
  simp only [Value.slice.injEq] at e
  obtain ⟨rfl, _, rfl⟩ := e
  refine ⟨a, c, us, rfl, by simp at h2; omega, fun i hi => ?_, fun d hd => h5 d (by simp [hd]), ?_⟩
  · have := h3 i (by simp; omega)
    rwa [List.getElem_append_left hi] at this
  · rcases h4 with h4 | ⟨b, off, e, hb, hc⟩
    · exact .inl (List.append_eq_nil_iff.1 h4).1
    · refine .inr ⟨b, off, e, hb, fun i hi => ?_⟩
      have := hc i (by simp; omega)
      rwa [List.getElem_append_left hi] at this
theorem OwnD.len2 {B : Nat} {v : Value} {l : List Dir} {w : World} (h : OwnD B v l w) : ∃ a cap, v = .slice a l.length cap ∧ l.length ≤ cap := by
  obtain ⟨ps, rfl, ⟨_, h2⟩, _⟩ := h
  rcases h2 with ⟨rfl, h0⟩ | ⟨g, cap, cur, rfl, _, _, hn, _⟩
  · exact ⟨none, 0, by simp [h0], by simp [h0]⟩
  · exact ⟨some ⟨g, 0, none⟩, cap, by simp, by simpa using hn⟩
set_option maxHeartbeats 8000000 in
set_option maxRecDepth 100000 in
theorem once_walk (s f : List UInt8) (w : World) (hm : MaxIs w) (hs : s.length ≤ maxLen) (hf : f.length ≤ maxLen) :
    Calls Tryd.prog 5 #[.string ⟨⟨s⟩⟩, .string ⟨⟨f⟩⟩] w fun e w' => e = .returned (.bool true) ∧ Ext w w' := by
  unfold maxLen at hs hf
  by_cases g1 : 2000 < s.length
  · go_enter Tryd.func5, Tryd.ntmps5
    go_wp2_with (go_at_call 15; refine (says_any _ hm).mono ?_; rintro e w1 ⟨rfl, x1⟩)
    go_ret
    exact ⟨rfl, x1⟩
  · by_cases g2 : 100 < f.length
    · go_enter Tryd.func5, Tryd.ntmps5
      go_wp2_with (go_at_call 15; refine (says_any _ hm).mono ?_; rintro e w1 ⟨rfl, x1⟩)
      go_ret
      exact ⟨rfl, x1⟩
    · have hsl : s.length < 100000 := by omega
      have c1 := fun W hM => one_any s W hM hsl
      have hol := one_len s
      have hgood := good_one s
      obtain ⟨D, hD⟩ : ∃ D, oneL s = D := ⟨_, rfl⟩
      rw [hD] at c1 hol hgood
      have HG := Lib.hid hgood
      have c2 := fun W hM => one_any f W hM (by omega)
      have hfl := one_len f
      obtain ⟨more, hmore⟩ := one_ahead f s
      have hbl : (f ++ 59 :: s).length < 100000 := by simp; omega
      have c3 := fun W hM => one_any (f ++ 59 :: s) W hM hbl
      have hbo := one_len (f ++ 59 :: s)
      rw [hmore] at c3 hbo
      obtain ⟨A, hA⟩ : ∃ A, oneL f = A := ⟨_, rfl⟩
      rw [hA] at c2 c3 hfl hbo
      have hbo2 : A.length + more.length ≤ 2110 := by simp at hbo; omega
      have hcat : f ++ 59 :: s = f ++ [59] ++ s := by simp
      have HCAT := Lib.hid hcat
      clear hD hgood hmore hA hbo hcat
      go_enter Tryd.func5, Tryd.ntmps5
      go_wp2_with fail
      refine (c1 _ hm).mono ?_
      rintro e w1 ⟨v1, rfl, o1, x1⟩
      have h1 := o1.dirs (by unfold maxLen; omega)
      obtain ⟨a1, p1, rfl⟩ := o1.len
      clear o1 c1
      go_wp2_with fail
      go_loopw [6] (fun iv wr => ∃ k : Nat, iv = .int .i64 k ∧ k ≤ D.length ∧ Ext w1 wr) (fun iv _ => D.length - (intOf iv).toNat)
      case atStart => exact ⟨0, rfl, by omega, Ext.refl _⟩
      case round =>
        obtain ⟨k, rfl, hk, hx⟩ := hrel
        have k0 : (0 : Int) ≤ (k : Int) := by omega
        by_cases hlt : k < D.length
        · have H2 := h1.ext hx
          have HCL := Lib.hid H2.cells
          obtain ⟨a', c', e', hcl⟩ := H2.cells
          obtain ⟨b, off, u, e2, hb, n1, n2, hu⟩ := hcl k hlt
          cases e'
          subst e2
          have hge := HG.out.each D[k] (List.getElem_mem hlt)
          have hnl : D[k].name.length ≤ maxLen := by obtain ⟨_, _, _, _, _, _, h, _⟩ := H2; exact h _ (List.getElem_mem hlt)
          have HO : Hid (∀ j (hj : j < k), D[j].name ≠ D[k].name) := Lib.hid (fun j hj => List.pairwise_iff_getElem.1 HG.out.once j k (by omega) hlt hj)
          obtain ⟨d, hd⟩ : ∃ d, D[k] = d := ⟨_, rfl⟩
          rw [hd] at n1 hu hge hnl HO
          obtain ⟨ua, uc, rfl, huc⟩ := hu.cells
          have hvl : d.vals.length ≤ maxLen := by obtain ⟨_, _, _, h, _⟩ := hu; exact h
          have HU := Lib.hid huc
          have HGE := Lib.hid hge
          have e1 : (d.name == []) = false := beq_eq_false_iff_ne.2 hge.name.1
          have k1 : (k : Int) < (D.length : Int) := by omega
          unfold maxLen at hnl hvl
          clear hd hcl huc hge
          go_wp2_with fail
          go_loop [7] (fun q => ∃ j : Nat, q = .int .i64 j ∧ j ≤ d.name.length) (fun q => d.name.length - (intOf q).toNat)
          case atStart => exact ⟨0, rfl, by omega⟩
          case round =>
            obtain ⟨j, rfl, hj⟩ := hrel
            have j0 : (0 : Int) ≤ (j : Int) := by omega
            by_cases hjl : j < d.name.length
            · have hcb := HGE.out.name.2 d.name[j] (List.getElem_mem hjl)
              have hlow : lowB d.name[j] = d.name[j] := by
                have h := HGE.out.low
                have h2 : (lowL d.name)[j]? = (d.name)[j]? := by rw [h]
                simp only [lowL, List.getElem?_map, List.getElem?_eq_getElem hjl, Option.map_some, Option.some.injEq] at h2
                exact h2
              obtain ⟨c, hc⟩ : ∃ c, d.name[j] = c := ⟨_, rfl⟩
              rw [hc] at hcb hlow
              have hcl2 := c.toNat_lt
              have q32 : ((c.toNat : Int) == 32) = false := beq_eq_false_iff_ne.2 (by have := sp_not hcb.1; omega)
              have q59 : ((c.toNat : Int) == 59) = false := beq_eq_false_iff_ne.2 (fun e => hcb.2 (UInt8.toNat_inj.1 (by rw [show (59 : UInt8).toNat = 59 from rfl]; omega)))
              have hlo := low_not hlow
              have j1 : (j : Int) < (d.name.length : Int) := by omega
              clear hcb hlow
              rcases hlo with hlo | hlo
              · have r1 : ¬ (65 : Int) ≤ (c.toNat : Int) := by omega
                go_wp2_with fail
                go_round
                case rel => exact ⟨j + 1, by go_num, by omega⟩
                case measure => simp [intOf]; omega
              · have r1 : (65 : Int) ≤ (c.toNat : Int) := by omega
                have r2 : ¬ (c.toNat : Int) ≤ 90 := by omega
                go_wp2_with fail
                go_round
                case rel => exact ⟨j + 1, by go_num, by omega⟩
                case measure => simp [intOf]; omega
            · obtain rfl : j = d.name.length := by omega
              go_wp2_with fail
              go_loop [9] (fun q => ∃ j : Nat, q = .int .i64 j ∧ j ≤ d.vals.length) (fun q => d.vals.length - (intOf q).toNat)
              case atStart => exact ⟨0, rfl, by omega⟩
              case round =>
                obtain ⟨j, rfl, hj2⟩ := hrel
                have j2 : (0 : Int) ≤ (j : Int) := by omega
                by_cases hjl : j < d.vals.length
                · obtain ⟨b2, o2, rfl, hb2, d2⟩ := HU.out j hjl
                  have hcb := (HGE.out.vals d.vals[j] (List.getElem_mem hjl)).1
                  obtain ⟨x, hxx⟩ : ∃ x, d.vals[j] = x := ⟨_, rfl⟩
                  rw [hxx] at hcb d2
                  have q1 : (x == []) = false := beq_eq_false_iff_ne.2 hcb
                  have j3 : (j : Int) < (d.vals.length : Int) := by omega
                  clear hcb hxx
                  go_wp2_with fail
                  go_round
                  case rel => exact ⟨j + 1, by go_num, by omega⟩
                  case measure => simp [intOf]; omega
                · obtain rfl : j = d.vals.length := by omega
                  go_wp2_with fail
                  go_loopw [10] (fun q wq => ∃ j : Nat, q = .int .i64 j ∧ j ≤ k ∧ Ext w1 wq ∧ wq.cell? ⟨b, off + k * 2, none⟩ = some (.string ⟨⟨d.name⟩⟩)) (fun q _ => k - (intOf q).toNat)
                  case atStart => exact ⟨0, rfl, by omega, hx, n1⟩
                  case round =>
                    obtain ⟨j, rfl, hj4, hx2, m1⟩ := hrel
                    have j4 : (0 : Int) ≤ (j : Int) := by omega
                    by_cases hjk : j < k
                    · obtain ⟨a', c', e', hcl⟩ := (h1.ext hx2).cells
                      obtain ⟨b5, o5, u5, e2, hb5, m3, _, _⟩ := hcl j (by omega)
                      cases e'
                      cases e2
                      have hne := HO.out j hjk
                      obtain ⟨y, hy⟩ : ∃ y, D[j].name = y := ⟨_, rfl⟩
                      rw [hy] at m3 hne
                      have q5 : (y == d.name) = false := beq_eq_false_iff_ne.2 hne
                      have j5 : (j : Int) < (D.length : Int) := by omega
                      have j6 : (j : Int) < (k : Int) := by omega
                      clear hne hy hcl
                      go_wp2_with fail
                      go_quiet (fail)
                      go_wp2_with fail
                      go_roundw
                      case rel => exact ⟨j + 1, by go_num, by omega, below_drewN hx2 _, m1⟩
                      case measure => simp [intOf]; omega
                    · obtain rfl : j = k := by omega
                      go_wp2_with fail
                      go_roundw
                      case rel => exact ⟨j + 1, by go_num, by omega, hx2⟩
                      case measure => simp [intOf]; omega
        · obtain rfl : k = D.length := by omega
          have y1 := Ext.trans x1 hx
          go_wp2_with fail
          refine (c2 _ (hm.ext y1)).mono ?_
          rintro e w2 ⟨v2, rfl, o2, x2⟩
          have h2 := o2.dirs (by unfold maxLen; omega)
          obtain ⟨a2, p2, rfl⟩ := o2.len
          have y2 := Ext.trans y1 x2
          go_wp2_with fail
          refine (c3 _ (hm.ext y2)).mono ?_
          rintro e w3 ⟨v3, rfl, o3, x3⟩
          have h3 := o3.dirs (by rw [List.length_append]; unfold maxLen; omega)
          obtain ⟨a3, p3, rfl, hcap⟩ := o3.len2
          have y3 := Ext.trans y2 x3
          rw [List.length_append] at hcap
          have hF := h3.front
          have q1 : (A.length : Int) ≤ (A.length : Int) + (more.length : Int) := by omega
          have q2 : (A.length : Int) ≤ (p3 : Int) := by omega
          have q3 : (0 : Int) ≤ (A.length : Int) := by omega
          have q4 : A.length ≤ p3 := by omega
          have h2' := h2.ext x3
          have HF := Lib.hid hF
          clear h3 hF o3 o2 h2
          go_wp2_with fail
          refine (same_true _ _ false A _ HF.out h2').mono ?_
          rintro e w4 ⟨rfl, x4⟩
          have y4 := Ext.trans y3 x4
          go_wp2_with fail
          refine (says_any _ (hm.ext y4)).mono ?_
          rintro e w5 ⟨rfl, x5⟩
          go_wp2_with fail
          go_ret
          exact ⟨rfl, Ext.trans y4 x5⟩
end Go.Proofs.YtghafpkkmeibgaaDoor
