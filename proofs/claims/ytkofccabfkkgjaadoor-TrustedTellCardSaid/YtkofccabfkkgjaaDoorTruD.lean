/-
  What is proved: what a policy says of names: the reference's Parse: a contract. Condition: lists of at most a million, texts of at most 99999 bytes.
-/
import Derived.Test.YtkofccabfkkgjaaDoorTruC
import Derived.Test.YtkofccabfkkgjaaDoorLeu
import Derived.Test.YtkofccabfkkgjaaDoorFld
namespace Go.Proofs.YtkofccabfkkgjaaDoor
open Go.RowKit

theorem app_len {l : List (List UInt8)} (h : l.length ≤ 1000000) : l.length + 1 ≤ 1000000000 := by omega
theorem alloc_three (w : World) (A B C : Obj) : (((w.alloc A).alloc B).alloc C).heap[w.heap.size + 1]? = some B ∧ (((w.alloc A).alloc B).alloc C).heap[w.heap.size + 2]? = some C := by
  refine ⟨?_, ?_⟩
  · rw [Below.heap_alloc _ _ _ (by simp)]
    exact (alloc_two w A B).2
  · have := heap_alloc_new ((w.alloc A).alloc B) C
    rwa [World.size_alloc, World.size_alloc] at this
set_option maxHeartbeats 8000000 in
theorem parseR_any (v : Value) (rep : Bool) (ds : List Dir) (w : World) (H : DirsAt w v ds) (hs : SmallD ds) (hv : ∀ s ∈ valsOf (findD ds ttL), s.length < 100000) :
    Calls Tryd.prog 24 #[.agg #[v, .bool rep]] w (ParseSays ds w) := by
  obtain ⟨a, cap, rfl, _⟩ := H.cells
  have hext0 : Ext w (((w.alloc (.cells #[.slice a ds.length cap, .bool rep] 30)).alloc (.cells #[.slice none 0 0, .bool false, .bool false, .bool false] 45)).alloc (.cells #[.slice none 0 0, .bool false, .bool false, .bool false] 45)) := (((Below.refl _ _).alloc (Nat.le_refl _) _).alloc (by simp) _).alloc (by simp; omega) _
  have cf := findVR_any (.slice a ds.length cap) rep ds ttL w _ H hext0 hs
  have hvl := vals_small hs ttL
  obtain ⟨V, hV⟩ : ∃ V, valsOf (findD ds ttL) = V := ⟨_, rfl⟩
  obtain ⟨has, hh⟩ : ∃ has, (findD ds ttL).isSome = has := ⟨_, rfl⟩
  rw [hV] at cf hvl hv
  rw [hh] at cf
  have HP : Hid (parseN ds = valsN V) := Lib.hid (by unfold parseN; rw [hV])
  have HH : Hid (hasN ds = has) := Lib.hid hh
  have HV := Lib.hid hv
  clear hV hh hv
  go_enter Tryd.func24, Tryd.ntmps24
  go_wp2_with fail
  refine cf.mono ?_
  rintro e w1 ⟨nm, av, cv, rfl, hst, x1⟩
  obtain ⟨hc1, hf1⟩ := bcell x1
  have r0 := (hc1 (w.heap.size + 1) 0 (by simp)).trans (cells_of_lit (alloc_three w _ _ _).1 0)
  have r1 := (hc1 (w.heap.size + 1) 1 (by simp)).trans (cells_of_lit (alloc_three w _ _ _).1 1)
  have r2 := (hc1 (w.heap.size + 1) 2 (by simp)).trans (cells_of_lit (alloc_three w _ _ _).1 2)
  have r3 := (hc1 (w.heap.size + 1) 3 (by simp)).trans (cells_of_lit (alloc_three w _ _ _).1 3)
  have rf : ∀ i, w1.frozen? ⟨w.heap.size + 1, i, none⟩ = false := fun i => (hf1 (w.heap.size + 1) i (by simp)).trans (frz_of_lit (alloc_three w _ _ _).1 i)
  have p0 := (hc1 (w.heap.size + 2) 0 (by simp)).trans (cells_of_lit (alloc_three w _ _ _).2 0)
  have p1 := (hc1 (w.heap.size + 2) 1 (by simp)).trans (cells_of_lit (alloc_three w _ _ _).2 1)
  have p2 := (hc1 (w.heap.size + 2) 2 (by simp)).trans (cells_of_lit (alloc_three w _ _ _).2 2)
  have p3 := (hc1 (w.heap.size + 2) 3 (by simp)).trans (cells_of_lit (alloc_three w _ _ _).2 3)
  have pf : ∀ i, w1.frozen? ⟨w.heap.size + 2, i, none⟩ = false := fun i => (hf1 (w.heap.size + 2) i (by simp)).trans (frz_of_lit (alloc_three w _ _ _).2 i)
  have rz : w.heap.size + 2 < w1.heap.size := by have := x1.size; simp at this; omega
  simp at r0 r1 r2 r3 p0 p1 p2 p3
  have R := Lib.hid (And.intro r0 (And.intro r1 (And.intro r2 (And.intro r3 rf))))
  have xa : Ext w1 (w1.alloc (.cells #[.string ⟨⟨nm⟩⟩, .slice av V.length cv] 33)) := (Below.refl _ _).alloc (Nat.le_refl _) _
  have q0 := (xa.cell (p := ⟨w.heap.size + 2, 0, none⟩) rz).trans p0
  have q1 := (xa.cell (p := ⟨w.heap.size + 2, 1, none⟩) rz).trans p1
  have q2 := (xa.cell (p := ⟨w.heap.size + 2, 2, none⟩) rz).trans p2
  have q3 := (xa.cell (p := ⟨w.heap.size + 2, 3, none⟩) rz).trans p3
  have qf : ∀ i, (w1.alloc (.cells #[.string ⟨⟨nm⟩⟩, .slice av V.length cv] 33)).frozen? ⟨w.heap.size + 2, i, none⟩ = false := fun i => (xa.frozen (p := ⟨w.heap.size + 2, i, none⟩) rz).trans (pf i)
  have qf3 := qf 3
  have n1 : NS (w1.alloc (.cells #[.string ⟨⟨nm⟩⟩, .slice av V.length cv] 33)) (w1.heap.size + 1) (w.heap.size + 2) has ⟨[], false, false⟩ (.slice none 0 0) ((w1.alloc (.cells #[.string ⟨⟨nm⟩⟩, .slice av V.length cv] 33)).setCell ⟨w.heap.size + 2, 3, none⟩ (.bool has)) :=
    ⟨(KeepBut.refl _ _ _).set 3 _, by omega, by simp, by rw [World.cell?_setCell_other _ _ _ _ (by simp)]; exact q0, by rw [World.cell?_setCell_other _ _ _ _ (by simp)]; exact q1, by rw [World.cell?_setCell_other _ _ _ _ (by simp)]; exact q2, World.cell?_setCell_same _ _ _ q3, fun i => by rw [World.frozen?_setCell]; exact qf i, OwnS.nil _ _⟩
  have n0 : NS (w1.alloc (.cells #[.string ⟨⟨nm⟩⟩, .slice av V.length cv] 33)) (w1.heap.size + 1) (w.heap.size + 2) has ⟨[], false, false⟩ (.slice none 0 0) ((w1.setCell ⟨w.heap.size + 2, 3, none⟩ (.bool has)).alloc (.cells #[.string ⟨⟨nm⟩⟩, .slice av V.length cv] 33)) := by
    have e := World.setCell_alloc_past (w := w1) (.cells #[.string ⟨⟨nm⟩⟩, .slice av V.length cv] 33) (w.heap.size + 2) 3 (.bool has) rz
    rw [e] at n1
    exact n1
  have dd1 : (w1.alloc (.cells #[.string ⟨⟨nm⟩⟩, .slice av V.length cv] 33)).cell? ⟨w1.heap.size, 1, none⟩ = some (.slice av V.length cv) := cells_of_lit (heap_alloc_new w1 _) 1
  have N0 := Lib.hid n0
  have X5 := Lib.hid xa
  have HC := Lib.hid hst.cells
  have hw1 := hext0.trans x1
  have hmax : V.length ≤ maxLen ∧ ∀ s ∈ V, s.length ≤ maxLen := by obtain ⟨_, _, _, h1, h2, _⟩ := hst; exact ⟨h1, h2⟩
  have HM := Lib.hid hmax
  clear rf pf qf r0 r1 r2 r3 p0 p1 p2 p3 q0 q1 q2 cf hc1 hf1 hst hmax
  go_wp2_with fail
  clear q3 qf3
  obtain ⟨W5, hW5⟩ : ∃ W5, w1.alloc (.cells #[.string ⟨⟨nm⟩⟩, .slice av V.length cv] 33) = W5 := ⟨_, rfl⟩
  rw [hW5] at N0 X5 dd1
  have HW5 := Lib.hid hW5
  clear hW5 n0 n1 xa
  have DD := Lib.hid dd1
  clear dd1
  go_loopw [6] (fun i wr => ∃ (k : Nat) (N : NamesL) (lv : Value), i = .int .i64 k ∧ k ≤ V.length ∧ NS W5 (w1.heap.size + 1) (w.heap.size + 2) has N lv wr ∧ Hid (N = valsN (V.take k))) (fun i _ => V.length - (intOf i).toNat)
  case atStart => exact ⟨0, _, _, rfl, by omega, N0.out, Lib.hid rfl⟩
  case round =>
    obtain ⟨k, N, lv, rfl, hk, hN, HN⟩ := hrel
    obtain ⟨la, lc, rfl⟩ := own_form hN.own
    have c0 := hN.c0
    have c1 := hN.c1
    have c2 := hN.c2
    have c3 := hN.c3
    have f0 := hN.fz 0
    have f1 := hN.fz 1
    have f2 := hN.fz 2
    have dd := (hN.keep.cell (p := ⟨w1.heap.size, 1, none⟩) (show w1.heap.size < _ by omega) (show w1.heap.size ≠ _ by omega)).trans DD.out
    by_cases hlt : k < V.length
    · obtain ⟨av', cv', ev, hcl⟩ := HC.out
      obtain ⟨b2, o2, e2, hb2, d2⟩ := hcl k hlt
      cases ev
      subst e2
      have hb21 : b2 < w1.heap.size := Nat.lt_of_lt_of_le hb2 hw1.size
      have d3 := (hN.keep.cell (p := ⟨b2, o2 + k, none⟩) (show b2 < _ by omega) (show b2 ≠ _ by omega)).trans (((hw1.trans X5.out).cell (p := ⟨b2, o2 + k, none⟩) hb2).trans d2)
      have hxl := HM.out.2 V[k] (List.getElem_mem hlt)
      have hx5 := HV.out V[k] (List.getElem_mem hlt)
      have HS := Lib.hid ((valsN_take hlt).trans (stepN_ref _ _))
      have hNl : N.list.length ≤ 1000000 := by
        rw [HN.out]
        have := valsN_len (V.take k) ⟨[], false, false⟩
        unfold valsN
        simp only [List.length_take, List.length_nil] at this
        omega
      obtain ⟨x, hx⟩ : ∃ x, V[k] = x := ⟨_, rfl⟩
      rw [hx] at d3 hxl HS hx5 d2
      have D2 := Lib.hid d2
      have HS2 := Lib.hid (HS.out.trans (by rw [← HN.out]))
      obtain ⟨b42, e42⟩ : ∃ b, (x == [42]) = b := ⟨_, rfl⟩
      obtain ⟨bt, et⟩ : ∃ b, (lowL x == [39, 97, 108, 108, 111, 119, 45, 100, 117, 112, 108, 105, 99, 97, 116, 101, 115, 39]) = b := ⟨_, rfl⟩
      have et2 : (lowL x == adL) = bt := et
      obtain ⟨Nl, Na, Nt⟩ := N
      have k0 : (0 : Int) ≤ (k : Int) := by omega
      have k1 : (k : Int) < (V.length : Int) := by omega
      have cnm := fun W => nameR_any x W hxl
      have clw := fun W => lowR_any x W hx5
      clear hx hcl d2 HS
      cases h3 : nameB x
      · have HT : Hid ((⟨Nl, Na || b42, Nt || bt⟩ : NamesL) = valsN (V.take (k + 1))) := Lib.hid (by rw [HS2.out, h3, e42, et2]; rfl)
        rw [h3] at cnm
        clear h3 et2 HS2
        go_wp2_with fail
        refine (cnm _).mono ?_
        rintro e w2 ⟨rfl, rfl⟩
        cases Na
        · cases Nt
          · go_wp2_with (go_at_call 39; refine (clw _).mono ?_; rintro e w5 ⟨rfl, y5⟩; have hN5 := (hN.setAny b42).ext y5; have k2 := hN5.c2; have kf := hN5.fz 2)
            go_roundw
            case rel => exact ⟨k + 1, _, _, by go_num, by omega, hN5.setTwice bt, by first | exact HT | (have := HT.out; exact Lib.hid (by simpa using this))⟩
            case measure => simp [intOf]; omega
          · go_wp2_with fail
            go_roundw
            case rel => exact ⟨k + 1, _, _, by go_num, by omega, (hN.setAny b42).setTwice true, by first | exact HT | (have := HT.out; exact Lib.hid (by simpa using this))⟩
            case measure => simp [intOf]; omega
        · cases Nt
          · go_wp2_with (go_at_call 39; refine (clw _).mono ?_; rintro e w5 ⟨rfl, y5⟩; have hN5 := (hN.setAny true).ext y5; have k2 := hN5.c2; have kf := hN5.fz 2)
            go_roundw
            case rel => exact ⟨k + 1, _, _, by go_num, by omega, hN5.setTwice bt, by first | exact HT | (have := HT.out; exact Lib.hid (by simpa using this))⟩
            case measure => simp [intOf]; omega
          · go_wp2_with fail
            go_roundw
            case rel => exact ⟨k + 1, _, _, by go_num, by omega, (hN.setAny true).setTwice true, by first | exact HT | (have := HT.out; exact Lib.hid (by simpa using this))⟩
            case measure => simp [intOf]; omega
      · have HT : Hid ((⟨Nl ++ [x], Na || b42, Nt || bt⟩ : NamesL) = valsN (V.take (k + 1))) := Lib.hid (by rw [HS2.out, h3, e42, et2]; rfl)
        rw [h3] at cnm
        clear h3 et2 HS2
        go_wp2_with fail
        refine (cnm _).mono ?_
        rintro e w2 ⟨rfl, rfl⟩
        go_wp2_with fail
        have hgl : w.heap.size + 2 < wr.heap.size := Nat.lt_of_lt_of_le (by omega) hN.big
        have hv2 : ∀ o, (wr.alloc o).cell? ⟨w.heap.size + 2, 0, none⟩ = some (.slice la Nl.length lc) := fun o => (((Below.refl wr.heap.size wr).alloc (Nat.le_refl _) o).cell (p := ⟨w.heap.size + 2, 0, none⟩) hgl).trans c0
        go_region_law (refine step_app_str rfl _ _ rfl x ⟨⟨x⟩⟩ wr.drew rfl rfl rfl hN.own rfl (app_len hNl) hN.big ?_; intro g4 cap4 w4 hown4 y4'; have y4 : Below (w1.heap.size + 1) wr w4 := ⟨y4'.os, y4'.tape, y4'.output, y4'.size, y4'.block⟩; have z0 := (y4.cell (p := ⟨w.heap.size + 2, 0, none⟩) (show w.heap.size + 2 < w1.heap.size + 1 by omega)).trans c0; have zf := (y4.frozen (p := ⟨w.heap.size + 2, 0, none⟩) (show w.heap.size + 2 < w1.heap.size + 1 by omega)).trans f0)
        all_goals
          have hN4 := hN.push y4 hown4
          have c0 := hN4.c0
          have c1 := hN4.c1
          have c2 := hN4.c2
          have f1 := hN4.fz 1
          have f2 := hN4.fz 2
          have dd := (hN4.keep.cell (p := ⟨w1.heap.size, 1, none⟩) (show w1.heap.size < _ by omega) (show w1.heap.size ≠ _ by omega)).trans DD.out
          have d3 := (hN4.keep.cell (p := ⟨b2, o2 + k, none⟩) (show b2 < _ by omega) (show b2 ≠ _ by omega)).trans (((hw1.trans X5.out).cell (p := ⟨b2, o2 + k, none⟩) hb2).trans (D2.out))
          cases Na
          · cases Nt
            · go_wp2_with (go_at_call 39; refine (clw _).mono ?_; rintro e w5 ⟨rfl, y5⟩; have hN5 := (hN4.setAny b42).ext y5; have k2 := hN5.c2; have kf := hN5.fz 2)
              go_roundw
              case rel => exact ⟨k + 1, _, _, by go_num, by omega, hN5.setTwice bt, by first | exact HT | (have := HT.out; exact Lib.hid (by simpa using this))⟩
              case measure => simp [intOf]; omega
            · go_wp2_with fail
              go_roundw
              case rel => exact ⟨k + 1, _, _, by go_num, by omega, (hN4.setAny b42).setTwice true, by first | exact HT | (have := HT.out; exact Lib.hid (by simpa using this))⟩
              case measure => simp [intOf]; omega
          · cases Nt
            · go_wp2_with (go_at_call 39; refine (clw _).mono ?_; rintro e w5 ⟨rfl, y5⟩; have hN5 := (hN4.setAny true).ext y5; have k2 := hN5.c2; have kf := hN5.fz 2)
              go_roundw
              case rel => exact ⟨k + 1, _, _, by go_num, by omega, hN5.setTwice bt, by first | exact HT | (have := HT.out; exact Lib.hid (by simpa using this))⟩
              case measure => simp [intOf]; omega
            · go_wp2_with fail
              go_roundw
              case rel => exact ⟨k + 1, _, _, by go_num, by omega, (hN4.setAny true).setTwice true, by first | exact HT | (have := HT.out; exact Lib.hid (by simpa using this))⟩
              case measure => simp [intOf]; omega
    · obtain rfl : k = V.length := by omega
      have HT : Hid (N = parseN ds) := Lib.hid (by rw [HN.out, List.take_length, HP.out])
      obtain ⟨r0, r1, r2, r3, rf⟩ := R.out
      have rz1 : w.heap.size + 1 < w1.heap.size := by omega
      have hb : w.heap.size + 1 < w1.heap.size + 1 := by omega
      have hg : w.heap.size + 1 ≠ w.heap.size + 2 := by omega
      have s0 := (hN.keep.cell (p := ⟨w.heap.size + 1, 0, none⟩) hb hg).trans ((X5.out.cell (p := ⟨w.heap.size + 1, 0, none⟩) rz1).trans r0)
      have s1 := (hN.keep.cell (p := ⟨w.heap.size + 1, 1, none⟩) hb hg).trans ((X5.out.cell (p := ⟨w.heap.size + 1, 1, none⟩) rz1).trans r1)
      have s2 := (hN.keep.cell (p := ⟨w.heap.size + 1, 2, none⟩) hb hg).trans ((X5.out.cell (p := ⟨w.heap.size + 1, 2, none⟩) rz1).trans r2)
      have s3 := (hN.keep.cell (p := ⟨w.heap.size + 1, 3, none⟩) hb hg).trans ((X5.out.cell (p := ⟨w.heap.size + 1, 3, none⟩) rz1).trans r3)
      have t0 := (hN.keep.frozen (p := ⟨w.heap.size + 1, 0, none⟩) hb hg).trans ((X5.out.frozen (p := ⟨w.heap.size + 1, 0, none⟩) rz1).trans (rf 0))
      have t1 := (hN.keep.frozen (p := ⟨w.heap.size + 1, 1, none⟩) hb hg).trans ((X5.out.frozen (p := ⟨w.heap.size + 1, 1, none⟩) rz1).trans (rf 1))
      have t2 := (hN.keep.frozen (p := ⟨w.heap.size + 1, 2, none⟩) hb hg).trans ((X5.out.frozen (p := ⟨w.heap.size + 1, 2, none⟩) rz1).trans (rf 2))
      have t3 := (hN.keep.frozen (p := ⟨w.heap.size + 1, 3, none⟩) hb hg).trans ((X5.out.frozen (p := ⟨w.heap.size + 1, 3, none⟩) rz1).trans (rf 3))
      have HE : Hid (Ext w wr) := Lib.hid (hN.keep.ext (hw1.trans X5.out) (by omega) (by omega))
      have hll : N.list.length ≤ maxLen ∧ ∀ s ∈ N.list, s.length ≤ maxLen := by
        rw [HN.out]
        refine ⟨?_, valsN_each (fun s => s.length ≤ maxLen) _ _ (fun s hs => HM.out.2 s (List.mem_of_mem_take hs)) (by simp)⟩
        have := valsN_len (V.take V.length) ⟨[], false, false⟩
        unfold valsN maxLen
        simp only [List.length_take, List.length_nil] at this
        omega
      have HLL := Lib.hid hll
      clear rf r0 r1 r2 r3 hll
      go_wp2_with fail
      refine bodyPost_ret (v := .agg #[.slice la N.list.length lc, .bool N.any, .bool N.twice, .bool has]) (by simp [results, Tryd.results24, go_sem, s0, s1, s2, s3]) rfl ?_
      unfold ParseSays
      rw [← HT.out, HH.out]
      refine ⟨_, _, rfl, OwnS.strs (B := w1.heap.size + 1) (ownsRow_setCell_below (ownsRow_setCell_below (ownsRow_setCell_below (ownsRow_setCell_below hN.own hb _) hb _) hb _) hb _) HLL.out.1 HLL.out.2, ?_⟩
      exact (((HE.out.setCell (by simp) _).setCell (by simp) _).setCell (by simp) _).setCell (by simp) _
end Go.Proofs.YtkofccabfkkgjaaDoor
