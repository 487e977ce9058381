/-
  What is proved: the policy of a meta element, the reference's: a contract. Condition: texts of at most 100000 bytes.
-/
import Derived.Test.YtghafpkkmeibgaaDoorMta
import Derived.RegionTactic
namespace Go.Proofs.YtghafpkkmeibgaaDoor
open Go.RowKit

theorem meta_take {ds : List Dir} {k : Nat} (h : k < ds.length) : metaL (ds.take (k + 1)) = if hdrB ds[k].name then metaL (ds.take k) else metaL (ds.take k) ++ [ds[k]] := by
  unfold metaL
  rw [List.take_succ_eq_append_getElem h, List.filter_append]
  cases hh : hdrB ds[k].name <;> simp [hh]
theorem KeepG.mid {W w w' : World} {g : Nat} (h : KeepG W g w) (k : Below W.heap.size w w') : KeepG W g w' :=
  ⟨k.os.trans h.os, k.tape.trans h.tape, k.output.trans h.output, Nat.le_trans h.size k.size, fun b hb hg => (k.block b hb).trans (h.block b hb hg)⟩
theorem KeepG.strsP {W w : World} {g : Nat} (h : KeepG W g w) {v : Value} {l : List (List UInt8)} (hs : StrsB W v l) {cur : Array Value} {fz : Nat × Nat} (hg : W.heap[g]? = some (.cells cur 25 fz)) : StrsB w v l := by
  obtain ⟨a, cap, h1, h2, h3, h4⟩ := hs
  refine ⟨a, cap, h1, h2, h3, ?_⟩
  rcases h4 with h4 | ⟨b, off, cs, fz', e, hb, hc⟩
  · exact .inl h4
  · refine .inr ⟨b, off, cs, fz', e, (h.block b (lt_of_block hb) (fun e => ?_)).trans hb, hc⟩
    subst e
    rw [hg] at hb
    simp at hb
theorem KeepG.dirsP {W w : World} {g : Nat} (h : KeepG W g w) {v : Value} {l : List Dir} (hs : DirsB W v l) {cur : Array Value} {fz : Nat × Nat} (hg : W.heap[g]? = some (.cells cur 25 fz)) : DirsB w v l := by
  obtain ⟨a, cap, us, h1, h2, h3, h5, h4⟩ := hs
  refine ⟨a, cap, us, h1, h2, fun i hi => h.strsP (h3 i hi) hg, h5, ?_⟩
  rcases h4 with h4 | ⟨b, off, cs, fz', e, hb, hc⟩
  · exact .inl h4
  · refine .inr ⟨b, off, cs, fz', e, (h.block b (lt_of_block hb) (fun e => ?_)).trans hb, hc⟩
    subst e
    rw [hg] at hb
    simp at hb
theorem DirsB.cells {w : World} {v : Value} {l : List Dir} (h : DirsB w v l) : ∃ a cap, v = .slice a l.length cap ∧ ∀ k (hk : k < l.length), ∃ b off u, a = some ⟨b, off, none⟩ ∧ b < w.heap.size ∧ w.cell? ⟨b, off + k * 2, none⟩ = some (.string ⟨⟨l[k].name⟩⟩) ∧ w.cell? ⟨b, off + k * 2 + 1, none⟩ = some u ∧ StrsB w u l[k].vals := by
  obtain ⟨a, cap, us, e1, _, h3, _, e4⟩ := h
  refine ⟨a, cap, e1, fun k hk => ?_⟩
  rcases e4 with rfl | ⟨b, off, cs, fz, e, hb, hc⟩
  · simp at hk
  · refine ⟨b, off, us k, e, lt_of_block hb, ?_, ?_, h3 k hk⟩
    · simp only [World.cell?, hb]
      simpa using (hc k hk).1
    · simp only [World.cell?, hb]
      simpa using (hc k hk).2
/-- A store into a policy's block turns no list of directives of the call's own. -/
theorem OwnD.setPol {B : Nat} {v : Value} {l : List Dir} {w : World} (h : OwnD B v l w) {P : Nat} (hP : P < B) {cur : Array Value} {fz : Nat × Nat} (hg : w.heap[P]? = some (.cells cur 25 fz)) (i : Nat) (x : Value) : OwnD B v l (w.setCell ⟨P, i, none⟩ x) := by
  obtain ⟨ps, h1, h2, h3, h4⟩ := h
  exact ⟨ps, h1, ownsRow_setCell_below h2 hP _, fun p hp => ((KeepG.refl w P).set i x).strsP (h3 p hp) hg, h4⟩
set_option maxHeartbeats 8000000 in
set_option maxRecDepth 100000 in
theorem metaR_any (l : List UInt8) (w : World) (hl : l.length < 100000) :
    Calls Tryd.prog 17 #[.string ⟨⟨l⟩⟩] w (MetaIs (metaL (oneL l)) w) := by
  have x0 : Ext w ((w.alloc (.cells #[.slice none 0 0, .bool false] 25)).alloc (.cells #[.slice none 0 0, .bool false] 25)) := ((Below.refl _ _).alloc (Nat.le_refl _) _).alloc (by simp) _
  have co := oneR_any l ((w.alloc (.cells #[.slice none 0 0, .bool false] 25)).alloc (.cells #[.slice none 0 0, .bool false] 25)) hl
  have hol := one_len l
  obtain ⟨D, hD⟩ : ∃ D, oneL l = D := ⟨_, rfl⟩
  rw [hD] at co hol ⊢
  have A2 := alloc_two w (.cells #[.slice none 0 0, .bool false] 25) (.cells #[.slice none 0 0, .bool false] 25)
  have HA2 := Lib.hid A2
  have X0 := Lib.hid x0
  clear hD A2 x0
  go_enter Tryd.func17, Tryd.ntmps17
  go_wp2_with fail
  refine co.mono ?_
  rintro e w1 ⟨v, rfl, hown, x1⟩
  have hdb := hown.dirsB (by unfold maxLen; omega)
  obtain ⟨a1, p1, rfl⟩ := hown.len
  have hsz : w.heap.size + 1 < ((w.alloc (.cells #[.slice none 0 0, .bool false] 25)).alloc (.cells #[.slice none 0 0, .bool false] 25)).heap.size := by simp
  have g0 := (x1.block w.heap.size (by omega)).trans HA2.out.1
  have g1 := (x1.block (w.heap.size + 1) hsz).trans HA2.out.2
  have hz1 : w.heap.size + 1 < w1.heap.size := Nat.lt_of_lt_of_le hsz x1.size
  have hw1 := Ext.trans X0.out x1
  have G0 := Lib.hid g0
  have G1 := Lib.hid g1
  have HDB := Lib.hid hdb
  have HW1 := Lib.hid hw1
  clear co hown x1 g0 g1 hdb hsz hw1
  go_wp2_with fail
  go_loopw [6] (fun iv wr => ∃ (k : Nat) (ks : List Dir) (va : Option Addr) (vc : Nat), iv = .int .i64 k ∧ k ≤ D.length ∧ ks.length ≤ k ∧ Hid (ks = metaL (D.take k)) ∧ KeepG w1 (w.heap.size + 1) wr ∧ OwnD w1.heap.size (.slice va ks.length vc) ks wr ∧ wr.heap[w.heap.size + 1]? = some (.cells #[.slice va ks.length vc, .bool false] 25)) (fun iv _ => D.length - (intOf iv).toNat)
  case atStart => exact ⟨0, [], none, 0, rfl, by omega, by simp, Lib.hid rfl, KeepG.refl _ _, OwnD.nil _ _, G1.out⟩
  case round =>
    obtain ⟨k, ks, va, vc, rfl, hk, hks, HK, hkeep, hown, hpb⟩ := hrel
    have s0 := cells_of_lit hpb 0
    have s1 := cells_of_lit hpb 1
    have sf := frz_of_lit hpb 0
    simp at s0 s1
    have HPB := Lib.hid hpb
    have k0 : (0 : Int) ≤ (k : Int) := by omega
    have hwz : w1.heap.size ≤ wr.heap.size := hkeep.size
    by_cases hlt : k < D.length
    · obtain ⟨a', c', e', hcl⟩ := (hkeep.dirsP HDB.out G1.out).cells
      obtain ⟨b, off, u, e2, hb, n1, n2, hu⟩ := hcl k hlt
      cases e'
      subst e2
      have HT := Lib.hid (meta_take hlt)
      have hnl : D[k].name.length ≤ maxLen := by obtain ⟨_, _, _, _, _, _, h, _⟩ := HDB.out; exact h _ (List.getElem_mem hlt)
      obtain ⟨d, hd⟩ : ∃ d, D[k] = d := ⟨_, rfl⟩
      rw [hd] at n1 hu HT hnl
      obtain ⟨ua, uc, hu0, hu1⟩ : ∃ ua uc, u = .slice ua d.vals.length uc ∧ True := by obtain ⟨ua, uc, e, _⟩ := hu; exact ⟨ua, uc, e, trivial⟩
      subst hu0
      have k1 : (k : Int) < (D.length : Int) := by omega
      have HD : Hid (hdrB d.name = (d.name == [114, 101, 112, 111, 114, 116, 45, 117, 114, 105] || d.name == [102, 114, 97, 109, 101, 45, 97, 110, 99, 101, 115, 116, 111, 114, 115] || d.name == [115, 97, 110, 100, 98, 111, 120])) := Lib.hid rfl
      obtain ⟨q1, e1⟩ : ∃ q, (d.name == [114, 101, 112, 111, 114, 116, 45, 117, 114, 105]) = q := ⟨_, rfl⟩
      obtain ⟨q2, e2⟩ : ∃ q, (d.name == [102, 114, 97, 109, 101, 45, 97, 110, 99, 101, 115, 116, 111, 114, 115]) = q := ⟨_, rfl⟩
      obtain ⟨q3, e3⟩ : ∃ q, (d.name == [115, 97, 110, 100, 98, 111, 120]) = q := ⟨_, rfl⟩
      have f1 : (d.name != [114, 101, 112, 111, 114, 116, 45, 117, 114, 105]) = !q1 := by unfold bne; rw [e1]
      have f2 : (d.name != [102, 114, 97, 109, 101, 45, 97, 110, 99, 101, 115, 116, 111, 114, 115]) = !q2 := by unfold bne; rw [e2]
      have f3 : (d.name != [115, 97, 110, 100, 98, 111, 120]) = !q3 := by unfold bne; rw [e3]
      have HQ : Hid (hdrB d.name = (q1 || q2 || q3)) := Lib.hid (by rw [HD.out, e1, e2, e3])
      have hcase : (q1 = true ∨ (q1 = false ∧ q2 = true) ∨ (q1 = false ∧ q2 = false ∧ q3 = true)) ∨ (q1 = false ∧ q2 = false ∧ q3 = false) := by cases q1 <;> cases q2 <;> cases q3 <;> simp
      clear hd hcl
      rcases hcase with hH | ⟨rfl, rfl, rfl⟩
      · have HH : Hid (hdrB d.name = true) := Lib.hid (by rw [HQ.out]; rcases hH with rfl | ⟨rfl, rfl⟩ | ⟨rfl, rfl, rfl⟩ <;> simp)
        rcases hH with rfl | ⟨rfl, rfl⟩ | ⟨rfl, rfl, rfl⟩
        all_goals
          go_wp2_with fail
          go_roundw
          case rel => exact ⟨k + 1, ks, va, vc, by go_num, by omega, by omega, Lib.hid (by rw [HT.out, if_pos HH.out]; exact HK.out), hkeep, hown, HPB.out⟩
          case measure => simp [intOf]; omega
      · have HH : Hid (hdrB d.name = false) := Lib.hid (by rw [HQ.out]; rfl)
        have f1' : (d.name != [114, 101, 112, 111, 114, 116, 45, 117, 114, 105]) = true := f1
        have f2' : (d.name != [102, 114, 97, 109, 101, 45, 97, 110, 99, 101, 115, 116, 111, 114, 115]) = true := f2
        have f3' : (d.name != [115, 97, 110, 100, 98, 111, 120]) = true := f3
        clear f1 f2 f3
        have xd : Ext wr wr.drew := (Below.refl _ _).drew
        have hownd := hown.ext xd
        have hud := hu.ext xd
        have hkd := hkeep.ext xd
        have hpd := (xd.block _ (lt_of_block hpb)).trans hpb
        have HKD := Lib.hid hkd
        have HPD := Lib.hid hpd
        clear hkd hpd hpb HD HQ
        have hPr : w.heap.size + 1 < wr.heap.size := by omega
        have hPn : ¬ w.heap.size + 1 = wr.heap.size := by omega
        have hPm : ¬ wr.heap.size = w.heap.size + 1 := by omega
        go_upto_region 7 with fail
        go_region_law (refine step_app_dir rfl _ _ rfl d _ _ wr.drew (by rfl) (by rfl) (by rfl) hownd hud hnl (by rfl) (by omega) hwz ?_; intro ga gc w6 hown6 hx6 hk6; have t0 := (hx6.cell (p := ⟨w.heap.size + 1, 0, none⟩) hz1).trans s0; have t2 := (hx6.frozen (p := ⟨w.heap.size + 1, 0, none⟩) hz1).trans sf)
        all_goals
          go_wp2_with fail
          have hp6 := (hx6.block (w.heap.size + 1) hz1).trans HPD.out
          go_roundw
          case rel =>
            refine ⟨k + 1, ks ++ [d], some ⟨ga, 0, none⟩, gc, by go_num, by omega, by simp; omega, Lib.hid (by rw [HT.out, if_neg (by rw [HH.out]; simp), HK.out]), (HKD.out.mid hx6).set _ _, ?_, ?_⟩
            · rw [List.length_append]
              exact hown6.setPol hz1 hp6 0 _
            · rw [List.length_append]
              exact setCell_row hp6 _
          case measure => simp [intOf]; omega
    · obtain rfl : k = D.length := by omega
      have HM : Hid (ks = metaL D) := Lib.hid (by rw [HK.out, List.take_length])
      have hrb := (hkeep.block w.heap.size (by omega) (by omega)).trans G0.out
      have r0 := cells_of_lit hrb 0
      have r1 := cells_of_lit hrb 1
      have r2 := frz_of_lit hrb 0
      have r3 := frz_of_lit hrb 1
      simp at r0 r1
      have HRB := Lib.hid hrb
      have hda := hown.dirs (by unfold maxLen; omega)
      have HDA := Lib.hid hda
      have hext := hkeep.below HW1.out (by omega)
      clear hpb hrb hda
      go_wp2_with fail
      go_region
      all_goals
        go_wp2_with fail
        refine bodyPost_ret (v := .tuple #[.agg #[.slice va ks.length vc, .bool false], .bool (decide (0 < (ks.length : Int)))]) (by simp [results, Tryd.results17, go_sem, r0, r1]) rfl ?_
        rw [← HM.out]
        refine ⟨va, vc, by cases ks <;> simp, ?_, ?_⟩
        · exact (HDA.out.apart (((KeepG.refl _ _).set _ _).set _ _) (NoStr.pol HRB.out)).ext (Below.refl _ _).drew
        · exact ((hext.setCell (Nat.le_refl _) _).setCell (Nat.le_refl _) _).drew
end Go.Proofs.YtghafpkkmeibgaaDoor
