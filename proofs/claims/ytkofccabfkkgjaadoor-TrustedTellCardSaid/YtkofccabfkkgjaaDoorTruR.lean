/-
  What is proved: the walk of the statement TrustedTell: it answers true. Conditions: texts and lists that fit, what the package's variable holds.
-/
import Derived.Test.YtkofccabfkkgjaaDoorTruF
import Derived.Test.YtkofccabfkkgjaaDoorGrt
import Derived.Test.YtkofccabfkkgjaaDoorOpn
import Derived.Test.YtkofccabfkkgjaaDoorWrd
import Derived.Deep.DeepCutAuto
namespace Go.Proofs.YtkofccabfkkgjaaDoor
open Go.RowKit

theorem fine_vals {ds : List Dir} (h : FineD ds) (n : List UInt8) : ∀ s ∈ valsOf (findD ds n), s.length < 100000 := by
  intro s hs
  cases hf : findD ds n with
  | none => rw [hf] at hs; simp [valsOf] at hs
  | some d =>
    rw [hf] at hs
    have := (h.2 d (List.mem_of_find?_eq_some hf)).2.2 s hs
    omega
/-- All but two blocks. -/
def KeepTwo (W w : World) (g h : Nat) : Prop := W.heap.size ≤ w.heap.size ∧ ∀ b, b < W.heap.size → b ≠ g → b ≠ h → w.heap[b]? = W.heap[b]?
theorem KeepTwo.refl (W : World) (g h : Nat) : KeepTwo W W g h := ⟨Nat.le_refl _, fun _ _ _ _ => rfl⟩
theorem KeepTwo.set {W w : World} {g h : Nat} (k : KeepTwo W w g h) {b : Nat} (i : Nat) (v : Value) (hb : b = g ∨ b = h) : KeepTwo W (w.setCell ⟨b, i, none⟩ v) g h :=
  ⟨by rw [World.size_setCell]; exact k.1, fun c h1 h2 h3 => (Below.heap_setCell w ⟨b, i, none⟩ v c (by rcases hb with rfl | rfl <;> assumption)).trans (k.2 c h1 h2 h3)⟩
theorem KeepTwo.ext {W w w' : World} {g h : Nat} (k : KeepTwo W w g h) (x : Ext w w') : KeepTwo W w' g h :=
  ⟨Nat.le_trans k.1 x.size, fun c h1 h2 h3 => (x.block c (Nat.lt_of_lt_of_le h1 k.1)).trans (k.2 c h1 h2 h3)⟩
theorem KeepTwo.alloc {W w : World} {g h : Nat} (k : KeepTwo W w g h) (o : Obj) : KeepTwo W (w.alloc o) g h := k.ext ((Below.refl _ _).alloc (Nat.le_refl _) _)
theorem KeepTwo.drew {W w : World} {g h : Nat} (k : KeepTwo W w g h) : KeepTwo W w.drew g h := k.ext (Below.refl _ _).drew
/-- A block without texts, or none yet. -/
def NoStr (W : World) (g : Nat) : Prop := ∀ o s, W.cell? ⟨g, o, none⟩ ≠ some (.string s)
theorem NoStr.past {W : World} {g : Nat} (h : W.heap.size ≤ g) : NoStr W g := fun o s e => by have := cell_lt e; simp at this; omega
theorem NoStr.zero {W : World} {g : Nat} {t : TypeId} (h : W.heap[g]? = some (.cells #[.slice none 0 0, .bool false, .bool false, .bool false] t)) : NoStr W g := by
  intro o s e
  rw [cells_of_lit h o] at e
  match o with
  | 0 => simp at e
  | 1 => simp at e
  | 2 => simp at e
  | 3 => simp at e
  | o + 4 => simp at e
theorem StrsAt.two {W w : World} {g h : Nat} {v : Value} {l : List (List UInt8)} (H : StrsAt W v l) (k : KeepTwo W w g h) (hg : NoStr W g) (hh : NoStr W h) : StrsAt w v l := by
  obtain ⟨a, cap, h1, h2, h3, h4⟩ := H
  refine ⟨a, cap, h1, h2, h3, ?_⟩
  rcases h4 with h4 | ⟨b, off, e, hb, hc⟩
  · exact .inl h4
  · by_cases h0 : l.length = 0
    · exact .inl (List.eq_nil_of_length_eq_zero h0)
    · have hc0 := hc 0 (by omega)
      refine .inr ⟨b, off, e, Nat.lt_of_lt_of_le hb k.1, fun i hi => ?_⟩
      rw [World.cell?_of_block (a := ⟨b, off + i, none⟩) (k.2 b hb (fun e => hg _ _ (e ▸ hc0)) (fun e => hh _ _ (e ▸ hc0)))]
      exact hc i hi
theorem two_new (w : World) (A B : Obj) {W w' : World} (x : Ext W w') (h : W.heap = ((w.alloc A).alloc B).heap) : w'.heap[w.heap.size]? = some A ∧ w'.heap[w.heap.size + 1]? = some B :=
  ⟨(x.block _ (by rw [h]; simp; omega)).trans (by rw [h]; exact (alloc_two w A B).1), (x.block _ (by rw [h]; simp)).trans (by rw [h]; exact (alloc_two w A B).2)⟩
theorem one_new (w : World) (A : Obj) {W w' : World} (x : Ext W w') (h : W.heap = (w.alloc A).heap) : w'.heap[w.heap.size]? = some A := (x.block _ (by rw [h]; simp)).trans (by rw [h]; exact heap_alloc_new w A)
theorem zero_cells {w : World} {g : Nat} {t : TypeId} (h : w.heap[g]? = some (.cells #[.slice none 0 0, .bool false, .bool false, .bool false] t)) :
    w.cell? ⟨g, 0, none⟩ = some (.slice none 0 0) ∧ w.cell? ⟨g, 1, none⟩ = some (.bool false) ∧ w.cell? ⟨g, 2, none⟩ = some (.bool false) ∧ w.cell? ⟨g, 3, none⟩ = some (.bool false) ∧
    w.frozen? ⟨g, 0, none⟩ = false ∧ w.frozen? ⟨g, 1, none⟩ = false ∧ w.frozen? ⟨g, 2, none⟩ = false ∧ w.frozen? ⟨g, 3, none⟩ = false ∧ ¬ g = w.heap.size ∧ ¬ w.heap.size = g ∧ g < w.heap.size :=
  ⟨cells_of_lit h 0, cells_of_lit h 1, cells_of_lit h 2, cells_of_lit h 3, frz_of_lit h 0, frz_of_lit h 1, frz_of_lit h 2, frz_of_lit h 3, Nat.ne_of_lt (lt_of_block h), Nat.ne_of_gt (lt_of_block h), lt_of_block h⟩
theorem old_block {w w' : World} {b : Nat} {o : Obj} (x : Ext w w') (h : w.heap[b]? = some o) : w'.heap[b]? = some o := (x.block _ (lt_of_block h)).trans h
/-- What stands there: a pointer to what a policy says of names. -/
structure NamesAt (w : World) (g : Nat) (ds : List Dir) (la : Option Addr) (lc : Nat) : Prop where
  c0 : w.cell? ⟨g, 0, none⟩ = some (.slice la (parseN ds).list.length lc)
  c1 : w.cell? ⟨g, 1, none⟩ = some (.bool (parseN ds).any)
  c2 : w.cell? ⟨g, 2, none⟩ = some (.bool (parseN ds).twice)
  c3 : w.cell? ⟨g, 3, none⟩ = some (.bool (hasN ds))
  lst : StrsAt w (.slice la (parseN ds).list.length lc) (parseN ds).list
def TwoN (w1 : World) (ds : List Dir) (u v : Value) (wx : World) : Prop :=
  ∃ g h la lc lb ld, u = .pointer (some ⟨g, 0, none⟩) ∧ v = .pointer (some ⟨h, 0, none⟩) ∧ NamesAt wx g ds la lc ∧ NamesAt wx h ds lb ld ∧ Ext w1 wx
/-- The ten cells that region 4 reads. -/
def Ten (p g h : Nat) (a : Option Addr) (n cap : Nat) (rep : Bool) (la lb : Option Addr) (L lc ld : Nat) (an tw has : Bool) (w : World) : Prop :=
  w.cell? ⟨p, 0, none⟩ = some (.slice a n cap) ∧ w.cell? ⟨p, 1, none⟩ = some (.bool rep) ∧
  w.cell? ⟨g, 0, none⟩ = some (.slice la L lc) ∧ w.cell? ⟨g, 1, none⟩ = some (.bool an) ∧ w.cell? ⟨g, 2, none⟩ = some (.bool tw) ∧ w.cell? ⟨g, 3, none⟩ = some (.bool has) ∧
  w.cell? ⟨h, 0, none⟩ = some (.slice lb L ld) ∧ w.cell? ⟨h, 1, none⟩ = some (.bool an) ∧ w.cell? ⟨h, 2, none⟩ = some (.bool tw) ∧ w.cell? ⟨h, 3, none⟩ = some (.bool has)
theorem old_cell {w w' : World} {b i : Nat} {v : Value} (x : Ext w w') (h : w.cell? ⟨b, i, none⟩ = some v) : w'.cell? ⟨b, i, none⟩ = some v := (x.cell (p := ⟨b, i, none⟩) (cell_lt h)).trans h
theorem cells_ten {w w' : World} {p g h : Nat} {a : Option Addr} {n cap : Nat} {rep : Bool} {la lb : Option Addr} {L lc ld : Nat} {an tw has : Bool} (x : Ext w w') (t : Ten p g h a n cap rep la lb L lc ld an tw has w) : Ten p g h a n cap rep la lb L lc ld an tw has w' :=
  ⟨old_cell x t.1, old_cell x t.2.1, old_cell x t.2.2.1, old_cell x t.2.2.2.1, old_cell x t.2.2.2.2.1, old_cell x t.2.2.2.2.2.1, old_cell x t.2.2.2.2.2.2.1, old_cell x t.2.2.2.2.2.2.2.1, old_cell x t.2.2.2.2.2.2.2.2.1, old_cell x t.2.2.2.2.2.2.2.2.2⟩
theorem TwoN.make {w1 w2 w3 wx : World} {ds : List Dir} {g h : Nat} {la lb : Option Addr} {lc ld : Nat}
    (cg : wx.cell? ⟨g, 0, none⟩ = some (.slice la (parseN ds).list.length lc) ∧ wx.cell? ⟨g, 1, none⟩ = some (.bool (parseN ds).any) ∧ wx.cell? ⟨g, 2, none⟩ = some (.bool (parseN ds).twice) ∧ wx.cell? ⟨g, 3, none⟩ = some (.bool (hasN ds)))
    (ch : wx.cell? ⟨h, 0, none⟩ = some (.slice lb (parseN ds).list.length ld) ∧ wx.cell? ⟨h, 1, none⟩ = some (.bool (parseN ds).any) ∧ wx.cell? ⟨h, 2, none⟩ = some (.bool (parseN ds).twice) ∧ wx.cell? ⟨h, 3, none⟩ = some (.bool (hasN ds)))
    (hA : StrsAt w2 (.slice la (parseN ds).list.length lc) (parseN ds).list) (hB : StrsAt w3 (.slice lb (parseN ds).list.length ld) (parseN ds).list)
    (kA : KeepTwo w2 wx g h) (kB : KeepTwo w3 wx g h) (a1 : NoStr w2 g) (a2 : NoStr w2 h) (b1 : NoStr w3 g) (b2 : NoStr w3 h) (x : Ext w1 wx) :
    TwoN w1 ds (.pointer (some ⟨g, 0, none⟩)) (.pointer (some ⟨h, 0, none⟩)) wx :=
  ⟨g, h, la, lc, lb, ld, rfl, rfl, ⟨cg.1, cg.2.1, cg.2.2.1, cg.2.2.2, hA.two kA a1 a2⟩, ⟨ch.1, ch.2.1, ch.2.2.1, ch.2.2.2, hB.two kB b1 b2⟩, x⟩
set_option maxHeartbeats 8000000 in
set_option maxRecDepth 100000 in
theorem tell29_walk (v : Value) (rep : Bool) (ds : List Dir) (n : List UInt8) (tv : Value) (there : List (List UInt8)) (w : World) (hm : MaxIs w) (H : DirsAt w v ds) (hn : n.length ≤ maxLen) (K : StrsAt w tv there) :
    Calls Tryd.prog 8 #[.agg #[v, .bool rep], .string ⟨⟨n⟩⟩, tv] w fun e w' => e = .returned (.bool true) ∧ Ext w w' := by
  have htm : there.length ≤ 9223372036854775807 := by obtain ⟨_, _, _, h, _⟩ := K; exact h
  obtain ⟨a, cap, rfl, _⟩ := H.cells
  obtain ⟨ta, tc, rfl, _⟩ := K.cells
  unfold maxLen at hn
  have hext0 : Ext w (w.alloc (.cells #[.slice a ds.length cap, .bool rep] 30)) := (Below.refl _ _).alloc (Nat.le_refl _) _
  have HP0 : PolCell (w.alloc (.cells #[.slice a ds.length cap, .bool rep] 30)) w.heap.size a ds.length cap rep ds := ⟨cells_of_lit (heap_alloc_new w _) 0, cells_of_lit (heap_alloc_new w _) 1, H.ext hext0⟩
  have cg := great_any (.slice a ds.length cap) rep ds _ (H.ext hext0)
  go_enter Tryd.func8, Tryd.ntmps8
  go_wp2_with fail
  refine cg.mono ?_
  rintro e w1 ⟨b, rfl, hb, x1⟩
  have y1 := Ext.trans hext0 x1
  have HP1 := HP0.ext x1
  clear cg
  cases b with
  | true =>
    clear hb
    go_wp2_with (go_at_call 22; refine (types_any _ (hm.ext y1)).mono ?_; rintro e w2 ⟨rfl, x2⟩)
    go_ret
    exact ⟨rfl, Ext.trans y1 x2⟩
  | false =>
    have hfine := hb rfl
    have hs := hfine.small
    have hv1 := fine_vals hfine ttL
    have hv2 := fine_vals hfine rtL
    clear hb
    by_cases g2 : 200 < n.length
    · go_wp2_with (go_at_call 22; refine (types_any _ (hm.ext y1)).mono ?_; rintro e w2 ⟨rfl, x2⟩)
      go_ret
      exact ⟨rfl, Ext.trans y1 x2⟩
    · by_cases g3 : 20 < there.length
      · go_wp2_with (go_at_call 22; refine (types_any _ (hm.ext y1)).mono ?_; rintro e w2 ⟨rfl, x2⟩)
        go_ret
        exact ⟨rfl, Ext.trans y1 x2⟩
      · have s1 := HP1.lst
        have s2 := HP1.rep
        have zp : w.heap.size < w1.heap.size := cell_lt s1
        have cp := fun W (hW : Ext w1 W) => parse_any (.slice a ds.length cap) rep ds W (HP1.dirs.ext hW) hs
        have cr := fun W (hW : Ext w1 W) => parseR_any (.slice a ds.length cap) rep ds W (HP1.dirs.ext hW) hs hv1
        go_upto_region 3 with fail
        go_cut [7, 8] from 22 to 25 (fun u v wx => TwoN w1 ds u v wx)
        case first =>
          go_region_held3 (fun w' => w'.cell? ⟨w.heap.size, 0, none⟩ = some (.slice a ds.length cap) ∧ w'.cell? ⟨w.heap.size, 1, none⟩ = some (.bool rep)) (go_keep)
            (first
              | (go_at_call 23; refine (cp _ (by repeat (first | exact Below.refl _ _ | assumption | refine Below.drew ?_ | refine Below.alloc ?_ (by first | exact Nat.le_refl _ | omega | (simp; done) | (simp; omega)) _))).mono ?_; rintro e w2 ⟨la, lc, rfl, hA, x2⟩; have xA : Ext w1 w2 := Ext.trans (by repeat (first | exact Below.refl _ _ | assumption | refine Below.drew ?_ | refine Below.alloc ?_ (by first | exact Nat.le_refl _ | omega | (simp; done) | (simp; omega)) _)) x2; have t1 := (xA.cell (p := ⟨w.heap.size, 0, none⟩) zp).trans s1; have t2 := (xA.cell (p := ⟨w.heap.size, 1, none⟩) zp).trans s2; have zA : w1.heap.size ≤ w2.heap.size := xA.size; have := World.new_ne w2 _ t1; (first | (have p01 := two_new w1 _ _ x2 rfl; obtain ⟨p0, p1⟩ := p01) | (have p0 := one_new w1 _ x2 rfl; have pn := Nat.ne_of_lt (lt_of_block p0); have pm := Nat.ne_of_gt (lt_of_block p0)) | skip))
              | (go_at_call 24; refine (cr _ (by repeat (first | exact Below.refl _ _ | assumption | refine Below.drew ?_ | refine Below.alloc ?_ (by first | exact Nat.le_refl _ | omega | (simp; done) | (simp; omega)) _))).mono ?_; rintro e w3 ⟨lb, ld, rfl, hB, x3⟩; have xB : Ext w2 w3 := Ext.trans (by repeat (first | exact Below.refl _ _ | assumption | refine Below.drew ?_ | refine Below.alloc ?_ (by first | exact Nat.le_refl _ | omega | (simp; done) | (simp; omega)) _)) x3; have xC : Ext w1 w3 := Ext.trans xA xB; have t3 := (xC.cell (p := ⟨w.heap.size, 0, none⟩) zp).trans s1; have t4 := (xC.cell (p := ⟨w.heap.size, 1, none⟩) zp).trans s2; have zB : w2.heap.size ≤ w3.heap.size := xB.size; have := World.new_ne w3 _ t3; have k0 : ¬ w1.heap.size = w.heap.size := (by omega); have j0 : ¬ w.heap.size = w1.heap.size := (by omega); have k1 : ¬ w1.heap.size + 1 = w.heap.size := (by omega); have j1 : ¬ w.heap.size = w1.heap.size + 1 := (by omega); have k2 : ¬ w2.heap.size = w.heap.size := (by omega); have j2 : ¬ w.heap.size = w2.heap.size := (by omega); have k3 : ¬ w2.heap.size + 1 = w.heap.size := (by omega); have j3 : ¬ w.heap.size = w2.heap.size + 1 := (by omega); have k4 : ¬ w3.heap.size = w.heap.size := (by omega); have j4 : ¬ w.heap.size = w3.heap.size := (by omega); have k5 : ¬ w3.heap.size + 1 = w.heap.size := (by omega); have j5 : ¬ w.heap.size = w3.heap.size + 1 := (by omega); (first | (have q0 := old_block xB p0; have q1 := old_block xB p1) | (have q0 := old_block xB p0; have q1 := one_new w2 _ x3 rfl) | (have q0 := old_block xB p0) | (have q01 := two_new w2 _ _ x3 rfl; obtain ⟨q0, q1⟩ := q01) | (have q0 := one_new w2 _ x3 rfl) | skip); (first | (have mz := zero_cells q0; obtain ⟨m0, m1, m2, m3, m4, m5, m6, m7, m8, m9, m10⟩ := mz; have nz := zero_cells q1; obtain ⟨n0, n1, n2, n3, n4, n5, n6, n7, n8, n9, n10⟩ := nz) | (have mz := zero_cells q0; obtain ⟨m0, m1, m2, m3, m4, m5, m6, m7, m8, m9, m10⟩ := mz) | skip)))
          all_goals go_wp2_with fail
          all_goals go_meet
          all_goals
            refine TwoN.make ?_ ?_ hA hB ?_ ?_ ?_ ?_ ?_ ?_ ?_
            · clear cp cr hA hB; simp [*, go_sem]
            · clear cp cr hA hB; simp [*, go_sem]
            · repeat (first | with_reducible exact KeepTwo.refl _ _ _ | with_reducible exact KeepTwo.ext (KeepTwo.refl _ _ _) xB | (with_reducible refine KeepTwo.set ?_ _ _ ?h; case h => (first | exact .inl rfl | exact .inr rfl)) | with_reducible refine KeepTwo.alloc ?_ _ | with_reducible refine KeepTwo.drew ?_)
            · repeat (first | with_reducible exact KeepTwo.refl _ _ _ | with_reducible exact KeepTwo.ext (KeepTwo.refl _ _ _) xB | (with_reducible refine KeepTwo.set ?_ _ _ ?h; case h => (first | exact .inl rfl | exact .inr rfl)) | with_reducible refine KeepTwo.alloc ?_ _ | with_reducible refine KeepTwo.drew ?_)
            · first | with_reducible exact NoStr.zero p0 | with_reducible exact NoStr.zero p1 | exact NoStr.past (by omega)
            · first | with_reducible exact NoStr.zero p0 | with_reducible exact NoStr.zero p1 | exact NoStr.past (by omega)
            · first | with_reducible exact NoStr.zero q0 | with_reducible exact NoStr.zero q1 | exact NoStr.past (by omega)
            · first | with_reducible exact NoStr.zero q0 | with_reducible exact NoStr.zero q1 | exact NoStr.past (by omega)
            · repeat (first | with_reducible exact xC | with_reducible refine Below.drew ?_ | (with_reducible refine Below.alloc ?_ ?h _; case h => first | exact Nat.le_refl _ | omega | (simp; done) | (simp; omega)) | (with_reducible refine Below.setCell ?_ ?h _; case h => first | exact Nat.le_refl _ | omega | (simp; done) | (simp; omega)))
        case rest =>
          obtain ⟨g, h, la, lc, lb, ld, rfl, rfl, G, I, x4⟩ := hcut
          have hten : Ten w.heap.size g h a ds.length cap rep la lb (parseN ds).list.length lc ld (parseN ds).any (parseN ds).twice (hasN ds) wc := ⟨((HP1.ext x4).lst), (HP1.ext x4).rep, G.c0, G.c1, G.c2, G.c3, I.c0, I.c1, I.c2, I.c3⟩
          have y4 := Ext.trans y1 x4
          have cw := fun W (hW : Ext wc W) => words_any _ _ _ _ W (G.lst.ext hW) (I.lst.ext hW)
          have cc := fun W (hW : Ext wc W) => creates_any (.slice a ds.length cap) rep ds n (.slice ta there.length tc) there W ((H.ext y4).ext hW) hs ((K.ext y4).ext hW)
          have ccr := fun W (hW : Ext wc W) => createsR_any (.slice a ds.length cap) rep ds n (.slice ta there.length tc) there W ((H.ext y4).ext hW) hs hv1 ((K.ext y4).ext hW)
          have cq := fun W (hW : Ext wc W) => requires_any (.slice a ds.length cap) rep ds W ((H.ext y4).ext hW) hs
          have cqr := fun W (hW : Ext wc W) => requiresR_any (.slice a ds.length cap) rep ds W ((H.ext y4).ext hW) hs hv2
          have ct := fun W (hW : Ext wc W) => types_any W ((hm.ext y4).ext hW)
          have ew : ((parseN ds).list == (parseN ds).list) = true := by simp
          rw [ew] at cw
          obtain ⟨bc, hbc⟩ : ∃ b, createsN ds n there = b := ⟨_, rfl⟩
          obtain ⟨bq, hbq⟩ : ∃ b, requiresN ds = b := ⟨_, rfl⟩
          rw [hbc] at cc ccr
          rw [hbq] at cq cqr
          obtain ⟨L, hL⟩ : ∃ L, (parseN ds).list.length = L := ⟨_, rfl⟩
          obtain ⟨an, han⟩ : ∃ b, (parseN ds).any = b := ⟨_, rfl⟩
          obtain ⟨tw, htw⟩ : ∃ b, (parseN ds).twice = b := ⟨_, rfl⟩
          obtain ⟨has, hhas⟩ : ∃ b, hasN ds = b := ⟨_, rfl⟩
          rw [hL, han, htw, hhas] at hten
          rw [hL] at cw
          obtain ⟨f0, f1, f2, f3, f4, f5, f6, f7, f8, f9⟩ := hten
          have hten : Ten w.heap.size g h a ds.length cap rep la lb L lc ld an tw has wc := ⟨f0, f1, f2, f3, f4, f5, f6, f7, f8, f9⟩
          have HT := Lib.hid hten
          clear hten hbc hbq hL han htw hhas ew G I HP0 HP1 cp cr hfine hv1 hv2 hs x1 hext0 s1 s2
          go_wp2_with fail
          go_region_held3 (fun w' => w'.cell? ⟨w.heap.size, 0, none⟩ = some (.slice a ds.length cap) ∧ w'.cell? ⟨w.heap.size, 1, none⟩ = some (.bool rep) ∧ w'.cell? ⟨g, 0, none⟩ = some (.slice la L lc) ∧ w'.cell? ⟨g, 1, none⟩ = some (.bool an) ∧ w'.cell? ⟨g, 2, none⟩ = some (.bool tw) ∧ w'.cell? ⟨g, 3, none⟩ = some (.bool (has)) ∧ w'.cell? ⟨h, 0, none⟩ = some (.slice lb L ld) ∧ w'.cell? ⟨h, 1, none⟩ = some (.bool an) ∧ w'.cell? ⟨h, 2, none⟩ = some (.bool tw) ∧ w'.cell? ⟨h, 3, none⟩ = some (.bool (has))) (go_keep)
            (first
              | (go_at_call 15; refine (cw _ (by repeat (first | with_reducible exact Below.refl _ _ | with_reducible assumption | with_reducible refine Below.drew ?_))).mono ?_; rintro e v5 ⟨rfl, x5'⟩; have y5 : Ext wc v5 := Ext.trans (by repeat (first | with_reducible exact Below.refl _ _ | with_reducible assumption | with_reducible refine Below.drew ?_)) x5'; obtain ⟨f0, f1, f2, f3, f4, f5, f6, f7, f8, f9⟩ := cells_ten y5 HT.out)
              | (go_at_call 25; refine (cc _ (by repeat (first | with_reducible exact Below.refl _ _ | with_reducible assumption | with_reducible refine Below.drew ?_))).mono ?_; rintro e v6 ⟨rfl, x6'⟩; have y6 : Ext wc v6 := Ext.trans (by repeat (first | with_reducible exact Below.refl _ _ | with_reducible assumption | with_reducible refine Below.drew ?_)) x6'; obtain ⟨f0, f1, f2, f3, f4, f5, f6, f7, f8, f9⟩ := cells_ten y6 HT.out)
              | (go_at_call 26; refine (ccr _ (by repeat (first | with_reducible exact Below.refl _ _ | with_reducible assumption | with_reducible refine Below.drew ?_))).mono ?_; rintro e v7 ⟨rfl, x7'⟩; have y7 : Ext wc v7 := Ext.trans (by repeat (first | with_reducible exact Below.refl _ _ | with_reducible assumption | with_reducible refine Below.drew ?_)) x7'; obtain ⟨f0, f1, f2, f3, f4, f5, f6, f7, f8, f9⟩ := cells_ten y7 HT.out)
              | (go_at_call 27; refine (cq _ (by repeat (first | with_reducible exact Below.refl _ _ | with_reducible assumption | with_reducible refine Below.drew ?_))).mono ?_; rintro e v8 ⟨rfl, x8'⟩; have y8 : Ext wc v8 := Ext.trans (by repeat (first | with_reducible exact Below.refl _ _ | with_reducible assumption | with_reducible refine Below.drew ?_)) x8'; obtain ⟨f0, f1, f2, f3, f4, f5, f6, f7, f8, f9⟩ := cells_ten y8 HT.out)
              | (go_at_call 28; refine (cqr _ (by repeat (first | with_reducible exact Below.refl _ _ | with_reducible assumption | with_reducible refine Below.drew ?_))).mono ?_; rintro e v9 ⟨rfl, x9'⟩; have y9 : Ext wc v9 := Ext.trans (by repeat (first | with_reducible exact Below.refl _ _ | with_reducible assumption | with_reducible refine Below.drew ?_)) x9'; obtain ⟨f0, f1, f2, f3, f4, f5, f6, f7, f8, f9⟩ := cells_ten y9 HT.out)
              | (go_at_call 22; refine (ct _ (by repeat (first | with_reducible exact Below.refl _ _ | with_reducible assumption | with_reducible refine Below.drew ?_))).mono ?_; rintro e v10 ⟨rfl, x10'⟩; have y10 : Ext wc v10 := Ext.trans (by repeat (first | with_reducible exact Below.refl _ _ | with_reducible assumption | with_reducible refine Below.drew ?_)) x10'; obtain ⟨f0, f1, f2, f3, f4, f5, f6, f7, f8, f9⟩ := cells_ten y10 HT.out))
          go_wp2_with fail
          go_ret
          exact ⟨by cases an <;> cases tw <;> cases has <;> cases bc <;> cases bq <;> rfl, Ext.trans y4 (by repeat (first | with_reducible exact y10 | with_reducible refine Below.drew ?_))⟩
theorem tell29_walkP (v : Value) (p : PolA) (n : List UInt8) (tv : Value) (there : List (List UInt8)) (w : World) (hm : MaxIs w) (H : PolAt w v p) (hn : n.length ≤ maxLen) (K : StrsAt w tv there) :
    Calls Tryd.prog 8 #[v, .string ⟨⟨n⟩⟩, tv] w fun e w' => e = .returned (.bool true) ∧ Ext w w' := by
  obtain ⟨rfl, h⟩ := H
  exact tell29_walk p.v p.rep p.ds n tv there w hm h hn K
end Go.Proofs.YtkofccabfkkgjaaDoor
