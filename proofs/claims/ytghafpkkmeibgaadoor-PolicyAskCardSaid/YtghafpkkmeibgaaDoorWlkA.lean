/-
  What is proved: the walk of the statement PolicyAsk: it answers true. Conditions: a policy and a name that fit, what the package's variable holds.
-/
import Derived.Test.YtghafpkkmeibgaaDoorSay
import Derived.Test.YtghafpkkmeibgaaDoorGrt4
import Derived.Test.YtghafpkkmeibgaaDoorAtF
import Derived.Test.YtghafpkkmeibgaaDoorOpn4
import Derived.Deep.RegionHeld3
namespace Go.Proofs.YtghafpkkmeibgaaDoor
open Go.RowKit

theorem FineD.text {ds : List Dir} (h : FineD ds) : TextOk ds := ⟨by have := h.1; omega, fun d hd => by
  obtain ⟨h1, h2, h3⟩ := h.2 d hd
  exact ⟨by omega, by omega, fun s hs => by have := h3 s hs; omega⟩⟩
def dirOf (o : Option Dir) : Dir := o.getD ⟨[], []⟩
/-- What Find gives: a directive, its values of the call's own; what the reference's gives. -/
theorem find_both (v : Value) (rep : Bool) (ds : List Dir) (n : List UInt8) (w : World) (H : DirsAt w v ds) (hs : SmallD ds) :
    Calls Tryd.prog 27 #[.agg #[v, .bool rep], .string ⟨⟨n⟩⟩] w fun e w' => ∃ u, e = .returned (.tuple #[.agg #[.string ⟨⟨(dirOf (findD ds n)).name⟩⟩, u], .bool (findD ds n).isSome]) ∧ OwnS w.heap.size u (dirOf (findD ds n)).vals w' ∧ Ext w w' := by
  cases hf : findD ds n with
  | none =>
    refine (find_none v rep ds n w H hs.len hf).mono ?_
    rintro e w' ⟨rfl, hx⟩
    exact ⟨.slice none 0 0, rfl, OwnS.nil _ _, hx⟩
  | some d => exact find_some v rep ds n d w H hs.len (hs.found hf) hf
theorem findR_both (v : Value) (rep : Bool) (ds : List Dir) (n : List UInt8) (w0 w : World) (H : DirsAt w0 v ds) (hx0 : Ext w0 w) (hs : SmallD ds) :
    Calls Tryd.prog 28 #[.agg #[v, .bool rep], .string ⟨⟨n⟩⟩] w fun e w' => ∃ a cap, e = .returned (.tuple #[.agg #[.string ⟨⟨(dirOf (findD ds n)).name⟩⟩, .slice a (dirOf (findD ds n)).vals.length cap], .bool (findD ds n).isSome]) ∧ StrsAt w0 (.slice a (dirOf (findD ds n)).vals.length cap) (dirOf (findD ds n)).vals ∧ Ext w w' := by
  refine (findR_any v rep ds n w0 w H hx0 hs.len).mono ?_
  rintro e w' ⟨x, rfl, hd, hx⟩
  cases hf : findD ds n with
  | none =>
    rw [hf] at hd
    have hd : x = _ := hd
    subst hd
    exact ⟨none, 0, rfl, StrsAt.nil _, hx⟩
  | some d =>
    rw [hf] at hd
    obtain ⟨a, cap, rfl, h⟩ := hd
    exact ⟨a, cap, rfl, h, hx⟩
/-- The values' own row. -/
def RowIs (ua : Option Addr) (n B top : Nat) (w : World) : Prop := n = 0 ∨ ∃ (g : Nat) (cur : Array Value), ua = some ⟨g, 0, none⟩ ∧ B ≤ g ∧ g < top ∧ w.heap[g]? = some (.cells cur 9 (0, 0)) ∧ n ≤ cur.size
theorem row_is {B : Nat} {ua : Option Addr} {n uc : Nat} {l : List (List UInt8)} {w : World} (h : OwnS B (.slice ua n uc) l w) (hn : l.length = n) : RowIs ua n B w.heap.size w := by
  rcases h.2 with ⟨e, h0⟩ | ⟨g, cap, cur, e, hB, hg, hc, _, hcs, _⟩
  · exact .inl (hn ▸ h0)
  · simp only [Value.slice.injEq] at e
    obtain ⟨rfl, _, _⟩ := e
    exact .inr ⟨g, cur, rfl, hB, lt_of_block hg, hg, by omega⟩
theorem RowIs.ext {ua : Option Addr} {n B top : Nat} {w w' : World} (h : RowIs ua n B top w) (x : Ext w w') : RowIs ua n B top w' := by
  rcases h with h | ⟨g, cur, h1, h2, h3, h4, h5⟩
  · exact .inl h
  · exact .inr ⟨g, cur, h1, h2, h3, (x.block g (lt_of_block h4)).trans h4, h5⟩
theorem frz_of_lit' {w : World} {t : TypeId} {cs : Array Value} {b : Nat} (h : w.heap[b]? = some (.cells cs t (0, 0))) (i : Nat) : w.frozen? ⟨b, i, none⟩ = false := frz_of_lit h i
theorem setCell_row2 {w : World} {g k : Nat} {cur : Array Value} {t : TypeId} {fz : Nat × Nat} (h : w.heap[g]? = some (.cells cur t fz)) (v : Value) : (w.setCell ⟨g, k, none⟩ v).heap[g]? = some (.cells (cur.setIfInBounds k v) t fz) := by
  simp [World.setCell, Array.getElem?_modify, h]
set_option maxHeartbeats 8000000 in
set_option maxRecDepth 100000 in
theorem ask_walk (v : Value) (rep : Bool) (ds : List Dir) (n : List UInt8) (w : World) (hm : MaxIs w) (H : DirsAt w v ds) (hn : n.length ≤ maxLen) :
    Calls Tryd.prog 7 #[.agg #[v, .bool rep], .string ⟨⟨n⟩⟩] w fun e w' => e = .returned (.bool true) ∧ Ext w w' := by
  obtain ⟨a, cap, rfl, _⟩ := H.cells
  unfold maxLen at hn
  have x0 : Ext w (w.alloc (.cells #[.slice a ds.length cap, .bool rep] 25)) := (Below.refl _ _).alloc (Nat.le_refl _) _
  have P0 : PolCell (w.alloc (.cells #[.slice a ds.length cap, .bool rep] 25)) w.heap.size a ds.length cap rep ds := ⟨cells_of_lit (heap_alloc_new w _) 0, cells_of_lit (heap_alloc_new w _) 1, H.ext x0⟩
  have cg := great_any (.slice a ds.length cap) rep ds _ (H.ext x0)
  go_enter Tryd.func7, Tryd.ntmps7
  go_wp2_with fail
  refine cg.mono ?_
  rintro e w1 ⟨b, rfl, hb, x1⟩
  have y1 := Ext.trans x0 x1
  have P1 := P0.ext x1
  clear cg P0
  cases b with
  | true =>
    clear hb
    go_wp2_with (go_at_call 15; refine (says_any _ (hm.ext y1)).mono ?_; rintro e w2 ⟨rfl, x2⟩)
    go_ret
    exact ⟨rfl, Ext.trans y1 x2⟩
  | false =>
    have hfine := hb rfl
    have hs := hfine.small
    have hok := hfine.text
    clear hb
    have hdv : (dirOf (findD ds n)).vals.length ≤ 20 ∧ ∀ s ∈ (dirOf (findD ds n)).vals, s.length ≤ 200 := by
      cases hf : findD ds n with
      | none => exact ⟨by simp [dirOf], by simp [dirOf]⟩
      | some d =>
        obtain ⟨_, h2, h3⟩ := hfine.2 d (List.mem_of_find?_eq_some hf)
        exact ⟨h2, h3⟩
    have c1 := fun W (hW : Ext w1 W) => find_both (.slice a ds.length cap) rep ds n W (P1.dirs.ext hW) hs
    have c2 := fun W (hW : Ext w1 W) => findR_both (.slice a ds.length cap) rep ds n w1 W P1.dirs hW hs
    obtain ⟨d, hd⟩ : ∃ d, dirOf (findD ds n) = d := ⟨_, rfl⟩
    rw [hd] at c1 c2 hdv
    obtain ⟨ok, hk⟩ : ∃ ok, (findD ds n).isSome = ok := ⟨_, rfl⟩
    rw [hk] at c1 c2
    have c3 := fun W (hW : Ext w1 W) => text_any (.slice a ds.length cap) rep ds W (P1.dirs.ext hW) hok
    have c4 := fun W (hW : Ext w1 W) => textR_any (.slice a ds.length cap) rep ds W (P1.dirs.ext hW) hok
    obtain ⟨T, hT⟩ : ∃ T, textL ds = T := ⟨_, rfl⟩
    rw [hT] at c3 c4
    have s1 := P1.lst
    have s2 := P1.rep
    have e1 : (ok == ok) = true := by simp
    have e2 : (ok != ok) = false := by simp
    have e3 : (T == T) = true := by simp
    have e4 : (T != T) = false := by simp
    have HDV := Lib.hid hdv.2
    have hdl := hdv.1
    clear hd hk hT hfine hs hok hdv
    go_wp2_with fail
    refine (c1 _ (Ext.refl _)).mono ?_
    rintro e w2 ⟨u, rfl, hown, x2⟩
    have hu := hown.strs (by unfold maxLen; omega) (fun s hs => by have := HDV.out s hs; unfold maxLen; omega)
    obtain ⟨ua, uc, rfl, _⟩ := hu.cells
    have hrow := row_is hown rfl
    have x2b : Ext w2 (w2.alloc (.cells #[.string ⟨⟨d.name⟩⟩, .slice ua d.vals.length uc] 38)) := (Below.refl _ _).alloc (Nat.le_refl _) _
    have z2 := Ext.trans x2 x2b
    have b0 := heap_alloc_new w2 (.cells #[.string ⟨⟨d.name⟩⟩, .slice ua d.vals.length uc] 38)
    have s1' := old_cell z2 s1
    have s2' := old_cell z2 s2
    have B0 := Lib.hid b0
    clear s1 s2 b0
    go_wp2_with fail
    refine (c2 _ z2).mono ?_
    rintro e w3 ⟨fa, fc, rfl, hf, x3⟩
    have x3b : Ext w3 (w3.alloc (.cells #[.string ⟨⟨d.name⟩⟩, .slice fa d.vals.length fc] 38)) := (Below.refl _ _).alloc (Nat.le_refl _) _
    have b1 := (x3b.block _ (lt_of_block ((x3.block _ (by simp)).trans B0.out))).trans ((x3.block _ (by simp)).trans B0.out)
    have b2 := heap_alloc_new w3 (.cells #[.string ⟨⟨d.name⟩⟩, .slice fa d.vals.length fc] 38)
    go_upto_region 5 with fail
    obtain ⟨W, hW⟩ : ∃ W, w3.alloc (.cells #[.string ⟨⟨d.name⟩⟩, .slice fa d.vals.length fc] 38) = W := ⟨_, rfl⟩
    rw [hW] at x3b b1 b2 ⊢
    have z3 := Ext.trans z2 (Ext.trans x3 x3b)
    have zu := Ext.trans x2b (Ext.trans x3 x3b)
    have t1 := old_cell (Ext.trans x3 x3b) s1'
    have t2 := old_cell (Ext.trans x3 x3b) s2'
    have t3 := cells_of_lit b1 0
    have t4 := cells_of_lit b1 1
    have t5 := cells_of_lit b2 0
    have t6 := cells_of_lit b2 1
    simp at t3 t4 t5 t6
    have cd := fun W' (hW : Ext W W') => directive_same d _ _ W' ((hu.ext zu).ext hW) ((hf.ext z3).ext hW)
    have B1 := Lib.hid b1
    clear s1' s2' hW b1 b2
    go_region_held3 (fun w' => w'.cell? ⟨w.heap.size, 0, none⟩ = some (.slice a ds.length cap) ∧ w'.cell? ⟨w.heap.size, 1, none⟩ = some (.bool rep) ∧ w'.cell? ⟨w2.heap.size, 0, none⟩ = some (.string ⟨⟨d.name⟩⟩) ∧ w'.cell? ⟨w2.heap.size, 1, none⟩ = some (.slice ua d.vals.length uc) ∧ w'.cell? ⟨w3.heap.size, 0, none⟩ = some (.string ⟨⟨d.name⟩⟩) ∧ w'.cell? ⟨w3.heap.size, 1, none⟩ = some (.slice fa d.vals.length fc)) (go_keep)
      (first
        | (go_at_call 25; refine (cd _ (by repeat (first | with_reducible exact Below.refl _ _ | with_reducible assumption | with_reducible refine Below.drew ?_))).mono ?_; rintro e v1 ⟨rfl, m1⟩; have r1 : Ext W v1 := Ext.trans (by repeat (first | with_reducible exact Below.refl _ _ | with_reducible assumption | with_reducible refine Below.drew ?_)) m1; have f11 := old_cell r1 t1; have f12 := old_cell r1 t2; have f13 := old_cell r1 t3; have f14 := old_cell r1 t4; have f15 := old_cell r1 t5; have f16 := old_cell r1 t6)
        | (go_at_call 24; refine (c3 _ (Ext.trans z3 (by repeat (first | with_reducible exact Below.refl _ _ | with_reducible assumption | with_reducible refine Below.drew ?_)))).mono ?_; rintro e v2 ⟨rfl, m2⟩; have r2 : Ext W v2 := Ext.trans (by repeat (first | with_reducible exact Below.refl _ _ | with_reducible assumption | with_reducible refine Below.drew ?_)) m2; have f21 := old_cell r2 t1; have f22 := old_cell r2 t2; have f23 := old_cell r2 t3; have f24 := old_cell r2 t4; have f25 := old_cell r2 t5; have f26 := old_cell r2 t6)
        | (go_at_call 29; refine (c4 _ (Ext.trans z3 (by repeat (first | with_reducible exact Below.refl _ _ | with_reducible assumption | with_reducible refine Below.drew ?_)))).mono ?_; rintro e v3 ⟨rfl, m3⟩; have r3 : Ext W v3 := Ext.trans (by repeat (first | with_reducible exact Below.refl _ _ | with_reducible assumption | with_reducible refine Below.drew ?_)) m3; have f31 := old_cell r3 t1; have f32 := old_cell r3 t2; have f33 := old_cell r3 t3; have f34 := old_cell r3 t4; have f35 := old_cell r3 t5; have f36 := old_cell r3 t6))
    have z6 := Ext.trans z3 r3
    clear t1 t2 t3 t4 t5 t6 f11 f12 f13 f14 f15 f16 f21 f22 f23 f24 f25 f26
    go_wp2_with fail
    refine (c4 _ z6).mono ?_
    rintro e w7 ⟨rfl, x7⟩
    have r7 := Ext.trans r3 x7
    have z7 := Ext.trans z6 x7
    have g3 := old_cell x7 f33
    have g4 := old_cell x7 f34
    have g1 := old_cell x7 f31
    have g2 := old_cell x7 f32
    clear f31 f32 f33 f34 f35 f36
    go_wp2_with fail
    have hrw := hrow.ext (Ext.trans zu r7)
    have hzw : w.heap.size < w1.heap.size := by have := x1.size; simp at this; omega
    have hz12 : w1.heap.size ≤ w2.heap.size := x2.size
    go_loopw [10] (fun q wr => ∃ k : Nat, q = .int .i64 k ∧ k ≤ d.vals.length ∧ Ext w1 wr ∧ RowIs ua d.vals.length w1.heap.size w2.heap.size wr ∧ wr.cell? ⟨w.heap.size, 0, none⟩ = some (.slice a ds.length cap) ∧ wr.cell? ⟨w.heap.size, 1, none⟩ = some (.bool rep) ∧ wr.cell? ⟨w2.heap.size, 1, none⟩ = some (.slice ua d.vals.length uc)) (fun q _ => d.vals.length - (intOf q).toNat)
    case atStart => exact ⟨0, rfl, by omega, z7, hrw, g1, g2, g4⟩
    case round =>
      obtain ⟨k, rfl, hk, hx, hR, q1, q2, q3⟩ := hrel
      have k0 : (0 : Int) ≤ (k : Int) := by omega
      by_cases hlt : k < d.vals.length
      · rcases hR with h0 | ⟨g, cur, rfl, hBg, hgt, hg, hcs⟩
        · omega
        · have m0 : wr.cell? ⟨g, k, none⟩ = some (cur[k]'(by omega)) := by
            simp only [World.cell?, hg]
            simp
          have m1 := frz_of_lit' hg k
          have k1 : (k : Int) < (d.vals.length : Int) := by omega
          have hne1 : ¬ w.heap.size = g := by omega
          have hne2 : ¬ w2.heap.size = g := by omega
          have HG := Lib.hid hg
          clear hg
          go_wp2_with fail
          go_roundw
          case rel => exact ⟨k + 1, by go_num, by omega, hx.setCell hBg _, .inr ⟨g, _, rfl, hBg, hgt, setCell_row2 HG.out _, by simpa using hcs⟩, by rw [World.cell?_setCell_other _ _ _ _ (by first | (simp; done) | (simp; omega))]; exact q1, by rw [World.cell?_setCell_other _ _ _ _ (by first | (simp; done) | (simp; omega))]; exact q2, by rw [World.cell?_setCell_other _ _ _ _ (by first | (simp; done) | (simp; omega))]; exact q3⟩
          case measure => simp [intOf]; omega
      · obtain rfl : k = d.vals.length := by omega
        have y3 := Ext.trans y1 hx
        go_wp2_with fail
        refine (c4 _ hx).mono ?_
        rintro e w8 ⟨rfl, x8⟩
        have y8 := Ext.trans y3 x8
        go_wp2_with fail
        refine (says_any _ (hm.ext y8)).mono ?_
        rintro e w9 ⟨rfl, x9⟩
        go_wp2_with fail
        go_ret
        exact ⟨rfl, Ext.trans y8 x9⟩
theorem ask_walkP (v : Value) (p : PolA) (n : List UInt8) (w : World) (hm : MaxIs w) (H : PolAt w v p) (hn : n.length ≤ maxLen) :
    Calls Tryd.prog 7 #[v, .string ⟨⟨n⟩⟩] w fun e w' => e = .returned (.bool true) ∧ Ext w w' := by
  obtain ⟨rfl, h⟩ := H
  exact ask_walk p.v p.rep p.ds n w hm h hn
end Go.Proofs.YtghafpkkmeibgaaDoor
