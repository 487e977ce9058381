/-
  What is proved: the walk of the statement ChainsFind: it answers true. Condition: what the package's variables hold.
-/
import Derived.Test.YtkofccabfkkgjaaDoorChnL
import Derived.Test.YtkofccabfkkgjaaDoorGrt
import Derived.Test.YtkofccabfkkgjaaDoorOpn
namespace Go.Proofs.YtkofccabfkkgjaaDoor
open Go.RowKit

theorem StrsAt.nil (w : World) : StrsAt w (.slice none 0 0) [] := ⟨none, 0, rfl, Nat.zero_le _, by simp, .inl rfl⟩
set_option maxHeartbeats 8000000 in
set_option maxRecDepth 100000 in
theorem find_walk (v : Value) (rep : Bool) (ds : List Dir) (k : Int) (w : World) (G : ChG w) (H : DirsAt w v ds) :
    Calls Tryd.prog 4 #[.agg #[v, .bool rep], .int .i64 k] w fun e w' => e = .returned (.bool true) ∧ Ext w w' := by
  obtain ⟨a, cap, rfl, _⟩ := H.cells
  have hext0 : Ext w (w.alloc (.cells #[.slice a ds.length cap, .bool rep] 30)) := (Below.refl _ _).alloc (Nat.le_refl _) _
  have HP0 : PolCell (w.alloc (.cells #[.slice a ds.length cap, .bool rep] 30)) w.heap.size a ds.length cap rep ds := ⟨cells_of_lit (heap_alloc_new w _) 0, cells_of_lit (heap_alloc_new w _) 1, H.ext hext0⟩
  have cg := great_any (.slice a ds.length cap) rep ds _ (H.ext hext0)
  go_enter Tryd.func4, Tryd.ntmps4
  go_wp2_with fail
  refine cg.mono ?_
  rintro e w1 ⟨b, rfl, hb, x1⟩
  have y1 := Ext.trans hext0 x1
  have HP1 := HP0.ext x1
  clear cg
  cases b with
  | true =>
    clear hb
    go_wp2_with fail
    refine (falls_any _ (G.ext y1)).mono ?_
    rintro e w2 ⟨rfl, x2⟩
    go_wp2_with fail
    go_ret
    exact ⟨rfl, Ext.trans y1 x2⟩
  | false =>
    have hs := (hb rfl).small
    have s1 := HP1.lst
    have s2 := HP1.rep
    clear hb
    have c1 := chainsFind_any (.slice a ds.length cap) rep ds k w1 (G.ext y1) HP1.dirs hs
    have c2 := fun W H => chainsFindR_any (.slice a ds.length cap) rep ds k W H hs
    cases hf : findC ds k with
    | none =>
      rw [hf] at c1 c2
      clear hf
      go_wp2_with fail
      refine c1.mono ?_
      rintro e w2 ⟨x, rfl, hd2, x2⟩
      have hd2 : x = _ := hd2
      subst hd2
      have HP2 := HP1.ext x2
      have t1 := HP2.lst
      have t2 := HP2.rep
      have y2 := Ext.trans y1 x2
      have z2 : w.heap.size < w2.heap.size := cell_lt t1
      have hA2 : Ext w2 (w2.alloc (.cells #[.string ⟨⟨[]⟩⟩, .slice none 0 0] 33)) := (Below.refl _ _).alloc (Nat.le_refl _) _
      have c2 := c2 _ (HP2.ext hA2).dirs
      have ns := StrsAt.nil
      clear s1 s2 c1
      go_wp2_with fail
      refine c2.mono ?_
      rintro e w3 ⟨x, rfl, hd3, x3⟩
      have hd3 : x = _ := hd3
      subst hd3
      have y3 := Ext.trans y2 (Ext.trans hA2 x3)
      have z3 : w2.heap.size < w3.heap.size := Nat.lt_of_lt_of_le (by simp) x3.size
      have u1 := (x3.cell (p := ⟨w2.heap.size, 0, none⟩) (by simp)).trans (cells_of_lit (heap_alloc_new w2 _) 0)
      have u2 := (x3.cell (p := ⟨w2.heap.size, 1, none⟩) (by simp)).trans (cells_of_lit (heap_alloc_new w2 _) 1)
      have hA3 : Ext w3 (w3.alloc (.cells #[.string ⟨⟨[]⟩⟩, .slice none 0 0] 33)) := (Below.refl _ _).alloc (Nat.le_refl _) _
      have cd := directive_any [] [] (.slice none 0 0) (.slice none 0 0) [] [] (w3.alloc (.cells #[.string ⟨⟨[]⟩⟩, .slice none 0 0] 33)) (ns _) (ns _)
      clear t1 t2 c2
      go_wp2_with fail
      refine cd.mono ?_
      rintro e w4 ⟨rfl, x4⟩
      have y4 := Ext.trans y3 (Ext.trans hA3 x4)
      go_wp2_with fail
      refine (falls_any _ (G.ext y4)).mono ?_
      rintro e w5 ⟨rfl, x5⟩
      go_wp2_with fail
      go_ret
      exact ⟨rfl, Ext.trans y4 x5⟩
    | some d =>
      rw [hf] at c1 c2
      clear hf
      have HLL : Hid ((d.vals == d.vals) = true) := Lib.hid (by simp)
      have HNN : Hid ((d.name == d.name && d.vals == d.vals) = true) := Lib.hid (by simp)
      go_wp2_with fail
      refine c1.mono ?_
      rintro e w2 ⟨x, rfl, ⟨a1, c1', rfl, hst2⟩, x2⟩
      have HP2 := HP1.ext x2
      have t1 := HP2.lst
      have t2 := HP2.rep
      have y2 := Ext.trans y1 x2
      have z2 : w.heap.size < w2.heap.size := cell_lt t1
      have hA2 : Ext w2 (w2.alloc (.cells #[.string ⟨⟨d.name⟩⟩, .slice a1 d.vals.length c1'] 33)) := (Below.refl _ _).alloc (Nat.le_refl _) _
      have c2 := c2 _ (HP2.ext hA2).dirs
      clear s1 s2 c1
      go_wp2_with fail
      refine c2.mono ?_
      rintro e w3 ⟨x, rfl, ⟨a2, c2', rfl, hst3⟩, x3⟩
      have y3 := Ext.trans y2 (Ext.trans hA2 x3)
      have z3 : w2.heap.size < w3.heap.size := Nat.lt_of_lt_of_le (by simp) x3.size
      have u1 := (x3.cell (p := ⟨w2.heap.size, 0, none⟩) (by simp)).trans (cells_of_lit (heap_alloc_new w2 _) 0)
      have u2 := (x3.cell (p := ⟨w2.heap.size, 1, none⟩) (by simp)).trans (cells_of_lit (heap_alloc_new w2 _) 1)
      have hA3 : Ext w3 (w3.alloc (.cells #[.string ⟨⟨d.name⟩⟩, .slice a2 d.vals.length c2'] 33)) := (Below.refl _ _).alloc (Nat.le_refl _) _
      have cd := directive_any d.name d.name (.slice a1 d.vals.length c1') (.slice a2 d.vals.length c2') d.vals d.vals (w3.alloc (.cells #[.string ⟨⟨d.name⟩⟩, .slice a2 d.vals.length c2'] 33)) (hst2.ext (Ext.trans hA2 (Ext.trans x3 hA3))) (hst3.ext hA3)
      rw [HNN.out] at cd
      clear t1 t2 c2
      go_wp2_with fail
      refine cd.mono ?_
      rintro e w4 ⟨rfl, x4⟩
      have y4 := Ext.trans y3 (Ext.trans hA3 x4)
      go_wp2_with fail
      refine (falls_any _ (G.ext y4)).mono ?_
      rintro e w5 ⟨rfl, x5⟩
      go_wp2_with fail
      go_ret
      exact ⟨rfl, Ext.trans y4 x5⟩
theorem find_walkP (v : Value) (p : PolA) (k : Int) (w : World) (G : ChG w) (H : PolAt w v p) :
    Calls Tryd.prog 4 #[v, .int .i64 k] w fun e w' => e = .returned (.bool true) ∧ Ext w w' := by
  obtain ⟨rfl, h⟩ := H
  exact find_walk p.v p.rep p.ds k w G h
end Go.Proofs.YtkofccabfkkgjaaDoor
