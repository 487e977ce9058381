/-
  What is proved: which directive a policy has of a name, a copy of its values: policy.Find, by slices.Clone: contracts. Condition: lists of at most a million.
-/
import Derived.Test.YtghafpkkmeibgaaDoorNam
import Derived.Shelf.Slices.Clone
import Derived.Deep.RegionHeld3
namespace Go.Proofs
open Go.Shelf
def Tryd.cloneS_ren : Go.Shelf.Ren := ⟨fun | 16 => 60 | n => n, fun | 4 => 4 | 9 => 9 | 24 => 36 | n => n, fun | n => n⟩
theorem Tryd.cloneS : Go.Proofs.Lays2.n16 Tryd.prog Tryd.cloneS_ren := {
  mixed := by kernel_rfl
  f16 := Tryd.func60.trans (congrArg some (by kernel_rfl))
  t4 := Tryd.underlying4
  a4 := Tryd.isAgg4
  z4 := Tryd.sizeOf4
  v4 := Tryd.zeroValue4
  t9 := Tryd.underlying9
  a9 := Tryd.isAgg9
  z9 := Tryd.sizeOf9
  v9 := Tryd.zeroValue9
  t24 := Tryd.underlying36
  a24 := Tryd.isAgg36
  z24 := Tryd.sizeOf36
  v24 := Tryd.zeroValue36
  i9 := by kernel_rfl }
end Go.Proofs
namespace Go.Proofs.YtghafpkkmeibgaaDoor
open Go.RowKit

theorem own_form {B e size n : Nat} {v : Value} {xs : List Value} {w : World} (h : w.ownsRow B e size v n xs) : ∃ a cap, v = .slice a n cap := by
  rcases h.2 with ⟨rfl, rfl⟩ | ⟨g, cap, cur, rfl, _⟩
  · exact ⟨none, 0, rfl⟩
  · exact ⟨_, _, rfl⟩
theorem OwnS.mono {B B' : Nat} {v : Value} {l : List (List UInt8)} {w : World} (h : OwnS B' v l w) (hB : B ≤ B') : OwnS B v l w := by
  obtain ⟨h2, h3⟩ := h
  refine ⟨h2, ?_⟩
  rcases h3 with h3 | ⟨g, cap, cur, e, hg, r⟩
  · exact .inl h3
  · exact .inr ⟨g, cap, cur, e, by omega, r⟩
theorem clone_any (v : Value) (l : List (List UInt8)) (w : World) (H : StrsAt w v l) (hl : l.length ≤ 1000000) :
    Calls Tryd.prog 60 #[v] w fun e w' => ∃ a cap, e = .returned (.slice a l.length cap) ∧ OwnS w.heap.size (.slice a l.length cap) l w' ∧ Ext w w' := by
  obtain ⟨a, cap, rfl, _, _, h4⟩ := H
  cases a with
  | none =>
    have : l = [] := by
      rcases h4 with h | ⟨b, off, e, _⟩
      · exact h
      · cases e
    subst this
    refine (Any.slices_Clone_string_nil Tryd.cloneS 0 cap w).mono ?_
    rintro e w' ⟨rfl, rfl⟩
    exact ⟨_, _, rfl, OwnS.nil _ _, Ext.refl _⟩
  | some a =>
    rcases h4 with h | ⟨b, off, e, hb, hc⟩
    · subst h
      refine (Any.slices_Clone_string_zero Tryd.cloneS a cap w).mono ?_
      rintro e w' ⟨v', rfl, h1, _, h2⟩
      obtain ⟨a', cap', rfl⟩ := own_form h1
      exact ⟨_, _, rfl, h1, h2⟩
    · cases e
      refine (Any.slices_Clone_string Tryd.cloneS b off l.length cap (l.map fun s => ⟨⟨s⟩⟩) w (by simp) (by omega) (fun j hj => ?_)).mono ?_
      · simp only [List.length_map] at hj
        rw [hc j hj, List.getD_eq_getElem?_getD, List.getElem?_map, List.getElem?_eq_getElem hj]
        rfl
      · rintro e w' ⟨v', rfl, h1, _, h2⟩
        obtain ⟨a', cap', rfl⟩ := own_form h1
        refine ⟨_, _, rfl, ?_, h2⟩
        have e1 : ((l.map fun s => (⟨⟨s⟩⟩ : ByteArray)).take l.length).map Value.string = strCells l := by
          rw [List.take_of_length_le (by simp), List.map_map]
          rfl
        rw [e1] at h1
        exact h1
theorem DirsAt.cells {w : World} {v : Value} {l : List Dir} (h : DirsAt w v l) : ∃ a cap, v = .slice a l.length cap ∧ ∀ k (hk : k < l.length), ∃ b off u, a = some ⟨b, off, none⟩ ∧ b < w.heap.size ∧ w.cell? ⟨b, off + k * 2, none⟩ = some (.string ⟨⟨l[k].name⟩⟩) ∧ w.cell? ⟨b, off + k * 2 + 1, none⟩ = some u ∧ StrsAt w u l[k].vals := by
  obtain ⟨a, cap, us, e1, _, h3, _, e4⟩ := h
  refine ⟨a, cap, e1, fun k hk => ?_⟩
  rcases e4 with rfl | ⟨b, off, e, hb, hc⟩
  · simp at hk
  · exact ⟨b, off, us k, e, hb, (hc k hk).1, (hc k hk).2, h3 k hk⟩
theorem bcell {W w1 : World} (hb : Below W.heap.size W w1) : (∀ b o, b < W.heap.size → w1.cell? ⟨b, o, none⟩ = W.cell? ⟨b, o, none⟩) ∧ (∀ b o, b < W.heap.size → w1.frozen? ⟨b, o, none⟩ = W.frozen? ⟨b, o, none⟩) :=
  ⟨fun b o h => hb.cell (p := ⟨b, o, none⟩) h, fun b o h => hb.frozen (p := ⟨b, o, none⟩) h⟩
theorem held_at (w : World) (t : TypeId) (cs : Array Value) (i : Nat) (v : Value) (h : cs[i]? = some v) : ((w.alloc (.cells cs t)).drew).cell? ⟨w.heap.size, i, none⟩ = some v := by
  have e : ((w.alloc (.cells cs t)).drew).heap[w.heap.size]? = some (.cells cs t) := heap_alloc_new w _
  simp only [World.cell?, e]
  simpa using h
theorem held_old (w : World) (o : Obj) (b : Nat) (h : b < w.heap.size) (i : Nat) : ((w.alloc o).drew).cell? ⟨b, i, none⟩ = w.cell? ⟨b, i, none⟩ :=
  ((Below.refl w.heap.size w).alloc (Nat.le_refl _) o).cell (p := ⟨b, i, none⟩) h
theorem held_oldf (w : World) (o : Obj) (b : Nat) (h : b < w.heap.size) (i : Nat) : ((w.alloc o).drew).frozen? ⟨b, i, none⟩ = w.frozen? ⟨b, i, none⟩ :=
  ((Below.refl w.heap.size w).alloc (Nat.le_refl _) o).frozen (p := ⟨b, i, none⟩) h
set_option maxHeartbeats 2000000 in
theorem find_none (v : Value) (rep : Bool) (ds : List Dir) (n : List UInt8) (w : World) (H : DirsAt w v ds) (hl : ds.length ≤ 1000000) (hf : findD ds n = none) :
    Calls Tryd.prog 27 #[.agg #[v, .bool rep], .string ⟨⟨n⟩⟩] w fun e w' => e = .returned (.tuple #[.agg #[.string ⟨⟨[]⟩⟩, .slice none 0 0], .bool false]) ∧ Ext w w' := by
  have hI : namedI ds n = -1 := by
    rcases named_cases ds n with ⟨h, _⟩ | ⟨k, _, _, h⟩
    · exact h
    · rw [hf] at h; cases h
  have HI := Lib.hid hI
  clear hI hf
  go_enter Tryd.func27, Tryd.ntmps27
  go_wp2_with (go_at_call 55; refine (named_any v ds n _ (H.ext (((Below.refl _ _).alloc (Nat.le_refl _) _).alloc (by simp) _)) hl).mono ?_; rintro e w1 ⟨rfl, hx1⟩; rw [HI.out]; obtain ⟨hc1, hf1⟩ := bcell hx1)
  exact bodyPost_ret (v := .tuple #[.agg #[.string ⟨⟨[]⟩⟩, .slice none 0 0], .bool false]) (by simp [results, Tryd.results27, go_sem, hc1]) rfl ⟨rfl, ((((Below.refl _ _).alloc (Nat.le_refl _) _).alloc (by simp) _).trans (hx1.mono (by simp; omega))).setCell (by simp) _ |>.setCell (by simp) _⟩
set_option maxHeartbeats 2000000 in
theorem find_some (v : Value) (rep : Bool) (ds : List Dir) (n : List UInt8) (d : Dir) (w : World) (H : DirsAt w v ds) (hl : ds.length ≤ 1000000) (hvl : d.vals.length ≤ 1000000) (hf : findD ds n = some d) :
    Calls Tryd.prog 27 #[.agg #[v, .bool rep], .string ⟨⟨n⟩⟩] w fun e w' => ∃ u, e = .returned (.tuple #[.agg #[.string ⟨⟨d.name⟩⟩, u], .bool true]) ∧ OwnS w.heap.size u d.vals w' ∧ Ext w w' := by
  obtain ⟨k, hk, hI, hd⟩ : ∃ (k : Nat) (h : k < ds.length), namedI ds n = (k : Int) ∧ d = ds[k] := by
    rcases named_cases ds n with ⟨_, h⟩ | ⟨k, hk, h, h2⟩
    · rw [hf] at h; cases h
    · rw [hf] at h2; exact ⟨k, hk, h, Option.some.inj h2⟩
  have HI := Lib.hid hI
  obtain ⟨a, cap, ev, hcells⟩ := H.cells
  obtain ⟨b, off, us, rfl, hb, c1, c2, hu⟩ := hcells k hk
  rw [← hd] at c1 hu
  clear hI hf hd hcells
  have hext0 : Ext w ((w.alloc (.cells #[v, .bool rep] 25)).alloc (.cells #[.string ⟨⟨[]⟩⟩, .slice none 0 0] 38)) := ((Below.refl _ _).alloc (Nat.le_refl _) _).alloc (by simp) _
  subst ev
  obtain ⟨au, capu, rfl⟩ : ∃ au capu, us = .slice au d.vals.length capu := by
    obtain ⟨au, capu, e, _⟩ := hu
    exact ⟨au, capu, e⟩
  have k0 : decide ((k : Int) < 0) = false := by simp
  have k1 : (0 : Int) ≤ (k : Int) := by omega
  have k2 : (k : Int) < (ds.length : Int) := by omega
  have cn := named_any _ ds n _ (H.ext hext0) hl
  go_enter Tryd.func27, Tryd.ntmps27
  go_wp2_with (go_at_call 55; refine cn.mono ?_; rintro e w1 ⟨rfl, hx1⟩; rw [HI.out]; obtain ⟨hc1, hf1⟩ := bcell hx1; have hxw := hext0.trans hx1; have d1 := (hxw.cell (p := ⟨b, off + k * 2, none⟩) hb).trans c1; have d2 := (hxw.cell (p := ⟨b, off + k * 2 + 1, none⟩) hb).trans c2)
  have hxw2 : Ext w (w1.alloc (.cells #[.string ⟨⟨d.name⟩⟩, .slice au d.vals.length capu] 38)).drew := (hxw.trans ((Below.refl _ _).alloc (Nat.le_refl _) _)).drew
  have g1 := hc1 (w.heap.size + 1) 0 (by simp)
  have g2 := hc1 (w.heap.size + 1) 1 (by simp)
  have g3 := hf1 (w.heap.size + 1) 0 (by simp)
  have g4 := hf1 (w.heap.size + 1) 1 (by simp)
  have gz : w.heap.size + 1 < w1.heap.size := by have := hx1.size; simp at this; omega
  simp at g1 g2 g3 g4
  have ne1 : ¬ w.heap.size + 1 = w1.heap.size := by omega
  have ne2 : ¬ w1.heap.size = w.heap.size + 1 := by omega
  clear hc1 hf1 cn
  go_region_held3 (fun w' => w'.cell? ⟨w1.heap.size, 0, none⟩ = some (.string ⟨⟨d.name⟩⟩) ∧ w'.cell? ⟨w1.heap.size, 1, none⟩ = some (.slice au d.vals.length capu)) (go_keep)
    ((go_at_call 60; refine (clone_any _ d.vals _ (hu.ext hxw2) hvl).mono ?_; rintro e w2 ⟨a2, cap2, rfl, hown2, hx2⟩; have s1 := (hx2.cell (p := ⟨w1.heap.size, 0, none⟩) (by simp)).trans (held_at w1 _ _ 0 _ rfl); have s2 := (hx2.cell (p := ⟨w1.heap.size, 1, none⟩) (by simp)).trans (held_at w1 _ _ 1 _ rfl); have s3 := (hx2.cell (p := ⟨w.heap.size + 1, 0, none⟩) (by simp; omega)).trans ((held_old w1 _ _ gz 0).trans g1); have s4 := (hx2.cell (p := ⟨w.heap.size + 1, 1, none⟩) (by simp; omega)).trans ((held_old w1 _ _ gz 1).trans g2); have s5 := (hx2.frozen (p := ⟨w.heap.size + 1, 0, none⟩) (by simp; omega)).trans ((held_oldf w1 _ _ gz 0).trans g3); have s6 := (hx2.frozen (p := ⟨w.heap.size + 1, 1, none⟩) (by simp; omega)).trans ((held_oldf w1 _ _ gz 1).trans g4)))
  go_wp2
  refine bodyPost_ret (v := .tuple #[.agg #[.string ⟨⟨d.name⟩⟩, .slice a2 d.vals.length cap2], .bool true]) (by simp [results, Tryd.results27, go_sem, s3, s4]) rfl ⟨_, rfl, ?_, ?_⟩
  · refine OwnS.mono (B' := (w1.alloc (Obj.cells #[Value.string ⟨⟨d.name⟩⟩, .slice au d.vals.length capu] 38)).drew.heap.size) ?_ (by simp; omega)
    exact ownsRow_setCell_below (ownsRow_setCell_below hown2 (by simp; omega) _) (by simp; omega) _
  · exact ((hxw2.trans hx2).setCell (by simp) _).setCell (by simp) _
end Go.Proofs.YtghafpkkmeibgaaDoor
