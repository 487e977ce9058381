/-
  What is proved: what a policy says of names: the program's Parse: a contract. Condition: lists of at most a million.
-/
import Derived.Test.YtkofccabfkkgjaaDoorTruB
namespace Go.Proofs.YtkofccabfkkgjaaDoor
open Go.RowKit

theorem frz_of_lit {w : World} {t : TypeId} {cs : Array Value} {b : Nat} (h : w.heap[b]? = some (.cells cs t)) (i : Nat) : w.frozen? ⟨b, i, none⟩ = false := by
  simp only [World.frozen?, h]
  simp
/-- What stands when one block of the call's own is written, and more is made. -/
structure KeepBut (W : World) (B g : Nat) (w : World) : Prop where
  os : w.os = W.os
  tape : w.tape = W.tape
  output : w.output = W.output
  size : W.heap.size ≤ w.heap.size
  block : ∀ b, b < B → b ≠ g → w.heap[b]? = W.heap[b]?
theorem KeepBut.refl (W : World) (B g : Nat) : KeepBut W B g W := ⟨rfl, rfl, rfl, Nat.le_refl _, fun _ _ _ => rfl⟩
theorem KeepBut.below {W w w' : World} {B g : Nat} (h : KeepBut W B g w) (k : Below B w w') : KeepBut W B g w' :=
  ⟨k.os.trans h.os, k.tape.trans h.tape, k.output.trans h.output, Nat.le_trans h.size k.size, fun b hb hg => (k.block b hb).trans (h.block b hb hg)⟩
theorem KeepBut.set {W w : World} {B g : Nat} (h : KeepBut W B g w) (i : Nat) (v : Value) : KeepBut W B g (w.setCell ⟨g, i, none⟩ v) :=
  ⟨h.os, h.tape, h.output, by rw [World.size_setCell]; exact h.size, fun b hb hg => (Below.heap_setCell w ⟨g, i, none⟩ v b hg).trans (h.block b hb hg)⟩
theorem KeepBut.cell {W w : World} {B g : Nat} (h : KeepBut W B g w) {p : Addr} (hb : p.block < B) (hg : p.block ≠ g) : w.cell? p = W.cell? p := World.cell?_of_block (h.block _ hb hg)
theorem KeepBut.frozen {W w : World} {B g : Nat} (h : KeepBut W B g w) {p : Addr} (hb : p.block < B) (hg : p.block ≠ g) : w.frozen? p = W.frozen? p := World.frozen?_of_block (h.block _ hb hg)
theorem KeepBut.ext {W0 W w : World} {B g : Nat} (h : KeepBut W B g w) (h0 : Ext W0 W) (hB : W0.heap.size ≤ B) (hg : W0.heap.size ≤ g) : Ext W0 w :=
  ⟨h.os.trans h0.os, h.tape.trans h0.tape, h.output.trans h0.output, Nat.le_trans h0.size h.size, fun b hb => (h.block b (by omega) (by omega)).trans (h0.block b hb)⟩
/-- What holds between two rounds: the names' block, the list. -/
structure NS (W : World) (B g : Nat) (has : Bool) (N : NamesL) (v : Value) (w : World) : Prop where
  keep : KeepBut W B g w
  lt : g < B
  big : B ≤ w.heap.size
  c0 : w.cell? ⟨g, 0, none⟩ = some v
  c1 : w.cell? ⟨g, 1, none⟩ = some (.bool N.any)
  c2 : w.cell? ⟨g, 2, none⟩ = some (.bool N.twice)
  c3 : w.cell? ⟨g, 3, none⟩ = some (.bool has)
  fz : ∀ i, w.frozen? ⟨g, i, none⟩ = false
  own : OwnS B v N.list w
theorem NS.ext {W w w' : World} {B g : Nat} {has : Bool} {N : NamesL} {v : Value} (h : NS W B g has N v w) (k : Ext w w') : NS W B g has N v w' where
  keep := h.keep.below (k.mono h.big)
  lt := h.lt
  big := Nat.le_trans h.big k.size
  c0 := (k.cell (p := ⟨g, 0, none⟩) (Nat.lt_of_lt_of_le h.lt h.big)).trans h.c0
  c1 := (k.cell (p := ⟨g, 1, none⟩) (Nat.lt_of_lt_of_le h.lt h.big)).trans h.c1
  c2 := (k.cell (p := ⟨g, 2, none⟩) (Nat.lt_of_lt_of_le h.lt h.big)).trans h.c2
  c3 := (k.cell (p := ⟨g, 3, none⟩) (Nat.lt_of_lt_of_le h.lt h.big)).trans h.c3
  fz := fun i => (k.frozen (p := ⟨g, i, none⟩) (Nat.lt_of_lt_of_le h.lt h.big)).trans (h.fz i)
  own := h.own.below k
theorem NS.setAny {W w : World} {B g : Nat} {has : Bool} {N : NamesL} {v : Value} (h : NS W B g has N v w) (b : Bool) : NS W B g has { N with any := b } v (w.setCell ⟨g, 1, none⟩ (.bool b)) where
  keep := h.keep.set 1 _
  lt := h.lt
  big := by rw [World.size_setCell]; exact h.big
  c0 := by rw [World.cell?_setCell_other _ _ _ _ (by simp)]; exact h.c0
  c1 := World.cell?_setCell_same _ _ _ h.c1
  c2 := by rw [World.cell?_setCell_other _ _ _ _ (by simp)]; exact h.c2
  c3 := by rw [World.cell?_setCell_other _ _ _ _ (by simp)]; exact h.c3
  fz := fun i => by rw [World.frozen?_setCell]; exact h.fz i
  own := ownsRow_setCell_below h.own h.lt _
theorem NS.setTwice {W w : World} {B g : Nat} {has : Bool} {N : NamesL} {v : Value} (h : NS W B g has N v w) (b : Bool) : NS W B g has { N with twice := b } v (w.setCell ⟨g, 2, none⟩ (.bool b)) where
  keep := h.keep.set 2 _
  lt := h.lt
  big := by rw [World.size_setCell]; exact h.big
  c0 := by rw [World.cell?_setCell_other _ _ _ _ (by simp)]; exact h.c0
  c1 := by rw [World.cell?_setCell_other _ _ _ _ (by simp)]; exact h.c1
  c2 := World.cell?_setCell_same _ _ _ h.c2
  c3 := by rw [World.cell?_setCell_other _ _ _ _ (by simp)]; exact h.c3
  fz := fun i => by rw [World.frozen?_setCell]; exact h.fz i
  own := ownsRow_setCell_below h.own h.lt _
theorem NS.push {W w w' : World} {B g : Nat} {has : Bool} {N : NamesL} {v v' : Value} {l : List (List UInt8)} (h : NS W B g has N v w) (k : Below B w w') (h1 : OwnS B v' l w') : NS W B g has { N with list := l } v' (w'.setCell ⟨g, 0, none⟩ v') where
  keep := (h.keep.below k).set 0 _
  lt := h.lt
  big := by rw [World.size_setCell]; exact Nat.le_trans h.big k.size
  c0 := World.cell?_setCell_same _ _ _ ((k.cell (p := ⟨g, 0, none⟩) h.lt).trans h.c0)
  c1 := by rw [World.cell?_setCell_other _ _ _ _ (by simp)]; exact (k.cell (p := ⟨g, 1, none⟩) h.lt).trans h.c1
  c2 := by rw [World.cell?_setCell_other _ _ _ _ (by simp)]; exact (k.cell (p := ⟨g, 2, none⟩) h.lt).trans h.c2
  c3 := by rw [World.cell?_setCell_other _ _ _ _ (by simp)]; exact (k.cell (p := ⟨g, 3, none⟩) h.lt).trans h.c3
  fz := fun i => by rw [World.frozen?_setCell]; exact (k.frozen (p := ⟨g, i, none⟩) h.lt).trans (h.fz i)
  own := ownsRow_setCell_below h1 h.lt _
/-- A directive of a name, or none: its values alone. -/
theorem findV_any (v : Value) (rep : Bool) (ds : List Dir) (n : List UInt8) (w : World) (H : DirsAt w v ds) (hs : SmallD ds) :
    Calls Tryd.prog 33 #[.agg #[v, .bool rep], .string ⟨⟨n⟩⟩] w fun e w' => ∃ nm a cap, e = .returned (.tuple #[.agg #[.string ⟨⟨nm⟩⟩, .slice a (valsOf (findD ds n)).length cap], .bool (findD ds n).isSome]) ∧ StrsAt w' (.slice a (valsOf (findD ds n)).length cap) (valsOf (findD ds n)) ∧ Ext w w' := by
  cases hf : findD ds n with
  | none =>
    refine (find_none v rep ds n w H hs.len hf).mono ?_
    rintro e w' ⟨rfl, hx⟩
    exact ⟨[], none, 0, rfl, StrsAt.nil _, hx⟩
  | some d =>
    refine (find_some v rep ds n d w H hs.len (hs.found hf) hf).mono ?_
    rintro e w' ⟨u, rfl, hown, hx⟩
    obtain ⟨a, cap, rfl⟩ := own_form hown
    have hv := H.vals (List.mem_of_find?_eq_some hf)
    exact ⟨d.name, a, cap, rfl, hown.strs hv.1 hv.2, hx⟩
theorem findVR_any (v : Value) (rep : Bool) (ds : List Dir) (n : List UInt8) (w0 w : World) (H : DirsAt w0 v ds) (hx0 : Ext w0 w) (hs : SmallD ds) :
    Calls Tryd.prog 34 #[.agg #[v, .bool rep], .string ⟨⟨n⟩⟩] w fun e w' => ∃ nm a cap, e = .returned (.tuple #[.agg #[.string ⟨⟨nm⟩⟩, .slice a (valsOf (findD ds n)).length cap], .bool (findD ds n).isSome]) ∧ StrsAt w0 (.slice a (valsOf (findD ds n)).length cap) (valsOf (findD ds n)) ∧ Ext w w' := by
  refine (findR_any v rep ds n w0 w H hx0 hs.len).mono ?_
  rintro e w' ⟨x, rfl, hd, hx⟩
  cases hf : findD ds n with
  | none =>
    rw [hf] at hd
    have hd : x = _ := hd
    subst hd
    exact ⟨[], none, 0, rfl, StrsAt.nil _, hx⟩
  | some d =>
    rw [hf] at hd
    obtain ⟨a, cap, rfl, h⟩ := hd
    exact ⟨d.name, a, cap, rfl, h, hx⟩
theorem vals_small {ds : List Dir} (hs : SmallD ds) (n : List UInt8) : (valsOf (findD ds n)).length ≤ 1000000 := by
  cases hf : findD ds n with
  | none => simp [valsOf]
  | some d => exact hs.found hf
/-- What Parse gives. -/
def ParseSays (ds : List Dir) (w : World) (e : Ending) (w' : World) : Prop :=
  ∃ a cap, e = .returned (.agg #[.slice a (parseN ds).list.length cap, .bool (parseN ds).any, .bool (parseN ds).twice, .bool (hasN ds)]) ∧ StrsAt w' (.slice a (parseN ds).list.length cap) (parseN ds).list ∧ Ext w w'
set_option maxHeartbeats 8000000 in
theorem parse_any (v : Value) (rep : Bool) (ds : List Dir) (w : World) (H : DirsAt w v ds) (hs : SmallD ds) :
    Calls Tryd.prog 23 #[.agg #[v, .bool rep]] w (ParseSays ds w) := by
  obtain ⟨a, cap, rfl, _⟩ := H.cells
  have hext0 : Ext w ((w.alloc (.cells #[.slice a ds.length cap, .bool rep] 30)).alloc (.cells #[.slice none 0 0, .bool false, .bool false, .bool false] 43)) := ((Below.refl _ _).alloc (Nat.le_refl _) _).alloc (by simp) _
  have cf := findV_any (.slice a ds.length cap) rep ds ttL _ (H.ext hext0) hs
  have hvl := vals_small hs ttL
  obtain ⟨V, hV⟩ : ∃ V, valsOf (findD ds ttL) = V := ⟨_, rfl⟩
  obtain ⟨has, hh⟩ : ∃ has, (findD ds ttL).isSome = has := ⟨_, rfl⟩
  rw [hV] at cf hvl
  rw [hh] at cf
  have HP : Hid (parseN ds = valsN V) := Lib.hid (by unfold parseN; rw [hV])
  have HH : Hid (hasN ds = has) := Lib.hid hh
  clear hV hh
  go_enter Tryd.func23, Tryd.ntmps23
  go_wp2_with fail
  refine cf.mono ?_
  rintro e w1 ⟨nm, av, cv, rfl, hst, x1⟩
  go_wp2_with fail
  obtain ⟨hc1, hf1⟩ := bcell x1
  have r0 := hc1 (w.heap.size + 1) 0 (by simp)
  have r1 := hc1 (w.heap.size + 1) 1 (by simp)
  have r2 := hc1 (w.heap.size + 1) 2 (by simp)
  have r3 := hc1 (w.heap.size + 1) 3 (by simp)
  have rf : ∀ i, w1.frozen? ⟨w.heap.size + 1, i, none⟩ = false := fun i => by rw [hf1 (w.heap.size + 1) i (by simp)]; simp
  have rz : w.heap.size + 1 < w1.heap.size := by have := x1.size; simp at this; omega
  simp at r0 r1 r2 r3
  have R := Lib.hid (And.intro r0 (And.intro r1 (And.intro r2 (And.intro r3 rf))))
  have x5 : Ext w1 ((w1.alloc (.cells #[.string ⟨⟨nm⟩⟩, .slice av V.length cv] 33)).alloc (.cells #[.slice none 0 0, .bool false, .bool false, .bool has] 43)) := ((Below.refl _ _).alloc (Nat.le_refl _) _).alloc (by simp) _
  have n0 : NS ((w1.alloc (.cells #[.string ⟨⟨nm⟩⟩, .slice av V.length cv] 33)).alloc (.cells #[.slice none 0 0, .bool false, .bool false, .bool has] 43)) (w1.heap.size + 2) (w1.heap.size + 1) has ⟨[], false, false⟩ (.slice none 0 0) ((w1.alloc (.cells #[.string ⟨⟨nm⟩⟩, .slice av V.length cv] 33)).alloc (.cells #[.slice none 0 0, .bool false, .bool false, .bool has] 43)) :=
    ⟨KeepBut.refl _ _ _, by omega, by simp, cells_of_lit (alloc_two w1 _ _).2 0, cells_of_lit (alloc_two w1 _ _).2 1, cells_of_lit (alloc_two w1 _ _).2 2, cells_of_lit (alloc_two w1 _ _).2 3, fun i => frz_of_lit (alloc_two w1 _ _).2 i, OwnS.nil _ _⟩
  have N0 := Lib.hid n0
  have X5 := Lib.hid x5
  have HC := Lib.hid hst.cells
  have hmax : V.length ≤ maxLen ∧ ∀ s ∈ V, s.length ≤ maxLen := by obtain ⟨_, _, _, h1, h2, _⟩ := hst; exact ⟨h1, h2⟩
  have HM := Lib.hid hmax
  clear n0 x5 r0 r1 r2 r3 rf hc1 hf1 cf hst hmax
  obtain ⟨W5, hW5⟩ : ∃ W5, (w1.alloc (.cells #[.string ⟨⟨nm⟩⟩, .slice av V.length cv] 33)).alloc (.cells #[.slice none 0 0, .bool false, .bool false, .bool has] 43) = W5 := ⟨_, rfl⟩
  rw [hW5] at N0 X5
  have HW5 := Lib.hid hW5
  clear hW5
  go_loopw [18] (fun i wr => ∃ (k : Nat) (N : NamesL) (lv : Value), i = .int .i64 k ∧ k ≤ V.length ∧ NS W5 (w1.heap.size + 2) (w1.heap.size + 1) has N lv wr ∧ Hid (N = valsN (V.take k))) (fun i _ => V.length - (intOf i).toNat)
  case atStart => exact ⟨0, _, _, rfl, by omega, by rw [HW5.out]; exact N0.out, Lib.hid rfl⟩
  case round =>
    obtain ⟨k, N, lv, rfl, hk, hN, HN⟩ := hrel
    obtain ⟨la, lc, rfl⟩ := own_form hN.own
    have c0 := hN.c0
    have c1 := hN.c1
    have c2 := hN.c2
    have c3 := hN.c3
    have f0 := hN.fz 0
    have f1 := hN.fz 1
    have f2 := hN.fz 2
    by_cases hlt : k < V.length
    · obtain ⟨av', cv', ev, hcl⟩ := HC.out
      obtain ⟨b2, o2, e2, hb2, d2⟩ := hcl k hlt
      cases ev
      subst e2
      have d3 := (hN.keep.cell (p := ⟨b2, o2 + k, none⟩) (show b2 < _ by omega) (show b2 ≠ _ by omega)).trans ((X5.out.cell (p := ⟨b2, o2 + k, none⟩) hb2).trans d2)
      have hxl := HM.out.2 V[k] (List.getElem_mem hlt)
      have HS := Lib.hid (valsN_take hlt)
      have hNl : N.list.length ≤ 1000000 := by
        rw [HN.out]
        have := valsN_len (V.take k) ⟨[], false, false⟩
        unfold valsN
        simp only [List.length_take, List.length_nil] at this
        omega
      obtain ⟨x, hx⟩ : ∃ x, V[k] = x := ⟨_, rfl⟩
      rw [hx] at d3 hxl HS
      have k0 : (0 : Int) ≤ (k : Int) := by omega
      have k1 : (k : Int) < (V.length : Int) := by omega
      have csm := fun W => same_any x adL W hxl (by decide)
      rw [show lowL adL = adL from by decide] at csm
      have cnm := fun W => name_any x W hxl
      clear hx hcl d2
      by_cases h1 : x = [42]
      · have e1 : (x == [42]) = true := by simpa using h1
        have HT : Hid ({ N with any := true } = valsN (V.take (k + 1))) := Lib.hid (by rw [HS.out, ← HN.out]; unfold stepN; rw [if_pos h1])
        clear h1
        go_wp2_with fail
        go_roundw
        case rel => exact ⟨k + 1, _, _, by go_num, by omega, hN.setAny true, HT⟩
        case measure => simp [intOf]; omega
      · have e1 : (x == [42]) = false := beq_eq_false_iff_ne.2 h1
        by_cases h2 : lowL x = adL
        · have e2 : (lowL x == adL) = true := by simpa using h2
          have HT : Hid ({ N with twice := true } = valsN (V.take (k + 1))) := Lib.hid (by rw [HS.out, ← HN.out]; unfold stepN; rw [if_neg h1, if_pos h2])
          rw [e2] at csm
          clear h1 h2 e2
          go_wp2_with (go_at_call 36; refine (csm _).mono ?_; rintro e w2 ⟨rfl, y2⟩; have hN2 := hN.ext y2; have g2 := hN2.c2; have gf := hN2.fz 2)
          go_roundw
          case rel => exact ⟨k + 1, _, _, by go_num, by omega, hN2.setTwice true, HT⟩
          case measure => simp [intOf]; omega
        · have e2 : (lowL x == adL) = false := beq_eq_false_iff_ne.2 h2
          rw [e2] at csm
          cases h3 : nameB x
          · have HT : Hid (N = valsN (V.take (k + 1))) := Lib.hid (by rw [HS.out, ← HN.out]; unfold stepN; rw [if_neg h1, if_neg h2, h3]; rfl)
            rw [h3] at cnm
            clear h1 h2 e2 h3
            go_wp2_with (first
              | (go_at_call 36; refine (csm _).mono ?_; rintro e w2 ⟨rfl, y2⟩; have hN2 := hN.ext y2)
              | (go_at_call 37; refine (cnm _).mono ?_; rintro e w3 ⟨rfl, y3⟩; have hN3 := hN2.ext y3))
            go_roundw
            case rel => exact ⟨k + 1, _, _, by go_num, by omega, hN3, HT⟩
            case measure => simp [intOf]; omega
          · have HT : Hid ({ N with list := N.list ++ [x] } = valsN (V.take (k + 1))) := Lib.hid (by rw [HS.out, ← HN.out]; unfold stepN; rw [if_neg h1, if_neg h2, h3]; rfl)
            rw [h3] at cnm
            clear h1 h2 e2 h3
            go_wp2_with (first
              | (go_at_call 36; refine (csm _).mono ?_; rintro e w2 ⟨rfl, y2⟩; have hN2 := hN.ext y2)
              | (go_at_call 37; refine (cnm _).mono ?_; rintro e w3 ⟨rfl, y3⟩; have hN3 := hN2.ext y3; have g0 := hN3.c0; have gf := hN3.fz 0)
              | (at_builtin; refine app_str rfl _ _ rfl x _ w3 rfl rfl rfl hN3.own rfl (by omega) hN3.big ?_; intro v4 w4 hown4 y4; have q0 := (y4.cell (p := ⟨w1.heap.size + 1, 0, none⟩) (show w1.heap.size + 1 < w1.heap.size + 2 by omega)).trans g0; have qf := (y4.frozen (p := ⟨w1.heap.size + 1, 0, none⟩) (show w1.heap.size + 1 < w1.heap.size + 2 by omega)).trans gf; have hN4 := hN3.push y4 hown4; obtain ⟨la4, lc4, rfl⟩ := own_len hown4 (N.list.length + 1) (by simp)))
            go_roundw
            case rel => exact ⟨k + 1, _, _, by go_num, by omega, hN4, HT⟩
            case measure => simp [intOf]; omega
    · obtain rfl : k = V.length := by omega
      have HT : Hid (N = parseN ds) := Lib.hid (by rw [HN.out, List.take_length, HP.out])
      obtain ⟨r0, r1, r2, r3, rf⟩ := R.out
      have hb : w.heap.size + 1 < w1.heap.size + 2 := by omega
      have hg : w.heap.size + 1 ≠ w1.heap.size + 1 := by omega
      have s0 := (hN.keep.cell (p := ⟨w.heap.size + 1, 0, none⟩) hb hg).trans ((X5.out.cell (p := ⟨w.heap.size + 1, 0, none⟩) rz).trans r0)
      have s1 := (hN.keep.cell (p := ⟨w.heap.size + 1, 1, none⟩) hb hg).trans ((X5.out.cell (p := ⟨w.heap.size + 1, 1, none⟩) rz).trans r1)
      have s2 := (hN.keep.cell (p := ⟨w.heap.size + 1, 2, none⟩) hb hg).trans ((X5.out.cell (p := ⟨w.heap.size + 1, 2, none⟩) rz).trans r2)
      have s3 := (hN.keep.cell (p := ⟨w.heap.size + 1, 3, none⟩) hb hg).trans ((X5.out.cell (p := ⟨w.heap.size + 1, 3, none⟩) rz).trans r3)
      have t0 := (hN.keep.frozen (p := ⟨w.heap.size + 1, 0, none⟩) hb hg).trans ((X5.out.frozen (p := ⟨w.heap.size + 1, 0, none⟩) rz).trans (rf 0))
      have t1 := (hN.keep.frozen (p := ⟨w.heap.size + 1, 1, none⟩) hb hg).trans ((X5.out.frozen (p := ⟨w.heap.size + 1, 1, none⟩) rz).trans (rf 1))
      have t2 := (hN.keep.frozen (p := ⟨w.heap.size + 1, 2, none⟩) hb hg).trans ((X5.out.frozen (p := ⟨w.heap.size + 1, 2, none⟩) rz).trans (rf 2))
      have t3 := (hN.keep.frozen (p := ⟨w.heap.size + 1, 3, none⟩) hb hg).trans ((X5.out.frozen (p := ⟨w.heap.size + 1, 3, none⟩) rz).trans (rf 3))
      have HE : Hid (Ext w wr) := Lib.hid (hN.keep.ext (hext0.trans (x1.trans X5.out)) (by omega) (by omega))
      have hll : N.list.length ≤ maxLen ∧ ∀ s ∈ N.list, s.length ≤ maxLen := by
        rw [HN.out]
        refine ⟨?_, valsN_each (fun s => s.length ≤ maxLen) _ _ (fun s hs => HM.out.2 s (List.mem_of_mem_take hs)) (by simp)⟩
        have := valsN_len (V.take V.length) ⟨[], false, false⟩
        unfold valsN maxLen
        simp only [List.length_take, List.length_nil] at this
        omega
      have HLL := Lib.hid hll
      clear rf r0 r1 r2 r3 hll
      go_wp2_with fail
      refine bodyPost_ret (v := .agg #[.slice la N.list.length lc, .bool N.any, .bool N.twice, .bool has]) (by simp [results, Tryd.results23, go_sem, s0, s1, s2, s3]) rfl ?_
      unfold ParseSays
      rw [← HT.out, HH.out]
      refine ⟨_, _, rfl, OwnS.strs (B := w1.heap.size + 2) (ownsRow_setCell_below (ownsRow_setCell_below (ownsRow_setCell_below (ownsRow_setCell_below hN.own hb _) hb _) hb _) hb _) HLL.out.1 HLL.out.2, ?_⟩
      exact (((HE.out.setCell (by simp) _).setCell (by simp) _).setCell (by simp) _).setCell (by simp) _
end Go.Proofs.YtkofccabfkkgjaaDoor
