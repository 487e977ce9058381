/-
  What is proved: which directive of a policy counts for an item of a kind: the reference's: a contract. Condition: lists of at most a million.
-/
import Derived.Test.YtkofccabfkkgjaaDoorChnG
namespace Go.Proofs.YtkofccabfkkgjaaDoor
open Go.RowKit

theorem findSome_at (ds : List Dir) {d : Dir} : ∀ (l : List (List UInt8)) (j : Nat) (h : j < l.length), (∀ i (hi : i < l.length), i < j → findD ds l[i] = none) → findD ds l[j] = some d → l.findSome? (findD ds) = some d
  | x :: l, 0, _, _, hd => by
    have hd : findD ds x = some d := hd
    simp [List.findSome?, hd]
  | x :: l, j + 1, h, hn, hd => by
    have h0 : findD ds x = none := hn 0 (by simp) (by omega)
    have ih := findSome_at ds l j (by simpa using h) (fun i hi hj => hn (i + 1) (by simpa using hi) (by omega)) hd
    simp [List.findSome?, h0, ih]
theorem findSome_no (ds : List Dir) (l : List (List UInt8)) (h : ∀ i (hi : i < l.length), i < l.length → findD ds l[i] = none) : l.findSome? (findD ds) = none := by
  rw [List.findSome?_eq_none_iff]
  intro x hx
  obtain ⟨i, hi, rfl⟩ := List.getElem_of_mem hx
  exact h i hi hi
theorem held_free (w : World) (t : TypeId) (cs : Array Value) (i : Nat) : ((w.alloc (.cells cs t)).drew).frozen? ⟨w.heap.size, i, none⟩ = false := by
  have e : ((w.alloc (.cells cs t)).drew).heap[w.heap.size]? = some (.cells cs t) := heap_alloc_new w _
  simp only [World.frozen?, e]
  simp
theorem findR_none (v : Value) (rep : Bool) (ds : List Dir) (n : List UInt8) (w0 w : World) (H : DirsAt w0 v ds) (hx0 : Ext w0 w) (hl : ds.length ≤ 1000000) (hf : findD ds n = none) :
    Calls Tryd.prog 34 #[.agg #[v, .bool rep], .string ⟨⟨n⟩⟩] w fun e w' => e = .returned (.tuple #[.agg #[.string ⟨⟨[]⟩⟩, .slice none 0 0], .bool false]) ∧ Ext w w' := by
  have c := findR_any v rep ds n w0 w H hx0 hl
  rw [hf] at c
  refine c.mono ?_
  rintro e w' ⟨x, rfl, h, hx⟩
  have h : x = _ := h
  subst h
  exact ⟨rfl, hx⟩
theorem findR_some (v : Value) (rep : Bool) (ds : List Dir) (n : List UInt8) (d : Dir) (w0 w : World) (H : DirsAt w0 v ds) (hx0 : Ext w0 w) (hl : ds.length ≤ 1000000) (hf : findD ds n = some d) :
    Calls Tryd.prog 34 #[.agg #[v, .bool rep], .string ⟨⟨n⟩⟩] w fun e w' => ∃ a cap, e = .returned (.tuple #[.agg #[.string ⟨⟨d.name⟩⟩, .slice a d.vals.length cap], .bool true]) ∧ StrsAt w0 (.slice a d.vals.length cap) d.vals ∧ Ext w w' := by
  have c := findR_any v rep ds n w0 w H hx0 hl
  rw [hf] at c
  refine c.mono ?_
  rintro e w' ⟨x, rfl, ⟨a, cap, rfl, h⟩, hx⟩
  exact ⟨a, cap, rfl, h, hx⟩
set_option maxHeartbeats 4000000 in
theorem chainsFindR_any (v : Value) (rep : Bool) (ds : List Dir) (k : Int) (w : World) (H : DirsAt w v ds) (hs : SmallD ds) :
    Calls Tryd.prog 19 #[.agg #[v, .bool rep], .int .i64 k] w fun e w' => ∃ x, e = .returned (.tuple #[x, .bool (findC ds k).isSome]) ∧ DirV w' x (findC ds k) ∧ Ext w w' := by
  obtain ⟨a, cap, rfl, _⟩ := H.cells
  have hext0 : Ext w ((w.alloc (.cells #[.slice a ds.length cap, .bool rep] 30)).alloc (.cells #[.string ⟨⟨[]⟩⟩, .slice none 0 0] 33)) := ((Below.refl _ _).alloc (Nat.le_refl _) _).alloc (by simp) _
  have HP0 : PolCell ((w.alloc (.cells #[.slice a ds.length cap, .bool rep] 30)).alloc (.cells #[.string ⟨⟨[]⟩⟩, .slice none 0 0] 33)) w.heap.size a ds.length cap rep ds := ⟨cells_of_lit (alloc_two w _ _).1 0, cells_of_lit (alloc_two w _ _).1 1, H.ext hext0⟩
  have ce := fun W => effectiveR_any k W
  cases he : effL k with
  | nil =>
    have HF : Hid (findC ds k = none) := Lib.hid (by unfold findC; rw [if_pos he])
    rw [he] at ce
    clear he
    go_enter Tryd.func19, Tryd.ntmps19
    go_wp2_with (go_at_call 14; refine (ce _).mono ?_; rintro e w1 ⟨rfl, hx1⟩; obtain ⟨hc1, hf1⟩ := bcell hx1)
    rw [HF.out]
    exact bodyPost_ret (v := .tuple #[.agg #[.string ⟨⟨[]⟩⟩, .slice none 0 0], .bool false]) (by simp [results, Tryd.results19, go_sem, hc1]) rfl ⟨_, rfl, rfl, ((hext0.trans hx1).setCell (by simp) _).setCell (by simp) _⟩
  | cons c t =>
    rw [he] at ce
    obtain ⟨N, hN⟩ : ∃ N, c :: t = N := ⟨_, rfl⟩
    have hNe : (N == []) = false := by rw [← hN]; rfl
    rw [hN] at ce he
    obtain ⟨L, hL⟩ : ∃ L, chainL N = L := ⟨_, rfl⟩
    have HF : Hid (findC ds k = L.findSome? (findD ds)) := Lib.hid (by unfold findC; rw [he, hL, if_neg (by rw [← hN]; simp)])
    have hLl : L.length ≤ 4 := by rw [← hL]; exact chain_len N
    have hNl : N.length ≤ 20 := by rw [← he]; exact eff_len k
    have hLe : ∀ x ∈ L, x.length ≤ 1000 := by rw [← hL]; exact chain_each N (by omega)
    have cc := fun W => chainR_any N W
    rw [hL] at cc
    clear hN he hL
    go_enter Tryd.func19, Tryd.ntmps19
    go_wp2_with fail
    refine (ce _).mono ?_
    rintro e wa ⟨rfl, hxa⟩
    go_wp2_with fail
    refine (ce _).mono ?_
    rintro e wb ⟨rfl, hxb⟩
    go_wp2_with fail
    refine (cc _).mono ?_
    rintro e w3 ⟨v2, rfl, hown2, hxc⟩
    obtain ⟨a2, cap2, rfl⟩ := own_form hown2
    go_wp2_with fail
    have hx3 := Ext.trans hxa (Ext.trans hxb hxc)
    have HP3 := HP0.ext hx3
    have hS := hown2.strs (by unfold maxLen; omega) (each_max hLe)
    obtain ⟨hc3, hf3⟩ := bcell hx3
    have g1 := hc3 (w.heap.size + 1) 0 (by simp)
    have g2 := hc3 (w.heap.size + 1) 1 (by simp)
    have g3 := hf3 (w.heap.size + 1) 0 (by simp)
    have g4 := hf3 (w.heap.size + 1) 1 (by simp)
    have gz : w.heap.size + 1 < w3.heap.size := by have := hx3.size; simp at this; omega
    simp at g1 g2 g3 g4
    have HG := Lib.hid (And.intro g1 (And.intro g2 (And.intro g3 g4)))
    have hw3 := hext0.trans hx3
    clear hc3 hf3 g1 g2 g3 g4 ce cc hxa hxb hxc hown2 HP0 hext0
    go_loopw [7] (fun i wr => ∃ j : Nat, i = .int .i64 j ∧ j ≤ L.length ∧ Ext w3 wr ∧ Hid (∀ i (h : i < L.length), i < j → findD ds L[i] = none)) (fun i _ => L.length - (intOf i).toNat)
    case atStart => exact ⟨0, rfl, by omega, Ext.refl _, Lib.hid (fun i _ hi => by omega)⟩
    case round =>
      obtain ⟨j, rfl, hj, hx, HN⟩ := hrel
      have g1 := (hx.cell (p := ⟨w.heap.size + 1, 0, none⟩) gz).trans HG.out.1
      have g2 := (hx.cell (p := ⟨w.heap.size + 1, 1, none⟩) gz).trans HG.out.2.1
      have g3 := (hx.frozen (p := ⟨w.heap.size + 1, 0, none⟩) gz).trans HG.out.2.2.1
      have g4 := (hx.frozen (p := ⟨w.heap.size + 1, 1, none⟩) gz).trans HG.out.2.2.2
      have gzr : w.heap.size + 1 < wr.heap.size := Nat.lt_of_lt_of_le gz hx.size
      by_cases hlt : j < L.length
      · have HPr := HP3.ext hx
        have s1 := HPr.lst
        have s2 := HPr.rep
        obtain ⟨a', c', e', hcl⟩ := (hS.ext hx).cells
        obtain ⟨b2, off2, e2, hb2, s3⟩ := hcl j hlt
        cases e'
        subst e2
        obtain ⟨x, hxx⟩ : ∃ x, L[j] = x := ⟨_, rfl⟩
        rw [hxx] at s3
        have HX := Lib.hid hxx
        have k1 : (0 : Int) ≤ (j : Int) := by omega
        have k2 : (j : Int) < (L.length : Int) := by omega
        have hww := Ext.trans hw3 hx
        have hB : Ext wr wr.drew := (Below.refl _ _).drew
        have hA : Ext wr (wr.alloc (.cells #[.string ⟨⟨[]⟩⟩, .slice none 0 0] 33)).drew := ((Below.refl _ _).alloc (Nat.le_refl _) _).drew
        clear hcl hxx
        cases hd : findD ds x with
        | none =>
          have cf := fun W (hW : Ext wr W) => findR_none (.slice a ds.length cap) rep ds x w W H (hww.trans hW) hs.len hd
          have HD : Hid (findD ds L[j] = none) := Lib.hid (by rw [HX.out]; exact hd)
          clear hd
          go_wp2_with fail
          go_region_held3 (fun w' => w'.cell? ⟨w.heap.size, 0, none⟩ = some (.slice a ds.length cap) ∧ w'.cell? ⟨w.heap.size, 1, none⟩ = some (.bool rep) ∧ w'.cell? ⟨b2, off2 + j, none⟩ = some (.string ⟨⟨x⟩⟩)) (go_keep)
            (first | (go_at_call 34; refine (cf _ hA).mono ?_; rintro e w4 ⟨rfl, hx4⟩; have hxw := Ext.trans hA hx4; have t1 := (hxw.cell (p := ⟨w.heap.size, 0, none⟩) (show w.heap.size < wr.heap.size by omega)).trans s1; have t2 := (hxw.cell (p := ⟨w.heap.size, 1, none⟩) (show w.heap.size < wr.heap.size by omega)).trans s2; have t3 := (hxw.cell (p := ⟨b2, off2 + j, none⟩) hb2).trans s3; have z4 : wr.heap.size ≤ w4.heap.size := hxw.size; have := World.new_ne w4 _ t1; have := World.new_ne w4 _ t3; have t4 := (hx4.cell (p := ⟨wr.heap.size, 0, none⟩) (by simp)).trans (held_at wr _ _ 0 _ rfl); have t5 := (hx4.cell (p := ⟨wr.heap.size, 1, none⟩) (by simp)).trans (held_at wr _ _ 1 _ rfl); have t6 := (hx4.frozen (p := ⟨wr.heap.size, 0, none⟩) (by simp)).trans (held_free wr _ _ 0); have t7 := (hx4.frozen (p := ⟨wr.heap.size, 1, none⟩) (by simp)).trans (held_free wr _ _ 1); have n1 : ¬ wr.heap.size = w.heap.size := (by omega); have n2 : ¬ w.heap.size = wr.heap.size := (by omega); have n3 : ¬ wr.heap.size = b2 := (by omega); have n4 : ¬ b2 = wr.heap.size := (by omega)) | (go_at_call 34; refine (cf _ hB).mono ?_; rintro e w4 ⟨rfl, hx4⟩; have hxw := Ext.trans hB hx4; have t1 := (hxw.cell (p := ⟨w.heap.size, 0, none⟩) (show w.heap.size < wr.heap.size by omega)).trans s1; have t2 := (hxw.cell (p := ⟨w.heap.size, 1, none⟩) (show w.heap.size < wr.heap.size by omega)).trans s2; have t3 := (hxw.cell (p := ⟨b2, off2 + j, none⟩) hb2).trans s3; have z4 : wr.heap.size ≤ w4.heap.size := hxw.size; have := World.new_ne w4 _ t1; have := World.new_ne w4 _ t3))
          all_goals
            go_wp2
            go_roundw
            case rel =>
              refine ⟨j + 1, by go_num, by omega, ?_, Lib.hid (fun i h hi => ?_)⟩
              · first
                  | exact (Ext.trans hx hxw).alloc (Ext.trans hx hxw).size _
                  | exact ((Ext.trans hx hxw).setCell hx.size _).setCell hx.size _
              · by_cases e : i = j
                · subst e
                  exact HD.out
                · exact HN.out i h (by omega)
            case measure => simp [intOf]; omega
        | some d =>
          have cf := fun W (hW : Ext wr W) => findR_some (.slice a ds.length cap) rep ds x d w W H (hww.trans hW) hs.len hd
          have HG2 : Hid (findC ds k = some d) := Lib.hid (HF.out.trans (findSome_at ds L j hlt (fun i h hi => HN.out i h hi) (by rw [HX.out]; exact hd)))
          clear hd
          go_wp2_with fail
          go_region_held3 (fun w' => w'.cell? ⟨w.heap.size, 0, none⟩ = some (.slice a ds.length cap) ∧ w'.cell? ⟨w.heap.size, 1, none⟩ = some (.bool rep) ∧ w'.cell? ⟨b2, off2 + j, none⟩ = some (.string ⟨⟨x⟩⟩)) (go_keep)
            (first | (go_at_call 34; refine (cf _ hA).mono ?_; rintro e w4 ⟨au, cu, rfl, hst, hx4⟩; have hxw := Ext.trans hA hx4; have u1 := (hxw.cell (p := ⟨w.heap.size + 1, 0, none⟩) gzr).trans g1; have u2 := (hxw.cell (p := ⟨w.heap.size + 1, 1, none⟩) gzr).trans g2; have u3 := (hxw.frozen (p := ⟨w.heap.size + 1, 0, none⟩) gzr).trans g3; have u4 := (hxw.frozen (p := ⟨w.heap.size + 1, 1, none⟩) gzr).trans g4; have n5 : ¬ wr.heap.size = w.heap.size + 1 := (by omega); have n6 : ¬ w.heap.size + 1 = wr.heap.size := (by omega); have n7 : w.heap.size + 1 < w4.heap.size := Nat.lt_of_lt_of_le gzr hxw.size; have n8 : ¬ w.heap.size + 1 = w4.heap.size := Nat.ne_of_lt n7; have n9 : ¬ w4.heap.size = w.heap.size + 1 := Nat.ne_of_gt n7; have t1 := (hxw.cell (p := ⟨w.heap.size, 0, none⟩) (show w.heap.size < wr.heap.size by omega)).trans s1; have t2 := (hxw.cell (p := ⟨w.heap.size, 1, none⟩) (show w.heap.size < wr.heap.size by omega)).trans s2; have t3 := (hxw.cell (p := ⟨b2, off2 + j, none⟩) hb2).trans s3; have z4 : wr.heap.size ≤ w4.heap.size := hxw.size; have := World.new_ne w4 _ t1; have := World.new_ne w4 _ t3; have t4 := (hx4.cell (p := ⟨wr.heap.size, 0, none⟩) (by simp)).trans (held_at wr _ _ 0 _ rfl); have t5 := (hx4.cell (p := ⟨wr.heap.size, 1, none⟩) (by simp)).trans (held_at wr _ _ 1 _ rfl); have t6 := (hx4.frozen (p := ⟨wr.heap.size, 0, none⟩) (by simp)).trans (held_free wr _ _ 0); have t7 := (hx4.frozen (p := ⟨wr.heap.size, 1, none⟩) (by simp)).trans (held_free wr _ _ 1); have n1 : ¬ wr.heap.size = w.heap.size := (by omega); have n2 : ¬ w.heap.size = wr.heap.size := (by omega); have n3 : ¬ wr.heap.size = b2 := (by omega); have n4 : ¬ b2 = wr.heap.size := (by omega)) | (go_at_call 34; refine (cf _ hB).mono ?_; rintro e w4 ⟨au, cu, rfl, hst, hx4⟩; have hxw := Ext.trans hB hx4; have u1 := (hxw.cell (p := ⟨w.heap.size + 1, 0, none⟩) gzr).trans g1; have u2 := (hxw.cell (p := ⟨w.heap.size + 1, 1, none⟩) gzr).trans g2; have u3 := (hxw.frozen (p := ⟨w.heap.size + 1, 0, none⟩) gzr).trans g3; have u4 := (hxw.frozen (p := ⟨w.heap.size + 1, 1, none⟩) gzr).trans g4; have n5 : ¬ wr.heap.size = w.heap.size + 1 := (by omega); have n6 : ¬ w.heap.size + 1 = wr.heap.size := (by omega); have n7 : w.heap.size + 1 < w4.heap.size := Nat.lt_of_lt_of_le gzr hxw.size; have n8 : ¬ w.heap.size + 1 = w4.heap.size := Nat.ne_of_lt n7; have n9 : ¬ w4.heap.size = w.heap.size + 1 := Nat.ne_of_gt n7; have t1 := (hxw.cell (p := ⟨w.heap.size, 0, none⟩) (show w.heap.size < wr.heap.size by omega)).trans s1; have t2 := (hxw.cell (p := ⟨w.heap.size, 1, none⟩) (show w.heap.size < wr.heap.size by omega)).trans s2; have t3 := (hxw.cell (p := ⟨b2, off2 + j, none⟩) hb2).trans s3; have z4 : wr.heap.size ≤ w4.heap.size := hxw.size; have := World.new_ne w4 _ t1; have := World.new_ne w4 _ t3))
          all_goals
            go_wp2
            rw [HG2.out]
            refine bodyPost_ret (v := .tuple #[.agg #[.string ⟨⟨d.name⟩⟩, .slice au d.vals.length cu], .bool true]) (by simp [results, Tryd.results19, go_sem, u1, u2, n5, n6, n7, n8, n9]) rfl ⟨_, rfl, ⟨_, _, rfl, hst.ext ?_⟩, ?_⟩
            all_goals first
              | exact (((Ext.trans hww hxw).setCell (by simp) _).setCell (by simp) _).alloc (by simp; omega) _
              | exact ((((Ext.trans hww hxw).setCell hww.size _).setCell hww.size _).setCell (by simp) _).setCell (by simp) _
      · obtain rfl : j = L.length := by omega
        have HG2 : Hid (findC ds k = none) := Lib.hid (HF.out.trans (findSome_no ds L HN.out))
        go_wp2
        rw [HG2.out]
        exact bodyPost_ret (v := .tuple #[.agg #[.string ⟨⟨[]⟩⟩, .slice none 0 0], .bool false]) (by simp [results, Tryd.results19, go_sem, g1, g2]) rfl ⟨_, rfl, rfl, ((Ext.trans hw3 hx).setCell (by simp) _).setCell (by simp) _⟩
end Go.Proofs.YtkofccabfkkgjaaDoor
