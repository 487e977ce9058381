/-
  What is proved: the walk of RawsBounds: it answers true. Conditions: the library's variable holds an integer, the program's table what its text lays.
-/
import Derived.Test.YtbolajljfkjfaaaDoorRawZ
import Derived.Test.YtbolajljfkjfaaaDoorRawM
import Derived.RegionTactic
namespace Go.Proofs.YtbolajljfkjfaaaDoor
open Go.RowKit

theorem three_blocks {w w1 : World} {o0 o1 o2 : Obj} (x : Ext (((w.alloc o0).alloc o1).alloc o2) w1) : w1.heap[w.heap.size + 1]? = some o1 ∧ w1.heap[w.heap.size + 1 + 1]? = some o2 ∧ Ext w w1 ∧ w.heap.size + 1 + 1 < w1.heap.size := by
  have e1 : ((w.alloc o0).alloc o1).heap[w.heap.size + 1]? = some o1 := by
    have := heap_alloc_new (w.alloc o0) o1
    simpa using this
  have e2 : (((w.alloc o0).alloc o1).alloc o2).heap[w.heap.size + 1 + 1]? = some o2 := by
    have := heap_alloc_new ((w.alloc o0).alloc o1) o2
    simpa using this
  refine ⟨block_on x (block_on ((Below.refl _ _).alloc (Nat.le_refl _) o2) e1), block_on x e2, ?_, ?_⟩
  · exact ((((Below.refl _ _).alloc (Nat.le_refl _) _).alloc (by simp) _).alloc (by simp; omega) _).trans (x.mono (by simp; omega))
  · have := x.size
    simp at this
    omega
theorem tok_other {w : World} {b b' : Nat} (u0 u1 u2 u3 u4 u5 u6 u7 u8 : Value) (h : b' ≠ b) : (((((((((w.setCell ⟨b, 0, none⟩ u0).setCell ⟨b, 1, none⟩ u1).setCell ⟨b, 2, none⟩ u2).setCell ⟨b, 3, none⟩ u3).setCell ⟨b, 4, none⟩ u4).setCell ⟨b, 5, none⟩ u5).setCell ⟨b, 6, none⟩ u6).setCell ⟨b, 7, none⟩ u7).setCell ⟨b, 8, none⟩ u8).heap[b']? = w.heap[b']? := by
  rw [heap_setCell_other _ _ _ _ h, heap_setCell_other _ _ _ _ h, heap_setCell_other _ _ _ _ h, heap_setCell_other _ _ _ _ h, heap_setCell_other _ _ _ _ h, heap_setCell_other _ _ _ _ h, heap_setCell_other _ _ _ _ h, heap_setCell_other _ _ _ _ h, heap_setCell_other _ _ _ _ h]
/-- A token's places, set. -/
theorem tok_two {w : World} {b : Nat} {T : TypeId} {v0 v1 v2 v3 v4 v5 v6 v7 v8 : Value} (x y : Value) (h : w.heap[b]? = some (.cells #[v0, v1, v2, v3, v4, v5, v6, v7, v8] T)) : (((w.setCell ⟨b, 7, none⟩ x).setCell ⟨b, 8, none⟩ y).drew).heap[b]? = some (.cells #[v0, v1, v2, v3, v4, v5, v6, x, y] T) := by
  have h1 : (w.setCell ⟨b, 7, none⟩ x).heap[b]? = some (.cells #[v0, v1, v2, v3, v4, v5, v6, x, v8] T) := heap_setCell_same _ b 7 _ T x h
  exact heap_setCell_same _ b 8 _ T y h1
theorem tok_twoO {w : World} {b b' : Nat} (x y : Value) (h : b' ≠ b) : (((w.setCell ⟨b, 7, none⟩ x).setCell ⟨b, 8, none⟩ y).drew).heap[b']? = w.heap[b']? := by
  show ((w.setCell ⟨b, 7, none⟩ x).setCell ⟨b, 8, none⟩ y).heap[b']? = _
  rw [heap_setCell_other _ _ _ _ h, heap_setCell_other _ _ _ _ h]
theorem docI_ahead (a x : List UInt8) : docI (a ++ x) a.length = docP x := by
  unfold docI
  rw [if_neg (by simp; omega), Int.toNat_natCast, List.drop_left' rfl]
theorem docI_zero (x : List UInt8) : docI x 0 = docP x := by
  unfold docI
  rw [if_neg (by omega)]
  rfl
theorem bogI_ahead (a x : List UInt8) : bogI (a ++ x) a.length = bogP x := by
  unfold bogI
  rw [if_neg (by simp; omega), Int.toNat_natCast, List.drop_left' rfl]
theorem bogI_zero (x : List UInt8) : bogI x 0 = bogP x := by
  unfold bogI
  rw [if_neg (by omega)]
  rfl
theorem cdI_ahead (a x : List UInt8) : cdI (a ++ x) a.length = cdP x := by
  unfold cdI
  rw [if_neg (by simp; omega), Int.toNat_natCast, List.drop_left' rfl]
theorem cdI_zero (x : List UInt8) : cdI x 0 = cdP x := by
  unfold cdI
  rw [if_neg (by omega)]
  rfl
theorem cdI_end (x : List UInt8) : cdI x x.length = none := by
  unfold cdI
  rw [if_neg (by omega), Int.toNat_natCast, List.drop_eq_nil_of_le (Nat.le_refl _)]
  rfl
theorem com_second {a b : UInt8} {x : List UInt8} (h : b ≠ 60) : behI openC (a :: b :: x) 1 = none := by
  have := behI_nat openC (a :: b :: x) 1 (by simp)
  rw [show ((1 : Nat) : Int) = 1 from rfl] at this
  rw [this]
  show (if standsB openC (b :: x) = true then _ else _) = _
  unfold openC
  rw [stands_sign (by simp)]
  have : (b == 60) = false := beq_eq_false_iff_ne.2 h
  rw [this]
  rfl
theorem b_com (a s : List UInt8) : ∃ t n, comI (60 :: 33 :: 45 :: 45 :: s) 0 = some (t, n) ∧ comI (a ++ 60 :: 33 :: 45 :: 45 :: s) a.length = some (t, n) ∧ 4 ≤ n ∧ n ≤ s.length + 4 := by
  have h := cmM_le s 0
  refine ⟨cleanL (cmM 0 s).1, 4 + (cmM 0 s).2, ?_, ?_, by omega, by omega⟩
  · unfold comI
    rw [behI_zero, openC_on]
    rfl
  · unfold comI
    rw [behI_ahead, openC_on]
    rfl
theorem b_doc (a s : List UInt8) : ∃ t q n, docI (60 :: 33 :: 100 :: 111 :: 99 :: 116 :: 121 :: 112 :: 101 :: s) 0 = some (t, q, n) ∧ docI (a ++ 60 :: 33 :: 100 :: 111 :: 99 :: 116 :: 121 :: 112 :: 101 :: s) a.length = some (t, q, n) ∧ 9 ≤ n ∧ n ≤ s.length + 9 := by
  rw [docI_zero, docI_ahead]
  have h := upB_le [62] s
  have hst : standsB docF (60 :: 33 :: 100 :: 111 :: 99 :: 116 :: 121 :: 112 :: 101 :: s) = true := stands_same (f := docF) (m := [60, 33, 100, 111, 99, 116, 121, 112, 101]) (x := s) rfl
  unfold docP
  rw [if_pos hst]
  refine ⟨_, _, _, rfl, rfl, by omega, ?_⟩
  show 9 + (upB [62] s).2.1 ≤ _
  omega
theorem b_bog1 (a s : List UInt8) : ∃ t n, bogI (60 :: 33 :: s) 0 = some (t, n) ∧ bogI (a ++ 60 :: 33 :: s) a.length = some (t, n) ∧ 2 ≤ n ∧ n ≤ s.length + 2 := by
  rw [bogI_zero, bogI_ahead]
  have h := upB_le [62] s
  have hst : standsB [60, 33] (60 :: 33 :: s) = true := stands_same (f := [60, 33]) (m := [60, 33]) (x := s) rfl
  unfold bogP
  rw [hst, Bool.true_or, if_pos rfl]
  refine ⟨_, _, rfl, rfl, by omega, ?_⟩
  show 2 + (upB [62] s).2.1 ≤ _
  omega
theorem b_bog2 (a s : List UInt8) : ∃ t n, bogI (60 :: 47 :: s) 0 = some (t, n) ∧ bogI (a ++ 60 :: 47 :: s) a.length = some (t, n) ∧ 2 ≤ n ∧ n ≤ s.length + 2 := by
  rw [bogI_zero, bogI_ahead]
  have h := upB_le [62] s
  have hst : standsB [60, 47] (60 :: 47 :: s) = true := stands_same (f := [60, 47]) (m := [60, 47]) (x := s) rfl
  unfold bogP
  rw [hst, Bool.or_true, if_pos rfl]
  refine ⟨_, _, rfl, rfl, by omega, ?_⟩
  show 2 + (upB [62] s).2.1 ≤ _
  omega
theorem b_bog3 (a s : List UInt8) : ∃ t n, bogI (60 :: 63 :: s) 0 = some (t, n) ∧ bogI (a ++ 60 :: 63 :: s) a.length = some (t, n) ∧ 2 ≤ n ∧ n ≤ s.length + 2 := by
  rw [bogI_zero, bogI_ahead]
  have h := upB_le [62] (63 :: s)
  have hst : standsB [60, 63] (60 :: 63 :: s) = true := stands_same (f := [60, 63]) (m := [60, 63]) (x := s) rfl
  have h1 : standsB [60, 33] (60 :: 63 :: s) = false := by rw [stands_sign (by simp), stands_sign (by simp)]; rfl
  have h2 : standsB [60, 47] (60 :: 63 :: s) = false := by rw [stands_sign (by simp), stands_sign (by simp)]; rfl
  unfold bogP
  rw [hst, h1, h2, Bool.or_false, if_neg (by simp), if_pos rfl]
  refine ⟨_, _, rfl, rfl, ?_, ?_⟩
  · show 2 ≤ 1 + (upB [62] (63 :: s)).2.1
    unfold upB
    rw [idxP_cons (t := [62]) (c := 63) (r := s) rfl]
    cases idxP [62] s with
    | none => simp; omega
    | some j => simp; omega
  · show 1 + (upB [62] (63 :: s)).2.1 ≤ _
    simp only [List.length_cons] at h
    omega
theorem b_cd (a s : List UInt8) : ∃ t n, cdI (60 :: 33 :: 91 :: 67 :: 68 :: 65 :: 84 :: 65 :: 91 :: s) 0 = some (t, n) ∧ cdI (a ++ 60 :: 33 :: 91 :: 67 :: 68 :: 65 :: 84 :: 65 :: 91 :: s) a.length = some (t, n) ∧ 9 ≤ n ∧ n ≤ s.length + 9 := by
  rw [cdI_zero, cdI_ahead]
  have h := upB_le [93, 93, 62] s
  have hst : cdF.isPrefixOf (60 :: 33 :: 91 :: 67 :: 68 :: 65 :: 84 :: 65 :: 91 :: s) = true := rfl
  unfold cdP
  rw [if_pos hst]
  refine ⟨_, _, rfl, rfl, by omega, ?_⟩
  show 9 + (upB [93, 93, 62] s).2.1 ≤ _
  omega
set_option maxRecDepth 100000 in
set_option maxHeartbeats 16000000 in
theorem rb_0 (s a : List UInt8) (v : Int) (w : World) (h : StR w w) (hs : s.length ≤ 1000) (ha : a.length ≤ 1000) (hv0 : 0 ≤ v) (hv1 : v ≤ 255) (hq : v % 6 = 0) :
    Calls Tryd.prog 6 #[.string ⟨⟨s⟩⟩, .string ⟨⟨a⟩⟩, .int .u8 v] w fun e w' => e = .returned (.bool true) ∧ Below w.heap.size w w' := by
  have l1 : (s.length : Int) ≤ 1000 := by omega
  have l2 : (a.length : Int) ≤ 1000 := by omega
  obtain ⟨t, n, k1, k2, hn1, hn2⟩ := b_com a s
  have r1 := fun w => com_is (z := (n : Int)) k1 (by omega) (by simp; omega) (by omega) (by omega) w
  have r2 := fun w => com_is (z := (a.length : Int) + n) k2 (by omega) (by simp; omega) (by omega) (by omega) w
  have r3 := fun w => com_not (s := 60 :: 33 :: 45 :: 45 :: s) (i := 1) (com_second (by decide)) (by simp; omega) (by omega) (by omega) w
  have r4 := fun w => cd_not (cdI_end (60 :: 33 :: 45 :: 45 :: s)) (by simp; omega) (by omega) (by simp; omega) w
  have e1 : (n : Int) ≤ (s.length : Int) + 4 := by omega
  have e2 : (4 : Int) ≤ (n : Int) := by omega
  have e3 : (n : Int) ≤ ((60 :: 33 :: 45 :: 45 :: s).length : Int) := by simp; omega
  have e4 : n ≤ s.length + 4 := by omega
  clear k1 k2
  go_enter Tryd.func6, Tryd.ntmps6
  go_wp2_with (first
    | (go_at_call 10; (with_reducible refine (r1 w _ ?hst).mono ?_); (case hst => exact h.next (by go_grown)); rintro e w1 ⟨rfl, x1, _⟩; obtain ⟨hT1, hU1, y1, z1⟩ := three_blocks x1; obtain ⟨⟨c0, c1, c2, c3, c4, c5, c6, c7, c8⟩, f0, f1, f2, f3, f4, f5, f6, f7, f8⟩ := tok_cells hT1)
    | (go_at_call 10; (with_reducible refine (r2 w _ ?hst).mono ?_); (case hst => exact h.next (by go_grown)); rintro e w2 ⟨rfl, x2, _⟩; have y2 : Ext w w2 := Ext.trans (by go_grown) x2; have hT2 := block_on x2 (tok_set _ _ _ _ _ _ _ _ _ hT1); have hU2 := block_on x2 ((tok_other _ _ _ _ _ _ _ _ _ (by omega)).trans hU1); obtain ⟨⟨d0, d1, d2, d3, d4, d5, d6, d7, d8⟩, g0, g1, g2, g3, g4, g5, g6, g7, g8⟩ := tok_cells hT2; obtain ⟨⟨p0, p1, p2, p3, p4, p5, p6, p7, p8⟩, o0, o1, o2, o3, o4, o5, o6, o7, o8⟩ := tok_cells hU2))
  go_region
  clear c0 c1 c2 c3 c4 c5 c6 c7 c8 f0 f1 f2 f3 f4 f5 f6 f7 f8 r1 r2
  go_wp2_with (go_at_call 10; (with_reducible refine (r3 w _ ?hst).mono ?_); (case hst => exact h.next (by go_grown)); rintro e w3 ⟨rfl, x3, _⟩; have y3 : Ext w w3 := Ext.trans (by go_grown) x3; have hU3 := block_on x3 (tok_two _ _ (tok_set _ _ _ _ _ _ _ _ _ hU2)); have hT3 := block_on x3 ((tok_twoO _ _ (by omega)).trans ((tok_other _ _ _ _ _ _ _ _ _ (by omega)).trans hT2)); have z3 : w.heap.size + 1 + 1 < w3.heap.size := (Array.getElem?_eq_some_iff.1 hU3).1)
  clear d0 d1 d2 d3 d4 d5 d6 d7 d8 g0 g1 g2 g3 g4 g5 g6 g7 g8 p0 p1 p2 p3 p4 p5 p6 p7 p8 o0 o1 o2 o3 o4 o5 o6 o7 o8
  go_wp2_with (first
    | (go_at_call 16; refine (r4 w _ ?hst).mono ?_; (case hst => exact h.next (by go_grown)); rintro e w4 ⟨rfl, x4, _⟩; have y4 : Ext w w4 := Ext.trans (by go_grown) x4; have hT4 := block_on x4 (block_on ((Below.refl _ _).alloc (Nat.le_refl _) _) hT3); have hU4 := block_on x4 (block_on ((Below.refl _ _).alloc (Nat.le_refl _) _) hU3); obtain ⟨⟨c0, c1, c2, c3, c4, c5, c6, c7, c8⟩, f0, f1, f2, f3, f4, f5, f6, f7, f8⟩ := tok_cells hT4; obtain ⟨⟨d0, d1, d2, d3, d4, d5, d6, d7, d8⟩, g0, g1, g2, g3, g4, g5, g6, g7, g8⟩ := tok_cells hU4)
    | (go_at_call 18; refine (same_tok 4 0 n [] t false w _ ?hst).mono ?_; (case hst => exact h.next (by go_grown)); rintro e w5 ⟨rfl, x5, _⟩; have y5 : Ext w w5 := Ext.trans (by go_grown) x5)
    | (go_at_call 9; refine (raw_st w _ ?hst).mono ?_; (case hst => exact h.next (by go_grown)); rintro e wz ⟨rfl, hz⟩))
  go_ret
  exact ⟨rfl, hz.1⟩
set_option maxRecDepth 100000 in
set_option maxHeartbeats 16000000 in
theorem rb_1 (s a : List UInt8) (v : Int) (w : World) (h : StR w w) (hs : s.length ≤ 1000) (ha : a.length ≤ 1000) (hv0 : 0 ≤ v) (hv1 : v ≤ 255) (hq : v % 6 = 1) :
    Calls Tryd.prog 6 #[.string ⟨⟨s⟩⟩, .string ⟨⟨a⟩⟩, .int .u8 v] w fun e w' => e = .returned (.bool true) ∧ Below w.heap.size w w' := by
  have l1 : (s.length : Int) ≤ 1000 := by omega
  have l2 : (a.length : Int) ≤ 1000 := by omega
  obtain ⟨t, q, n, k1, k2, hn1, hn2⟩ := b_doc a s
  have r1 := fun w => doc_is (z := (n : Int)) k1 (by omega) (by simp; omega) (by omega) (by omega) w
  have r2 := fun w => doc_is (z := (a.length : Int) + n) k2 (by omega) (by simp; omega) (by omega) (by omega) w
  have r3 := fun w => com_not (s := 60 :: 33 :: 100 :: 111 :: 99 :: 116 :: 121 :: 112 :: 101 :: s) (i := 1) (com_second (by decide)) (by simp; omega) (by omega) (by omega) w
  have r4 := fun w => cd_not (cdI_end (60 :: 33 :: 100 :: 111 :: 99 :: 116 :: 121 :: 112 :: 101 :: s)) (by simp; omega) (by omega) (by simp; omega) w
  have e1 : (n : Int) ≤ (s.length : Int) + 9 := by omega
  have e2 : (9 : Int) ≤ (n : Int) := by omega
  have e3 : (n : Int) ≤ ((60 :: 33 :: 100 :: 111 :: 99 :: 116 :: 121 :: 112 :: 101 :: s).length : Int) := by simp; omega
  have e4 : n ≤ s.length + 9 := by omega
  clear k1 k2
  go_enter Tryd.func6, Tryd.ntmps6
  go_wp2_with (first
    | (go_at_call 14; (with_reducible refine (r1 w _ ?hst).mono ?_); (case hst => exact h.next (by go_grown)); rintro e w1 ⟨rfl, x1, _⟩; obtain ⟨hT1, hU1, y1, z1⟩ := three_blocks x1; obtain ⟨⟨c0, c1, c2, c3, c4, c5, c6, c7, c8⟩, f0, f1, f2, f3, f4, f5, f6, f7, f8⟩ := tok_cells hT1)
    | (go_at_call 14; (with_reducible refine (r2 w _ ?hst).mono ?_); (case hst => exact h.next (by go_grown)); rintro e w2 ⟨rfl, x2, _⟩; have y2 : Ext w w2 := Ext.trans (by go_grown) x2; have hT2 := block_on x2 (tok_set _ _ _ _ _ _ _ _ _ hT1); have hU2 := block_on x2 ((tok_other _ _ _ _ _ _ _ _ _ (by omega)).trans hU1); obtain ⟨⟨d0, d1, d2, d3, d4, d5, d6, d7, d8⟩, g0, g1, g2, g3, g4, g5, g6, g7, g8⟩ := tok_cells hT2; obtain ⟨⟨p0, p1, p2, p3, p4, p5, p6, p7, p8⟩, o0, o1, o2, o3, o4, o5, o6, o7, o8⟩ := tok_cells hU2))
  go_region
  clear c0 c1 c2 c3 c4 c5 c6 c7 c8 f0 f1 f2 f3 f4 f5 f6 f7 f8 r1 r2
  go_wp2_with (go_at_call 10; (with_reducible refine (r3 w _ ?hst).mono ?_); (case hst => exact h.next (by go_grown)); rintro e w3 ⟨rfl, x3, _⟩; have y3 : Ext w w3 := Ext.trans (by go_grown) x3; have hU3 := block_on x3 (tok_two _ _ (tok_set _ _ _ _ _ _ _ _ _ hU2)); have hT3 := block_on x3 ((tok_twoO _ _ (by omega)).trans ((tok_other _ _ _ _ _ _ _ _ _ (by omega)).trans hT2)); have z3 : w.heap.size + 1 + 1 < w3.heap.size := (Array.getElem?_eq_some_iff.1 hU3).1)
  clear d0 d1 d2 d3 d4 d5 d6 d7 d8 g0 g1 g2 g3 g4 g5 g6 g7 g8 p0 p1 p2 p3 p4 p5 p6 p7 p8 o0 o1 o2 o3 o4 o5 o6 o7 o8
  go_wp2_with (first
    | (go_at_call 16; refine (r4 w _ ?hst).mono ?_; (case hst => exact h.next (by go_grown)); rintro e w4 ⟨rfl, x4, _⟩; have y4 : Ext w w4 := Ext.trans (by go_grown) x4; have hT4 := block_on x4 (block_on ((Below.refl _ _).alloc (Nat.le_refl _) _) hT3); have hU4 := block_on x4 (block_on ((Below.refl _ _).alloc (Nat.le_refl _) _) hU3); obtain ⟨⟨c0, c1, c2, c3, c4, c5, c6, c7, c8⟩, f0, f1, f2, f3, f4, f5, f6, f7, f8⟩ := tok_cells hT4; obtain ⟨⟨d0, d1, d2, d3, d4, d5, d6, d7, d8⟩, g0, g1, g2, g3, g4, g5, g6, g7, g8⟩ := tok_cells hU4)
    | (go_at_call 18; refine (same_tok 1 0 n t [] q w _ ?hst).mono ?_; (case hst => exact h.next (by go_grown)); rintro e w5 ⟨rfl, x5, _⟩; have y5 : Ext w w5 := Ext.trans (by go_grown) x5)
    | (go_at_call 9; refine (raw_st w _ ?hst).mono ?_; (case hst => exact h.next (by go_grown)); rintro e wz ⟨rfl, hz⟩))
  go_ret
  exact ⟨rfl, hz.1⟩
set_option maxRecDepth 100000 in
set_option maxHeartbeats 16000000 in
theorem rb_2 (s a : List UInt8) (v : Int) (w : World) (h : StR w w) (hs : s.length ≤ 1000) (ha : a.length ≤ 1000) (hv0 : 0 ≤ v) (hv1 : v ≤ 255) (hq : v % 6 = 2) :
    Calls Tryd.prog 6 #[.string ⟨⟨s⟩⟩, .string ⟨⟨a⟩⟩, .int .u8 v] w fun e w' => e = .returned (.bool true) ∧ Below w.heap.size w w' := by
  have l1 : (s.length : Int) ≤ 1000 := by omega
  have l2 : (a.length : Int) ≤ 1000 := by omega
  obtain ⟨t, n, k1, k2, hn1, hn2⟩ := b_bog1 a s
  have r1 := fun w => bog_is (z := (n : Int)) k1 (by omega) (by simp; omega) (by omega) (by omega) w
  have r2 := fun w => bog_is (z := (a.length : Int) + n) k2 (by omega) (by simp; omega) (by omega) (by omega) w
  have r3 := fun w => com_not (s := 60 :: 33 :: s) (i := 1) (com_second (by decide)) (by simp; omega) (by omega) (by omega) w
  have r4 := fun w => cd_not (cdI_end (60 :: 33 :: s)) (by simp; omega) (by omega) (by simp; omega) w
  have e1 : (n : Int) ≤ (s.length : Int) + 2 := by omega
  have e2 : (2 : Int) ≤ (n : Int) := by omega
  have e3 : (n : Int) ≤ ((60 :: 33 :: s).length : Int) := by simp; omega
  have e4 : n ≤ s.length + 2 := by omega
  clear k1 k2
  go_enter Tryd.func6, Tryd.ntmps6
  go_wp2_with (first
    | (go_at_call 12; (with_reducible refine (r1 w _ ?hst).mono ?_); (case hst => exact h.next (by go_grown)); rintro e w1 ⟨rfl, x1, _⟩; obtain ⟨hT1, hU1, y1, z1⟩ := three_blocks x1; obtain ⟨⟨c0, c1, c2, c3, c4, c5, c6, c7, c8⟩, f0, f1, f2, f3, f4, f5, f6, f7, f8⟩ := tok_cells hT1)
    | (go_at_call 12; (with_reducible refine (r2 w _ ?hst).mono ?_); (case hst => exact h.next (by go_grown)); rintro e w2 ⟨rfl, x2, _⟩; have y2 : Ext w w2 := Ext.trans (by go_grown) x2; have hT2 := block_on x2 (tok_set _ _ _ _ _ _ _ _ _ hT1); have hU2 := block_on x2 ((tok_other _ _ _ _ _ _ _ _ _ (by omega)).trans hU1); obtain ⟨⟨d0, d1, d2, d3, d4, d5, d6, d7, d8⟩, g0, g1, g2, g3, g4, g5, g6, g7, g8⟩ := tok_cells hT2; obtain ⟨⟨p0, p1, p2, p3, p4, p5, p6, p7, p8⟩, o0, o1, o2, o3, o4, o5, o6, o7, o8⟩ := tok_cells hU2))
  go_region
  clear c0 c1 c2 c3 c4 c5 c6 c7 c8 f0 f1 f2 f3 f4 f5 f6 f7 f8 r1 r2
  go_wp2_with (go_at_call 10; (with_reducible refine (r3 w _ ?hst).mono ?_); (case hst => exact h.next (by go_grown)); rintro e w3 ⟨rfl, x3, _⟩; have y3 : Ext w w3 := Ext.trans (by go_grown) x3; have hU3 := block_on x3 (tok_two _ _ (tok_set _ _ _ _ _ _ _ _ _ hU2)); have hT3 := block_on x3 ((tok_twoO _ _ (by omega)).trans ((tok_other _ _ _ _ _ _ _ _ _ (by omega)).trans hT2)); have z3 : w.heap.size + 1 + 1 < w3.heap.size := (Array.getElem?_eq_some_iff.1 hU3).1)
  clear d0 d1 d2 d3 d4 d5 d6 d7 d8 g0 g1 g2 g3 g4 g5 g6 g7 g8 p0 p1 p2 p3 p4 p5 p6 p7 p8 o0 o1 o2 o3 o4 o5 o6 o7 o8
  go_wp2_with (first
    | (go_at_call 16; refine (r4 w _ ?hst).mono ?_; (case hst => exact h.next (by go_grown)); rintro e w4 ⟨rfl, x4, _⟩; have y4 : Ext w w4 := Ext.trans (by go_grown) x4; have hT4 := block_on x4 (block_on ((Below.refl _ _).alloc (Nat.le_refl _) _) hT3); have hU4 := block_on x4 (block_on ((Below.refl _ _).alloc (Nat.le_refl _) _) hU3); obtain ⟨⟨c0, c1, c2, c3, c4, c5, c6, c7, c8⟩, f0, f1, f2, f3, f4, f5, f6, f7, f8⟩ := tok_cells hT4; obtain ⟨⟨d0, d1, d2, d3, d4, d5, d6, d7, d8⟩, g0, g1, g2, g3, g4, g5, g6, g7, g8⟩ := tok_cells hU4)
    | (go_at_call 18; refine (same_tok 4 0 n [] (cleanL t) false w _ ?hst).mono ?_; (case hst => exact h.next (by go_grown)); rintro e w5 ⟨rfl, x5, _⟩; have y5 : Ext w w5 := Ext.trans (by go_grown) x5)
    | (go_at_call 9; refine (raw_st w _ ?hst).mono ?_; (case hst => exact h.next (by go_grown)); rintro e wz ⟨rfl, hz⟩))
  go_ret
  exact ⟨rfl, hz.1⟩
set_option maxRecDepth 100000 in
set_option maxHeartbeats 16000000 in
theorem rb_3 (s a : List UInt8) (v : Int) (w : World) (h : StR w w) (hs : s.length ≤ 1000) (ha : a.length ≤ 1000) (hv0 : 0 ≤ v) (hv1 : v ≤ 255) (hq : v % 6 = 3) :
    Calls Tryd.prog 6 #[.string ⟨⟨s⟩⟩, .string ⟨⟨a⟩⟩, .int .u8 v] w fun e w' => e = .returned (.bool true) ∧ Below w.heap.size w w' := by
  have l1 : (s.length : Int) ≤ 1000 := by omega
  have l2 : (a.length : Int) ≤ 1000 := by omega
  obtain ⟨t, n, k1, k2, hn1, hn2⟩ := b_bog2 a s
  have r1 := fun w => bog_is (z := (n : Int)) k1 (by omega) (by simp; omega) (by omega) (by omega) w
  have r2 := fun w => bog_is (z := (a.length : Int) + n) k2 (by omega) (by simp; omega) (by omega) (by omega) w
  have r3 := fun w => com_not (s := 60 :: 47 :: s) (i := 1) (com_second (by decide)) (by simp; omega) (by omega) (by omega) w
  have r4 := fun w => cd_not (cdI_end (60 :: 47 :: s)) (by simp; omega) (by omega) (by simp; omega) w
  have e1 : (n : Int) ≤ (s.length : Int) + 2 := by omega
  have e2 : (2 : Int) ≤ (n : Int) := by omega
  have e3 : (n : Int) ≤ ((60 :: 47 :: s).length : Int) := by simp; omega
  have e4 : n ≤ s.length + 2 := by omega
  clear k1 k2
  go_enter Tryd.func6, Tryd.ntmps6
  go_wp2_with (first
    | (go_at_call 12; (with_reducible refine (r1 w _ ?hst).mono ?_); (case hst => exact h.next (by go_grown)); rintro e w1 ⟨rfl, x1, _⟩; obtain ⟨hT1, hU1, y1, z1⟩ := three_blocks x1; obtain ⟨⟨c0, c1, c2, c3, c4, c5, c6, c7, c8⟩, f0, f1, f2, f3, f4, f5, f6, f7, f8⟩ := tok_cells hT1)
    | (go_at_call 12; (with_reducible refine (r2 w _ ?hst).mono ?_); (case hst => exact h.next (by go_grown)); rintro e w2 ⟨rfl, x2, _⟩; have y2 : Ext w w2 := Ext.trans (by go_grown) x2; have hT2 := block_on x2 (tok_set _ _ _ _ _ _ _ _ _ hT1); have hU2 := block_on x2 ((tok_other _ _ _ _ _ _ _ _ _ (by omega)).trans hU1); obtain ⟨⟨d0, d1, d2, d3, d4, d5, d6, d7, d8⟩, g0, g1, g2, g3, g4, g5, g6, g7, g8⟩ := tok_cells hT2; obtain ⟨⟨p0, p1, p2, p3, p4, p5, p6, p7, p8⟩, o0, o1, o2, o3, o4, o5, o6, o7, o8⟩ := tok_cells hU2))
  go_region
  clear c0 c1 c2 c3 c4 c5 c6 c7 c8 f0 f1 f2 f3 f4 f5 f6 f7 f8 r1 r2
  go_wp2_with (go_at_call 10; (with_reducible refine (r3 w _ ?hst).mono ?_); (case hst => exact h.next (by go_grown)); rintro e w3 ⟨rfl, x3, _⟩; have y3 : Ext w w3 := Ext.trans (by go_grown) x3; have hU3 := block_on x3 (tok_two _ _ (tok_set _ _ _ _ _ _ _ _ _ hU2)); have hT3 := block_on x3 ((tok_twoO _ _ (by omega)).trans ((tok_other _ _ _ _ _ _ _ _ _ (by omega)).trans hT2)); have z3 : w.heap.size + 1 + 1 < w3.heap.size := (Array.getElem?_eq_some_iff.1 hU3).1)
  clear d0 d1 d2 d3 d4 d5 d6 d7 d8 g0 g1 g2 g3 g4 g5 g6 g7 g8 p0 p1 p2 p3 p4 p5 p6 p7 p8 o0 o1 o2 o3 o4 o5 o6 o7 o8
  go_wp2_with (first
    | (go_at_call 16; refine (r4 w _ ?hst).mono ?_; (case hst => exact h.next (by go_grown)); rintro e w4 ⟨rfl, x4, _⟩; have y4 : Ext w w4 := Ext.trans (by go_grown) x4; have hT4 := block_on x4 (block_on ((Below.refl _ _).alloc (Nat.le_refl _) _) hT3); have hU4 := block_on x4 (block_on ((Below.refl _ _).alloc (Nat.le_refl _) _) hU3); obtain ⟨⟨c0, c1, c2, c3, c4, c5, c6, c7, c8⟩, f0, f1, f2, f3, f4, f5, f6, f7, f8⟩ := tok_cells hT4; obtain ⟨⟨d0, d1, d2, d3, d4, d5, d6, d7, d8⟩, g0, g1, g2, g3, g4, g5, g6, g7, g8⟩ := tok_cells hU4)
    | (go_at_call 18; refine (same_tok 4 0 n [] (cleanL t) false w _ ?hst).mono ?_; (case hst => exact h.next (by go_grown)); rintro e w5 ⟨rfl, x5, _⟩; have y5 : Ext w w5 := Ext.trans (by go_grown) x5)
    | (go_at_call 9; refine (raw_st w _ ?hst).mono ?_; (case hst => exact h.next (by go_grown)); rintro e wz ⟨rfl, hz⟩))
  go_ret
  exact ⟨rfl, hz.1⟩
set_option maxRecDepth 100000 in
set_option maxHeartbeats 16000000 in
theorem rb_4 (s a : List UInt8) (v : Int) (w : World) (h : StR w w) (hs : s.length ≤ 1000) (ha : a.length ≤ 1000) (hv0 : 0 ≤ v) (hv1 : v ≤ 255) (hq : v % 6 = 4) :
    Calls Tryd.prog 6 #[.string ⟨⟨s⟩⟩, .string ⟨⟨a⟩⟩, .int .u8 v] w fun e w' => e = .returned (.bool true) ∧ Below w.heap.size w w' := by
  have l1 : (s.length : Int) ≤ 1000 := by omega
  have l2 : (a.length : Int) ≤ 1000 := by omega
  obtain ⟨t, n, k1, k2, hn1, hn2⟩ := b_bog3 a s
  have r1 := fun w => bog_is (z := (n : Int)) k1 (by omega) (by simp; omega) (by omega) (by omega) w
  have r2 := fun w => bog_is (z := (a.length : Int) + n) k2 (by omega) (by simp; omega) (by omega) (by omega) w
  have r3 := fun w => com_not (s := 60 :: 63 :: s) (i := 1) (com_second (by decide)) (by simp; omega) (by omega) (by omega) w
  have r4 := fun w => cd_not (cdI_end (60 :: 63 :: s)) (by simp; omega) (by omega) (by simp; omega) w
  have e1 : (n : Int) ≤ (s.length : Int) + 2 := by omega
  have e2 : (2 : Int) ≤ (n : Int) := by omega
  have e3 : (n : Int) ≤ ((60 :: 63 :: s).length : Int) := by simp; omega
  have e4 : n ≤ s.length + 2 := by omega
  clear k1 k2
  go_enter Tryd.func6, Tryd.ntmps6
  go_wp2_with (first
    | (go_at_call 12; (with_reducible refine (r1 w _ ?hst).mono ?_); (case hst => exact h.next (by go_grown)); rintro e w1 ⟨rfl, x1, _⟩; obtain ⟨hT1, hU1, y1, z1⟩ := three_blocks x1; obtain ⟨⟨c0, c1, c2, c3, c4, c5, c6, c7, c8⟩, f0, f1, f2, f3, f4, f5, f6, f7, f8⟩ := tok_cells hT1)
    | (go_at_call 12; (with_reducible refine (r2 w _ ?hst).mono ?_); (case hst => exact h.next (by go_grown)); rintro e w2 ⟨rfl, x2, _⟩; have y2 : Ext w w2 := Ext.trans (by go_grown) x2; have hT2 := block_on x2 (tok_set _ _ _ _ _ _ _ _ _ hT1); have hU2 := block_on x2 ((tok_other _ _ _ _ _ _ _ _ _ (by omega)).trans hU1); obtain ⟨⟨d0, d1, d2, d3, d4, d5, d6, d7, d8⟩, g0, g1, g2, g3, g4, g5, g6, g7, g8⟩ := tok_cells hT2; obtain ⟨⟨p0, p1, p2, p3, p4, p5, p6, p7, p8⟩, o0, o1, o2, o3, o4, o5, o6, o7, o8⟩ := tok_cells hU2))
  go_region
  clear c0 c1 c2 c3 c4 c5 c6 c7 c8 f0 f1 f2 f3 f4 f5 f6 f7 f8 r1 r2
  go_wp2_with (go_at_call 10; (with_reducible refine (r3 w _ ?hst).mono ?_); (case hst => exact h.next (by go_grown)); rintro e w3 ⟨rfl, x3, _⟩; have y3 : Ext w w3 := Ext.trans (by go_grown) x3; have hU3 := block_on x3 (tok_two _ _ (tok_set _ _ _ _ _ _ _ _ _ hU2)); have hT3 := block_on x3 ((tok_twoO _ _ (by omega)).trans ((tok_other _ _ _ _ _ _ _ _ _ (by omega)).trans hT2)); have z3 : w.heap.size + 1 + 1 < w3.heap.size := (Array.getElem?_eq_some_iff.1 hU3).1)
  clear d0 d1 d2 d3 d4 d5 d6 d7 d8 g0 g1 g2 g3 g4 g5 g6 g7 g8 p0 p1 p2 p3 p4 p5 p6 p7 p8 o0 o1 o2 o3 o4 o5 o6 o7 o8
  go_wp2_with (first
    | (go_at_call 16; refine (r4 w _ ?hst).mono ?_; (case hst => exact h.next (by go_grown)); rintro e w4 ⟨rfl, x4, _⟩; have y4 : Ext w w4 := Ext.trans (by go_grown) x4; have hT4 := block_on x4 (block_on ((Below.refl _ _).alloc (Nat.le_refl _) _) hT3); have hU4 := block_on x4 (block_on ((Below.refl _ _).alloc (Nat.le_refl _) _) hU3); obtain ⟨⟨c0, c1, c2, c3, c4, c5, c6, c7, c8⟩, f0, f1, f2, f3, f4, f5, f6, f7, f8⟩ := tok_cells hT4; obtain ⟨⟨d0, d1, d2, d3, d4, d5, d6, d7, d8⟩, g0, g1, g2, g3, g4, g5, g6, g7, g8⟩ := tok_cells hU4)
    | (go_at_call 18; refine (same_tok 4 0 n [] (cleanL t) false w _ ?hst).mono ?_; (case hst => exact h.next (by go_grown)); rintro e w5 ⟨rfl, x5, _⟩; have y5 : Ext w w5 := Ext.trans (by go_grown) x5)
    | (go_at_call 9; refine (raw_st w _ ?hst).mono ?_; (case hst => exact h.next (by go_grown)); rintro e wz ⟨rfl, hz⟩))
  go_ret
  exact ⟨rfl, hz.1⟩
set_option maxRecDepth 100000 in
set_option maxHeartbeats 16000000 in
theorem rb_5 (s a : List UInt8) (v : Int) (w : World) (h : StR w w) (hs : s.length ≤ 1000) (ha : a.length ≤ 1000) (hv0 : 0 ≤ v) (hv1 : v ≤ 255) (hq : v % 6 = 5) :
    Calls Tryd.prog 6 #[.string ⟨⟨s⟩⟩, .string ⟨⟨a⟩⟩, .int .u8 v] w fun e w' => e = .returned (.bool true) ∧ Below w.heap.size w w' := by
  have l1 : (s.length : Int) ≤ 1000 := by omega
  have l2 : (a.length : Int) ≤ 1000 := by omega
  obtain ⟨t, n, k1, k2, hn1, hn2⟩ := b_cd a s
  have r1 := fun w => cd_is (z := (n : Int)) k1 (by omega) (by simp; omega) (by omega) (by omega) w
  have r2 := fun w => cd_is (z := (a.length : Int) + n) k2 (by omega) (by simp; omega) (by omega) (by omega) w
  have r3 := fun w => com_not (s := 60 :: 33 :: 91 :: 67 :: 68 :: 65 :: 84 :: 65 :: 91 :: s) (i := 1) (com_second (by decide)) (by simp; omega) (by omega) (by omega) w
  have r4 := fun w => cd_not (cdI_end (60 :: 33 :: 91 :: 67 :: 68 :: 65 :: 84 :: 65 :: 91 :: s)) (by simp; omega) (by omega) (by simp; omega) w
  have e1 : (n : Int) ≤ (s.length : Int) + 9 := by omega
  have e2 : (9 : Int) ≤ (n : Int) := by omega
  have e3 : (n : Int) ≤ ((60 :: 33 :: 91 :: 67 :: 68 :: 65 :: 84 :: 65 :: 91 :: s).length : Int) := by simp; omega
  have e4 : n ≤ s.length + 9 := by omega
  clear k1 k2
  go_enter Tryd.func6, Tryd.ntmps6
  go_wp2_with (first
    | (go_at_call 16; (with_reducible refine (r1 w _ ?hst).mono ?_); (case hst => exact h.next (by go_grown)); rintro e w1 ⟨rfl, x1, _⟩; obtain ⟨hT1, hU1, y1, z1⟩ := three_blocks x1; obtain ⟨⟨c0, c1, c2, c3, c4, c5, c6, c7, c8⟩, f0, f1, f2, f3, f4, f5, f6, f7, f8⟩ := tok_cells hT1)
    | (go_at_call 16; (with_reducible refine (r2 w _ ?hst).mono ?_); (case hst => exact h.next (by go_grown)); rintro e w2 ⟨rfl, x2, _⟩; have y2 : Ext w w2 := Ext.trans (by go_grown) x2; have hT2 := block_on x2 hT1; have hU2 := block_on x2 hU1; obtain ⟨⟨d0, d1, d2, d3, d4, d5, d6, d7, d8⟩, g0, g1, g2, g3, g4, g5, g6, g7, g8⟩ := tok_cells hT2; obtain ⟨⟨p0, p1, p2, p3, p4, p5, p6, p7, p8⟩, o0, o1, o2, o3, o4, o5, o6, o7, o8⟩ := tok_cells hU2))
  go_region
  clear c0 c1 c2 c3 c4 c5 c6 c7 c8 f0 f1 f2 f3 f4 f5 f6 f7 f8 r1 r2
  go_wp2_with (go_at_call 10; (with_reducible refine (r3 w _ ?hst).mono ?_); (case hst => exact h.next (by go_grown)); rintro e w3 ⟨rfl, x3, _⟩; have y3 : Ext w w3 := Ext.trans (by go_grown) x3; have hU3 := block_on x3 (tok_two _ _ hU2); have hT3 := block_on x3 ((tok_twoO _ _ (by omega)).trans hT2); have z3 : w.heap.size + 1 + 1 < w3.heap.size := (Array.getElem?_eq_some_iff.1 hU3).1)
  clear d0 d1 d2 d3 d4 d5 d6 d7 d8 g0 g1 g2 g3 g4 g5 g6 g7 g8 p0 p1 p2 p3 p4 p5 p6 p7 p8 o0 o1 o2 o3 o4 o5 o6 o7 o8
  go_wp2_with (first
    | (go_at_call 16; refine (r4 w _ ?hst).mono ?_; (case hst => exact h.next (by go_grown)); rintro e w4 ⟨rfl, x4, _⟩; have y4 : Ext w w4 := Ext.trans (by go_grown) x4; have hT4 := block_on x4 (block_on ((Below.refl _ _).alloc (Nat.le_refl _) _) hT3); have hU4 := block_on x4 (block_on ((Below.refl _ _).alloc (Nat.le_refl _) _) hU3); obtain ⟨⟨c0, c1, c2, c3, c4, c5, c6, c7, c8⟩, f0, f1, f2, f3, f4, f5, f6, f7, f8⟩ := tok_cells hT4; obtain ⟨⟨d0, d1, d2, d3, d4, d5, d6, d7, d8⟩, g0, g1, g2, g3, g4, g5, g6, g7, g8⟩ := tok_cells hU4)
    | (go_at_call 18; refine (same_tok 0 0 0 [] [] false w _ ?hst).mono ?_; (case hst => exact h.next (by go_grown)); rintro e w5 ⟨rfl, x5, _⟩; have y5 : Ext w w5 := Ext.trans (by go_grown) x5)
    | (go_at_call 9; refine (raw_st w _ ?hst).mono ?_; (case hst => exact h.next (by go_grown)); rintro e wz ⟨rfl, hz⟩))
  go_ret
  exact ⟨rfl, hz.1⟩
set_option maxRecDepth 100000 in
set_option maxHeartbeats 4000000 in
theorem rbounds_walk (s a : List UInt8) (v : Int) (w : World) (hm : MaxIs w) (hO : OthersIs w) (hs : s.length ≤ maxLen) (ha : a.length ≤ maxLen) (hv0 : 0 ≤ v) (hv1 : v ≤ 255) :
    Calls Tryd.prog 6 #[.string ⟨⟨s⟩⟩, .string ⟨⟨a⟩⟩, .int .u8 v] w fun e w' => e = .returned (.bool true) ∧ Below w.heap.size w w' := by
  have h := StR.start hm hO
  by_cases gs : (1000 : Int) < (s.length : Int)
  · clear hm hO
    unfold maxLen at hs ha
    go_enter Tryd.func6, Tryd.ntmps6
    go_wp2_with (go_at_call 9; refine (raw_st w _ ?hst).mono ?_; (case hst => exact h.next (by go_grown)); rintro e wz ⟨rfl, hz⟩)
    go_ret
    exact ⟨rfl, hz.1⟩
  by_cases ga : (1000 : Int) < (a.length : Int)
  · clear hm hO
    unfold maxLen at hs ha
    go_enter Tryd.func6, Tryd.ntmps6
    go_wp2_with (go_at_call 9; refine (raw_st w _ ?hst).mono ?_; (case hst => exact h.next (by go_grown)); rintro e wz ⟨rfl, hz⟩)
    go_ret
    exact ⟨rfl, hz.1⟩
  have h6 : v % 6 = 0 ∨ v % 6 = 1 ∨ v % 6 = 2 ∨ v % 6 = 3 ∨ v % 6 = 4 ∨ v % 6 = 5 := by omega
  rcases h6 with hq | hq | hq | hq | hq | hq
  · exact rb_0 s a v w h (by omega) (by omega) hv0 hv1 hq
  · exact rb_1 s a v w h (by omega) (by omega) hv0 hv1 hq
  · exact rb_2 s a v w h (by omega) (by omega) hv0 hv1 hq
  · exact rb_3 s a v w h (by omega) (by omega) hv0 hv1 hq
  · exact rb_4 s a v w h (by omega) (by omega) hv0 hv1 hq
  · exact rb_5 s a v w h (by omega) (by omega) hv0 hv1 hq
end Go.Proofs.YtbolajljfkjfaaaDoor

