/-
  What is proved: the walk of RawsComment: it answers true. Conditions: the library's variable holds an integer, the program's table what its text lays.
-/
import Derived.Test.YtbolajljfkjfaaaDoorRawZ
namespace Go.Proofs.YtbolajljfkjfaaaDoor
open Go.RowKit

theorem want_set {w : World} {b : Nat} {T : TypeId} {v0 v1 v2 v3 v4 v5 v6 v7 v8 : Value} (u : Value) (o : Obj) (h : w.heap[b]? = some (.cells #[v0, v1, v2, v3, v4, v5, v6, v7, v8] T)) :
    ((w.setCell ⟨b, 8, none⟩ u).alloc o).heap[b]? = some (.cells #[v0, v1, v2, v3, v4, v5, v6, v7, u] T) := by
  have h1 : (w.setCell ⟨b, 8, none⟩ u).heap[b]? = some (.cells #[v0, v1, v2, v3, v4, v5, v6, v7, u] T) := heap_setCell_same _ b 8 _ T u h
  exact block_on ((Below.refl _ _).alloc (Nat.le_refl _) o) h1
set_option maxRecDepth 100000 in
set_option maxHeartbeats 32000000 in
theorem rcom_walk (s a b : List UInt8) (w : World) (hm : MaxIs w) (hO : OthersIs w) (hs : s.length ≤ maxLen) (ha : a.length ≤ maxLen) (hb : b.length ≤ maxLen) :
    Calls Tryd.prog 5 #[.string ⟨⟨s⟩⟩, .string ⟨⟨a⟩⟩, .string ⟨⟨b⟩⟩] w fun e w' => e = .returned (.bool true) ∧ Below w.heap.size w w' := by
  have h := StR.start hm hO
  clear hm hO
  unfold maxLen at hs ha hb
  by_cases gs : (1000 : Int) < (s.length : Int)
  · go_enter Tryd.func5, Tryd.ntmps5
    go_wp2_with (first | (go_at_call 9; refine (raw_st w _ ?hst).mono ?_; (case hst => exact h.next (by go_grown)); rintro e wz ⟨rfl, hz⟩))
    go_ret
    exact ⟨rfl, hz.1⟩
  by_cases ga : (1000 : Int) < (a.length : Int)
  · go_enter Tryd.func5, Tryd.ntmps5
    go_wp2_with (first | (go_at_call 9; refine (raw_st w _ ?hst).mono ?_; (case hst => exact h.next (by go_grown)); rintro e wz ⟨rfl, hz⟩))
    go_ret
    exact ⟨rfl, hz.1⟩
  by_cases gb : (1000 : Int) < (b.length : Int)
  · go_enter Tryd.func5, Tryd.ntmps5
    go_wp2_with (first | (go_at_call 9; refine (raw_st w _ ?hst).mono ?_; (case hst => exact h.next (by go_grown)); rintro e wz ⟨rfl, hz⟩))
    go_ret
    exact ⟨rfl, hz.1⟩
  have l1 : (s.length : Int) ≤ 1000 := by omega
  have l2 : (a.length : Int) ≤ 1000 := by omega
  have l3 : (b.length : Int) ≤ 1000 := by omega
  have c1 := fun W => has_any s [45, 45, 62] W (by omega) (by decide) (by decide)
  have c2 := fun W => has_any s [45, 45, 33, 62] W (by omega) (by decide) (by decide)
  have c3 := fun W => ends_any s [45] W (by omega) (by decide)
  have c4 := fun W => ends_any s [45, 45, 33] W (by omega) (by decide)
  cases hc1 : idxP [45, 45, 62] s with
  | some _ =>
    rw [hc1] at c1
    go_enter Tryd.func5, Tryd.ntmps5
    go_wp2_with (first | (go_at_call 21; (with_reducible refine (c1 _).mono ?_); rintro e w1 ⟨rfl, rfl⟩) | (go_at_call 9; refine (raw_st w _ ?hst).mono ?_; (case hst => exact h.next (by go_grown)); rintro e wz ⟨rfl, hz⟩))
    go_ret
    exact ⟨rfl, hz.1⟩
  | none =>
  rw [hc1] at c1
  cases hc2 : idxP [45, 45, 33, 62] s with
  | some _ =>
    rw [hc2] at c2
    go_enter Tryd.func5, Tryd.ntmps5
    go_wp2_with (first | (go_at_call 21; (with_reducible refine (c1 _).mono ?_); rintro e w1 ⟨rfl, rfl⟩) | (go_at_call 21; (with_reducible refine (c2 _).mono ?_); rintro e w1 ⟨rfl, rfl⟩) | (go_at_call 9; refine (raw_st w _ ?hst).mono ?_; (case hst => exact h.next (by go_grown)); rintro e wz ⟨rfl, hz⟩))
    go_ret
    exact ⟨rfl, hz.1⟩
  | none =>
  rw [hc2] at c2
  by_cases hl0 : s.length = 0
  · have HF := Lib.hid (stands_len0 hl0)
    have q1 : ¬ (0 : Int) < (s.length : Int) := by omega
    have q2 : ¬ (1 : Int) < (s.length : Int) := by omega
    have q3 : ¬ 0 < s.length := by omega
    clear hl0
    cases hc3 : ([45] : List UInt8).isSuffixOf s with
    | true =>
      rw [hc3] at c3
      go_enter Tryd.func5, Tryd.ntmps5
      go_wp2_with (first | (go_at_call 21; (with_reducible refine (c1 _).mono ?_); rintro e w1 ⟨rfl, rfl⟩) | (go_at_call 21; (with_reducible refine (c2 _).mono ?_); rintro e w1 ⟨rfl, rfl⟩) | (go_at_call 22; (with_reducible refine (c3 _).mono ?_); rintro e w1 ⟨rfl, rfl⟩) | (go_at_call 9; refine (raw_st w _ ?hst).mono ?_; (case hst => exact h.next (by go_grown)); rintro e wz ⟨rfl, hz⟩))
      go_ret
      exact ⟨rfl, hz.1⟩
    | false =>
    rw [hc3] at c3
    cases hc4 : ([45, 45, 33] : List UInt8).isSuffixOf s with
    | true =>
      rw [hc4] at c4
      go_enter Tryd.func5, Tryd.ntmps5
      go_wp2_with (first | (go_at_call 21; (with_reducible refine (c1 _).mono ?_); rintro e w1 ⟨rfl, rfl⟩) | (go_at_call 21; (with_reducible refine (c2 _).mono ?_); rintro e w1 ⟨rfl, rfl⟩) | (go_at_call 22; (with_reducible refine (c3 _).mono ?_); rintro e w1 ⟨rfl, rfl⟩) | (go_at_call 22; (with_reducible refine (c4 _).mono ?_); rintro e w1 ⟨rfl, rfl⟩) | (go_at_call 9; refine (raw_st w _ ?hst).mono ?_; (case hst => exact h.next (by go_grown)); rintro e wz ⟨rfl, hz⟩))
      go_ret
      exact ⟨rfl, hz.1⟩
    | false =>
    rw [hc4] at c4
    have HC : Hid (Clear s) := Lib.hid ⟨hc1, hc2, hc3, hc4⟩
    clear hc1 hc2 hc3 hc4
    have cl := fun W => cleanR_any s W (by omega)
    have hk1 : comI (a ++ (60 :: 33 :: 45 :: 45 :: (s ++ (45 :: 45 :: 62 :: b)))) a.length = some (cleanL s, 4 + (s.length + 3)) := by
      have e := com_around (a := a) (x := (45 :: 45 :: 62 :: b)) HC.out HF.out.1 HF.out.2 (cmF_end1 b) rfl rfl
      rw [List.append_nil] at e
      exact e
    have cm1 := com_is (z := (a.length : Int) + 4 + s.length + 3) hk1 (by omega) (by simp; omega) (by omega) (by omega) w
    clear hk1
    have hk2 : comI (a ++ (60 :: 33 :: 45 :: 45 :: (s ++ (45 :: 45 :: 33 :: 62 :: b)))) a.length = some (cleanL s, 4 + (s.length + 4)) := by
      have e := com_around (a := a) (x := (45 :: 45 :: 33 :: 62 :: b)) HC.out HF.out.1 HF.out.2 (cmF_end2 b) rfl rfl
      rw [List.append_nil] at e
      exact e
    have cm2 := com_is (z := (a.length : Int) + 4 + s.length + 4) hk2 (by omega) (by simp; omega) (by omega) (by omega) w
    clear hk2
    have hk3 : comI (a ++ (60 :: 33 :: 45 :: 45 :: s)) a.length = some (cleanL s, 4 + (s.length + 0)) := by
      have e := com_around (a := a) (x := []) HC.out HF.out.1 HF.out.2 (show cmF [] = ([], 0) from by decide) rfl rfl
      rw [List.append_nil] at e
      exact e
    have cm3 := com_is (z := (a.length : Int) + 4 + s.length) hk3 (by omega) (by simp; omega) (by omega) (by omega) w
    clear hk3
    have hk4 : comI (a ++ (60 :: 33 :: 45 :: 45 :: (s ++ [45]))) a.length = some (cleanL s, 4 + (s.length + 1)) := by
      have e := com_around (a := a) (x := [45]) HC.out HF.out.1 HF.out.2 (show cmF [45] = ([], 1) from by decide) rfl rfl
      rw [List.append_nil] at e
      exact e
    have cm4 := com_is (z := (a.length : Int) + 4 + s.length + 1) hk4 (by omega) (by simp; omega) (by omega) (by omega) w
    clear hk4
    have hk5 : comI (a ++ (60 :: 33 :: 45 :: 45 :: (s ++ [45, 45]))) a.length = some (cleanL s, 4 + (s.length + 2)) := by
      have e := com_around (a := a) (x := [45, 45]) HC.out HF.out.1 HF.out.2 (show cmF [45, 45] = ([], 2) from by decide) rfl rfl
      rw [List.append_nil] at e
      exact e
    have cm5 := com_is (z := (a.length : Int) + 4 + s.length + 2) hk5 (by omega) (by simp; omega) (by omega) (by omega) w
    clear hk5
    have hk6 : comI (a ++ (60 :: 33 :: 45 :: 45 :: (s ++ [45, 45, 33]))) a.length = some (cleanL s, 4 + (s.length + 3)) := by
      have e := com_around (a := a) (x := [45, 45, 33]) HC.out HF.out.1 HF.out.2 (show cmF [45, 45, 33] = ([], 3) from by decide) rfl rfl
      rw [List.append_nil] at e
      exact e
    have cm6 := com_is (z := (a.length : Int) + 4 + s.length + 3) hk6 (by omega) (by simp; omega) (by omega) (by omega) w
    clear hk6
    have i0 : ∀ w, (Instr.index 39 (.agg #[.string ⟨⟨[45, 45, 62]⟩⟩, .string ⟨⟨[45, 45, 33, 62]⟩⟩]) (.int .i64 0)).run Tryd.prog w = .ok (.string ⟨⟨[45, 45, 62]⟩⟩) w := fun _ => by kernel_rfl
    have i1 : ∀ w, (Instr.index 39 (.agg #[.string ⟨⟨[45, 45, 62]⟩⟩, .string ⟨⟨[45, 45, 33, 62]⟩⟩]) (.int .i64 1)).run Tryd.prog w = .ok (.string ⟨⟨[45, 45, 33, 62]⟩⟩) w := fun _ => by kernel_rfl
    have j0 : ∀ w, (Instr.index 40 (.agg #[.string ⟨⟨[]⟩⟩, .string ⟨⟨[45]⟩⟩, .string ⟨⟨[45, 45]⟩⟩, .string ⟨⟨[45, 45, 33]⟩⟩]) (.int .i64 0)).run Tryd.prog w = .ok (.string ⟨⟨[]⟩⟩) w := fun _ => by kernel_rfl
    have j1 : ∀ w, (Instr.index 40 (.agg #[.string ⟨⟨[]⟩⟩, .string ⟨⟨[45]⟩⟩, .string ⟨⟨[45, 45]⟩⟩, .string ⟨⟨[45, 45, 33]⟩⟩]) (.int .i64 1)).run Tryd.prog w = .ok (.string ⟨⟨[45]⟩⟩) w := fun _ => by kernel_rfl
    have j2 : ∀ w, (Instr.index 40 (.agg #[.string ⟨⟨[]⟩⟩, .string ⟨⟨[45]⟩⟩, .string ⟨⟨[45, 45]⟩⟩, .string ⟨⟨[45, 45, 33]⟩⟩]) (.int .i64 2)).run Tryd.prog w = .ok (.string ⟨⟨[45, 45]⟩⟩) w := fun _ => by kernel_rfl
    have j3 : ∀ w, (Instr.index 40 (.agg #[.string ⟨⟨[]⟩⟩, .string ⟨⟨[45]⟩⟩, .string ⟨⟨[45, 45]⟩⟩, .string ⟨⟨[45, 45, 33]⟩⟩]) (.int .i64 3)).run Tryd.prog w = .ok (.string ⟨⟨[45, 45, 33]⟩⟩) w := fun _ => by kernel_rfl
    clear HC HF
    go_enter Tryd.func5, Tryd.ntmps5
    go_wp2_with (first | (go_at_call 21; (with_reducible refine (c1 _).mono ?_); rintro e w1 ⟨rfl, rfl⟩) | (go_at_call 21; (with_reducible refine (c2 _).mono ?_); rintro e w1 ⟨rfl, rfl⟩) | (go_at_call 22; (with_reducible refine (c3 _).mono ?_); rintro e w1 ⟨rfl, rfl⟩) | (go_at_call 22; (with_reducible refine (c4 _).mono ?_); rintro e w1 ⟨rfl, rfl⟩) | (go_at_call 23; refine (cl _).mono ?_; rintro e w1 ⟨rfl, rfl⟩))
    clear c1 c2 c3 c4 cl
    refine wp_loop_rounds 3 ?_
    rw [rounds_succ]
    go_wp2_with (first
      | (go_at_call 10; refine (cm1 _ ?hst).mono ?_; (case hst => exact h.next (by go_grown)); rintro e w1 ⟨rfl, x1, _⟩; obtain ⟨hB1, y1, _⟩ := tok_block x1; obtain ⟨⟨c0, c1, c2, c3, c4, c5, c6, c7, c8⟩, f0, f1, f2, f3, f4, f5, f6, f7, f8⟩ := tok_cells hB1)
      | (go_at_call 18; refine (same_tok 4 _ _ [] (cleanL s) false w _ ?hst).mono ?_; (case hst => exact h.next (by go_grown)); rintro e v1 ⟨rfl, z1, _⟩; have hS1 := block_on z1 (want_set _ _ hB1); have u1 : Ext w v1 := Ext.trans (by go_grown) z1))
    clear c0 c1 c2 c3 c4 c5 c6 c7 c8 f0 f1 f2 f3 f4 f5 f6 f7 f8 cm1
    rw [rounds_succ]
    go_wp2_with (first
      | (go_at_call 10; refine (cm2 _ ?hst).mono ?_; (case hst => exact h.next (by go_grown)); rintro e w2 ⟨rfl, x2, _⟩; have hB2 := block_on x2 hS1; have hz2 : w.heap.size < w2.heap.size := (Array.getElem?_eq_some_iff.1 hB2).1; have y2 := Ext.trans u1 x2; obtain ⟨⟨c0, c1, c2, c3, c4, c5, c6, c7, c8⟩, f0, f1, f2, f3, f4, f5, f6, f7, f8⟩ := tok_cells hB2)
      | (go_at_call 18; refine (same_tok 4 _ _ [] (cleanL s) false w _ ?hst).mono ?_; (case hst => exact h.next (by go_grown)); rintro e v2 ⟨rfl, z2, _⟩; have hS2 := block_on z2 (want_set _ _ hB2); have u2 : Ext w v2 := Ext.trans (by go_grown) z2))
    clear c0 c1 c2 c3 c4 c5 c6 c7 c8 f0 f1 f2 f3 f4 f5 f6 f7 f8 cm2
    rw [rounds_succ]
    go_wp2_with fail
    refine wp_loop_rounds 5 ?_
    rw [rounds_succ]
    go_wp2_with (first
      | (go_at_call 10; refine (cm3 _ ?hst).mono ?_; (case hst => exact h.next (by go_grown)); rintro e w3 ⟨rfl, x3, _⟩; have hB3 := block_on x3 hS2; have hz3 : w.heap.size < w3.heap.size := (Array.getElem?_eq_some_iff.1 hB3).1; have y3 := Ext.trans u2 x3; obtain ⟨⟨c0, c1, c2, c3, c4, c5, c6, c7, c8⟩, f0, f1, f2, f3, f4, f5, f6, f7, f8⟩ := tok_cells hB3)
      | (go_at_call 18; refine (same_tok 4 _ _ [] (cleanL s) false w _ ?hst).mono ?_; (case hst => exact h.next (by go_grown)); rintro e v3 ⟨rfl, z3, _⟩; have hS3 := block_on z3 (want_set _ _ hB3); have u3 : Ext w v3 := Ext.trans (by go_grown) z3))
    clear c0 c1 c2 c3 c4 c5 c6 c7 c8 f0 f1 f2 f3 f4 f5 f6 f7 f8 cm3
    rw [rounds_succ]
    go_wp2_with (first
      | (go_at_call 10; refine (cm4 _ ?hst).mono ?_; (case hst => exact h.next (by go_grown)); rintro e w4 ⟨rfl, x4, _⟩; have hB4 := block_on x4 hS3; have hz4 : w.heap.size < w4.heap.size := (Array.getElem?_eq_some_iff.1 hB4).1; have y4 := Ext.trans u3 x4; obtain ⟨⟨c0, c1, c2, c3, c4, c5, c6, c7, c8⟩, f0, f1, f2, f3, f4, f5, f6, f7, f8⟩ := tok_cells hB4)
      | (go_at_call 18; refine (same_tok 4 _ _ [] (cleanL s) false w _ ?hst).mono ?_; (case hst => exact h.next (by go_grown)); rintro e v4 ⟨rfl, z4, _⟩; have hS4 := block_on z4 (want_set _ _ hB4); have u4 : Ext w v4 := Ext.trans (by go_grown) z4))
    clear c0 c1 c2 c3 c4 c5 c6 c7 c8 f0 f1 f2 f3 f4 f5 f6 f7 f8 cm4
    rw [rounds_succ]
    go_wp2_with (first
      | (go_at_call 10; refine (cm5 _ ?hst).mono ?_; (case hst => exact h.next (by go_grown)); rintro e w5 ⟨rfl, x5, _⟩; have hB5 := block_on x5 hS4; have hz5 : w.heap.size < w5.heap.size := (Array.getElem?_eq_some_iff.1 hB5).1; have y5 := Ext.trans u4 x5; obtain ⟨⟨c0, c1, c2, c3, c4, c5, c6, c7, c8⟩, f0, f1, f2, f3, f4, f5, f6, f7, f8⟩ := tok_cells hB5)
      | (go_at_call 18; refine (same_tok 4 _ _ [] (cleanL s) false w _ ?hst).mono ?_; (case hst => exact h.next (by go_grown)); rintro e v5 ⟨rfl, z5, _⟩; have hS5 := block_on z5 (want_set _ _ hB5); have u5 : Ext w v5 := Ext.trans (by go_grown) z5))
    clear c0 c1 c2 c3 c4 c5 c6 c7 c8 f0 f1 f2 f3 f4 f5 f6 f7 f8 cm5
    rw [rounds_succ]
    go_wp2_with (first
      | (go_at_call 10; refine (cm6 _ ?hst).mono ?_; (case hst => exact h.next (by go_grown)); rintro e w6 ⟨rfl, x6, _⟩; have hB6 := block_on x6 hS5; have hz6 : w.heap.size < w6.heap.size := (Array.getElem?_eq_some_iff.1 hB6).1; have y6 := Ext.trans u5 x6; obtain ⟨⟨c0, c1, c2, c3, c4, c5, c6, c7, c8⟩, f0, f1, f2, f3, f4, f5, f6, f7, f8⟩ := tok_cells hB6)
      | (go_at_call 18; refine (same_tok 4 _ _ [] (cleanL s) false w _ ?hst).mono ?_; (case hst => exact h.next (by go_grown)); rintro e v6 ⟨rfl, z6, _⟩; have hS6 := block_on z6 (want_set _ _ hB6); have u6 : Ext w v6 := Ext.trans (by go_grown) z6))
    clear c0 c1 c2 c3 c4 c5 c6 c7 c8 f0 f1 f2 f3 f4 f5 f6 f7 f8 cm6
    rw [rounds_succ]
    go_wp2_with (go_at_call 9; refine (raw_st w _ ?hst).mono ?_; (case hst => exact h.next (by go_grown)); rintro e wz ⟨rfl, hz⟩)
    go_ret
    exact ⟨rfl, hz.1⟩
  have p0 : 0 < s.length := by omega
  have p1 : (0 : Int) < (s.length : Int) := by omega
  have hst := stands_at0 p0
  have e62 : (((s[0]).toNat : Int) == 62) = (s[0] == 62) := u8_beq (x := 62)
  obtain ⟨cc, hcc⟩ : ∃ c, s[0] = c := ⟨_, rfl⟩
  have hcl := cc.toNat_lt
  rw [hcc] at hst e62
  cases h62 : (cc == 62) with
  | true =>
    rw [h62] at e62
    clear hst h62
    go_enter Tryd.func5, Tryd.ntmps5
    go_wp2_with (first | (go_at_call 21; (with_reducible refine (c1 _).mono ?_); rintro e w1 ⟨rfl, rfl⟩) | (go_at_call 21; (with_reducible refine (c2 _).mono ?_); rintro e w1 ⟨rfl, rfl⟩) | (go_at_call 9; refine (raw_st w _ ?hst).mono ?_; (case hst => exact h.next (by go_grown)); rintro e wz ⟨rfl, hz⟩))
    go_ret
    exact ⟨rfl, hz.1⟩
  | false =>
  rw [h62] at hst e62
  clear h62
  by_cases hl1 : s.length = 1
  · have HF := Lib.hid (And.intro hst (stands_len1 hl1))
    have q2 : ¬ (1 : Int) < (s.length : Int) := by omega
    clear hl1 hst
    cases hc3 : ([45] : List UInt8).isSuffixOf s with
    | true =>
      rw [hc3] at c3
      go_enter Tryd.func5, Tryd.ntmps5
      go_wp2_with (first | (go_at_call 21; (with_reducible refine (c1 _).mono ?_); rintro e w1 ⟨rfl, rfl⟩) | (go_at_call 21; (with_reducible refine (c2 _).mono ?_); rintro e w1 ⟨rfl, rfl⟩) | (go_at_call 22; (with_reducible refine (c3 _).mono ?_); rintro e w1 ⟨rfl, rfl⟩) | (go_at_call 9; refine (raw_st w _ ?hst).mono ?_; (case hst => exact h.next (by go_grown)); rintro e wz ⟨rfl, hz⟩))
      go_ret
      exact ⟨rfl, hz.1⟩
    | false =>
    rw [hc3] at c3
    cases hc4 : ([45, 45, 33] : List UInt8).isSuffixOf s with
    | true =>
      rw [hc4] at c4
      go_enter Tryd.func5, Tryd.ntmps5
      go_wp2_with (first | (go_at_call 21; (with_reducible refine (c1 _).mono ?_); rintro e w1 ⟨rfl, rfl⟩) | (go_at_call 21; (with_reducible refine (c2 _).mono ?_); rintro e w1 ⟨rfl, rfl⟩) | (go_at_call 22; (with_reducible refine (c3 _).mono ?_); rintro e w1 ⟨rfl, rfl⟩) | (go_at_call 22; (with_reducible refine (c4 _).mono ?_); rintro e w1 ⟨rfl, rfl⟩) | (go_at_call 9; refine (raw_st w _ ?hst).mono ?_; (case hst => exact h.next (by go_grown)); rintro e wz ⟨rfl, hz⟩))
      go_ret
      exact ⟨rfl, hz.1⟩
    | false =>
    rw [hc4] at c4
    have HC : Hid (Clear s) := Lib.hid ⟨hc1, hc2, hc3, hc4⟩
    clear hc1 hc2 hc3 hc4
    have cl := fun W => cleanR_any s W (by omega)
    have hk1 : comI (a ++ (60 :: 33 :: 45 :: 45 :: (s ++ (45 :: 45 :: 62 :: b)))) a.length = some (cleanL s, 4 + (s.length + 3)) := by
      have e := com_around (a := a) (x := (45 :: 45 :: 62 :: b)) HC.out HF.out.1 HF.out.2 (cmF_end1 b) rfl rfl
      rw [List.append_nil] at e
      exact e
    have cm1 := com_is (z := (a.length : Int) + 4 + s.length + 3) hk1 (by omega) (by simp; omega) (by omega) (by omega) w
    clear hk1
    have hk2 : comI (a ++ (60 :: 33 :: 45 :: 45 :: (s ++ (45 :: 45 :: 33 :: 62 :: b)))) a.length = some (cleanL s, 4 + (s.length + 4)) := by
      have e := com_around (a := a) (x := (45 :: 45 :: 33 :: 62 :: b)) HC.out HF.out.1 HF.out.2 (cmF_end2 b) rfl rfl
      rw [List.append_nil] at e
      exact e
    have cm2 := com_is (z := (a.length : Int) + 4 + s.length + 4) hk2 (by omega) (by simp; omega) (by omega) (by omega) w
    clear hk2
    have hk3 : comI (a ++ (60 :: 33 :: 45 :: 45 :: s)) a.length = some (cleanL s, 4 + (s.length + 0)) := by
      have e := com_around (a := a) (x := []) HC.out HF.out.1 HF.out.2 (show cmF [] = ([], 0) from by decide) rfl rfl
      rw [List.append_nil] at e
      exact e
    have cm3 := com_is (z := (a.length : Int) + 4 + s.length) hk3 (by omega) (by simp; omega) (by omega) (by omega) w
    clear hk3
    have hk4 : comI (a ++ (60 :: 33 :: 45 :: 45 :: (s ++ [45]))) a.length = some (cleanL s, 4 + (s.length + 1)) := by
      have e := com_around (a := a) (x := [45]) HC.out HF.out.1 HF.out.2 (show cmF [45] = ([], 1) from by decide) rfl rfl
      rw [List.append_nil] at e
      exact e
    have cm4 := com_is (z := (a.length : Int) + 4 + s.length + 1) hk4 (by omega) (by simp; omega) (by omega) (by omega) w
    clear hk4
    have hk5 : comI (a ++ (60 :: 33 :: 45 :: 45 :: (s ++ [45, 45]))) a.length = some (cleanL s, 4 + (s.length + 2)) := by
      have e := com_around (a := a) (x := [45, 45]) HC.out HF.out.1 HF.out.2 (show cmF [45, 45] = ([], 2) from by decide) rfl rfl
      rw [List.append_nil] at e
      exact e
    have cm5 := com_is (z := (a.length : Int) + 4 + s.length + 2) hk5 (by omega) (by simp; omega) (by omega) (by omega) w
    clear hk5
    have hk6 : comI (a ++ (60 :: 33 :: 45 :: 45 :: (s ++ [45, 45, 33]))) a.length = some (cleanL s, 4 + (s.length + 3)) := by
      have e := com_around (a := a) (x := [45, 45, 33]) HC.out HF.out.1 HF.out.2 (show cmF [45, 45, 33] = ([], 3) from by decide) rfl rfl
      rw [List.append_nil] at e
      exact e
    have cm6 := com_is (z := (a.length : Int) + 4 + s.length + 3) hk6 (by omega) (by simp; omega) (by omega) (by omega) w
    clear hk6
    have i0 : ∀ w, (Instr.index 39 (.agg #[.string ⟨⟨[45, 45, 62]⟩⟩, .string ⟨⟨[45, 45, 33, 62]⟩⟩]) (.int .i64 0)).run Tryd.prog w = .ok (.string ⟨⟨[45, 45, 62]⟩⟩) w := fun _ => by kernel_rfl
    have i1 : ∀ w, (Instr.index 39 (.agg #[.string ⟨⟨[45, 45, 62]⟩⟩, .string ⟨⟨[45, 45, 33, 62]⟩⟩]) (.int .i64 1)).run Tryd.prog w = .ok (.string ⟨⟨[45, 45, 33, 62]⟩⟩) w := fun _ => by kernel_rfl
    have j0 : ∀ w, (Instr.index 40 (.agg #[.string ⟨⟨[]⟩⟩, .string ⟨⟨[45]⟩⟩, .string ⟨⟨[45, 45]⟩⟩, .string ⟨⟨[45, 45, 33]⟩⟩]) (.int .i64 0)).run Tryd.prog w = .ok (.string ⟨⟨[]⟩⟩) w := fun _ => by kernel_rfl
    have j1 : ∀ w, (Instr.index 40 (.agg #[.string ⟨⟨[]⟩⟩, .string ⟨⟨[45]⟩⟩, .string ⟨⟨[45, 45]⟩⟩, .string ⟨⟨[45, 45, 33]⟩⟩]) (.int .i64 1)).run Tryd.prog w = .ok (.string ⟨⟨[45]⟩⟩) w := fun _ => by kernel_rfl
    have j2 : ∀ w, (Instr.index 40 (.agg #[.string ⟨⟨[]⟩⟩, .string ⟨⟨[45]⟩⟩, .string ⟨⟨[45, 45]⟩⟩, .string ⟨⟨[45, 45, 33]⟩⟩]) (.int .i64 2)).run Tryd.prog w = .ok (.string ⟨⟨[45, 45]⟩⟩) w := fun _ => by kernel_rfl
    have j3 : ∀ w, (Instr.index 40 (.agg #[.string ⟨⟨[]⟩⟩, .string ⟨⟨[45]⟩⟩, .string ⟨⟨[45, 45]⟩⟩, .string ⟨⟨[45, 45, 33]⟩⟩]) (.int .i64 3)).run Tryd.prog w = .ok (.string ⟨⟨[45, 45, 33]⟩⟩) w := fun _ => by kernel_rfl
    clear HC HF
    go_enter Tryd.func5, Tryd.ntmps5
    go_wp2_with (first | (go_at_call 21; (with_reducible refine (c1 _).mono ?_); rintro e w1 ⟨rfl, rfl⟩) | (go_at_call 21; (with_reducible refine (c2 _).mono ?_); rintro e w1 ⟨rfl, rfl⟩) | (go_at_call 22; (with_reducible refine (c3 _).mono ?_); rintro e w1 ⟨rfl, rfl⟩) | (go_at_call 22; (with_reducible refine (c4 _).mono ?_); rintro e w1 ⟨rfl, rfl⟩) | (go_at_call 23; refine (cl _).mono ?_; rintro e w1 ⟨rfl, rfl⟩))
    clear c1 c2 c3 c4 cl
    refine wp_loop_rounds 3 ?_
    rw [rounds_succ]
    go_wp2_with (first
      | (go_at_call 10; refine (cm1 _ ?hst).mono ?_; (case hst => exact h.next (by go_grown)); rintro e w1 ⟨rfl, x1, _⟩; obtain ⟨hB1, y1, _⟩ := tok_block x1; obtain ⟨⟨c0, c1, c2, c3, c4, c5, c6, c7, c8⟩, f0, f1, f2, f3, f4, f5, f6, f7, f8⟩ := tok_cells hB1)
      | (go_at_call 18; refine (same_tok 4 _ _ [] (cleanL s) false w _ ?hst).mono ?_; (case hst => exact h.next (by go_grown)); rintro e v1 ⟨rfl, z1, _⟩; have hS1 := block_on z1 (want_set _ _ hB1); have u1 : Ext w v1 := Ext.trans (by go_grown) z1))
    clear c0 c1 c2 c3 c4 c5 c6 c7 c8 f0 f1 f2 f3 f4 f5 f6 f7 f8 cm1
    rw [rounds_succ]
    go_wp2_with (first
      | (go_at_call 10; refine (cm2 _ ?hst).mono ?_; (case hst => exact h.next (by go_grown)); rintro e w2 ⟨rfl, x2, _⟩; have hB2 := block_on x2 hS1; have hz2 : w.heap.size < w2.heap.size := (Array.getElem?_eq_some_iff.1 hB2).1; have y2 := Ext.trans u1 x2; obtain ⟨⟨c0, c1, c2, c3, c4, c5, c6, c7, c8⟩, f0, f1, f2, f3, f4, f5, f6, f7, f8⟩ := tok_cells hB2)
      | (go_at_call 18; refine (same_tok 4 _ _ [] (cleanL s) false w _ ?hst).mono ?_; (case hst => exact h.next (by go_grown)); rintro e v2 ⟨rfl, z2, _⟩; have hS2 := block_on z2 (want_set _ _ hB2); have u2 : Ext w v2 := Ext.trans (by go_grown) z2))
    clear c0 c1 c2 c3 c4 c5 c6 c7 c8 f0 f1 f2 f3 f4 f5 f6 f7 f8 cm2
    rw [rounds_succ]
    go_wp2_with fail
    refine wp_loop_rounds 5 ?_
    rw [rounds_succ]
    go_wp2_with (first
      | (go_at_call 10; refine (cm3 _ ?hst).mono ?_; (case hst => exact h.next (by go_grown)); rintro e w3 ⟨rfl, x3, _⟩; have hB3 := block_on x3 hS2; have hz3 : w.heap.size < w3.heap.size := (Array.getElem?_eq_some_iff.1 hB3).1; have y3 := Ext.trans u2 x3; obtain ⟨⟨c0, c1, c2, c3, c4, c5, c6, c7, c8⟩, f0, f1, f2, f3, f4, f5, f6, f7, f8⟩ := tok_cells hB3)
      | (go_at_call 18; refine (same_tok 4 _ _ [] (cleanL s) false w _ ?hst).mono ?_; (case hst => exact h.next (by go_grown)); rintro e v3 ⟨rfl, z3, _⟩; have hS3 := block_on z3 (want_set _ _ hB3); have u3 : Ext w v3 := Ext.trans (by go_grown) z3))
    clear c0 c1 c2 c3 c4 c5 c6 c7 c8 f0 f1 f2 f3 f4 f5 f6 f7 f8 cm3
    rw [rounds_succ]
    go_wp2_with (first
      | (go_at_call 10; refine (cm4 _ ?hst).mono ?_; (case hst => exact h.next (by go_grown)); rintro e w4 ⟨rfl, x4, _⟩; have hB4 := block_on x4 hS3; have hz4 : w.heap.size < w4.heap.size := (Array.getElem?_eq_some_iff.1 hB4).1; have y4 := Ext.trans u3 x4; obtain ⟨⟨c0, c1, c2, c3, c4, c5, c6, c7, c8⟩, f0, f1, f2, f3, f4, f5, f6, f7, f8⟩ := tok_cells hB4)
      | (go_at_call 18; refine (same_tok 4 _ _ [] (cleanL s) false w _ ?hst).mono ?_; (case hst => exact h.next (by go_grown)); rintro e v4 ⟨rfl, z4, _⟩; have hS4 := block_on z4 (want_set _ _ hB4); have u4 : Ext w v4 := Ext.trans (by go_grown) z4))
    clear c0 c1 c2 c3 c4 c5 c6 c7 c8 f0 f1 f2 f3 f4 f5 f6 f7 f8 cm4
    rw [rounds_succ]
    go_wp2_with (first
      | (go_at_call 10; refine (cm5 _ ?hst).mono ?_; (case hst => exact h.next (by go_grown)); rintro e w5 ⟨rfl, x5, _⟩; have hB5 := block_on x5 hS4; have hz5 : w.heap.size < w5.heap.size := (Array.getElem?_eq_some_iff.1 hB5).1; have y5 := Ext.trans u4 x5; obtain ⟨⟨c0, c1, c2, c3, c4, c5, c6, c7, c8⟩, f0, f1, f2, f3, f4, f5, f6, f7, f8⟩ := tok_cells hB5)
      | (go_at_call 18; refine (same_tok 4 _ _ [] (cleanL s) false w _ ?hst).mono ?_; (case hst => exact h.next (by go_grown)); rintro e v5 ⟨rfl, z5, _⟩; have hS5 := block_on z5 (want_set _ _ hB5); have u5 : Ext w v5 := Ext.trans (by go_grown) z5))
    clear c0 c1 c2 c3 c4 c5 c6 c7 c8 f0 f1 f2 f3 f4 f5 f6 f7 f8 cm5
    rw [rounds_succ]
    go_wp2_with (first
      | (go_at_call 10; refine (cm6 _ ?hst).mono ?_; (case hst => exact h.next (by go_grown)); rintro e w6 ⟨rfl, x6, _⟩; have hB6 := block_on x6 hS5; have hz6 : w.heap.size < w6.heap.size := (Array.getElem?_eq_some_iff.1 hB6).1; have y6 := Ext.trans u5 x6; obtain ⟨⟨c0, c1, c2, c3, c4, c5, c6, c7, c8⟩, f0, f1, f2, f3, f4, f5, f6, f7, f8⟩ := tok_cells hB6)
      | (go_at_call 18; refine (same_tok 4 _ _ [] (cleanL s) false w _ ?hst).mono ?_; (case hst => exact h.next (by go_grown)); rintro e v6 ⟨rfl, z6, _⟩; have hS6 := block_on z6 (want_set _ _ hB6); have u6 : Ext w v6 := Ext.trans (by go_grown) z6))
    clear c0 c1 c2 c3 c4 c5 c6 c7 c8 f0 f1 f2 f3 f4 f5 f6 f7 f8 cm6
    rw [rounds_succ]
    go_wp2_with (go_at_call 9; refine (raw_st w _ ?hst).mono ?_; (case hst => exact h.next (by go_grown)); rintro e wz ⟨rfl, hz⟩)
    go_ret
    exact ⟨rfl, hz.1⟩
  have p2 : 2 ≤ s.length := by omega
  have p3 : (1 : Int) < (s.length : Int) := by omega
  have hst2 := stands_at1 p2
  cases h2 : (s.take 2 == [45, 62]) with
  | true =>
    clear hst hst2
    go_enter Tryd.func5, Tryd.ntmps5
    go_wp2_with (first | (go_at_call 21; (with_reducible refine (c1 _).mono ?_); rintro e w1 ⟨rfl, rfl⟩) | (go_at_call 21; (with_reducible refine (c2 _).mono ?_); rintro e w1 ⟨rfl, rfl⟩) | (go_at_call 9; refine (raw_st w _ ?hst).mono ?_; (case hst => exact h.next (by go_grown)); rintro e wz ⟨rfl, hz⟩))
    go_ret
    exact ⟨rfl, hz.1⟩
  | false =>
  rw [h2] at hst2
  have HF := Lib.hid (And.intro hst hst2)
  clear hst hst2
  cases hc3 : ([45] : List UInt8).isSuffixOf s with
  | true =>
    rw [hc3] at c3
    go_enter Tryd.func5, Tryd.ntmps5
    go_wp2_with (first | (go_at_call 21; (with_reducible refine (c1 _).mono ?_); rintro e w1 ⟨rfl, rfl⟩) | (go_at_call 21; (with_reducible refine (c2 _).mono ?_); rintro e w1 ⟨rfl, rfl⟩) | (go_at_call 22; (with_reducible refine (c3 _).mono ?_); rintro e w1 ⟨rfl, rfl⟩) | (go_at_call 9; refine (raw_st w _ ?hst).mono ?_; (case hst => exact h.next (by go_grown)); rintro e wz ⟨rfl, hz⟩))
    go_ret
    exact ⟨rfl, hz.1⟩
  | false =>
  rw [hc3] at c3
  cases hc4 : ([45, 45, 33] : List UInt8).isSuffixOf s with
  | true =>
    rw [hc4] at c4
    go_enter Tryd.func5, Tryd.ntmps5
    go_wp2_with (first | (go_at_call 21; (with_reducible refine (c1 _).mono ?_); rintro e w1 ⟨rfl, rfl⟩) | (go_at_call 21; (with_reducible refine (c2 _).mono ?_); rintro e w1 ⟨rfl, rfl⟩) | (go_at_call 22; (with_reducible refine (c3 _).mono ?_); rintro e w1 ⟨rfl, rfl⟩) | (go_at_call 22; (with_reducible refine (c4 _).mono ?_); rintro e w1 ⟨rfl, rfl⟩) | (go_at_call 9; refine (raw_st w _ ?hst).mono ?_; (case hst => exact h.next (by go_grown)); rintro e wz ⟨rfl, hz⟩))
    go_ret
    exact ⟨rfl, hz.1⟩
  | false =>
  rw [hc4] at c4
  have HC : Hid (Clear s) := Lib.hid ⟨hc1, hc2, hc3, hc4⟩
  clear hc1 hc2 hc3 hc4
  have cl := fun W => cleanR_any s W (by omega)
  have hk1 : comI (a ++ (60 :: 33 :: 45 :: 45 :: (s ++ (45 :: 45 :: 62 :: b)))) a.length = some (cleanL s, 4 + (s.length + 3)) := by
    have e := com_around (a := a) (x := (45 :: 45 :: 62 :: b)) HC.out HF.out.1 HF.out.2 (cmF_end1 b) rfl rfl
    rw [List.append_nil] at e
    exact e
  have cm1 := com_is (z := (a.length : Int) + 4 + s.length + 3) hk1 (by omega) (by simp; omega) (by omega) (by omega) w
  clear hk1
  have hk2 : comI (a ++ (60 :: 33 :: 45 :: 45 :: (s ++ (45 :: 45 :: 33 :: 62 :: b)))) a.length = some (cleanL s, 4 + (s.length + 4)) := by
    have e := com_around (a := a) (x := (45 :: 45 :: 33 :: 62 :: b)) HC.out HF.out.1 HF.out.2 (cmF_end2 b) rfl rfl
    rw [List.append_nil] at e
    exact e
  have cm2 := com_is (z := (a.length : Int) + 4 + s.length + 4) hk2 (by omega) (by simp; omega) (by omega) (by omega) w
  clear hk2
  have hk3 : comI (a ++ (60 :: 33 :: 45 :: 45 :: s)) a.length = some (cleanL s, 4 + (s.length + 0)) := by
    have e := com_around (a := a) (x := []) HC.out HF.out.1 HF.out.2 (show cmF [] = ([], 0) from by decide) rfl rfl
    rw [List.append_nil] at e
    exact e
  have cm3 := com_is (z := (a.length : Int) + 4 + s.length) hk3 (by omega) (by simp; omega) (by omega) (by omega) w
  clear hk3
  have hk4 : comI (a ++ (60 :: 33 :: 45 :: 45 :: (s ++ [45]))) a.length = some (cleanL s, 4 + (s.length + 1)) := by
    have e := com_around (a := a) (x := [45]) HC.out HF.out.1 HF.out.2 (show cmF [45] = ([], 1) from by decide) rfl rfl
    rw [List.append_nil] at e
    exact e
  have cm4 := com_is (z := (a.length : Int) + 4 + s.length + 1) hk4 (by omega) (by simp; omega) (by omega) (by omega) w
  clear hk4
  have hk5 : comI (a ++ (60 :: 33 :: 45 :: 45 :: (s ++ [45, 45]))) a.length = some (cleanL s, 4 + (s.length + 2)) := by
    have e := com_around (a := a) (x := [45, 45]) HC.out HF.out.1 HF.out.2 (show cmF [45, 45] = ([], 2) from by decide) rfl rfl
    rw [List.append_nil] at e
    exact e
  have cm5 := com_is (z := (a.length : Int) + 4 + s.length + 2) hk5 (by omega) (by simp; omega) (by omega) (by omega) w
  clear hk5
  have hk6 : comI (a ++ (60 :: 33 :: 45 :: 45 :: (s ++ [45, 45, 33]))) a.length = some (cleanL s, 4 + (s.length + 3)) := by
    have e := com_around (a := a) (x := [45, 45, 33]) HC.out HF.out.1 HF.out.2 (show cmF [45, 45, 33] = ([], 3) from by decide) rfl rfl
    rw [List.append_nil] at e
    exact e
  have cm6 := com_is (z := (a.length : Int) + 4 + s.length + 3) hk6 (by omega) (by simp; omega) (by omega) (by omega) w
  clear hk6
  have i0 : ∀ w, (Instr.index 39 (.agg #[.string ⟨⟨[45, 45, 62]⟩⟩, .string ⟨⟨[45, 45, 33, 62]⟩⟩]) (.int .i64 0)).run Tryd.prog w = .ok (.string ⟨⟨[45, 45, 62]⟩⟩) w := fun _ => by kernel_rfl
  have i1 : ∀ w, (Instr.index 39 (.agg #[.string ⟨⟨[45, 45, 62]⟩⟩, .string ⟨⟨[45, 45, 33, 62]⟩⟩]) (.int .i64 1)).run Tryd.prog w = .ok (.string ⟨⟨[45, 45, 33, 62]⟩⟩) w := fun _ => by kernel_rfl
  have j0 : ∀ w, (Instr.index 40 (.agg #[.string ⟨⟨[]⟩⟩, .string ⟨⟨[45]⟩⟩, .string ⟨⟨[45, 45]⟩⟩, .string ⟨⟨[45, 45, 33]⟩⟩]) (.int .i64 0)).run Tryd.prog w = .ok (.string ⟨⟨[]⟩⟩) w := fun _ => by kernel_rfl
  have j1 : ∀ w, (Instr.index 40 (.agg #[.string ⟨⟨[]⟩⟩, .string ⟨⟨[45]⟩⟩, .string ⟨⟨[45, 45]⟩⟩, .string ⟨⟨[45, 45, 33]⟩⟩]) (.int .i64 1)).run Tryd.prog w = .ok (.string ⟨⟨[45]⟩⟩) w := fun _ => by kernel_rfl
  have j2 : ∀ w, (Instr.index 40 (.agg #[.string ⟨⟨[]⟩⟩, .string ⟨⟨[45]⟩⟩, .string ⟨⟨[45, 45]⟩⟩, .string ⟨⟨[45, 45, 33]⟩⟩]) (.int .i64 2)).run Tryd.prog w = .ok (.string ⟨⟨[45, 45]⟩⟩) w := fun _ => by kernel_rfl
  have j3 : ∀ w, (Instr.index 40 (.agg #[.string ⟨⟨[]⟩⟩, .string ⟨⟨[45]⟩⟩, .string ⟨⟨[45, 45]⟩⟩, .string ⟨⟨[45, 45, 33]⟩⟩]) (.int .i64 3)).run Tryd.prog w = .ok (.string ⟨⟨[45, 45, 33]⟩⟩) w := fun _ => by kernel_rfl
  clear HC HF
  go_enter Tryd.func5, Tryd.ntmps5
  go_wp2_with (first | (go_at_call 21; (with_reducible refine (c1 _).mono ?_); rintro e w1 ⟨rfl, rfl⟩) | (go_at_call 21; (with_reducible refine (c2 _).mono ?_); rintro e w1 ⟨rfl, rfl⟩) | (go_at_call 22; (with_reducible refine (c3 _).mono ?_); rintro e w1 ⟨rfl, rfl⟩) | (go_at_call 22; (with_reducible refine (c4 _).mono ?_); rintro e w1 ⟨rfl, rfl⟩) | (go_at_call 23; refine (cl _).mono ?_; rintro e w1 ⟨rfl, rfl⟩))
  clear c1 c2 c3 c4 cl
  refine wp_loop_rounds 3 ?_
  rw [rounds_succ]
  go_wp2_with (first
    | (go_at_call 10; refine (cm1 _ ?hst).mono ?_; (case hst => exact h.next (by go_grown)); rintro e w1 ⟨rfl, x1, _⟩; obtain ⟨hB1, y1, _⟩ := tok_block x1; obtain ⟨⟨c0, c1, c2, c3, c4, c5, c6, c7, c8⟩, f0, f1, f2, f3, f4, f5, f6, f7, f8⟩ := tok_cells hB1)
    | (go_at_call 18; refine (same_tok 4 _ _ [] (cleanL s) false w _ ?hst).mono ?_; (case hst => exact h.next (by go_grown)); rintro e v1 ⟨rfl, z1, _⟩; have hS1 := block_on z1 (want_set _ _ hB1); have u1 : Ext w v1 := Ext.trans (by go_grown) z1))
  clear c0 c1 c2 c3 c4 c5 c6 c7 c8 f0 f1 f2 f3 f4 f5 f6 f7 f8 cm1
  rw [rounds_succ]
  go_wp2_with (first
    | (go_at_call 10; refine (cm2 _ ?hst).mono ?_; (case hst => exact h.next (by go_grown)); rintro e w2 ⟨rfl, x2, _⟩; have hB2 := block_on x2 hS1; have hz2 : w.heap.size < w2.heap.size := (Array.getElem?_eq_some_iff.1 hB2).1; have y2 := Ext.trans u1 x2; obtain ⟨⟨c0, c1, c2, c3, c4, c5, c6, c7, c8⟩, f0, f1, f2, f3, f4, f5, f6, f7, f8⟩ := tok_cells hB2)
    | (go_at_call 18; refine (same_tok 4 _ _ [] (cleanL s) false w _ ?hst).mono ?_; (case hst => exact h.next (by go_grown)); rintro e v2 ⟨rfl, z2, _⟩; have hS2 := block_on z2 (want_set _ _ hB2); have u2 : Ext w v2 := Ext.trans (by go_grown) z2))
  clear c0 c1 c2 c3 c4 c5 c6 c7 c8 f0 f1 f2 f3 f4 f5 f6 f7 f8 cm2
  rw [rounds_succ]
  go_wp2_with fail
  refine wp_loop_rounds 5 ?_
  rw [rounds_succ]
  go_wp2_with (first
    | (go_at_call 10; refine (cm3 _ ?hst).mono ?_; (case hst => exact h.next (by go_grown)); rintro e w3 ⟨rfl, x3, _⟩; have hB3 := block_on x3 hS2; have hz3 : w.heap.size < w3.heap.size := (Array.getElem?_eq_some_iff.1 hB3).1; have y3 := Ext.trans u2 x3; obtain ⟨⟨c0, c1, c2, c3, c4, c5, c6, c7, c8⟩, f0, f1, f2, f3, f4, f5, f6, f7, f8⟩ := tok_cells hB3)
    | (go_at_call 18; refine (same_tok 4 _ _ [] (cleanL s) false w _ ?hst).mono ?_; (case hst => exact h.next (by go_grown)); rintro e v3 ⟨rfl, z3, _⟩; have hS3 := block_on z3 (want_set _ _ hB3); have u3 : Ext w v3 := Ext.trans (by go_grown) z3))
  clear c0 c1 c2 c3 c4 c5 c6 c7 c8 f0 f1 f2 f3 f4 f5 f6 f7 f8 cm3
  rw [rounds_succ]
  go_wp2_with (first
    | (go_at_call 10; refine (cm4 _ ?hst).mono ?_; (case hst => exact h.next (by go_grown)); rintro e w4 ⟨rfl, x4, _⟩; have hB4 := block_on x4 hS3; have hz4 : w.heap.size < w4.heap.size := (Array.getElem?_eq_some_iff.1 hB4).1; have y4 := Ext.trans u3 x4; obtain ⟨⟨c0, c1, c2, c3, c4, c5, c6, c7, c8⟩, f0, f1, f2, f3, f4, f5, f6, f7, f8⟩ := tok_cells hB4)
    | (go_at_call 18; refine (same_tok 4 _ _ [] (cleanL s) false w _ ?hst).mono ?_; (case hst => exact h.next (by go_grown)); rintro e v4 ⟨rfl, z4, _⟩; have hS4 := block_on z4 (want_set _ _ hB4); have u4 : Ext w v4 := Ext.trans (by go_grown) z4))
  clear c0 c1 c2 c3 c4 c5 c6 c7 c8 f0 f1 f2 f3 f4 f5 f6 f7 f8 cm4
  rw [rounds_succ]
  go_wp2_with (first
    | (go_at_call 10; refine (cm5 _ ?hst).mono ?_; (case hst => exact h.next (by go_grown)); rintro e w5 ⟨rfl, x5, _⟩; have hB5 := block_on x5 hS4; have hz5 : w.heap.size < w5.heap.size := (Array.getElem?_eq_some_iff.1 hB5).1; have y5 := Ext.trans u4 x5; obtain ⟨⟨c0, c1, c2, c3, c4, c5, c6, c7, c8⟩, f0, f1, f2, f3, f4, f5, f6, f7, f8⟩ := tok_cells hB5)
    | (go_at_call 18; refine (same_tok 4 _ _ [] (cleanL s) false w _ ?hst).mono ?_; (case hst => exact h.next (by go_grown)); rintro e v5 ⟨rfl, z5, _⟩; have hS5 := block_on z5 (want_set _ _ hB5); have u5 : Ext w v5 := Ext.trans (by go_grown) z5))
  clear c0 c1 c2 c3 c4 c5 c6 c7 c8 f0 f1 f2 f3 f4 f5 f6 f7 f8 cm5
  rw [rounds_succ]
  go_wp2_with (first
    | (go_at_call 10; refine (cm6 _ ?hst).mono ?_; (case hst => exact h.next (by go_grown)); rintro e w6 ⟨rfl, x6, _⟩; have hB6 := block_on x6 hS5; have hz6 : w.heap.size < w6.heap.size := (Array.getElem?_eq_some_iff.1 hB6).1; have y6 := Ext.trans u5 x6; obtain ⟨⟨c0, c1, c2, c3, c4, c5, c6, c7, c8⟩, f0, f1, f2, f3, f4, f5, f6, f7, f8⟩ := tok_cells hB6)
    | (go_at_call 18; refine (same_tok 4 _ _ [] (cleanL s) false w _ ?hst).mono ?_; (case hst => exact h.next (by go_grown)); rintro e v6 ⟨rfl, z6, _⟩; have hS6 := block_on z6 (want_set _ _ hB6); have u6 : Ext w v6 := Ext.trans (by go_grown) z6))
  clear c0 c1 c2 c3 c4 c5 c6 c7 c8 f0 f1 f2 f3 f4 f5 f6 f7 f8 cm6
  rw [rounds_succ]
  go_wp2_with (go_at_call 9; refine (raw_st w _ ?hst).mono ?_; (case hst => exact h.next (by go_grown)); rintro e wz ⟨rfl, hz⟩)
  go_ret
  exact ⟨rfl, hz.1⟩
end Go.Proofs.YtbolajljfkjfaaaDoor

