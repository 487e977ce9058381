/-
  What is proved: the walk of RawsWhole: it answers true. Conditions: the library's variable holds an integer, the program's table what its text lays.
-/
import Derived.Test.YtbolajljfkjfaaaDoorRawZ
import Derived.Test.YtbolajljfkjfaaaDoorRawJ
import Derived.Test.YtbolajljfkjfaaaDoorBls
namespace Go.Proofs.YtbolajljfkjfaaaDoor
open Go.RowKit

theorem cellsR_lit {w : World} {t : TypeId} {cs : Array Value} {b : Nat} (h : w.heap[b]? = some (.cells cs t)) (i : Nat) : w.cell? ⟨b, i, none⟩ = cs[i]? := by
  simp [World.cell?, h]
theorem convR_one (w : World) (c : UInt8) (n : Int) (hn : n = (c.toNat : Int)) : (convert 45 9 (.slice (some ⟨w.heap.size, 0, none⟩) 1 1)).run Tryd.prog (w.alloc (.cells #[.int .u8 n] 5)) = .ok (.string ⟨⟨[c]⟩⟩) (w.alloc (.cells #[.int .u8 n] 5)) := by
  subst hn
  refine run_convert_bytes_back _ 45 9 5 ⟨w.heap.size, 0, none⟩ 1 [c] Tryd.underlying45 Tryd.underlying5 Tryd.underlying9 fun j hj => ?_
  have hj : j < 1 := hj
  obtain rfl : j = 0 := by omega
  exact cellsR_lit (heap_alloc_new w _) 0
theorem scN_at (k : Nat) (h : k < 6) : 97 ≤ (scN[k]'h).toNat ∧ (scN[k]'h).toNat ≤ 122 ∧ lowB (scN[k]'h) = scN[k]'h ∧ lowB (scN[k]'h - 32) = scN[k]'h ∧ (scN[k]'h - 32).toNat = (scN[k]'h).toNat - 32 ∧ scN[k]'h ≠ 0 ∧ scN[k]'h - 32 ≠ 0 ∧ scN.take (k + 1) = scN.take k ++ [scN[k]'h] := by
  have key : ∀ k : Fin 6, 97 ≤ (scN[k.val]'k.isLt).toNat ∧ (scN[k.val]'k.isLt).toNat ≤ 122 ∧ lowB (scN[k.val]'k.isLt) = scN[k.val]'k.isLt ∧ lowB (scN[k.val]'k.isLt - 32) = scN[k.val]'k.isLt ∧ (scN[k.val]'k.isLt - 32).toNat = (scN[k.val]'k.isLt).toNat - 32 ∧ scN[k.val]'k.isLt ≠ 0 ∧ scN[k.val]'k.isLt - 32 ≠ 0 ∧ scN.take (k.val + 1) = scN.take k.val ++ [scN[k.val]'k.isLt] := by decide
  exact key ⟨k, h⟩
/-- A name's bytes so far, in whichever case. -/
structure Tur (k : Nat) (m : List UInt8) : Prop where
  hl : m.length = k
  hw : lowL m = scN.take k
  h0 : ∀ c ∈ m, c ≠ 0
theorem Tur.start : Tur 0 [] := ⟨rfl, rfl, by simp⟩
theorem Tur.on {k : Nat} {m : List UInt8} {c : UInt8} (h : Tur k m) (hk : k < 6) (hc : lowB c = scN[k]'hk) (h0 : c ≠ 0) : Tur (k + 1) (m ++ [c]) := by
  refine ⟨by simp [h.hl], ?_, ?_⟩
  · rw [lowL_app, h.hw, (scN_at k hk).2.2.2.2.2.2.2, ← hc]
    rfl
  · intro x hx
    rcases List.mem_append.1 hx with hx | hx
    · exact h.h0 x hx
    · simp only [List.mem_singleton] at hx
      subst hx
      exact h0
theorem clean_same : ∀ l : List UInt8, (∀ c ∈ l, c ≠ 0) → cleanL l = l
  | [], _ => rfl
  | c :: t, h => by
    rw [cleanL_cons, clean_same t fun x hx => h x (by simp [hx])]
    unfold cleanB
    rw [if_neg (h c (by simp))]
    rfl
theorem stop_all {s : List UInt8} (h : ∀ c ∈ s, c ≠ 60) : stopP scN s = s.length := by
  have := stop_over scN s [] h
  rw [List.append_nil] at this
  simpa [stopP] using this
theorem halt_all {s : List UInt8} (h : ∀ c ∈ s, c ≠ 60) : haltP scN 0 s = s.length := by
  have := halt0_over scN s [] h
  rw [List.append_nil] at this
  simpa [haltP] using this
theorem end_word {m : List UInt8} (h : Tur 6 m) : wordB (endN scN) (60 :: 47 :: (m ++ [62])) = true := by
  have := word_here (f := endN scN) (m := 60 :: 47 :: m) (c := 62) (x := []) (by show lowL (60 :: 47 :: m) = lowL (60 :: 47 :: scN); rw [show lowL (60 :: 47 :: m) = 60 :: 47 :: lowL m from rfl, h.hw]; rfl) rfl
  exact this
theorem stop_end {s m : List UInt8} (h : ∀ c ∈ s, c ≠ 60) (hm : Tur 6 m) : stopP scN (s ++ 60 :: 47 :: (m ++ [62])) = s.length := by
  rw [stop_over scN s _ h]
  conv => lhs; unfold stopP
  rw [if_pos (end_word hm)]
  rfl
theorem halt_end0 {s m : List UInt8} (h : ∀ c ∈ s, c ≠ 60) (hm : Tur 6 m) : haltP scN 0 (s ++ 60 :: 47 :: (m ++ [62])) = s.length := by
  rw [halt0_over scN s _ h]
  conv => lhs; unfold haltP
  rw [if_pos ⟨by decide, end_word hm⟩]
  rfl
/-- The text alone, in each state. -/
theorem whole_alone {s : List UInt8} (h : ∀ c ∈ s, c ≠ 60) : rawP [115, 99, 114, 105, 112, 116] 1 s = some (refsL false s, s.length) ∧ rawP [115, 99, 114, 105, 112, 116] 2 s = some (cleanL s, s.length) ∧ rawP [115, 99, 114, 105, 112, 116] 3 s = some (cleanL s, s.length) ∧ rawP [115, 99, 114, 105, 112, 116] 4 s = some (cleanL s, s.length) := by
  have e1 := stop_all h
  have e2 := halt_all h
  refine ⟨?_, ?_, ?_, rfl⟩
  · show rawP scN 1 s = _
    unfold rawP
    rw [if_neg (by decide), if_pos rfl, e1, List.take_length]
  · show rawP scN 2 s = _
    unfold rawP
    rw [if_neg (by decide), if_neg (by decide), if_pos rfl, e1, List.take_length]
  · show rawP scN 3 s = _
    unfold rawP
    rw [if_neg (by decide), if_neg (by decide), if_neg (by decide), if_pos rfl, e2, List.take_length]
/-- The text with an end behind it, in each state. -/
theorem whole_end {s m : List UInt8} (h : ∀ c ∈ s, c ≠ 60) (hm : Tur 6 m) : rawP [115, 99, 114, 105, 112, 116] 1 (s ++ 60 :: 47 :: (m ++ [62])) = some (refsL false s, s.length) ∧ rawP [115, 99, 114, 105, 112, 116] 2 (s ++ 60 :: 47 :: (m ++ [62])) = some (cleanL s, s.length) ∧ rawP [115, 99, 114, 105, 112, 116] 3 (s ++ 60 :: 47 :: (m ++ [62])) = some (cleanL s, s.length) ∧ rawP [115, 99, 114, 105, 112, 116] 4 (s ++ 60 :: 47 :: (m ++ [62])) = some (cleanL s ++ 60 :: 47 :: (m ++ [62]), s.length + 9) := by
  have e1 := stop_end h hm
  have e2 := halt_end0 h hm
  refine ⟨?_, ?_, ?_, ?_⟩
  · show rawP scN 1 _ = _
    unfold rawP
    rw [if_neg (by decide), if_pos rfl, e1, List.take_left' rfl]
  · show rawP scN 2 _ = _
    unfold rawP
    rw [if_neg (by decide), if_neg (by decide), if_pos rfl, e1, List.take_left' rfl]
  · show rawP scN 3 _ = _
    unfold rawP
    rw [if_neg (by decide), if_neg (by decide), if_neg (by decide), if_pos rfl, e2, List.take_left' rfl]
  · show some (cleanL (s ++ 60 :: 47 :: (m ++ [62])), (s ++ 60 :: 47 :: (m ++ [62])).length) = _
    rw [cleanL_app, clean_same (60 :: 47 :: (m ++ [62]))]
    · simp [hm.hl]
    · intro c hc
      simp only [List.mem_cons, List.mem_append, List.not_mem_nil, or_false] at hc
      rcases hc with rfl | rfl | hc | rfl
      · decide
      · decide
      · exact hm.h0 c hc
      · decide
set_option maxRecDepth 100000 in
set_option maxHeartbeats 32000000 in
theorem rwhole_walk (s a : List UInt8) (tv : Value) (ts : List Bool) (w : World) (hm : MaxIs w) (hO : OthersIs w) (hs : s.length ≤ maxLen) (ha : a.length ≤ maxLen) (K : BoolsAt w tv ts) :
    Calls Tryd.prog 7 #[.string ⟨⟨s⟩⟩, .string ⟨⟨a⟩⟩, tv] w fun e w' => e = .returned (.bool true) ∧ Below w.heap.size w w' := by
  have h := StR.start hm hO
  clear hm hO
  obtain ⟨ta, cap, rfl, htm, hcells⟩ := K.cells
  have HK := Lib.hid hcells
  clear hcells K
  unfold maxLen at hs ha htm
  by_cases gs : (1000 : Int) < (s.length : Int)
  · go_enter Tryd.func7, Tryd.ntmps7
    go_wp2_with (first | (go_at_call 9; refine (raw_st w _ ?hst).mono ?_; (case hst => exact h.next (by go_grown)); rintro e wz ⟨rfl, hz⟩))
    go_ret
    exact ⟨rfl, hz.1⟩
  by_cases ga : (1000 : Int) < (a.length : Int)
  · go_enter Tryd.func7, Tryd.ntmps7
    go_wp2_with (first | (go_at_call 9; refine (raw_st w _ ?hst).mono ?_; (case hst => exact h.next (by go_grown)); rintro e wz ⟨rfl, hz⟩))
    go_ret
    exact ⟨rfl, hz.1⟩
  have l1 : (s.length : Int) ≤ 1000 := by omega
  have l2 : (a.length : Int) ≤ 1000 := by omega
  have c1 := fun W => has_any s [60] W (by omega) (by decide) (by decide)
  cases hc1 : idxP [60] s with
  | some _ =>
    rw [hc1] at c1
    go_enter Tryd.func7, Tryd.ntmps7
    go_wp2_with (first | (go_at_call 21; refine (c1 _).mono ?_; rintro e w1 ⟨rfl, rfl⟩) | (go_at_call 9; refine (raw_st w _ ?hst).mono ?_; (case hst => exact h.next (by go_grown)); rintro e wz ⟨rfl, hz⟩))
    go_ret
    exact ⟨rfl, hz.1⟩
  | none =>
  rw [hc1] at c1
  have HN := Lib.hid (idx_none 60 _ hc1)
  clear hc1
  go_enter Tryd.func7, Tryd.ntmps7
  go_wp2_with (go_at_call 21; refine (c1 _).mono ?_; rintro e w1 ⟨rfl, rfl⟩)
  clear c1
  go_loopw [8, 9] (fun v i wr => ∃ (k : Nat) (m : List UInt8), v = .string ⟨⟨60 :: 47 :: m⟩⟩ ∧ i = .int .i64 k ∧ k ≤ 6 ∧ m.length ≤ 6 ∧ Hid (Tur k m) ∧ Ext w wr) (fun _ i _ => 6 - (intOf i).toNat)
  case atStart => exact ⟨0, [], rfl, rfl, by omega, by simp, Lib.hid Tur.start, Ext.refl _⟩
  case round =>
    obtain ⟨k, m, rfl, rfl, hk, hml, HT, hx⟩ := hrel
    by_cases hlt : k < 6
    · obtain ⟨c, hc⟩ : ∃ c, scN[k]'hlt = c := ⟨_, rfl⟩
      obtain ⟨s1, s2, s3, s4, s5, s6, s7, _⟩ := scN_at k hlt
      have hml5 : m.length + 1 ≤ 6 := by have := HT.out.hl; omega
      rw [hc] at s1 s2 s3 s4 s5 s6 s7
      have H1 : Hid (Tur (k + 1) (m ++ [c])) := Lib.hid (HT.out.on hlt (by rw [hc]; exact s3) s6)
      have H2 : Hid (Tur (k + 1) (m ++ [c - 32])) := Lib.hid (HT.out.on hlt (by rw [hc]; exact s4) s7)
      have hc2 : ([115, 99, 114, 105, 112, 116] : List UInt8)[k]'hlt = c := hc
      have hcl := c.toNat_lt
      obtain ⟨d, hd⟩ : ∃ d, c - 32 = d := ⟨_, rfl⟩
      rw [hd] at s5 H2
      have hv1 := convR_one wr c (c.toNat : Int) rfl
      have hv2 := convR_one wr d ((c.toNat : Int) - 32) (by omega)
      have k6 : (k : Int) < 6 := by omega
      clear s3 s4 s6 s7 hc hd HT
      by_cases hkt : k < ts.length
      · obtain ⟨b, off, rfl, hb, hcell⟩ := HK.out k hkt
        have hcell2 := (hx.cell (p := ⟨b, off + k, none⟩) hb).trans hcell
        have kt : (k : Int) < (ts.length : Int) := by omega
        obtain ⟨tb, htb⟩ : ∃ tb, ts[k] = tb := ⟨_, rfl⟩
        rw [htb] at hcell2
        clear htb hcell
        cases tb with
        | true =>
          go_wp2_with fail
          go_roundw
          case rel => exact ⟨k + 1, m ++ [d], rfl, by go_num, by omega, by simp; omega, H2, hx.alloc hx.size _⟩
          case measure => simp [intOf]; omega
        | false =>
          go_wp2_with fail
          go_roundw
          case rel => exact ⟨k + 1, m ++ [c], rfl, by go_num, by omega, by simp; omega, H1, hx.alloc hx.size _⟩
          case measure => simp [intOf]; omega
      · have kt : ¬ (k : Int) < (ts.length : Int) := by omega
        go_wp2_with fail
        go_roundw
        case rel => exact ⟨k + 1, m ++ [c], rfl, by go_num, by omega, by simp; omega, H1, hx.alloc hx.size _⟩
        case measure => simp [intOf]; omega
    · obtain rfl : k = 6 := by omega
      obtain ⟨p1, p2, p3, p4⟩ := whole_alone HN.out
      obtain ⟨e1, e2, e3, e4⟩ := whole_end HN.out HT.out
      have hdr : (a ++ (s ++ 60 :: 47 :: (m ++ [62]))).drop a.length = s ++ 60 :: 47 :: (m ++ [62]) := List.drop_left' rfl
      have cc := fun W => cleanR_any s W (by omega)
      have hcll := cleanL_len s
      have t1 := fun w => raw_is (n := [115, 99, 114, 105, 112, 116]) (i := 0) (st := 1) (z := (s.length : Int)) (k := 0) rfl (by omega) p1 (by omega) (by omega) (by decide) w
      have u1 := fun w => raw_is (s := a ++ (s ++ 60 :: 47 :: (m ++ [62]))) (n := [115, 99, 114, 105, 112, 116]) (i := (a.length : Int)) (st := 1) (z := (a.length : Int) + s.length) (k := a.length) rfl (by simp) (by rw [hdr]; exact e1) (by omega) (by simp; omega) (by decide) w
      have t2 := fun w => raw_is (n := [115, 99, 114, 105, 112, 116]) (i := 0) (st := 2) (z := (s.length : Int)) (k := 0) rfl (by omega) p2 (by omega) (by omega) (by decide) w
      have u2 := fun w => raw_is (s := a ++ (s ++ 60 :: 47 :: (m ++ [62]))) (n := [115, 99, 114, 105, 112, 116]) (i := (a.length : Int)) (st := 2) (z := (a.length : Int) + s.length) (k := a.length) rfl (by simp) (by rw [hdr]; exact e2) (by omega) (by simp; omega) (by decide) w
      have t3 := fun w => raw_is (n := [115, 99, 114, 105, 112, 116]) (i := 0) (st := 3) (z := (s.length : Int)) (k := 0) rfl (by omega) p3 (by omega) (by omega) (by decide) w
      have u3 := fun w => raw_is (s := a ++ (s ++ 60 :: 47 :: (m ++ [62]))) (n := [115, 99, 114, 105, 112, 116]) (i := (a.length : Int)) (st := 3) (z := (a.length : Int) + s.length) (k := a.length) rfl (by simp) (by rw [hdr]; exact e3) (by omega) (by simp; omega) (by decide) w
      have t4 := fun w => raw_is (n := [115, 99, 114, 105, 112, 116]) (i := 0) (st := 4) (z := (s.length : Int)) (k := 0) rfl (by omega) p4 (by omega) (by omega) (by decide) w
      have u4 := fun w => raw_is (s := a ++ (s ++ 60 :: 47 :: (m ++ [62]))) (n := [115, 99, 114, 105, 112, 116]) (i := (a.length : Int)) (st := 4) (z := (a.length : Int) + s.length + 9) (k := a.length) rfl (by simp) (by rw [hdr]; exact e4) (by omega) (by simp; omega) (by decide) w
      obtain ⟨x, hxx⟩ : ∃ x, refsL false s = x := ⟨_, rfl⟩
      obtain ⟨y, hyy⟩ : ∃ y, cleanL s = y := ⟨_, rfl⟩
      rw [hxx] at t1 u1
      rw [hyy] at t2 t3 t4 u2 u3 u4 cc hcll
      clear p1 p2 p3 p4 e1 e2 e3 e4 hdr hxx hyy HT HN
      have i0 : ∀ w, (Instr.index 46 (.agg #[.int .i64 1, .int .i64 2, .int .i64 3, .int .i64 4]) (.int .i64 0)).run Tryd.prog w = .ok (.int .i64 1) w := fun _ => by kernel_rfl
      have i1 : ∀ w, (Instr.index 46 (.agg #[.int .i64 1, .int .i64 2, .int .i64 3, .int .i64 4]) (.int .i64 1)).run Tryd.prog w = .ok (.int .i64 2) w := fun _ => by kernel_rfl
      have i2 : ∀ w, (Instr.index 46 (.agg #[.int .i64 1, .int .i64 2, .int .i64 3, .int .i64 4]) (.int .i64 2)).run Tryd.prog w = .ok (.int .i64 3) w := fun _ => by kernel_rfl
      have i3 : ∀ w, (Instr.index 46 (.agg #[.int .i64 1, .int .i64 2, .int .i64 3, .int .i64 4]) (.int .i64 3)).run Tryd.prog w = .ok (.int .i64 4) w := fun _ => by kernel_rfl
      go_wp2_with fail
      refine wp_loop_rounds 5 ?_
      rw [rounds_succ]
      go_wp2_with (first
        | (go_at_call 19; (with_reducible refine (t1 w _ ?hst).mono ?_); (case hst => exact h.next (by go_grown)); rintro e w1 ⟨rfl, x1, _⟩; have y1 := Ext.trans hx x1)
        | (go_at_call 19; (with_reducible refine (u1 w _ ?hst).mono ?_); (case hst => exact h.next (by go_grown)); rintro e v1 ⟨rfl, q1, _⟩; have z1 := Ext.trans y1 q1)
        | (go_at_call 23; refine (cc _).mono ?_; rintro e w9 ⟨rfl, rfl⟩))
      clear t1 u1
      rw [rounds_succ]
      go_wp2_with (first
        | (go_at_call 19; (with_reducible refine (t2 w _ ?hst).mono ?_); (case hst => exact h.next (by go_grown)); rintro e w2 ⟨rfl, x2, _⟩; have y2 := Ext.trans z1 x2)
        | (go_at_call 19; (with_reducible refine (u2 w _ ?hst).mono ?_); (case hst => exact h.next (by go_grown)); rintro e v2 ⟨rfl, q2, _⟩; have z2 := Ext.trans y2 q2)
        | (go_at_call 23; refine (cc _).mono ?_; rintro e w9 ⟨rfl, rfl⟩))
      clear t2 u2
      rw [rounds_succ]
      go_wp2_with (first
        | (go_at_call 19; (with_reducible refine (t3 w _ ?hst).mono ?_); (case hst => exact h.next (by go_grown)); rintro e w3 ⟨rfl, x3, _⟩; have y3 := Ext.trans z2 x3)
        | (go_at_call 19; (with_reducible refine (u3 w _ ?hst).mono ?_); (case hst => exact h.next (by go_grown)); rintro e v3 ⟨rfl, q3, _⟩; have z3 := Ext.trans y3 q3)
        | (go_at_call 23; refine (cc _).mono ?_; rintro e w9 ⟨rfl, rfl⟩))
      clear t3 u3
      rw [rounds_succ]
      go_wp2_with (first
        | (go_at_call 19; (with_reducible refine (t4 w _ ?hst).mono ?_); (case hst => exact h.next (by go_grown)); rintro e w4 ⟨rfl, x4, _⟩; have y4 := Ext.trans z3 x4)
        | (go_at_call 19; (with_reducible refine (u4 w _ ?hst).mono ?_); (case hst => exact h.next (by go_grown)); rintro e v4 ⟨rfl, q4, _⟩; have z4 := Ext.trans y4 q4)
        | (go_at_call 23; refine (cc _).mono ?_; rintro e w9 ⟨rfl, rfl⟩))
      clear t4 u4
      rw [rounds_succ]
      go_wp2_with (go_at_call 9; refine (raw_st w _ ?hst).mono ?_; (case hst => exact h.next (by go_grown)); rintro e wz ⟨rfl, hz⟩)
      go_ret
      exact ⟨rfl, hz.1⟩
end Go.Proofs.YtbolajljfkjfaaaDoor

