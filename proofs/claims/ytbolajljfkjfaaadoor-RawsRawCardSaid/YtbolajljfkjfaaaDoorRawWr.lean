/-
  What is proved: the walk of RawsRaw: it answers true; arguments that ask for a raw text. Conditions: the library's variable holds an integer, the program's table what its text lays.
-/
import Derived.Test.YtbolajljfkjfaaaDoorRawV
import Derived.Test.YtbolajljfkjfaaaDoorRawY
import Derived.ProofKit
import Derived.OpenShut
import Derived.Lib.SmallJoins
namespace Go.Proofs.YtbolajljfkjfaaaDoor
open Go.RowKit Go.Joins

/-- What is asked. -/
structure AskA where
  state : Int
  name : List UInt8
def AskAt (_ : World) (x : Value) (p : AskA) : Prop := x = .agg #[.int .i64 p.state, .string ⟨⟨p.name⟩⟩] ∧ p.name.length ≤ maxLen
theorem cellsAsk : Tryd.prog.cellsOf 33 = 2 := by kernel_rfl
set_option maxRecDepth 100000 in
theorem open_ask {H : Type} {enc : TypeId × Value → H} {w : World} {v : Value} {d : DataW H} {ps : List MemPlace} (hv : Value.okWide Tryd.prog w .any 0 33 v) (h : DataW.Trod enc Tryd.prog w 0 (fun _ => true) true 33 v d ps) : ∃ p, AskAt w v p := by
  obtain ⟨c0, c1, y0, y1, m, rfl, _, _, hy0, hy1⟩ := open_agg2 Tryd.underlying33 (by kernel_rfl) cellsAsk hv h
  obtain ⟨a, e0, _, _⟩ := DataW.trod_int Tryd.underlying3 hy0
  obtain ⟨b, e1, _, hbl⟩ := DataW.trod_string Tryd.underlying9 hy1
  simp only [List.cons.injEq, and_true] at e0 e1
  subst e0 e1
  exact ⟨⟨a, b.data.toList⟩, rfl, hbl⟩
theorem rawV_form (s : List UInt8) (i st : Int) (n : List UInt8) : ∃ t z, rawV s i st n = .tuple #[.string ⟨⟨t⟩⟩, .int .i64 z] := by
  unfold rawV
  split
  · exact ⟨_, _, rfl⟩
  · split
    · exact ⟨_, _, rfl⟩
    · exact ⟨_, _, rfl⟩
/-- Both answers, in a state. -/
theorem raw_both (s n : List UInt8) (i st : Int) (hs : s.length ≤ 2000) (hn : n.length ≤ 100) (h0 : -9223372036854775808 ≤ i) (h1 : i ≤ 9223372036854775807) : ∃ t z,
    (∀ w0 w, StR w0 w → Calls Tryd.prog 19 #[.string ⟨⟨s⟩⟩, .int .i64 i, .int .i64 st, .string ⟨⟨n⟩⟩] w fun e w' => e = .returned (.tuple #[.string ⟨⟨t⟩⟩, .int .i64 z]) ∧ Ext w w') ∧
    (∀ w, Calls Tryd.prog 20 #[.string ⟨⟨s⟩⟩, .int .i64 i, .int .i64 st, .string ⟨⟨n⟩⟩] w fun e w' => e = .returned (.tuple #[.string ⟨⟨t⟩⟩, .int .i64 z]) ∧ Ext w w') := by
  obtain ⟨t, z, h⟩ := rawV_form s i st n
  refine ⟨t, z, fun w0 w hw => ?_, fun w => ?_⟩
  · rw [← h]
    exact raw_any s n i st w hw.2.1 hw.2.2 (othersR_in hw.2.2) (by omega) (by omega) h0 h1
  · rw [← h]
    exact rawR_any s n i st w (by omega) (by omega) h0 h1
theorem ask_cells {w : World} {b : Nat} {T : TypeId} {v0 v1 : Value} (h : w.heap[b]? = some (.cells #[v0, v1] T)) : w.cell? ⟨b, 0, none⟩ = some v0 ∧ w.cell? ⟨b, 1, none⟩ = some v1 := by
  constructor <;> simp [World.cell?, h]
set_option maxRecDepth 100000 in
set_option maxHeartbeats 16000000 in
theorem rraw_walk (s n : List UInt8) (i st : Int) (w : World) (hm : MaxIs w) (hO : OthersIs w) (hs : s.length ≤ maxLen) (hn : n.length ≤ maxLen) (h0 : -9223372036854775808 ≤ i) (h1 : i ≤ 9223372036854775807) :
    Calls Tryd.prog 4 #[.string ⟨⟨s⟩⟩, .int .i64 i, .agg #[.int .i64 st, .string ⟨⟨n⟩⟩]] w fun e w' => e = .returned (.bool true) ∧ Below w.heap.size w w' := by
  have h := StR.start hm hO
  clear hm hO
  unfold maxLen at hs hn
  by_cases g1 : (2000 : Int) < (s.length : Int)
  · go_enter Tryd.func4, Tryd.ntmps4
    go_wp2_with (go_at_call 9; refine (raw_st w _ ?hst).mono ?_; (case hst => exact h.next (by go_grown)); rintro e wz ⟨rfl, hz⟩)
    go_ret
    exact ⟨rfl, hz.1⟩
  by_cases g2 : (100 : Int) < (n.length : Int)
  · go_enter Tryd.func4, Tryd.ntmps4
    go_wp2_with (go_at_call 9; refine (raw_st w _ ?hst).mono ?_; (case hst => exact h.next (by go_grown)); rintro e wz ⟨rfl, hz⟩)
    go_ret
    exact ⟨rfl, hz.1⟩
  have l1 : (s.length : Int) ≤ 2000 := by omega
  have l2 : (n.length : Int) ≤ 100 := by omega
  have hsz : s.length ≤ 2000 := by omega
  have hnz : n.length ≤ 100 := by omega
  obtain ⟨t0, z0, p0, r0⟩ := raw_both s n i st hsz hnz h0 h1
  obtain ⟨t1, z1, p1, r1⟩ := raw_both s n i 0 hsz hnz h0 h1
  obtain ⟨t2, z2, p2, r2⟩ := raw_both s n i 1 hsz hnz h0 h1
  obtain ⟨t3, z3, p3, r3⟩ := raw_both s n i 2 hsz hnz h0 h1
  obtain ⟨t4, z4, p4, r4⟩ := raw_both s n i 3 hsz hnz h0 h1
  obtain ⟨t5, z5, p5, r5⟩ := raw_both s n i 4 hsz hnz h0 h1
  have i0 : ∀ w, (Instr.index 34 (.agg #[.int .i64 st, .int .i64 0, .int .i64 1, .int .i64 2, .int .i64 3, .int .i64 4]) (.int .i64 0)).run Tryd.prog w = .ok (.int .i64 st) w := fun _ => by kernel_rfl
  have i1 : ∀ w, (Instr.index 34 (.agg #[.int .i64 st, .int .i64 0, .int .i64 1, .int .i64 2, .int .i64 3, .int .i64 4]) (.int .i64 1)).run Tryd.prog w = .ok (.int .i64 0) w := fun _ => by kernel_rfl
  have i2 : ∀ w, (Instr.index 34 (.agg #[.int .i64 st, .int .i64 0, .int .i64 1, .int .i64 2, .int .i64 3, .int .i64 4]) (.int .i64 2)).run Tryd.prog w = .ok (.int .i64 1) w := fun _ => by kernel_rfl
  have i3 : ∀ w, (Instr.index 34 (.agg #[.int .i64 st, .int .i64 0, .int .i64 1, .int .i64 2, .int .i64 3, .int .i64 4]) (.int .i64 3)).run Tryd.prog w = .ok (.int .i64 2) w := fun _ => by kernel_rfl
  have i4 : ∀ w, (Instr.index 34 (.agg #[.int .i64 st, .int .i64 0, .int .i64 1, .int .i64 2, .int .i64 3, .int .i64 4]) (.int .i64 4)).run Tryd.prog w = .ok (.int .i64 3) w := fun _ => by kernel_rfl
  have i5 : ∀ w, (Instr.index 34 (.agg #[.int .i64 st, .int .i64 0, .int .i64 1, .int .i64 2, .int .i64 3, .int .i64 4]) (.int .i64 5)).run Tryd.prog w = .ok (.int .i64 4) w := fun _ => by kernel_rfl
  go_enter Tryd.func4, Tryd.ntmps4
  go_wp2_with fail
  refine wp_loop_rounds 7 ?_
  rw [rounds_succ]
  go_wp2_with (first
    | (go_at_call 19; refine (p0 w _ ?hst).mono ?_; (case hst => exact h.next (by go_grown)); rintro e w1 ⟨rfl, x1⟩; obtain ⟨hB1, y1, _⟩ := tok_block x1; obtain ⟨c0, c1⟩ := ask_cells hB1)
    | (go_at_call 20; refine (r0 _).mono ?_; rintro e v1 ⟨rfl, q1⟩; have hC1 := block_on q1 hB1; have u1 := Ext.trans y1 q1; obtain ⟨d0, d1⟩ := ask_cells hC1))
  clear c0 c1 p0 r0
  rw [rounds_succ]
  go_wp2_with (first
    | (go_at_call 19; refine (p1 w _ ?hst).mono ?_; (case hst => exact h.next (by go_grown)); rintro e w2 ⟨rfl, x2⟩; have hB2 := block_on x2 hC1; have y2 := Ext.trans u1 x2; obtain ⟨c0, c1⟩ := ask_cells hB2)
    | (go_at_call 20; refine (r1 _).mono ?_; rintro e v2 ⟨rfl, q2⟩; have hC2 := block_on q2 hB2; have u2 := Ext.trans y2 q2; obtain ⟨d0, d1⟩ := ask_cells hC2))
  clear c0 c1 p1 r1
  rw [rounds_succ]
  go_wp2_with (first
    | (go_at_call 19; refine (p2 w _ ?hst).mono ?_; (case hst => exact h.next (by go_grown)); rintro e w3 ⟨rfl, x3⟩; have hB3 := block_on x3 hC2; have y3 := Ext.trans u2 x3; obtain ⟨c0, c1⟩ := ask_cells hB3)
    | (go_at_call 20; refine (r2 _).mono ?_; rintro e v3 ⟨rfl, q3⟩; have hC3 := block_on q3 hB3; have u3 := Ext.trans y3 q3; obtain ⟨d0, d1⟩ := ask_cells hC3))
  clear c0 c1 p2 r2
  rw [rounds_succ]
  go_wp2_with (first
    | (go_at_call 19; refine (p3 w _ ?hst).mono ?_; (case hst => exact h.next (by go_grown)); rintro e w4 ⟨rfl, x4⟩; have hB4 := block_on x4 hC3; have y4 := Ext.trans u3 x4; obtain ⟨c0, c1⟩ := ask_cells hB4)
    | (go_at_call 20; refine (r3 _).mono ?_; rintro e v4 ⟨rfl, q4⟩; have hC4 := block_on q4 hB4; have u4 := Ext.trans y4 q4; obtain ⟨d0, d1⟩ := ask_cells hC4))
  clear c0 c1 p3 r3
  rw [rounds_succ]
  go_wp2_with (first
    | (go_at_call 19; refine (p4 w _ ?hst).mono ?_; (case hst => exact h.next (by go_grown)); rintro e w5 ⟨rfl, x5⟩; have hB5 := block_on x5 hC4; have y5 := Ext.trans u4 x5; obtain ⟨c0, c1⟩ := ask_cells hB5)
    | (go_at_call 20; refine (r4 _).mono ?_; rintro e v5 ⟨rfl, q5⟩; have hC5 := block_on q5 hB5; have u5 := Ext.trans y5 q5; obtain ⟨d0, d1⟩ := ask_cells hC5))
  clear c0 c1 p4 r4
  rw [rounds_succ]
  go_wp2_with (first
    | (go_at_call 19; refine (p5 w _ ?hst).mono ?_; (case hst => exact h.next (by go_grown)); rintro e w6 ⟨rfl, x6⟩; have hB6 := block_on x6 hC5; have y6 := Ext.trans u5 x6; obtain ⟨c0, c1⟩ := ask_cells hB6)
    | (go_at_call 20; refine (r5 _).mono ?_; rintro e v6 ⟨rfl, q6⟩; have hC6 := block_on q6 hB6; have u6 := Ext.trans y6 q6; obtain ⟨d0, d1⟩ := ask_cells hC6))
  clear c0 c1 p5 r5
  rw [rounds_succ]
  go_wp2_with (go_at_call 9; refine (raw_st w _ ?hst).mono ?_; (case hst => exact h.next (by go_grown)); rintro e wz ⟨rfl, hz⟩)
  go_ret
  exact ⟨rfl, hz.1⟩
theorem rraw_walkP (s : List UInt8) (i : Int) (v : Value) (p : AskA) (w : World) (hm : MaxIs w) (hO : OthersIs w) (hs : s.length ≤ maxLen) (hp : AskAt w v p) (h0 : -9223372036854775808 ≤ i) (h1 : i ≤ 9223372036854775807) :
    Calls Tryd.prog 4 #[.string ⟨⟨s⟩⟩, .int .i64 i, v] w fun e w' => e = .returned (.bool true) ∧ Below w.heap.size w w' := by
  obtain ⟨rfl, hn⟩ := hp
  exact rraw_walk s p.name i p.state w hm hO hs hn h0 h1
end Go.Proofs.YtbolajljfkjfaaaDoor

