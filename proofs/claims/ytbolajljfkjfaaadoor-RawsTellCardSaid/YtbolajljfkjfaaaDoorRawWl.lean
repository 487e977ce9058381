/-
  What is proved: the walk of RawsTell: it answers true. Conditions: the library's variable holds an integer, the program's table what its text lays.
-/
import Derived.Test.YtbolajljfkjfaaaDoorRawN
import Derived.Test.YtbolajljfkjfaaaDoorRawS
import Derived.Test.YtbolajljfkjfaaaDoorRawY
namespace Go.Proofs.YtbolajljfkjfaaaDoor
open Go.RowKit

/-- What a token's answer looks like. -/
def TokForm (v : Value) : Prop := ∃ (k : Int) (n t : List UInt8) (q : Bool) (f o z : Int), v = .tuple #[.agg #[.int .i64 k, .string ⟨⟨n⟩⟩, .string ⟨⟨t⟩⟩, .slice none 0 0, .bool false, .bool false, .bool q, .int .i64 f, .int .i64 o], .int .i64 z]
theorem comR_form (s : List UInt8) (i : Int) : TokForm (comR s i) := by
  unfold comR
  split
  · exact ⟨_, _, _, _, _, _, _, rfl⟩
  · exact ⟨_, _, _, _, _, _, _, rfl⟩
theorem bogV_form (s : List UInt8) (i : Int) : TokForm (bogV s i) := by
  unfold bogV
  split
  · exact ⟨_, _, _, _, _, _, _, rfl⟩
  · exact ⟨_, _, _, _, _, _, _, rfl⟩
theorem docV_form (s : List UInt8) (i : Int) : TokForm (docV s i) := by
  unfold docV
  split
  · exact ⟨_, _, _, _, _, _, _, rfl⟩
  · exact ⟨_, _, _, _, _, _, _, rfl⟩
theorem cdV_form (s : List UInt8) (i : Int) : ∃ t z, cdV s i = .tuple #[.string ⟨⟨t⟩⟩, .int .i64 z] := by
  unfold cdV
  split
  · exact ⟨_, _, rfl⟩
  · exact ⟨_, _, rfl⟩
set_option maxRecDepth 100000 in
set_option maxHeartbeats 16000000 in
theorem rtell_walk (s : List UInt8) (i : Int) (w : World) (hm : MaxIs w) (hO : OthersIs w) (hs : s.length ≤ maxLen) (h0 : -9223372036854775808 ≤ i) (h1 : i ≤ 9223372036854775807) :
    Calls Tryd.prog 3 #[.string ⟨⟨s⟩⟩, .int .i64 i] w fun e w' => e = .returned (.bool true) ∧ Below w.heap.size w w' := by
  have h := StR.start hm hO
  clear hm hO
  unfold maxLen at hs
  by_cases g1 : (2000 : Int) < (s.length : Int)
  · go_enter Tryd.func3, Tryd.ntmps3
    go_wp2_with (go_at_call 9; refine (raw_st w _ ?hst).mono ?_; (case hst => exact h.next (by go_grown)); rintro e wz ⟨rfl, hz⟩)
    go_ret
    exact ⟨rfl, hz.1⟩
  have l1 : (s.length : Int) ≤ 2000 := by omega
  have hsl : s.length ≤ 2000 := by omega
  obtain ⟨k1, n1, t1, q1, f1, o1, z1, e1⟩ := comR_form s i
  have p1 := fun W hW => com_any s i W hW (by omega) h0 h1
  have r1 := fun W => comR_any s i W (by omega) h0 h1
  rw [e1] at p1 r1
  obtain ⟨k2, n2, t2, q2, f2, o2, z2, e2⟩ := bogV_form s i
  have p2 := fun W hW => bog_any s i W hW (by omega) h0 h1
  have r2 := fun W => bogR_any s i W (by omega) h0 h1
  rw [e2] at p2 r2
  obtain ⟨k3, n3, t3, q3, f3, o3, z3, e3⟩ := docV_form s i
  have p3 := fun W hW => doc_any s i W hW (by omega) h0 h1
  have r3 := fun W => docR_any s i W (by omega) h0 h1
  rw [e3] at p3 r3
  obtain ⟨t4, z4, e4⟩ := cdV_form s i
  have p4 := fun W hW => cd_any s i W hW (by omega) h0 h1
  have r4 := fun W => cdR_any s i W (by omega) h0 h1
  rw [e4] at p4 r4
  clear e1 e2 e3 e4
  go_enter Tryd.func3, Tryd.ntmps3
  go_wp2_with (first
    | (go_at_call 10; refine (p1 _ ?hq).mono ?_; (case hq => exact h.2.1.ext (by go_grown)); rintro e w1 ⟨rfl, x1⟩; have y1 : Ext w w1 := Ext.trans (by go_grown) x1; have m1 := y1.size)
    | (go_at_call 11; refine (r1 _).mono ?_; rintro e w2 ⟨rfl, x2⟩; have y2 : Ext w w2 := Ext.trans (by go_grown) x2; have m2 := y2.size; have bA2 := (tok_block x2).1)
    | (go_at_call 12; refine (p2 _ ?hq).mono ?_; (case hq => exact h.2.1.ext (by go_grown)); rintro e w3 ⟨rfl, x3⟩; have y3 : Ext w w3 := Ext.trans (by go_grown) x3; have m3 := y3.size; have bB3 := (tok_block x3).1; have bA3 := block_on x3 (block_on ((Below.refl _ _).alloc (Nat.le_refl _) _) bA2))
    | (go_at_call 13; refine (r2 _).mono ?_; rintro e w4 ⟨rfl, x4⟩; have y4 : Ext w w4 := Ext.trans (by go_grown) x4; have m4 := y4.size; have bC4 := (tok_block x4).1; have bA4 := block_on x4 (block_on ((Below.refl _ _).alloc (Nat.le_refl _) _) bA3); have bB4 := block_on x4 (block_on ((Below.refl _ _).alloc (Nat.le_refl _) _) bB3))
    | (go_at_call 14; refine (p3 _ ?hq).mono ?_; (case hq => exact h.2.1.ext (by go_grown)); rintro e w5 ⟨rfl, x5⟩; have y5 : Ext w w5 := Ext.trans (by go_grown) x5; have m5 := y5.size; have bD5 := (tok_block x5).1; have bA5 := block_on x5 (block_on ((Below.refl _ _).alloc (Nat.le_refl _) _) bA4); have bB5 := block_on x5 (block_on ((Below.refl _ _).alloc (Nat.le_refl _) _) bB4); have bC5 := block_on x5 (block_on ((Below.refl _ _).alloc (Nat.le_refl _) _) bC4))
    | (go_at_call 15; refine (r3 _).mono ?_; rintro e w6 ⟨rfl, x6⟩; have y6 : Ext w w6 := Ext.trans (by go_grown) x6; have m6 := y6.size; have bE6 := (tok_block x6).1; have bA6 := block_on x6 (block_on ((Below.refl _ _).alloc (Nat.le_refl _) _) bA5); have bB6 := block_on x6 (block_on ((Below.refl _ _).alloc (Nat.le_refl _) _) bB5); have bC6 := block_on x6 (block_on ((Below.refl _ _).alloc (Nat.le_refl _) _) bC5); have bD6 := block_on x6 (block_on ((Below.refl _ _).alloc (Nat.le_refl _) _) bD5))
    | (go_at_call 16; refine (p4 _ ?hq).mono ?_; (case hq => exact h.2.1.ext (by go_grown)); rintro e w7 ⟨rfl, x7⟩; have y7 : Ext w w7 := Ext.trans (by go_grown) x7; have m7 := y7.size; have bF7 := (tok_block x7).1; have bA7 := block_on x7 (block_on ((Below.refl _ _).alloc (Nat.le_refl _) _) bA6); have bB7 := block_on x7 (block_on ((Below.refl _ _).alloc (Nat.le_refl _) _) bB6); have bC7 := block_on x7 (block_on ((Below.refl _ _).alloc (Nat.le_refl _) _) bC6); have bD7 := block_on x7 (block_on ((Below.refl _ _).alloc (Nat.le_refl _) _) bD6); have bE7 := block_on x7 (block_on ((Below.refl _ _).alloc (Nat.le_refl _) _) bE6))
    | (go_at_call 17; refine (r4 _).mono ?_; rintro e w8 ⟨rfl, x8⟩; have y8 : Ext w w8 := Ext.trans (by go_grown) x8; have m8 := y8.size; have bA8 := block_on x8 bA7; have bB8 := block_on x8 bB7; have bC8 := block_on x8 bC7; have bD8 := block_on x8 bD7; have bE8 := block_on x8 bE7; have bF8 := block_on x8 bF7; obtain ⟨⟨c0, c1, c2, c3, c4, c5, c6, c7, c8⟩, _⟩ := tok_cells bA8; obtain ⟨⟨d0, d1, d2, d3, d4, d5, d6, d7, d8⟩, _⟩ := tok_cells bB8))
  refine (same_tok k1 f1 o1 n1 t1 q1 w _ ?hst1).mono ?_
  case hst1 => exact h.next (by go_grown)
  rintro e w9 ⟨rfl, x9, _⟩
  have y9 : Ext w w9 := Ext.trans (by go_grown) x9
  have m9 := y9.size
  clear c0 c1 c2 c3 c4 c5 c6 c7 c8 d0 d1 d2 d3 d4 d5 d6 d7 d8
  have bC9 := block_on x9 bC8
  have bD9 := block_on x9 bD8
  have bE9 := block_on x9 bE8
  have bF9 := block_on x9 bF8
  obtain ⟨⟨c0, c1, c2, c3, c4, c5, c6, c7, c8⟩, _⟩ := tok_cells bC9
  obtain ⟨⟨d0, d1, d2, d3, d4, d5, d6, d7, d8⟩, _⟩ := tok_cells bD9
  go_wp2_with fail
  refine (same_tok k2 f2 o2 n2 t2 q2 w _ ?hst2).mono ?_
  case hst2 => exact h.next (by go_grown)
  rintro e w10 ⟨rfl, x10, _⟩
  have y10 : Ext w w10 := Ext.trans (by go_grown) x10
  have m10 := y10.size
  clear c0 c1 c2 c3 c4 c5 c6 c7 c8 d0 d1 d2 d3 d4 d5 d6 d7 d8
  have bE10 := block_on x10 bE9
  have bF10 := block_on x10 bF9
  obtain ⟨⟨c0, c1, c2, c3, c4, c5, c6, c7, c8⟩, _⟩ := tok_cells bE10
  obtain ⟨⟨d0, d1, d2, d3, d4, d5, d6, d7, d8⟩, _⟩ := tok_cells bF10
  go_wp2_with fail
  refine (same_tok k3 f3 o3 n3 t3 q3 w _ ?hst3).mono ?_
  case hst3 => exact h.next (by go_grown)
  rintro e w11 ⟨rfl, x11, _⟩
  have y11 : Ext w w11 := Ext.trans (by go_grown) x11
  have m11 := y11.size
  clear c0 c1 c2 c3 c4 c5 c6 c7 c8 d0 d1 d2 d3 d4 d5 d6 d7 d8
  go_wp2_with fail
  refine (raw_st w _ ?hsz).mono ?_
  case hsz => exact h.next (by go_grown)
  rintro e wz ⟨rfl, hz⟩
  go_wp2_with fail
  go_ret
  exact ⟨rfl, hz.1⟩
end Go.Proofs.YtbolajljfkjfaaaDoor

