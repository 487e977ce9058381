/-
  What is proved: comments, what is told as a comment, marked texts, as the program reads them: contracts. Conditions: texts of less than 100000 bytes; the library's variable holds an integer.
-/
import Derived.Test.YtbolajljfkjfaaaDoorRawB
namespace Go.Proofs.YtbolajljfkjfaaaDoor
open Go.RowKit

/-- What is told of a text from a place on, and where it ends. -/
def tokR (x : Value) (n : Int) : Value := .tuple #[x, .int .i64 n]
def noneR : Value := tokR (tokV 0 [] [] false 0 0) 0
def comR (s : List UInt8) (i : Int) : Value := match behI openC s i with
  | none => noneR
  | some r => tokR (tokV 4 [] (cleanL (cmM 0 r).1) false i (i + 4 + (cmM 0 r).2)) (i + 4 + (cmM 0 r).2)
theorem behI_some {f s r : List UInt8} {i : Int} (h : behI f s i = some r) : 0 ≤ i ∧ i ≤ s.length ∧ r = (s.drop i.toNat).drop f.length ∧ i + f.length + r.length = s.length ∧ standsB f (s.drop i.toNat) = true := by
  unfold behI at h
  split at h
  · cases h
  · rename_i h1
    split at h
    · rename_i h2
      cases h
      have h3 := standsB_le h2
      simp only [List.length_drop] at h3 ⊢
      exact ⟨by omega, by omega, trivial, by omega, h2⟩
    · cases h
theorem tok_cells {w : World} {b : Nat} {T : TypeId} {v0 v1 v2 v3 v4 v5 v6 v7 v8 : Value} (h : w.heap[b]? = some (.cells #[v0, v1, v2, v3, v4, v5, v6, v7, v8] T)) : (w.cell? ⟨b, 0, none⟩ = some v0 ∧ w.cell? ⟨b, 1, none⟩ = some v1 ∧ w.cell? ⟨b, 2, none⟩ = some v2 ∧ w.cell? ⟨b, 3, none⟩ = some v3 ∧ w.cell? ⟨b, 4, none⟩ = some v4 ∧ w.cell? ⟨b, 5, none⟩ = some v5 ∧ w.cell? ⟨b, 6, none⟩ = some v6 ∧ w.cell? ⟨b, 7, none⟩ = some v7 ∧ w.cell? ⟨b, 8, none⟩ = some v8) ∧ (w.frozen? ⟨b, 0, none⟩ = false ∧ w.frozen? ⟨b, 1, none⟩ = false ∧ w.frozen? ⟨b, 2, none⟩ = false ∧ w.frozen? ⟨b, 3, none⟩ = false ∧ w.frozen? ⟨b, 4, none⟩ = false ∧ w.frozen? ⟨b, 5, none⟩ = false ∧ w.frozen? ⟨b, 6, none⟩ = false ∧ w.frozen? ⟨b, 7, none⟩ = false ∧ w.frozen? ⟨b, 8, none⟩ = false) := by
  refine ⟨⟨?_, ?_, ?_, ?_, ?_, ?_, ?_, ?_, ?_⟩, ?_, ?_, ?_, ?_, ?_, ?_, ?_, ?_, ?_⟩
  all_goals first | simp [World.cell?, h] | (simp only [World.frozen?, h]; simp)
theorem tok_block {w w1 : World} {o : Obj} (x : Ext (w.alloc o) w1) : w1.heap[w.heap.size]? = some o ∧ Ext w w1 ∧ w.heap.size < w1.heap.size :=
  ⟨(x.block w.heap.size (by simp)).trans (heap_alloc_new w _), ((Below.refl _ _).alloc (Nat.le_refl _) _).trans (x.mono (by simp)), by have := x.size; simp at this; omega⟩
theorem behind_none {s f : List UInt8} {i : Int} (h : behI f s i = none) (hs : s.length < 100000) (hf : f.length < 100000) (h0 : -9223372036854775808 ≤ i) (h1 : i ≤ 9223372036854775807) : ∀ w : World,
    Calls Tryd.prog 28 #[.string ⟨⟨s⟩⟩, .int .i64 i, .string ⟨⟨f⟩⟩] w fun e w' => e = .returned (.tuple #[.string ⟨⟨[]⟩⟩, .bool false]) ∧ Ext w w' := fun w => by
  have := behind_any s f i w hs hf h0 h1
  rw [h] at this
  exact this
theorem behind_some {s f r : List UInt8} {i : Int} (h : behI f s i = some r) (hs : s.length < 100000) (hf : f.length < 100000) (h0 : -9223372036854775808 ≤ i) (h1 : i ≤ 9223372036854775807) : ∀ w : World,
    Calls Tryd.prog 28 #[.string ⟨⟨s⟩⟩, .int .i64 i, .string ⟨⟨f⟩⟩] w fun e w' => e = .returned (.tuple #[.string ⟨⟨r⟩⟩, .bool true]) ∧ Ext w w' := fun w => by
  have := behind_any s f i w hs hf h0 h1
  rw [h] at this
  exact this
theorem upto_at {s t u : List UInt8} {n : Nat} {b : Bool} (h : upB t s = (u, n, b)) (hl : s.length < 100000) (ht : t.length < 100000) : ∀ w : World, MaxIs w →
    Calls Tryd.prog 34 #[.string ⟨⟨s⟩⟩, .string ⟨⟨t⟩⟩] w fun e w' => e = .returned (.tuple #[.string ⟨⟨u⟩⟩, .int .i64 (n : Int), .bool b]) ∧ w = w' := fun w hm => by
  have := upto_any s t w hm hl ht
  rw [h] at this
  exact this
theorem comment_at {r t : List UInt8} {n : Nat} (h : cmM 0 r = (t, n)) (hr : r.length < 100000) : ∀ w : World,
    Calls Tryd.prog 29 #[.string ⟨⟨r⟩⟩] w fun e w' => e = .returned (.tuple #[.string ⟨⟨t⟩⟩, .int .i64 (n : Int)]) ∧ Ext w w' := fun w => by
  have := comment_any r w hr
  rw [h] at this
  exact this
theorem token_at (k f o : Int) (t : List UInt8) (w : World) :
    Calls Tryd.prog 30 #[.int .i64 k, .int .i64 f, .int .i64 o, .string ⟨⟨t⟩⟩] w fun e w' => e = .returned (.tuple #[.agg #[.int .i64 k, .string ⟨⟨[]⟩⟩, .string ⟨⟨t⟩⟩, .slice none 0 0, .bool false, .bool false, .bool false, .int .i64 f, .int .i64 o], .int .i64 o]) ∧ Ext w w' := token_any k f o t w
set_option maxHeartbeats 4000000 in
theorem com_any (s : List UInt8) (i : Int) (w : World) (hm : MaxIs w) (hs : s.length < 100000) (h0 : -9223372036854775808 ≤ i) (h1 : i ≤ 9223372036854775807) :
    Calls Tryd.prog 10 #[.string ⟨⟨s⟩⟩, .int .i64 i] w fun e w' => e = .returned (comR s i) ∧ Ext w w' := by
  unfold comR
  cases hb : behI openC s i with
  | none =>
    have cb := behind_none hb hs (by decide) h0 h1
    clear hb
    go_enter Tryd.func10, Tryd.ntmps10
    go_wp2_with (go_at_call 28; refine (cb _).mono ?_; rintro e w1 ⟨rfl, x1⟩; obtain ⟨hB, x2, hz⟩ := tok_block x1; obtain ⟨⟨c0, c1, c2, c3, c4, c5, c6, c7, c8⟩, f0, f1, f2, f3, f4, f5, f6, f7, f8⟩ := tok_cells hB)
    refine bodyPost_ret (v := noneR) (by simp [results, Tryd.results10, go_sem, tokV, noneR, tokR, c0, c1, c2, c3, c4, c5, c6, c7, c8]) rfl ⟨rfl, ?_⟩
    go_grown
  | some r =>
    have cb := behind_some hb hs (by decide) h0 h1
    obtain ⟨q1, q2, q3, q4, q5⟩ := behI_some hb
    obtain ⟨t, n, hc⟩ : ∃ t n, cmM 0 r = (t, n) := ⟨_, _, rfl⟩
    have hrl : r.length < 100000 := by omega
    have cc := comment_at hc hrl
    have hn := cmM_le r 0
    have ht := (cmM_len r).1
    simp only [hc] at hn ht ⊢
    have hol : (4 : Int) = (openC.length : Int) := rfl
    have hsum : i + 4 + (n : Int) ≤ s.length := by omega
    clear q5 q3 hb hol
    go_enter Tryd.func10, Tryd.ntmps10
    go_wp2_with (first
      | (go_at_call 28; refine (cb _).mono ?_; rintro e w1 ⟨rfl, x1⟩; obtain ⟨_, _, hz⟩ := tok_block x1; have hm1 := (hm.ext ((Below.refl _ _).alloc (Nat.le_refl _) _)).ext x1)
      | (go_at_call 29; refine (cc _).mono ?_; rintro e w2 ⟨rfl, x2⟩; have hm2 := hm1.ext x2)
      | (go_at_call 31; refine (clean_any t _ hm2 (by omega)).mono ?_; rintro e w3 ⟨rfl, x3⟩)
      | (go_at_call 30; refine (token_at _ _ _ _ _).mono ?_; rintro e w4 ⟨rfl, x4⟩; obtain ⟨hB, x5, hz4⟩ := tok_block (((x1.trans x2).trans x3).trans x4); obtain ⟨⟨c0, c1, c2, c3, c4, c5, c6, c7, c8⟩, f0, f1, f2, f3, f4, f5, f6, f7, f8⟩ := tok_cells hB))
    refine bodyPost_ret (v := tokR (tokV 4 [] (cleanL t) false i (i + 4 + n)) (i + 4 + n)) (by simp [results, Tryd.results10, go_sem, tokV, tokR, c0, c1, c2, c3, c4, c5, c6, c7, c8]) rfl ⟨rfl, ?_⟩
    go_grown
end Go.Proofs.YtbolajljfkjfaaaDoor
