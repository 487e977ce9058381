/-
  What is proved: the chapter's examples hold of the program ('raw'); whether two tokens without attributes are the same: contracts. Conditions: the library's variable holds an integer, the program's table what its text lays.
-/
import Derived.Test.YtbolajljfkjfaaaDoorRawG
import Derived.Test.YtbolajljfkjfaaaDoorRawM
namespace Go.Proofs.YtbolajljfkjfaaaDoor
open Go.RowKit

/-- What holds of the world from call to call. -/
def StR (w0 w : World) : Prop := Ext w0 w ∧ MaxIs w ∧ OthersIs w
theorem othersR_in {w : World} (h : OthersIs w) : 3 < w.heap.size := by
  have h0 := h 0 (by omega)
  unfold World.cell? at h0
  apply Classical.byContradiction
  intro hn
  rw [Array.getElem?_eq_none (Nat.le_of_not_lt hn)] at h0
  simp at h0
theorem StR.next {w0 w w' : World} (h : StR w0 w) (k : Ext w w') : StR w0 w' := ⟨Ext.trans h.1 k, h.2.1.ext k, h.2.2.ext k (othersR_in h.2.2)⟩
theorem StR.start {w : World} (hm : MaxIs w) (hO : OthersIs w) : StR w w := ⟨Ext.refl _, hm, hO⟩
/-- A comment at a place. -/
def comI (s : List UInt8) (i : Int) : Option (List UInt8 × Nat) := (behI openC s i).map fun r => (cleanL (cmM 0 r).1, 4 + (cmM 0 r).2)
theorem com_is {s t : List UInt8} {i z : Int} {n : Nat} (h : comI s i = some (t, n)) (hz : i + (n : Int) = z) (hs : s.length < 100000) (h0 : -9223372036854775808 ≤ i) (h1 : i ≤ 9223372036854775807) (w0 w : World) (hw : StR w0 w) :
    Calls Tryd.prog 10 #[.string ⟨⟨s⟩⟩, .int .i64 i] w fun e w' => e = .returned (.tuple #[.agg #[.int .i64 4, .string ⟨⟨[]⟩⟩, .string ⟨⟨t⟩⟩, .slice none 0 0, .bool false, .bool false, .bool false, .int .i64 i, .int .i64 z], .int .i64 z]) ∧ Ext w w' ∧ StR w0 w' := by
  refine (com_any s i w hw.2.1 hs h0 h1).mono ?_
  rintro e w' ⟨rfl, x⟩
  refine ⟨?_, x, hw.next x⟩
  unfold comI at h
  unfold comR
  cases hb : behI openC s i with
  | none => rw [hb] at h; cases h
  | some r =>
    rw [hb] at h
    simp only [Option.map_some, Option.some.injEq, Prod.mk.injEq] at h
    obtain ⟨rfl, rfl⟩ := h
    have e1 : i + 4 + ((cmM 0 r).2 : Int) = z := by omega
    simp only [e1]
    rfl
theorem com_not {s : List UInt8} {i : Int} (h : behI openC s i = none) (hs : s.length < 100000) (h0 : -9223372036854775808 ≤ i) (h1 : i ≤ 9223372036854775807) (w0 w : World) (hw : StR w0 w) :
    Calls Tryd.prog 10 #[.string ⟨⟨s⟩⟩, .int .i64 i] w fun e w' => e = .returned (.tuple #[.agg #[.int .i64 0, .string ⟨⟨[]⟩⟩, .string ⟨⟨[]⟩⟩, .slice none 0 0, .bool false, .bool false, .bool false, .int .i64 0, .int .i64 0], .int .i64 0]) ∧ Ext w w' ∧ StR w0 w' := by
  refine (com_any s i w hw.2.1 hs h0 h1).mono ?_
  rintro e w' ⟨rfl, x⟩
  refine ⟨?_, x, hw.next x⟩
  unfold comR
  rw [h]
  rfl
theorem bog_is {s t : List UInt8} {i z : Int} {n : Nat} (h : bogI s i = some (t, n)) (hz : i + (n : Int) = z) (hs : s.length < 100000) (h0 : -9223372036854775808 ≤ i) (h1 : i ≤ 9223372036854775807) (w0 w : World) (hw : StR w0 w) :
    Calls Tryd.prog 12 #[.string ⟨⟨s⟩⟩, .int .i64 i] w fun e w' => e = .returned (.tuple #[.agg #[.int .i64 4, .string ⟨⟨[]⟩⟩, .string ⟨⟨cleanL t⟩⟩, .slice none 0 0, .bool false, .bool false, .bool false, .int .i64 i, .int .i64 z], .int .i64 z]) ∧ Ext w w' ∧ StR w0 w' := by
  refine (bog_any s i w hw.2.1 hs h0 h1).mono ?_
  rintro e w' ⟨rfl, x⟩
  refine ⟨?_, x, hw.next x⟩
  unfold bogV
  rw [h]
  simp only [hz]
  rfl
theorem doc_is {s nm : List UInt8} {q : Bool} {i z : Int} {n : Nat} (h : docI s i = some (nm, q, n)) (hz : i + (n : Int) = z) (hs : s.length < 30000) (h0 : -9223372036854775808 ≤ i) (h1 : i ≤ 9223372036854775807) (w0 w : World) (hw : StR w0 w) :
    Calls Tryd.prog 14 #[.string ⟨⟨s⟩⟩, .int .i64 i] w fun e w' => e = .returned (.tuple #[.agg #[.int .i64 1, .string ⟨⟨nm⟩⟩, .string ⟨⟨[]⟩⟩, .slice none 0 0, .bool false, .bool false, .bool q, .int .i64 i, .int .i64 z], .int .i64 z]) ∧ Ext w w' ∧ StR w0 w' := by
  refine (doc_any s i w hw.2.1 hs h0 h1).mono ?_
  rintro e w' ⟨rfl, x⟩
  refine ⟨?_, x, hw.next x⟩
  rw [docV_some h hz]
  rfl
theorem cd_is {s t : List UInt8} {i z : Int} {n : Nat} (h : cdI s i = some (t, n)) (hz : i + (n : Int) = z) (hs : s.length < 100000) (h0 : -9223372036854775808 ≤ i) (h1 : i ≤ 9223372036854775807) (w0 w : World) (hw : StR w0 w) :
    Calls Tryd.prog 16 #[.string ⟨⟨s⟩⟩, .int .i64 i] w fun e w' => e = .returned (.tuple #[.string ⟨⟨t⟩⟩, .int .i64 z]) ∧ Ext w w' ∧ StR w0 w' := by
  refine (cd_any s i w hw.2.1 hs h0 h1).mono ?_
  rintro e w' ⟨rfl, x⟩
  refine ⟨?_, x, hw.next x⟩
  unfold cdV
  rw [h]
  simp only [hz]
theorem cd_not {s : List UInt8} {i : Int} (h : cdI s i = none) (hs : s.length < 100000) (h0 : -9223372036854775808 ≤ i) (h1 : i ≤ 9223372036854775807) (w0 w : World) (hw : StR w0 w) :
    Calls Tryd.prog 16 #[.string ⟨⟨s⟩⟩, .int .i64 i] w fun e w' => e = .returned (.tuple #[.string ⟨⟨[]⟩⟩, .int .i64 0]) ∧ Ext w w' ∧ StR w0 w' := by
  refine (cd_any s i w hw.2.1 hs h0 h1).mono ?_
  rintro e w' ⟨rfl, x⟩
  refine ⟨?_, x, hw.next x⟩
  unfold cdV
  rw [h]
theorem raw_is {s n t : List UInt8} {i st z : Int} {k m : Nat} (hi : i = (k : Int)) (hk : k ≤ s.length) (h : rawP n st (s.drop k) = some (t, m)) (hz : i + (m : Int) = z) (hs : s.length < 100000) (hn : n.length < 90000) (w0 w : World) (hw : StR w0 w) :
    Calls Tryd.prog 19 #[.string ⟨⟨s⟩⟩, .int .i64 i, .int .i64 st, .string ⟨⟨n⟩⟩] w fun e w' => e = .returned (.tuple #[.string ⟨⟨t⟩⟩, .int .i64 z]) ∧ Ext w w' ∧ StR w0 w' := by
  subst hi
  refine (raw_any s n k st w hw.2.1 hw.2.2 (othersR_in hw.2.2) hs hn (by omega) (by omega)).mono ?_
  rintro e w' ⟨rfl, x⟩
  refine ⟨?_, x, hw.next x⟩
  rw [rawV_in hk h]
  subst hz
  rfl
/-! ### the examples -/
theorem says_st {s t : List UInt8} {n : Int} {m : Nat} (h : comI s 0 = some (t, m)) (hm : ((m : Nat) : Int) = n) (hs : s.length < 100000) (w0 w : World) (hw : StR w0 w) :
    Calls Tryd.prog 24 #[.string ⟨⟨s⟩⟩, .string ⟨⟨t⟩⟩, .int .i64 n] w fun e w' => e = .returned (.bool true) ∧ StR w0 w' := by
  have cc := com_is (z := n) h (by omega) hs (by omega) (by omega) w0
  clear h hm
  go_enter Tryd.func24, Tryd.ntmps24
  go_wp2_with (go_at_call 10; refine (cc _ hw).mono ?_; rintro e w1 ⟨rfl, x1, h1⟩)
  go_ret
  refine ⟨by simp, h1.next ?_⟩
  go_grown
theorem odd_st {s t : List UInt8} {m : Nat} (h : bogI s 0 = some (t, m)) (hm : m = s.length) (hs : s.length < 100000) (w0 w : World) (hw : StR w0 w) :
    Calls Tryd.prog 25 #[.string ⟨⟨s⟩⟩, .string ⟨⟨cleanL t⟩⟩] w fun e w' => e = .returned (.bool true) ∧ StR w0 w' := by
  have cc := bog_is (z := s.length) h (by omega) hs (by omega) (by omega) w0
  clear h hm
  go_enter Tryd.func25, Tryd.ntmps25
  go_wp2_with (go_at_call 12; refine (cc _ hw).mono ?_; rintro e w1 ⟨rfl, x1, h1⟩)
  go_ret
  refine ⟨by simp, h1.next ?_⟩
  go_grown
theorem kind_st {s t : List UInt8} {q : Bool} {m : Nat} (h : docI s 0 = some (t, q, m)) (hm : m = s.length) (hs : s.length < 30000) (w0 w : World) (hw : StR w0 w) :
    Calls Tryd.prog 26 #[.string ⟨⟨s⟩⟩, .string ⟨⟨t⟩⟩, .bool q] w fun e w' => e = .returned (.bool true) ∧ StR w0 w' := by
  have cc := doc_is (z := s.length) h (by omega) hs (by omega) (by omega) w0
  clear h hm
  go_enter Tryd.func26, Tryd.ntmps26
  go_wp2_with (go_at_call 14; refine (cc _ hw).mono ?_; rintro e w1 ⟨rfl, x1, h1⟩)
  go_ret
  refine ⟨by simp, h1.next ?_⟩
  go_grown
theorem goes_st {s n t : List UInt8} {st z : Int} {m : Nat} (h : rawP n st s = some (t, m)) (hz : (m : Int) = z) (hs : s.length < 100000) (hn : n.length < 90000) (w0 w : World) (hw : StR w0 w) :
    Calls Tryd.prog 27 #[.string ⟨⟨s⟩⟩, .int .i64 st, .string ⟨⟨n⟩⟩, .string ⟨⟨t⟩⟩, .int .i64 z] w fun e w' => e = .returned (.bool true) ∧ StR w0 w' := by
  have cc := raw_is (i := 0) (z := z) (k := 0) rfl (by omega) h (by omega) hs hn w0
  clear h hz
  go_enter Tryd.func27, Tryd.ntmps27
  go_wp2_with (go_at_call 19; refine (cc _ hw).mono ?_; rintro e w1 ⟨rfl, x1, h1⟩)
  go_ret
  exact ⟨by simp, h1⟩
set_option maxRecDepth 100000 in
set_option maxHeartbeats 8000000 in
theorem raw_st (w0 w : World) (h : StR w0 w) : Calls Tryd.prog 9 #[] w fun e w' => e = .returned (.bool true) ∧ StR w0 w' := by
  go_enter Tryd.func9, Tryd.ntmps9
  go_wp2_with fail
  refine (cd_is (t := [97, 93]) (z := 14) (n := 14) (by decide +kernel) (by decide) (by decide) (by decide) (by decide) w0 _ h).mono ?_
  rintro e w1 ⟨rfl, x1, h1⟩
  go_wp2_with fail
  refine (says_st (t := [97]) (m := 9) (by decide +kernel) (by decide) (by decide) w0 _ h1).mono ?_
  rintro e w2 ⟨rfl, h2⟩
  go_wp2_with fail
  refine (says_st (t := []) (m := 5) (by decide +kernel) (by decide) (by decide) w0 _ h2).mono ?_
  rintro e w3 ⟨rfl, h3⟩
  go_wp2_with fail
  refine (says_st (t := []) (m := 6) (by decide +kernel) (by decide) (by decide) w0 _ h3).mono ?_
  rintro e w4 ⟨rfl, h4⟩
  go_wp2_with fail
  refine (says_st (t := [97]) (m := 7) (by decide +kernel) (by decide) (by decide) w0 _ h4).mono ?_
  rintro e w5 ⟨rfl, h5⟩
  go_wp2_with fail
  refine (says_st (t := [97]) (m := 8) (by decide +kernel) (by decide) (by decide) w0 _ h5).mono ?_
  rintro e w6 ⟨rfl, h6⟩
  go_wp2_with fail
  refine (says_st (t := [60, 33]) (m := 9) (by decide +kernel) (by decide) (by decide) w0 _ h6).mono ?_
  rintro e w7 ⟨rfl, h7⟩
  go_wp2_with fail
  refine (odd_st (t := [63, 120]) (m := 4) (by decide +kernel) (by decide) (by decide) w0 _ h7).mono ?_
  rintro e w8 ⟨rfl, h8⟩
  go_wp2_with fail
  refine (odd_st (t := [32, 97]) (m := 5) (by decide +kernel) (by decide) (by decide) w0 _ h8).mono ?_
  rintro e w9 ⟨rfl, h9⟩
  go_wp2_with fail
  refine (odd_st (t := [120]) (m := 3) (by decide +kernel) (by decide) (by decide) w0 _ h9).mono ?_
  rintro e w10 ⟨rfl, h10⟩
  go_wp2_with fail
  refine (kind_st (m := 15) (by decide +kernel) (by decide) (by decide) w0 _ h10).mono ?_
  rintro e w11 ⟨rfl, h11⟩
  go_wp2_with fail
  refine (kind_st (m := 13) (by decide +kernel) (by decide) (by decide) w0 _ h11).mono ?_
  rintro e w12 ⟨rfl, h12⟩
  go_wp2_with fail
  refine (kind_st (m := 9) (by decide +kernel) (by decide) (by decide) w0 _ h12).mono ?_
  rintro e w13 ⟨rfl, h13⟩
  go_wp2_with fail
  refine (goes_st (m := 5) (by decide +kernel) (by decide) (by decide) (by decide) w0 _ h13).mono ?_
  rintro e w14 ⟨rfl, h14⟩
  go_wp2_with fail
  refine (goes_st (m := 5) (by decide +kernel) (by decide) (by decide) (by decide) w0 _ h14).mono ?_
  rintro e w15 ⟨rfl, h15⟩
  go_wp2_with fail
  refine (goes_st (m := 10) (by decide +kernel) (by decide) (by decide) (by decide) w0 _ h15).mono ?_
  rintro e w16 ⟨rfl, h16⟩
  go_wp2_with fail
  refine (goes_st (m := 21) (by decide +kernel) (by decide) (by decide) (by decide) w0 _ h16).mono ?_
  rintro e w17 ⟨rfl, h17⟩
  go_wp2_with fail
  refine (goes_st (m := 4) (by decide +kernel) (by decide) (by decide) (by decide) w0 _ h17).mono ?_
  rintro e w18 ⟨rfl, h18⟩
  go_wp2_with fail
  go_ret
  exact ⟨rfl, h18⟩
/-! ### the same tokens -/
theorem attrs_nil (w : World) : Calls Tryd.prog 41 #[.slice none 0 0, .slice none 0 0] w fun e w' => e = .returned (.bool true) ∧ w = w' := by
  go_enter Tryd.func41, Tryd.ntmps41
  go_wp2_with fail
  refine wp_loop_rounds 1 ?_
  rw [rounds_succ]
  go_wp2_with fail
  go_ret
  exact ⟨rfl, rfl⟩
set_option maxHeartbeats 2000000 in
theorem same_tok (k f o : Int) (n t : List UInt8) (q : Bool) (w0 w : World) (hw : StR w0 w) :
    Calls Tryd.prog 18 #[.agg #[.int .i64 k, .string ⟨⟨n⟩⟩, .string ⟨⟨t⟩⟩, .slice none 0 0, .bool false, .bool false, .bool q, .int .i64 f, .int .i64 o], .agg #[.int .i64 k, .string ⟨⟨n⟩⟩, .string ⟨⟨t⟩⟩, .slice none 0 0, .bool false, .bool false, .bool q, .int .i64 f, .int .i64 o]] w fun e w' => e = .returned (.bool true) ∧ Ext w w' ∧ StR w0 w' := by
  go_enter Tryd.func18, Tryd.ntmps18
  go_wp2_with (go_at_call 41; refine (attrs_nil _).mono ?_; rintro e w1 ⟨rfl, rfl⟩)
  go_ret
  refine ⟨by simp, ?_, hw.next ?_⟩
  · go_grown
  · go_grown
end Go.Proofs.YtbolajljfkjfaaaDoor

