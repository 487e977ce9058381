/-
  What is proved: the chapter's examples hold of the program ('refers'), and the walk of RefsTell. Condition: the program's table holds what its text lays.
-/
import Derived.Test.YtlhbofekochhkaaDoorRefJ
namespace Go.Proofs.YtlhbofekochhkaaDoor
open Go.RowKit

/-- What holds of the world from call to call. -/
def St (w0 w : World) : Prop := Ext w0 w ∧ OthersIs w
theorem OthersIs.in {w : World} (h : OthersIs w) : 0 < w.heap.size := by
  have h0 := h 0 (by omega)
  unfold World.cell? at h0
  apply Classical.byContradiction
  intro hn
  rw [Array.getElem?_eq_none (by omega)] at h0
  simp at h0
theorem St.next {w0 w w' : World} (h : St w0 w) (k : Ext w w') : St w0 w' := ⟨Ext.trans h.1 k, h.2.ext k h.2.in⟩
theorem find_st (w0 : World) (s : List UInt8) (i : Int) (attr : Bool) (w : World) (h : St w0 w) (hl : s.length < 100000) :
    Calls Tryd.prog 8 #[.string ⟨⟨s⟩⟩, .int .i64 i, .bool attr] w fun e w' => e = .returned (.tuple #[.string ⟨⟨(findI s i attr).1⟩⟩, .int .i64 (findI s i attr).2.1, .bool (findI s i attr).2.2]) ∧ St w0 w' :=
  (refsFind_any s i attr w hl h.2).mono fun _ _ ⟨he, k⟩ => ⟨he, h.next k⟩
theorem refFind_st (w0 : World) (s : List UInt8) (i : Int) (attr : Bool) (w : World) (h : St w0 w) (hl : s.length < 100000) :
    Calls Tryd.prog 9 #[.string ⟨⟨s⟩⟩, .int .i64 i, .bool attr] w fun e w' => e = .returned (.tuple #[.string ⟨⟨(findI s i attr).1⟩⟩, .int .i64 (findI s i attr).2.1, .bool (findI s i attr).2.2]) ∧ St w0 w' :=
  (refRefsFind_any s i attr w hl).mono fun _ _ ⟨he, k⟩ => ⟨he, h.next k⟩
set_option maxHeartbeats 400000 in
theorem finds_st (w0 : World) (s t : List UInt8) (n : Nat) (attr : Bool) (w : World) (h : St w0 w) (hl : s.length < 100000) (hf : findI s 0 attr = (t, n, decide (0 < n))) :
    Calls Tryd.prog 13 #[.string ⟨⟨s⟩⟩, .bool attr, .string ⟨⟨t⟩⟩, .int .i64 n] w fun e w' => e = .returned (.bool true) ∧ St w0 w' := by
  have HF := Lib.hid hf
  clear hf
  by_cases hn : n = 0
  · subst hn
    go_enter Tryd.func13, Tryd.ntmps13
    go_wp2_with fail
    refine (find_st w0 _ _ _ _ h hl).mono ?_
    rw [HF.out]
    rintro e w1 ⟨rfl, h1⟩
    go_wp2_with fail
    go_ret
    exact ⟨rfl, h1⟩
  · have hn2 : 0 < n := by omega
    go_enter Tryd.func13, Tryd.ntmps13
    go_wp2_with fail
    refine (find_st w0 _ _ _ _ h hl).mono ?_
    rw [HF.out]
    rintro e w1 ⟨rfl, h1⟩
    go_wp2_with fail
    go_ret
    exact ⟨by simp [hn2], h1⟩
theorem finds_at (w0 : World) (s t : List UInt8) (n : Int) (attr : Bool) (w : World) (h : St w0 w) (hl : s.length < 100000) (h0 : decide (0 ≤ n) = true) (hf : findI s 0 attr = (t, n.toNat, decide (0 < n))) :
    Calls Tryd.prog 13 #[.string ⟨⟨s⟩⟩, .bool attr, .string ⟨⟨t⟩⟩, .int .i64 n] w fun e w' => e = .returned (.bool true) ∧ St w0 w' := by
  rw [decide_eq_true_eq] at h0
  obtain ⟨k, rfl⟩ : ∃ k : Nat, n = k := ⟨n.toNat, by omega⟩
  refine finds_st w0 s t k attr w h hl ?_
  rw [hf, Int.toNat_natCast]
  congr 2
  rw [decide_eq_decide]
  omega
set_option maxRecDepth 100000 in
set_option maxHeartbeats 4000000 in
theorem refers_st (w0 w : World) (h : St w0 w) : Calls Tryd.prog 7 #[] w fun e w' => e = .returned (.bool true) ∧ St w0 w' := by
  go_enter Tryd.func7, Tryd.ntmps7
  go_wp2_with fail
  refine (finds_at w0 _ _ _ _ _ h (by decide) (by decide) (by decide +kernel)).mono ?_
  rintro e w1 ⟨rfl, h1⟩
  go_wp2_with fail
  refine (finds_at w0 _ _ _ _ _ h1 (by decide) (by decide) (by decide +kernel)).mono ?_
  rintro e w2 ⟨rfl, h2⟩
  go_wp2_with fail
  refine (finds_at w0 _ _ _ _ _ h2 (by decide) (by decide) (by decide +kernel)).mono ?_
  rintro e w3 ⟨rfl, h3⟩
  go_wp2_with fail
  refine (finds_at w0 _ _ _ _ _ h3 (by decide) (by decide) (by decide +kernel)).mono ?_
  rintro e w4 ⟨rfl, h4⟩
  go_wp2_with fail
  refine (finds_at w0 _ _ _ _ _ h4 (by decide) (by decide) (by decide +kernel)).mono ?_
  rintro e w5 ⟨rfl, h5⟩
  go_wp2_with fail
  refine (finds_at w0 _ _ _ _ _ h5 (by decide) (by decide) (by decide +kernel)).mono ?_
  rintro e w6 ⟨rfl, h6⟩
  go_wp2_with fail
  refine (finds_at w0 _ _ _ _ _ h6 (by decide) (by decide) (by decide +kernel)).mono ?_
  rintro e w7 ⟨rfl, h7⟩
  go_wp2_with fail
  refine (finds_at w0 _ _ _ _ _ h7 (by decide) (by decide) (by decide +kernel)).mono ?_
  rintro e w8 ⟨rfl, h8⟩
  go_wp2_with fail
  refine (finds_at w0 _ _ _ _ _ h8 (by decide) (by decide) (by decide +kernel)).mono ?_
  rintro e w9 ⟨rfl, h9⟩
  go_wp2_with fail
  refine (finds_at w0 _ _ _ _ _ h9 (by decide) (by decide) (by decide +kernel)).mono ?_
  rintro e w10 ⟨rfl, h10⟩
  go_wp2_with fail
  refine (finds_at w0 _ _ _ _ _ h10 (by decide) (by decide) (by decide +kernel)).mono ?_
  rintro e w11 ⟨rfl, h11⟩
  go_wp2_with fail
  refine (finds_at w0 _ _ _ _ _ h11 (by decide) (by decide) (by decide +kernel)).mono ?_
  rintro e w12 ⟨rfl, h12⟩
  go_wp2_with fail
  refine (finds_at w0 _ _ _ _ _ h12 (by decide) (by decide) (by decide +kernel)).mono ?_
  rintro e w13 ⟨rfl, h13⟩
  go_wp2_with fail
  refine (finds_at w0 _ _ _ _ _ h13 (by decide) (by decide) (by decide +kernel)).mono ?_
  rintro e w14 ⟨rfl, h14⟩
  go_wp2_with fail
  refine (finds_at w0 _ _ _ _ _ h14 (by decide) (by decide) (by decide +kernel)).mono ?_
  rintro e w15 ⟨rfl, h15⟩
  go_wp2_with fail
  go_ret
  exact ⟨rfl, h15⟩
set_option maxRecDepth 100000 in
set_option maxHeartbeats 2000000 in
theorem tell_walk (l : List UInt8) (i : Int) (w : World) (ho : OthersIs w) (hs : l.length ≤ maxLen) :
    Calls Tryd.prog 3 #[.string ⟨⟨l⟩⟩, .int .i64 i] w fun e w' => e = .returned (.bool true) ∧ Below w.heap.size w w' := by
  have h : St w w := ⟨Ext.refl _, ho⟩
  clear ho
  unfold maxLen at hs
  have i0 : ∀ w, (Instr.index 23 (.agg #[.bool false, .bool true]) (.int .i64 0)).run Tryd.prog w = .ok (.bool false) w := fun _ => by kernel_rfl
  have i1 : ∀ w, (Instr.index 23 (.agg #[.bool false, .bool true]) (.int .i64 1)).run Tryd.prog w = .ok (.bool true) w := fun _ => by kernel_rfl
  by_cases hl : l.length ≤ 2000
  · go_enter Tryd.func3, Tryd.ntmps3
    go_wp2_with fail
    go_loopw [18] (fun i wr => ∃ n : Nat, i = .int .i64 n ∧ n ≤ 2 ∧ St w wr) (fun i _ => 2 - (intOf i).toNat)
    case atStart => exact ⟨0, rfl, by omega, h⟩
    case round =>
      obtain ⟨n, rfl, hn, hb⟩ := hrel
      clear h
      have hc : n = 0 ∨ n = 1 ∨ n = 2 := by omega
      rcases hc with rfl | rfl | rfl
      · go_wp2_with fail
        refine (find_st w _ _ _ _ hb (by omega)).mono ?_
        rintro e w1 ⟨rfl, h1⟩
        go_wp2_with fail
        refine (refFind_st w _ _ _ _ h1 (by omega)).mono ?_
        rintro e w2 ⟨rfl, h2⟩
        go_wp2_with fail
        go_roundw
        case rel => exact ⟨1, rfl, by omega, h2⟩
        case measure => simp [intOf]
      · go_wp2_with fail
        refine (find_st w _ _ _ _ hb (by omega)).mono ?_
        rintro e w1 ⟨rfl, h1⟩
        go_wp2_with fail
        refine (refFind_st w _ _ _ _ h1 (by omega)).mono ?_
        rintro e w2 ⟨rfl, h2⟩
        go_wp2_with fail
        go_roundw
        case rel => exact ⟨2, rfl, by omega, h2⟩
        case measure => simp [intOf]
      · go_wp2_with fail
        refine (refers_st w _ hb).mono ?_
        rintro e w5 ⟨rfl, h5⟩
        go_wp2_with fail
        go_ret
        exact ⟨rfl, h5.1⟩
  · go_enter Tryd.func3, Tryd.ntmps3
    go_wp2_with fail
    refine (refers_st w _ h).mono ?_
    rintro e w5 ⟨rfl, h5⟩
    go_wp2_with fail
    go_ret
    exact ⟨rfl, h5.1⟩
end Go.Proofs.YtlhbofekochhkaaDoor
