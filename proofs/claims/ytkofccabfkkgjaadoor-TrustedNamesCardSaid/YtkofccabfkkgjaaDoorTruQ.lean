/-
  What is proved: the walk of the statement TrustedNames: it answers true. Conditions: lists that fit, what the package's variable holds.
-/
import Derived.Test.YtkofccabfkkgjaaDoorTruO
namespace Go.Proofs.YtkofccabfkkgjaaDoor
open Go.RowKit

theorem lettersL_len (l : List UInt8) : (lettersL l).length ≤ 31 := by
  unfold lettersL
  simp
  omega
theorem textT_len (a : List UInt8) (dup an : Bool) (h : a.length ≤ 31) : (textT a dup an).length < 100000 := by
  have h1 : (tailT dup an).length ≤ 30 := by cases dup <;> cases an <;> decide
  unfold textT
  rw [List.length_append, List.length_append]
  have : ([116, 114, 117, 115, 116, 101, 100, 45, 116, 121, 112, 101, 115, 32] : List UInt8).length = 14 := by decide
  omega
theorem one_max {l : List UInt8} (h : l.length ≤ 32) : ∀ s ∈ [l], s.length ≤ maxLen := by
  intro s hs
  simp at hs
  subst hs
  unfold maxLen
  omega
theorem two_max {l : List UInt8} (h : l.length ≤ 31) : ∀ s ∈ [[122], l], s.length ≤ maxLen := by
  intro s hs
  simp at hs
  unfold maxLen
  rcases hs with rfl | rfl
  · simp
  · omega
set_option maxHeartbeats 16000000 in
set_option maxRecDepth 100000 in
theorem names29_walk (u0 u1 : Value) (l0 l1 : List UInt8) (dup an : Bool) (w : World) (hm : MaxIs w) (K0 : BytesAt w u0 l0) (K1 : BytesAt w u1 l1) :
    Calls Tryd.prog 9 #[.agg #[u0, u1], .bool dup, .bool an] w fun e w' => e = .returned (.bool true) ∧ Ext w w' := by
  obtain ⟨a0, c0, rfl, hm0, _⟩ := id K0
  obtain ⟨a1, c1, rfl, hm1, _⟩ := id K1
  have W := lettersL_w l0
  have hA := lettersL_len l0
  have hB := lettersL_len l1
  have cA := fun w H => letters_any (.slice a0 l0.length c0) l0 w H
  have cB := fun w H => letters_any (.slice a1 l1.length c1) l1 w H
  obtain ⟨A, eA⟩ : ∃ A, lettersL l0 = A := ⟨_, rfl⟩
  obtain ⟨B, eB⟩ : ∃ B, lettersL l1 = B := ⟨_, rfl⟩
  rw [eA] at W hA cA
  rw [eB] at hB cB
  clear eA eB
  have oo := fun w hM => of_any (textT A dup an) w hM (textT_len A dup an hA)
  have ss : SmallD (oneL (textT A dup an)) := one_small (textT_len A dup an hA)
  have p1 := c1_text W dup an
  have p2 := c2_text W dup an
  have p3 := c3_text W dup an B
  have p5 := req_text W dup an
  obtain ⟨D, eD⟩ : ∃ D, oneL (textT A dup an) = D := ⟨_, rfl⟩
  rw [eD] at oo ss p1 p2 p3 p5
  clear eD
  have k1 := fun v tv w H K => creates_any v false D A tv [] w H ss K
  have k2 := fun v tv w H K => creates_any v false D A tv [[122], A] w H ss K
  have k3 := fun v tv w H K => creates_any v false D B tv [A ++ [122]] w H ss K
  have k4 := fun tv w K => creates_any (.slice none 0 0) false [] B tv [B] w (OwnD.dirs (OwnD.nil 0 w) (by decide)) ⟨by simp, by simp⟩ K
  have k5 := fun v w H => requires_any v false D w H ss
  rw [p1] at k1
  rw [p2] at k2
  rw [p3] at k3
  rw [c4_text] at k4
  rw [p5] at k5
  clear p1 p2 p3 p5 ss W
  have hx0 : Ext w (w.alloc (.cells #[.slice a0 l0.length c0, .slice a1 l1.length c1] 49)) := (Below.refl _ _).alloc (Nat.le_refl _) _
  have hx1 : Ext w (w.alloc (.cells #[.slice a0 l0.length c0, .slice a1 l1.length c1] 49)).drew := hx0.drew
  go_enter Tryd.func9, Tryd.ntmps9
  go_wp2_with fail
  go_region_held3 (fun w' => w'.cell? ⟨w.heap.size, 0, none⟩ = some (.slice a0 l0.length c0) ∧ w'.cell? ⟨w.heap.size, 1, none⟩ = some (.slice a1 l1.length c1)) (go_keep)
    (first
      | (go_at_call 29; (with_reducible refine (cA _ (K0.ext hx1)).mono ?_); rintro e w2 ⟨rfl, x2⟩; have y2 := Ext.trans hx1 x2; have s0 := (x2.cell (p := ⟨w.heap.size, 0, none⟩) (by simp)).trans (held_at w _ _ 0 _ rfl); have s1 := (x2.cell (p := ⟨w.heap.size, 1, none⟩) (by simp)).trans (held_at w _ _ 1 _ rfl))
      | (go_at_call 29; (with_reducible refine (cB _ (K1.ext y2)).mono ?_); rintro e w3 ⟨rfl, x3⟩; have y3 := Ext.trans y2 x3; have s2 := (x3.cell (p := ⟨w.heap.size, 0, none⟩) (cell_lt (a := ⟨w.heap.size, 0, none⟩) s0)).trans s0; have s3 := (x3.cell (p := ⟨w.heap.size, 1, none⟩) (cell_lt (a := ⟨w.heap.size, 1, none⟩) s1)).trans s1))
  clear s0 s1 s2 s3 cA cB
  have HE1 : ∀ b, (A == B) = b → ∀ b2, (B == A ++ [122]) = b2 → ((an || A == B) && (dup || B != A ++ [122])) = ((an || b) && (dup || !b2)) := fun b h b2 h2 => by unfold bne; rw [h, h2]
  cases h1 : (A == B) <;> cases h2 : (B == A ++ [122])
  all_goals
    rw [HE1 _ h1 _ h2] at k3
    clear HE1
    have h3 : (B != A ++ [122]) = !(B == A ++ [122]) := rfl
    rw [h2] at h3
    cases dup <;> cases an
  all_goals
    simp only [textT, tailT, if_true, if_false, Bool.false_eq_true, List.append_nil, List.nil_append, List.cons_append, List.append_assoc] at oo
    go_wp2_with fail
    refine (oo _ (hm.ext y3)).mono ?_
    rintro e w4 ⟨a4, c4, rfl, h4, x4⟩
    have hA4 : Ext w4 (w4.alloc (.cells #[.slice a4 D.length c4, .bool false] 30)) := (Below.refl _ _).alloc (Nat.le_refl _) _
    have P4 : PolCell (w4.alloc (.cells #[.slice a4 D.length c4, .bool false] 30)) w4.heap.size a4 D.length c4 false D := ⟨cells_of_lit (heap_alloc_new w4 _) 0, cells_of_lit (heap_alloc_new w4 _) 1, h4.ext hA4⟩
    have y4 := Ext.trans y3 (Ext.trans x4 hA4)
    go_wp2_with fail
    refine (k1 _ _ _ P4.dirs (StrsAt.nil _)).mono ?_
    rintro e w5 ⟨rfl, x5⟩
    have P5 := P4.ext x5
    have y5 := Ext.trans y4 x5
    have q0 := P5.lst
    have q1 := P5.rep
    go_wp2_with fail
    have l5 : Ext w5 (w5.alloc (.cells (Array.mk (strCells [[122], A])) 9)) := (Below.refl _ _).alloc (Nat.le_refl _) _
    refine (k2 _ _ _ (P5.ext l5).dirs ((OwnS.lit w5 [[122], A] 2 rfl (by decide)).strs (show 2 ≤ maxLen by decide) (two_max hA))).mono ?_
    rintro e w6 ⟨rfl, x6⟩
    have P6 := (P5.ext l5).ext x6
    have y6 := Ext.trans y5 (Ext.trans l5 x6)
    have q2 := P6.lst
    have q3 := P6.rep
    go_wp2_with fail
    have l6 : Ext w6 (w6.alloc (.cells (Array.mk (strCells [A ++ [122]])) 9)) := (Below.refl _ _).alloc (Nat.le_refl _) _
    refine (k3 _ _ _ (P6.ext l6).dirs ((OwnS.lit w6 [A ++ [122]] 1 rfl (by decide)).strs (show 1 ≤ maxLen by decide) (one_max (l := A ++ [122]) (by simp; omega)))).mono ?_
    rintro e w7 ⟨rfl, x7⟩
    have P7 := (P6.ext l6).ext x7
    have y7 := Ext.trans y6 (Ext.trans l6 x7)
    go_wp2_with fail
    have l7 : Ext w7 (w7.alloc (.cells (Array.mk (strCells [B])) 9)) := (Below.refl _ _).alloc (Nat.le_refl _) _
    refine (k4 _ _ ((OwnS.lit w7 [B] 1 rfl (by decide)).strs (show 1 ≤ maxLen by decide) (one_max (l := B) (by omega)))).mono ?_
    rintro e w8 ⟨rfl, x8⟩
    have P8 := (P7.ext l7).ext x8
    have y8 := Ext.trans y7 (Ext.trans l7 x8)
    have q4 := P8.lst
    have q5 := P8.rep
    go_wp2_with fail
    refine (k5 _ _ P8.dirs).mono ?_
    rintro e w9 ⟨rfl, x9⟩
    have y9 := Ext.trans y8 x9
    go_wp2_with fail
    refine (types_any _ (hm.ext y9)).mono ?_
    rintro e w10 ⟨rfl, x10⟩
    go_wp2_with fail
    go_ret
    exact ⟨rfl, Ext.trans y9 x10⟩
end Go.Proofs.YtkofccabfkkgjaaDoor
