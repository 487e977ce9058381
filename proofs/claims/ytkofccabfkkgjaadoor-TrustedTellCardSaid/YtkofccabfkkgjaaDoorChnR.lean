/-
  What is proved: which directives stand in for a name: the reference's: a contract. No condition.
-/
import Derived.Test.YtkofccabfkkgjaaDoorChnC
import Derived.Test.YtkofccabfkkgjaaDoorFnd
namespace Go.Proofs.YtkofccabfkkgjaaDoor
open Go.RowKit

theorem nine_cases {j : Nat} (hj : j < 9) : j = 0 ∨ j = 1 ∨ j = 2 ∨ j = 3 ∨ j = 4 ∨ j = 5 ∨ j = 6 ∨ j = 7 ∨ j = 8 := by omega
theorem own_len {B : Nat} {v : Value} {l : List (List UInt8)} {w : World} (h : OwnS B v l w) (n : Nat) (hn : l.length = n) : ∃ a cap, v = .slice a n cap := by
  subst hn
  exact own_form h
set_option maxHeartbeats 4000000 in
theorem chainR_at0 (w : World) :
    Calls Tryd.prog 16 #[.string ⟨⟨[115, 99, 114, 105, 112, 116, 45, 115, 114, 99, 45, 101, 108, 101, 109]⟩⟩] w fun e w' => ∃ v, e = .returned v ∧ OwnS w.heap.size v [[115, 99, 114, 105, 112, 116, 45, 115, 114, 99, 45, 101, 108, 101, 109], [115, 99, 114, 105, 112, 116, 45, 115, 114, 99], [100, 101, 102, 97, 117, 108, 116, 45, 115, 114, 99]] w' ∧ Ext w w' := by
  have h0 := OwnS.lit w [[115, 99, 114, 105, 112, 116, 45, 115, 114, 99, 45, 101, 108, 101, 109]] 1 rfl (by decide)
  have y0 : Below w.heap.size w (w.alloc (.cells (Array.mk (strCells [[115, 99, 114, 105, 112, 116, 45, 115, 114, 99, 45, 101, 108, 101, 109]])) 9)) := (Below.refl _ _).alloc (Nat.le_refl _) _
  have H0 := Lib.hid h0
  have Y0 := Lib.hid y0
  clear h0 y0
  go_enter Tryd.func16, Tryd.ntmps16
  go_wp2_with (first
    | (at_builtin; refine app_str rfl _ _ rfl [115, 99, 114, 105, 112, 116, 45, 115, 114, 99] _ _ rfl rfl rfl H0.out (by first | rfl | (rw [World.size_alloc]; rfl)) (by simp) Y0.out.size ?_; intro v1 w1 h1 x1; have Y1 := Lib.hid (Below.trans Y0.out x1); obtain ⟨a1, c1, rfl⟩ := own_len h1 2 rfl; have H1 := Lib.hid h1; clear h1)
    | (at_builtin; refine app_str rfl _ _ rfl [100, 101, 102, 97, 117, 108, 116, 45, 115, 114, 99] _ w1 rfl rfl rfl H1.out (by first | rfl | (rw [World.size_alloc]; rfl)) (by simp) Y1.out.size ?_; intro v2 w2 h2 x2; have Y2 := Lib.hid (Below.trans Y1.out x2); obtain ⟨a2, c2, rfl⟩ := own_len h2 3 rfl; have H2 := Lib.hid h2; clear h2))
  go_ret
  exact ⟨_, rfl, H2.out, Y2.out⟩
set_option maxHeartbeats 4000000 in
theorem chainR_at1 (w : World) :
    Calls Tryd.prog 16 #[.string ⟨⟨[115, 99, 114, 105, 112, 116, 45, 115, 114, 99, 45, 97, 116, 116, 114]⟩⟩] w fun e w' => ∃ v, e = .returned v ∧ OwnS w.heap.size v [[115, 99, 114, 105, 112, 116, 45, 115, 114, 99, 45, 97, 116, 116, 114], [115, 99, 114, 105, 112, 116, 45, 115, 114, 99], [100, 101, 102, 97, 117, 108, 116, 45, 115, 114, 99]] w' ∧ Ext w w' := by
  have h0 := OwnS.lit w [[115, 99, 114, 105, 112, 116, 45, 115, 114, 99, 45, 97, 116, 116, 114]] 1 rfl (by decide)
  have y0 : Below w.heap.size w (w.alloc (.cells (Array.mk (strCells [[115, 99, 114, 105, 112, 116, 45, 115, 114, 99, 45, 97, 116, 116, 114]])) 9)) := (Below.refl _ _).alloc (Nat.le_refl _) _
  have H0 := Lib.hid h0
  have Y0 := Lib.hid y0
  clear h0 y0
  go_enter Tryd.func16, Tryd.ntmps16
  go_wp2_with (first
    | (at_builtin; refine app_str rfl _ _ rfl [115, 99, 114, 105, 112, 116, 45, 115, 114, 99] _ _ rfl rfl rfl H0.out (by first | rfl | (rw [World.size_alloc]; rfl)) (by simp) Y0.out.size ?_; intro v1 w1 h1 x1; have Y1 := Lib.hid (Below.trans Y0.out x1); obtain ⟨a1, c1, rfl⟩ := own_len h1 2 rfl; have H1 := Lib.hid h1; clear h1)
    | (at_builtin; refine app_str rfl _ _ rfl [100, 101, 102, 97, 117, 108, 116, 45, 115, 114, 99] _ w1 rfl rfl rfl H1.out (by first | rfl | (rw [World.size_alloc]; rfl)) (by simp) Y1.out.size ?_; intro v2 w2 h2 x2; have Y2 := Lib.hid (Below.trans Y1.out x2); obtain ⟨a2, c2, rfl⟩ := own_len h2 3 rfl; have H2 := Lib.hid h2; clear h2))
  go_ret
  exact ⟨_, rfl, H2.out, Y2.out⟩
set_option maxHeartbeats 4000000 in
theorem chainR_at2 (w : World) :
    Calls Tryd.prog 16 #[.string ⟨⟨[115, 116, 121, 108, 101, 45, 115, 114, 99, 45, 101, 108, 101, 109]⟩⟩] w fun e w' => ∃ v, e = .returned v ∧ OwnS w.heap.size v [[115, 116, 121, 108, 101, 45, 115, 114, 99, 45, 101, 108, 101, 109], [115, 116, 121, 108, 101, 45, 115, 114, 99], [100, 101, 102, 97, 117, 108, 116, 45, 115, 114, 99]] w' ∧ Ext w w' := by
  have h0 := OwnS.lit w [[115, 116, 121, 108, 101, 45, 115, 114, 99, 45, 101, 108, 101, 109]] 1 rfl (by decide)
  have y0 : Below w.heap.size w (w.alloc (.cells (Array.mk (strCells [[115, 116, 121, 108, 101, 45, 115, 114, 99, 45, 101, 108, 101, 109]])) 9)) := (Below.refl _ _).alloc (Nat.le_refl _) _
  have H0 := Lib.hid h0
  have Y0 := Lib.hid y0
  clear h0 y0
  go_enter Tryd.func16, Tryd.ntmps16
  go_wp2_with (first
    | (at_builtin; refine app_str rfl _ _ rfl [115, 116, 121, 108, 101, 45, 115, 114, 99] _ _ rfl rfl rfl H0.out (by first | rfl | (rw [World.size_alloc]; rfl)) (by simp) Y0.out.size ?_; intro v1 w1 h1 x1; have Y1 := Lib.hid (Below.trans Y0.out x1); obtain ⟨a1, c1, rfl⟩ := own_len h1 2 rfl; have H1 := Lib.hid h1; clear h1)
    | (at_builtin; refine app_str rfl _ _ rfl [100, 101, 102, 97, 117, 108, 116, 45, 115, 114, 99] _ w1 rfl rfl rfl H1.out (by first | rfl | (rw [World.size_alloc]; rfl)) (by simp) Y1.out.size ?_; intro v2 w2 h2 x2; have Y2 := Lib.hid (Below.trans Y1.out x2); obtain ⟨a2, c2, rfl⟩ := own_len h2 3 rfl; have H2 := Lib.hid h2; clear h2))
  go_ret
  exact ⟨_, rfl, H2.out, Y2.out⟩
set_option maxHeartbeats 4000000 in
theorem chainR_at3 (w : World) :
    Calls Tryd.prog 16 #[.string ⟨⟨[115, 116, 121, 108, 101, 45, 115, 114, 99, 45, 97, 116, 116, 114]⟩⟩] w fun e w' => ∃ v, e = .returned v ∧ OwnS w.heap.size v [[115, 116, 121, 108, 101, 45, 115, 114, 99, 45, 97, 116, 116, 114], [115, 116, 121, 108, 101, 45, 115, 114, 99], [100, 101, 102, 97, 117, 108, 116, 45, 115, 114, 99]] w' ∧ Ext w w' := by
  have h0 := OwnS.lit w [[115, 116, 121, 108, 101, 45, 115, 114, 99, 45, 97, 116, 116, 114]] 1 rfl (by decide)
  have y0 : Below w.heap.size w (w.alloc (.cells (Array.mk (strCells [[115, 116, 121, 108, 101, 45, 115, 114, 99, 45, 97, 116, 116, 114]])) 9)) := (Below.refl _ _).alloc (Nat.le_refl _) _
  have H0 := Lib.hid h0
  have Y0 := Lib.hid y0
  clear h0 y0
  go_enter Tryd.func16, Tryd.ntmps16
  go_wp2_with (first
    | (at_builtin; refine app_str rfl _ _ rfl [115, 116, 121, 108, 101, 45, 115, 114, 99] _ _ rfl rfl rfl H0.out (by first | rfl | (rw [World.size_alloc]; rfl)) (by simp) Y0.out.size ?_; intro v1 w1 h1 x1; have Y1 := Lib.hid (Below.trans Y0.out x1); obtain ⟨a1, c1, rfl⟩ := own_len h1 2 rfl; have H1 := Lib.hid h1; clear h1)
    | (at_builtin; refine app_str rfl _ _ rfl [100, 101, 102, 97, 117, 108, 116, 45, 115, 114, 99] _ w1 rfl rfl rfl H1.out (by first | rfl | (rw [World.size_alloc]; rfl)) (by simp) Y1.out.size ?_; intro v2 w2 h2 x2; have Y2 := Lib.hid (Below.trans Y1.out x2); obtain ⟨a2, c2, rfl⟩ := own_len h2 3 rfl; have H2 := Lib.hid h2; clear h2))
  go_ret
  exact ⟨_, rfl, H2.out, Y2.out⟩
set_option maxHeartbeats 4000000 in
theorem chainR_at4 (w : World) :
    Calls Tryd.prog 16 #[.string ⟨⟨[119, 111, 114, 107, 101, 114, 45, 115, 114, 99]⟩⟩] w fun e w' => ∃ v, e = .returned v ∧ OwnS w.heap.size v [[119, 111, 114, 107, 101, 114, 45, 115, 114, 99], [99, 104, 105, 108, 100, 45, 115, 114, 99], [115, 99, 114, 105, 112, 116, 45, 115, 114, 99], [100, 101, 102, 97, 117, 108, 116, 45, 115, 114, 99]] w' ∧ Ext w w' := by
  have h0 := OwnS.lit w [[119, 111, 114, 107, 101, 114, 45, 115, 114, 99]] 1 rfl (by decide)
  have y0 : Below w.heap.size w (w.alloc (.cells (Array.mk (strCells [[119, 111, 114, 107, 101, 114, 45, 115, 114, 99]])) 9)) := (Below.refl _ _).alloc (Nat.le_refl _) _
  have H0 := Lib.hid h0
  have Y0 := Lib.hid y0
  clear h0 y0
  go_enter Tryd.func16, Tryd.ntmps16
  go_wp2_with (first
    | (at_builtin; refine app_str rfl _ _ rfl [99, 104, 105, 108, 100, 45, 115, 114, 99] _ _ rfl rfl rfl H0.out (by first | rfl | (rw [World.size_alloc]; rfl)) (by simp) Y0.out.size ?_; intro v1 w1 h1 x1; have Y1 := Lib.hid (Below.trans Y0.out x1); obtain ⟨a1, c1, rfl⟩ := own_len h1 2 rfl; have H1 := Lib.hid h1; clear h1)
    | (at_builtin; refine app_str rfl _ _ rfl [115, 99, 114, 105, 112, 116, 45, 115, 114, 99] _ w1 rfl rfl rfl H1.out (by first | rfl | (rw [World.size_alloc]; rfl)) (by simp) Y1.out.size ?_; intro v2 w2 h2 x2; have Y2 := Lib.hid (Below.trans Y1.out x2); obtain ⟨a2, c2, rfl⟩ := own_len h2 3 rfl; have H2 := Lib.hid h2; clear h2)
    | (at_builtin; refine app_str rfl _ _ rfl [100, 101, 102, 97, 117, 108, 116, 45, 115, 114, 99] _ w2 rfl rfl rfl H2.out (by first | rfl | (rw [World.size_alloc]; rfl)) (by simp) Y2.out.size ?_; intro v3 w3 h3 x3; have Y3 := Lib.hid (Below.trans Y2.out x3); obtain ⟨a3, c3, rfl⟩ := own_len h3 4 rfl; have H3 := Lib.hid h3; clear h3))
  go_ret
  exact ⟨_, rfl, H3.out, Y3.out⟩
set_option maxHeartbeats 4000000 in
theorem chainR_at5 (w : World) :
    Calls Tryd.prog 16 #[.string ⟨⟨[102, 114, 97, 109, 101, 45, 115, 114, 99]⟩⟩] w fun e w' => ∃ v, e = .returned v ∧ OwnS w.heap.size v [[102, 114, 97, 109, 101, 45, 115, 114, 99], [99, 104, 105, 108, 100, 45, 115, 114, 99], [100, 101, 102, 97, 117, 108, 116, 45, 115, 114, 99]] w' ∧ Ext w w' := by
  have h0 := OwnS.lit w [[102, 114, 97, 109, 101, 45, 115, 114, 99]] 1 rfl (by decide)
  have y0 : Below w.heap.size w (w.alloc (.cells (Array.mk (strCells [[102, 114, 97, 109, 101, 45, 115, 114, 99]])) 9)) := (Below.refl _ _).alloc (Nat.le_refl _) _
  have H0 := Lib.hid h0
  have Y0 := Lib.hid y0
  clear h0 y0
  go_enter Tryd.func16, Tryd.ntmps16
  go_wp2_with (first
    | (at_builtin; refine app_str rfl _ _ rfl [99, 104, 105, 108, 100, 45, 115, 114, 99] _ _ rfl rfl rfl H0.out (by first | rfl | (rw [World.size_alloc]; rfl)) (by simp) Y0.out.size ?_; intro v1 w1 h1 x1; have Y1 := Lib.hid (Below.trans Y0.out x1); obtain ⟨a1, c1, rfl⟩ := own_len h1 2 rfl; have H1 := Lib.hid h1; clear h1)
    | (at_builtin; refine app_str rfl _ _ rfl [100, 101, 102, 97, 117, 108, 116, 45, 115, 114, 99] _ w1 rfl rfl rfl H1.out (by first | rfl | (rw [World.size_alloc]; rfl)) (by simp) Y1.out.size ?_; intro v2 w2 h2 x2; have Y2 := Lib.hid (Below.trans Y1.out x2); obtain ⟨a2, c2, rfl⟩ := own_len h2 3 rfl; have H2 := Lib.hid h2; clear h2))
  go_ret
  exact ⟨_, rfl, H2.out, Y2.out⟩
theorem alone_none {n : List UInt8} (h0 : (n == [115, 99, 114, 105, 112, 116, 45, 115, 114, 99, 45, 101, 108, 101, 109]) = false) (h1 : (n == [115, 99, 114, 105, 112, 116, 45, 115, 114, 99, 45, 97, 116, 116, 114]) = false) (h2 : (n == [115, 116, 121, 108, 101, 45, 115, 114, 99, 45, 101, 108, 101, 109]) = false) (h3 : (n == [115, 116, 121, 108, 101, 45, 115, 114, 99, 45, 97, 116, 116, 114]) = false) (h4 : (n == [119, 111, 114, 107, 101, 114, 45, 115, 114, 99]) = false) (h5 : (n == [102, 114, 97, 109, 101, 45, 115, 114, 99]) = false) (h : ¬ n ∈ aloneL) : chainL n = [n] := by
  simp only [beq_eq_false_iff_ne, ne_eq] at h0 h1 h2 h3 h4 h5
  unfold chainL
  simp only [h0, h1, h2, h3, h4, h5, h, or_self, if_false]
theorem alone_some {n : List UInt8} (h0 : (n == [115, 99, 114, 105, 112, 116, 45, 115, 114, 99, 45, 101, 108, 101, 109]) = false) (h1 : (n == [115, 99, 114, 105, 112, 116, 45, 115, 114, 99, 45, 97, 116, 116, 114]) = false) (h2 : (n == [115, 116, 121, 108, 101, 45, 115, 114, 99, 45, 101, 108, 101, 109]) = false) (h3 : (n == [115, 116, 121, 108, 101, 45, 115, 114, 99, 45, 97, 116, 116, 114]) = false) (h4 : (n == [119, 111, 114, 107, 101, 114, 45, 115, 114, 99]) = false) (h5 : (n == [102, 114, 97, 109, 101, 45, 115, 114, 99]) = false) (h : n ∈ aloneL) : chainL n = [n, [100, 101, 102, 97, 117, 108, 116, 45, 115, 114, 99]] := by
  simp only [beq_eq_false_iff_ne, ne_eq] at h0 h1 h2 h3 h4 h5
  unfold chainL
  simp only [h0, h1, h2, h3, h4, h5, h, or_self, if_false, if_true]
set_option maxHeartbeats 4000000 in
theorem chainR_atN (n : List UInt8) (h0 : (n == [115, 99, 114, 105, 112, 116, 45, 115, 114, 99, 45, 101, 108, 101, 109]) = false) (h1 : (n == [115, 99, 114, 105, 112, 116, 45, 115, 114, 99, 45, 97, 116, 116, 114]) = false) (h2 : (n == [115, 116, 121, 108, 101, 45, 115, 114, 99, 45, 101, 108, 101, 109]) = false) (h3 : (n == [115, 116, 121, 108, 101, 45, 115, 114, 99, 45, 97, 116, 116, 114]) = false) (h4 : (n == [119, 111, 114, 107, 101, 114, 45, 115, 114, 99]) = false) (h5 : (n == [102, 114, 97, 109, 101, 45, 115, 114, 99]) = false) (w : World) :
    Calls Tryd.prog 16 #[.string ⟨⟨n⟩⟩] w fun e w' => ∃ v, e = .returned v ∧ OwnS w.heap.size v (chainL n) w' ∧ Ext w w' := by
  have HN := Lib.hid (fun h => alone_none (n := n) h0 h1 h2 h3 h4 h5 h)
  have HS := Lib.hid (fun h => alone_some (n := n) h0 h1 h2 h3 h4 h5 h)
  go_enter Tryd.func16, Tryd.ntmps16
  go_wp2
  go_loopw [5] (fun i wr => ∃ j : Nat, i = .int .i64 j ∧ j ≤ 9 ∧ Hid (∀ j, (h : j < aloneL.length) → wr.cell? ⟨w.heap.size + 1, j, none⟩ = some (.string ⟨⟨aloneL[j]⟩⟩)) ∧ Hid (OwnS w.heap.size (.slice (some ⟨w.heap.size, 0, none⟩) 1 1) [n] wr) ∧ Ext w wr ∧ Hid (∀ i, (h : i < aloneL.length) → i < j → ¬ aloneL[i] = n)) (fun i _ => 9 - (intOf i).toNat)
  case atStart =>
    refine ⟨0, rfl, by omega, Lib.hid ?_, Lib.hid ?_, ((Below.refl _ _).alloc (Nat.le_refl _) _).alloc (by simp) _, Lib.hid (fun i _ hi => by omega)⟩
    · intro j hj
      obtain rfl | rfl | rfl | rfl | rfl | rfl | rfl | rfl | rfl := nine_cases hj
      all_goals exact cells_of_lit (alloc_two w _ _).2 _
    · exact (OwnS.lit w [n] 1 rfl (by decide)).below ((Below.refl _ _).alloc (Nat.le_refl _) _)
  case round =>
    obtain ⟨j, rfl, hj, HK, HO, hx, HA⟩ := hrel
    by_cases hlt : j < 9
    · have ck := HK.out j hlt
      have hj0 : (0 : Int) ≤ (j : Int) := by omega
      have hj9 : (j : Int) < 9 := by omega
      obtain ⟨s, hs⟩ : ∃ s, aloneL[j]'hlt = s := ⟨_, rfl⟩
      have HZ := Lib.hid hs
      rw [hs] at ck
      clear hs
      by_cases hq : s = n
      · subst hq
        have eq : (s == s) = true := by simp
        have HE := Lib.hid (HS.out (by rw [← HZ.out]; exact List.getElem_mem _))
        go_wp2_with (at_builtin; refine app_str rfl _ _ rfl [100, 101, 102, 97, 117, 108, 116, 45, 115, 114, 99] _ wr rfl rfl rfl HO.out rfl (by simp) hx.size ?_; intro v1 w1 h1 x1)
        go_ret
        exact ⟨_, rfl, by rw [HE.out]; exact h1, Below.trans hx x1⟩
      · have eq : (s == n) = false := beq_eq_false_iff_ne.2 hq
        go_wp2
        go_roundw
        case rel => exact ⟨j + 1, by go_num, by omega, HK, HO, hx, Lib.hid (fun i h hi => by
          by_cases e : i = j
          · subst e; exact fun e2 => hq (HZ.out.symm.trans e2)
          · exact HA.out i h (by omega))⟩
        case measure => simp [intOf]; omega
    · obtain rfl : j = 9 := by omega
      have HE := Lib.hid (HN.out (fun hm => by
        obtain ⟨i, hi, e⟩ := List.getElem_of_mem hm
        exact HA.out i hi hi e))
      go_wp2
      go_ret
      exact ⟨_, rfl, by rw [HE.out]; exact HO.out, hx⟩
theorem chainR_any (n : List UInt8) (w : World) :
    Calls Tryd.prog 16 #[.string ⟨⟨n⟩⟩] w fun e w' => ∃ v, e = .returned v ∧ OwnS w.heap.size v (chainL n) w' ∧ Ext w w' := by
  by_cases h0 : n = [115, 99, 114, 105, 112, 116, 45, 115, 114, 99, 45, 101, 108, 101, 109]
  · rw [h0, show chainL [115, 99, 114, 105, 112, 116, 45, 115, 114, 99, 45, 101, 108, 101, 109] = [[115, 99, 114, 105, 112, 116, 45, 115, 114, 99, 45, 101, 108, 101, 109], [115, 99, 114, 105, 112, 116, 45, 115, 114, 99], [100, 101, 102, 97, 117, 108, 116, 45, 115, 114, 99]] from by decide]
    exact chainR_at0 w
  by_cases h1 : n = [115, 99, 114, 105, 112, 116, 45, 115, 114, 99, 45, 97, 116, 116, 114]
  · rw [h1, show chainL [115, 99, 114, 105, 112, 116, 45, 115, 114, 99, 45, 97, 116, 116, 114] = [[115, 99, 114, 105, 112, 116, 45, 115, 114, 99, 45, 97, 116, 116, 114], [115, 99, 114, 105, 112, 116, 45, 115, 114, 99], [100, 101, 102, 97, 117, 108, 116, 45, 115, 114, 99]] from by decide]
    exact chainR_at1 w
  by_cases h2 : n = [115, 116, 121, 108, 101, 45, 115, 114, 99, 45, 101, 108, 101, 109]
  · rw [h2, show chainL [115, 116, 121, 108, 101, 45, 115, 114, 99, 45, 101, 108, 101, 109] = [[115, 116, 121, 108, 101, 45, 115, 114, 99, 45, 101, 108, 101, 109], [115, 116, 121, 108, 101, 45, 115, 114, 99], [100, 101, 102, 97, 117, 108, 116, 45, 115, 114, 99]] from by decide]
    exact chainR_at2 w
  by_cases h3 : n = [115, 116, 121, 108, 101, 45, 115, 114, 99, 45, 97, 116, 116, 114]
  · rw [h3, show chainL [115, 116, 121, 108, 101, 45, 115, 114, 99, 45, 97, 116, 116, 114] = [[115, 116, 121, 108, 101, 45, 115, 114, 99, 45, 97, 116, 116, 114], [115, 116, 121, 108, 101, 45, 115, 114, 99], [100, 101, 102, 97, 117, 108, 116, 45, 115, 114, 99]] from by decide]
    exact chainR_at3 w
  by_cases h4 : n = [119, 111, 114, 107, 101, 114, 45, 115, 114, 99]
  · rw [h4, show chainL [119, 111, 114, 107, 101, 114, 45, 115, 114, 99] = [[119, 111, 114, 107, 101, 114, 45, 115, 114, 99], [99, 104, 105, 108, 100, 45, 115, 114, 99], [115, 99, 114, 105, 112, 116, 45, 115, 114, 99], [100, 101, 102, 97, 117, 108, 116, 45, 115, 114, 99]] from by decide]
    exact chainR_at4 w
  by_cases h5 : n = [102, 114, 97, 109, 101, 45, 115, 114, 99]
  · rw [h5, show chainL [102, 114, 97, 109, 101, 45, 115, 114, 99] = [[102, 114, 97, 109, 101, 45, 115, 114, 99], [99, 104, 105, 108, 100, 45, 115, 114, 99], [100, 101, 102, 97, 117, 108, 116, 45, 115, 114, 99]] from by decide]
    exact chainR_at5 w
  exact chainR_atN n (beq_eq_false_iff_ne.2 h0) (beq_eq_false_iff_ne.2 h1) (beq_eq_false_iff_ne.2 h2) (beq_eq_false_iff_ne.2 h3) (beq_eq_false_iff_ne.2 h4) (beq_eq_false_iff_ne.2 h5) w
end Go.Proofs.YtkofccabfkkgjaaDoor
