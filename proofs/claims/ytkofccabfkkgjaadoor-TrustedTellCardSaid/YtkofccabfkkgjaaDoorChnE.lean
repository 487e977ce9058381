/-
  What is proved: which directive is asked for an item of a kind: the program's table, the reference's lists: contracts. Condition: the table holds its names.
-/
import Derived.Test.YtkofccabfkkgjaaDoorChnP
import Derived.Test.YtkofccabfkkgjaaDoorSpl
namespace Go.Proofs.YtkofccabfkkgjaaDoor
open Go.RowKit

/-- What the walks need of the package's variables. -/
structure ChG (w : World) : Prop where
  max : MaxIs w
  eff : ∀ i (h : i < effTab.length), w.cell? ⟨0, i, none⟩ = some (.string ⟨⟨effTab[i]⟩⟩)
theorem ChG.ext {w w' : World} (h : ChG w) (k : Below w.heap.size w w') : ChG w' := by
  refine ⟨h.max.ext k, fun i hi => ?_⟩
  have := h.eff i hi
  exact (k.cell (p := ⟨0, i, none⟩) (cell_lt this)).trans this
theorem eff_low {k : Int} (h : k < 0) : effL k = [] := by unfold effL; rw [if_pos h]
theorem eff_high {k : Int} (h : 17 ≤ k) : effL k = [] := by
  unfold effL
  rw [if_neg (by omega), List.getD_eq_getElem?_getD, List.getElem?_eq_none (by show 17 ≤ k.toNat; omega)]
  rfl
theorem eff_mid {k : Nat} (h : k < effTab.length) : effL (k : Int) = effTab[k] := by
  unfold effL
  rw [if_neg (by omega), Int.toNat_natCast, List.getD_eq_getElem?_getD, List.getElem?_eq_getElem h]
  rfl
theorem effective_any (k : Int) (w : World) (H : ChG w) :
    Calls Tryd.prog 13 #[.int .i64 k] w fun e w' => e = .returned (.string ⟨⟨effL k⟩⟩) ∧ w = w' := by
  by_cases h0 : k < 0
  · have HE := Lib.hid (eff_low h0)
    have hd : decide (k < 0) = true := by simpa using h0
    go_enter Tryd.func13, Tryd.ntmps13
    go_wp2
    go_ret
    exact ⟨ret_inj (str_eq (by rw [HE.out])), rfl⟩
  · by_cases h1 : 17 ≤ k
    · have HE := Lib.hid (eff_high h1)
      have hd : decide (k < 0) = false := by simpa using h0
      have hd2 : decide (17 ≤ k) = true := by simpa using h1
      go_enter Tryd.func13, Tryd.ntmps13
      go_wp2
      go_ret
      exact ⟨ret_inj (str_eq (by rw [HE.out])), rfl⟩
    · obtain ⟨n, rfl⟩ := Int.eq_ofNat_of_zero_le (by omega : 0 ≤ k)
      have hn : n < effTab.length := by show n < 17; omega
      have hc := H.eff n hn
      have HE := Lib.hid (eff_mid hn)
      have hd : decide ((n : Int) < 0) = false := by simp
      have hd2 : decide ((17 : Int) ≤ (n : Int)) = false := by simp; omega
      have hn17 : (n : Int) < 17 := by omega
      have hn0 : (0 : Int) ≤ (n : Int) := by omega
      obtain ⟨s, hs⟩ : ∃ s, effTab[n] = s := ⟨_, rfl⟩
      rw [hs] at hc
      have HE2 := Lib.hid (HE.out.trans hs)
      clear hs HE H hn h0 h1
      go_enter Tryd.func13, Tryd.ntmps13
      go_wp2
      go_ret
      exact ⟨ret_inj (str_eq (by rw [HE2.out])), rfl⟩
theorem kindsL_at {j : Nat} (h : j < 9) : ([8, 9, 10, 11, 12, 13, 14, 15, 16] : List Int).getD j 0 = (j : Int) + 8 := by
  have : ∀ j : Fin 9, ([8, 9, 10, 11, 12, 13, 14, 15, 16] : List Int).getD j.val 0 = (j.val : Int) + 8 := by decide
  exact this ⟨j, h⟩
theorem nine {P : Nat → Prop} (h0 : P 0) (h1 : P 1) (h2 : P 2) (h3 : P 3) (h4 : P 4) (h5 : P 5) (h6 : P 6) (h7 : P 7) (h8 : P 8) : ∀ j, j < 9 → P j := by
  intro j hj
  obtain rfl | rfl | rfl | rfl | rfl | rfl | rfl | rfl | rfl : j = 0 ∨ j = 1 ∨ j = 2 ∨ j = 3 ∨ j = 4 ∨ j = 5 ∨ j = 6 ∨ j = 7 ∨ j = 8 := by omega
  all_goals assumption
theorem alloc_two (w : World) (A B : Obj) : ((w.alloc A).alloc B).heap[w.heap.size]? = some A ∧ ((w.alloc A).alloc B).heap[w.heap.size + 1]? = some B := by
  refine ⟨?_, ?_⟩
  · rw [Below.heap_alloc _ _ _ (by simp)]
    exact heap_alloc_new w _
  · have := heap_alloc_new (w.alloc A) B
    rwa [World.size_alloc] at this
theorem cells_of_lit {w : World} {t : TypeId} {cs : Array Value} {b : Nat} (h : w.heap[b]? = some (.cells cs t)) (i : Nat) : w.cell? ⟨b, i, none⟩ = cs[i]? := by
  simp [World.cell?, h]
set_option maxHeartbeats 4000000 in
theorem effectiveR_any (k : Int) (w : World) :
    Calls Tryd.prog 14 #[.int .i64 k] w fun e w' => e = .returned (.string ⟨⟨effL k⟩⟩) ∧ Ext w w' := by
  by_cases h1 : k = 1
  · subst h1
    have HE : Hid (effL 1 = [115, 99, 114, 105, 112, 116, 45, 115, 114, 99, 45, 101, 108, 101, 109]) := Lib.hid (by decide)
    go_enter Tryd.func14, Tryd.ntmps14
    go_wp2
    go_ret
    exact ⟨ret_inj (str_eq (by rw [HE.out])), Ext.refl _⟩
  by_cases h2 : k = 2
  · subst h2
    have HE : Hid (effL 2 = [115, 99, 114, 105, 112, 116, 45, 115, 114, 99, 45, 101, 108, 101, 109]) := Lib.hid (by decide)
    go_enter Tryd.func14, Tryd.ntmps14
    go_wp2
    go_ret
    exact ⟨ret_inj (str_eq (by rw [HE.out])), Ext.refl _⟩
  by_cases h4 : k = 4
  · subst h4
    have HE : Hid (effL 4 = [115, 99, 114, 105, 112, 116, 45, 115, 114, 99, 45, 101, 108, 101, 109]) := Lib.hid (by decide)
    go_enter Tryd.func14, Tryd.ntmps14
    go_wp2
    go_ret
    exact ⟨ret_inj (str_eq (by rw [HE.out])), Ext.refl _⟩
  by_cases h3 : k = 3
  · subst h3
    have HE : Hid (effL 3 = [115, 99, 114, 105, 112, 116, 45, 115, 114, 99, 45, 97, 116, 116, 114]) := Lib.hid (by decide)
    go_enter Tryd.func14, Tryd.ntmps14
    go_wp2
    go_ret
    exact ⟨ret_inj (str_eq (by rw [HE.out])), Ext.refl _⟩
  by_cases h5 : k = 5
  · subst h5
    have HE : Hid (effL 5 = [115, 116, 121, 108, 101, 45, 115, 114, 99, 45, 101, 108, 101, 109]) := Lib.hid (by decide)
    go_enter Tryd.func14, Tryd.ntmps14
    go_wp2
    go_ret
    exact ⟨ret_inj (str_eq (by rw [HE.out])), Ext.refl _⟩
  by_cases h6 : k = 6
  · subst h6
    have HE : Hid (effL 6 = [115, 116, 121, 108, 101, 45, 115, 114, 99, 45, 101, 108, 101, 109]) := Lib.hid (by decide)
    go_enter Tryd.func14, Tryd.ntmps14
    go_wp2
    go_ret
    exact ⟨ret_inj (str_eq (by rw [HE.out])), Ext.refl _⟩
  by_cases h7 : k = 7
  · subst h7
    have HE : Hid (effL 7 = [115, 116, 121, 108, 101, 45, 115, 114, 99, 45, 97, 116, 116, 114]) := Lib.hid (by decide)
    go_enter Tryd.func14, Tryd.ntmps14
    go_wp2
    go_ret
    exact ⟨ret_inj (str_eq (by rw [HE.out])), Ext.refl _⟩
  have e1 : (k == 1) = false := beq_eq_false_iff_ne.2 h1
  have e2 : (k == 2) = false := beq_eq_false_iff_ne.2 h2
  have e3 : (k == 3) = false := beq_eq_false_iff_ne.2 h3
  have e4 : (k == 4) = false := beq_eq_false_iff_ne.2 h4
  have e5 : (k == 5) = false := beq_eq_false_iff_ne.2 h5
  have e6 : (k == 6) = false := beq_eq_false_iff_ne.2 h6
  have e7 : (k == 7) = false := beq_eq_false_iff_ne.2 h7
  go_enter Tryd.func14, Tryd.ntmps14
  go_wp2
  go_loopw [5] (fun i wr => ∃ j : Nat, i = .int .i64 j ∧ j ≤ 9 ∧ Hid (∀ j, j < 9 → wr.cell? ⟨w.heap.size, j, none⟩ = some (.int .i64 ((j : Int) + 8))) ∧ Hid (∀ j, j < 9 → wr.cell? ⟨w.heap.size + 1, j, none⟩ = some (.string ⟨⟨effL ((j : Int) + 8)⟩⟩)) ∧ Ext w wr ∧ Hid (∀ i, i < j → ¬ (i : Int) + 8 = k)) (fun i _ => 9 - (intOf i).toNat)
  case atStart =>
    refine ⟨0, rfl, by omega, Lib.hid ?_, Lib.hid ?_, ((Below.refl _ _).alloc (Nat.le_refl _) _).alloc (by simp) _, Lib.hid (fun i hi => by omega)⟩
    · refine nine ?_ ?_ ?_ ?_ ?_ ?_ ?_ ?_ ?_ <;> exact cells_of_lit (alloc_two w _ _).1 _
    · refine nine ?_ ?_ ?_ ?_ ?_ ?_ ?_ ?_ ?_ <;> exact cells_of_lit (alloc_two w _ _).2 _
  case round =>
    obtain ⟨j, rfl, hj, HK, HS, hx, HN⟩ := hrel
    by_cases hlt : j < 9
    · have ck := HK.out j hlt
      have cs := HS.out j hlt
      have hj0 : (0 : Int) ≤ (j : Int) := by omega
      have hj9 : (j : Int) < 9 := by omega
      by_cases hq : (j : Int) + 8 = k
      · subst hq
        have eq : ((j : Int) + 8 == (j : Int) + 8) = true := by simp
        go_wp2
        go_ret
        exact ⟨rfl, hx⟩
      · have eq : ((j : Int) + 8 == k) = false := beq_eq_false_iff_ne.2 hq
        go_wp2
        go_roundw
        case rel => exact ⟨j + 1, by go_num, by omega, HK, HS, hx, Lib.hid (fun i hi => by
          by_cases e : i = j
          · subst e; exact hq
          · exact HN.out i (by omega))⟩
        case measure => simp [intOf]; omega
    · obtain rfl : j = 9 := by omega
      have HE : Hid (effL k = []) := Lib.hid (by
        by_cases h0 : k < 0
        · exact eff_low h0
        · by_cases h17 : 17 ≤ k
          · exact eff_high h17
          · by_cases hz : k = 0
            · subst hz; rfl
            · exact absurd (by omega) (HN.out (k.toNat - 8) (by omega)))
      go_wp2
      go_ret
      exact ⟨ret_inj (str_eq (by rw [HE.out])), hx⟩
end Go.Proofs.YtkofccabfkkgjaaDoor
