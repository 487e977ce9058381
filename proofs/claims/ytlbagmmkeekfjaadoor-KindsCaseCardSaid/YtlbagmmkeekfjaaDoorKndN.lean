/-
  What is proved: the walk of the statement KindsCase. Condition: the package's table holds what its text lays.
-/
import Derived.Test.YtlbagmmkeekfjaaDoorKndL
import Derived.Test.YtlbagmmkeekfjaaDoorRow
import Derived.Deep.DeepCutAuto
namespace Go.Proofs.YtlbagmmkeekfjaaDoor
open Go.RowKit

/-- A byte that stands in no name of the lists. -/
def offB (c : UInt8) : Bool := c == 32 || (65 ≤ c && c ≤ 90)
/-- A text that is in no list: nothing at all, or with such a byte. -/
def offT (s : List UInt8) : Bool := s.isEmpty || s.any offB
theorem memB_offT {ws : List (List UInt8)} (hw : ws.all (fun x => !offT x) = true) {s : List UInt8} (hs : offT s = true) : memB ws s = false := by
  unfold memB
  rw [decide_eq_false_iff_not]
  intro h
  have := List.all_eq_true.1 hw s h
  rw [hs] at this
  cases this
theorem stN_offT {s : List UInt8} (hs : offT s = true) : stN s = 0 := by
  have key : [[116, 101, 120, 116, 97, 114, 101, 97], [116, 105, 116, 108, 101], [105, 102, 114, 97, 109, 101], [110, 111, 101, 109, 98, 101, 100], [110, 111, 102, 114, 97, 109, 101, 115], [115, 116, 121, 108, 101], [120, 109, 112], [115, 99, 114, 105, 112, 116], [112, 108, 97, 105, 110, 116, 101, 120, 116]].all (fun x => !offT x) = true := by decide +kernel
  have h := memB_offT key hs
  unfold memB at h
  simp only [decide_eq_false_iff_not, List.mem_cons, List.not_mem_nil, or_false, not_or] at h
  obtain ⟨h0, h1, h2, h3, h4, h5, h6, h7, h8⟩ := h
  simp [stN, h0, h1, h2, h3, h4, h5, h6, h7, h8]
theorem scB_offT (which : Int) (h0 : 0 ≤ which) (h3 : which ≤ 3) {s : List UInt8} (hs : offT s = true) : scB which 0 s = false := by
  unfold scB
  rw [if_neg (by omega)]
  simp only [if_true]
  rcases (by omega : which = 0 ∨ which = 1 ∨ which = 2 ∨ which = 3) with rfl | rfl | rfl | rfl
  · exact memB_offT (ws := scopeW 0) (by decide +kernel) hs
  · exact memB_offT (ws := scopeW 1) (by decide +kernel) hs
  · exact memB_offT (ws := scopeW 2) (by decide +kernel) hs
  · exact memB_offT (ws := scopeW 3) (by decide +kernel) hs
theorem offT_set (l : List UInt8) (k : Nat) (c : UInt8) (hk : k < l.length) (hc : offB c = true) : offT (l.set k c) = true := by
  unfold offT
  have : (l.set k c).any offB = true := by
    rw [List.any_eq_true]
    exact ⟨c, List.mem_set hk _, hc⟩
  rw [this, Bool.or_true]

/-- The second half, by itself: every list says no. -/
def CaseEnd (s : List UInt8) : Prop := memB formattingW s = false ∧ memB voidW s = false ∧ memB impliedW s = false ∧ thoB s = false ∧ memB headingsW s = false ∧ spB 0 s = false ∧ stN s = 0
theorem caseEnd {s : List UInt8} (hs : offT s = true) : CaseEnd s := by
  refine ⟨memB_offT (by decide +kernel) hs, memB_offT (by decide +kernel) hs, memB_offT (by decide +kernel) hs, ?_, memB_offT (by decide +kernel) hs, memB_offT (ws := specialW) (by decide +kernel) hs, stN_offT hs⟩
  unfold thoB
  rw [memB_offT (ws := impliedW) (by decide +kernel) hs, memB_offT (ws := thoroughW) (by decide +kernel) hs]
  rfl

/-- Behind the change of one byte: the row holds a text as long as the first one, that is in no list; nothing that was there has turned. -/
def CaseRow (w : World) (l : List UInt8) (wx : World) : Prop := ∃ t : List UInt8, ByteRow w.heap.size t wx ∧ t.length = l.length ∧ offT t = true ∧ Ext w wx
set_option maxRecDepth 100000 in
set_option maxHeartbeats 2000000 in
theorem case_walk (l : List UInt8) (at_ : Int) (w : World) (hg : Glob w) (hs : l.length ≤ maxLen) (ha0 : 0 ≤ at_) (ha1 : at_ ≤ 65535) :
    Calls Tryd.prog 5 #[.string ⟨⟨l⟩⟩, .int .u16 at_] w fun e w' => e = .returned (.bool true) ∧ Below w.heap.size w w' := by
  unfold maxLen at hs
  have hG := Lib.hid hg
  clear hg
  by_cases h : l.length ≤ 300
  · obtain ⟨cap, w1, hconv, hcap, hrow, hext, hsz⟩ := row_of_string (P := Tryd.prog) w 9 30 5 l Tryd.underlying9 Tryd.underlying30 Tryd.underlying5
    have HR := Lib.hid hrow
    have HE := Lib.hid hext
    clear hrow hext hsz
    go_enter Tryd.func5, Tryd.ntmps5
    go_upto_if 17 with fail
    go_cut [6] (fun _ wx => CaseRow w l wx)
    case first =>
      by_cases h0 : 0 < l.length
      · obtain ⟨k, hk⟩ : ∃ k : Nat, at_ % (l.length : Int) = k := ⟨(at_ % (l.length : Int)).toNat, by have := Int.emod_nonneg at_ (b := (l.length : Int)) (by omega); omega⟩
        have hkl : k < l.length := by have := Int.emod_lt_of_pos at_ (b := (l.length : Int)) (by omega); omega
        obtain ⟨c, hc⟩ : ∃ c, l[k] = c := ⟨_, rfl⟩
        have hcl := c.toNat_lt
        have hcell := HR.out.cell k hkl
        rw [hc] at hcell
        have hfree := HR.out.free k hkl
        rcases (by omega : c.toNat < 97 ∨ (97 ≤ c.toNat ∧ c.toNat ≤ 122) ∨ (97 ≤ c.toNat ∧ 122 < c.toNat)) with h1 | ⟨h1, h2⟩ | ⟨h1, h2⟩
        · go_wp2_with fail
          go_meet
          case rel => exact ⟨l.set k 32, HR.out.set k 32, by simp, offT_set l k 32 hkl (by decide), HE.out.setCell (Nat.le_refl _) _⟩
        · have hc32 : ((c.toNat : Int) - 32) = ((c - 32).toNat : Int) := by
            have h32 : (32 : UInt8).toNat = 32 := rfl
            rw [UInt8.toNat_sub_of_le _ _ (by rw [UInt8.le_iff_toNat_le, h32]; omega), h32]
            omega
          have HC := Lib.hid hc32
          clear hc32
          go_wp2_with fail
          go_meet
          case rel =>
            rw [HC.out]
            refine ⟨l.set k (c - 32), HR.out.set k (c - 32), by simp, offT_set l k _ hkl ?_, HE.out.setCell (Nat.le_refl _) _⟩
            have h3 := HC.out
            have h65 : (65 : UInt8).toNat = 65 := rfl
            have h90 : (90 : UInt8).toNat = 90 := rfl
            unfold offB
            simp only [Bool.or_eq_true, Bool.and_eq_true, decide_eq_true_eq, UInt8.le_iff_toNat_le, h65, h90]
            exact .inr ⟨by omega, by omega⟩
        · go_wp2_with fail
          go_meet
          case rel => exact ⟨l.set k 32, HR.out.set k 32, by simp, offT_set l k 32 hkl (by decide), HE.out.setCell (Nat.le_refl _) _⟩
      · have hl0 : l = [] := List.eq_nil_of_length_eq_zero (by omega)
        subst hl0
        go_wp2_with fail
        go_meet
        case rel => exact ⟨[], HR.out, rfl, rfl, HE.out⟩
    case rest =>
      obtain ⟨t, htr, htl, hto, hte⟩ := hcut
      have hback := htr.back (P := Tryd.prog) 30 9 5 cap Tryd.underlying30 Tryd.underlying5 Tryd.underlying9
      rw [htl] at hback
      have hG2 := Lib.hid (hG.out.ext hte)
      have HO := Lib.hid hto
      have HT := Lib.hid hte
      have hlt : t.length ≤ 300 := by omega
      clear hto hte htr htl hconv
      go_wp2_with fail
      clear hback
      go_loop [8] (fun i => ∃ j : Int, i = .int .i64 j ∧ 0 ≤ j ∧ j ≤ 4) (fun i => (4 - intOf i).toNat)
      case atStart => exact ⟨0, rfl, by omega, by omega⟩
      case round =>
        obtain ⟨j, rfl, hj0, hj4⟩ := hrel
        by_cases hj : j < 4
        · have hsc := scB_offT j hj0 (by omega) HO.out
          go_wp2_with (go_at_call 7; refine (scope_any _ _ _ _ hG2.out hlt).mono ?_; rintro e w' ⟨rfl, rfl⟩)
          go_round
          case rel => exact ⟨j + 1, by go_num, by omega, by omega⟩
          case measure => simp [intOf]; omega
        · obtain ⟨e1, e2, e3, e4, e5, e6, e7⟩ := caseEnd HO.out
          go_wp2_with (first
            | (go_at_call 9; refine (special_any _ _ _ hG2.out hlt).mono ?_; rintro e w' ⟨rfl, rfl⟩)
            | (go_at_call 21; refine (state_any _ _).mono ?_; rintro e w' ⟨rfl, rfl⟩)
            | (go_at_call 19; refine (heading_any _ _ hG2.out hlt).mono ?_; rintro e w' ⟨rfl, rfl⟩)
            | (go_at_call 11; refine (formatting_any _ _ hG2.out hlt).mono ?_; rintro e w' ⟨rfl, rfl⟩)
            | (go_at_call 13; refine (void_any _ _ hG2.out hlt).mono ?_; rintro e w' ⟨rfl, rfl⟩)
            | (go_at_call 15; refine (implied_any _ _ hG2.out hlt).mono ?_; rintro e w' ⟨rfl, rfl⟩)
            | (go_at_call 17; refine (thorough_any _ _ hG2.out hlt).mono ?_; rintro e w' ⟨rfl, rfl⟩)
            | (go_at_call 6; refine (listed_any _ hG2.out).mono ?_; rintro e w' ⟨rfl, rfl⟩))
          go_ret
          exact ⟨rfl, HT.out⟩
  · go_enter Tryd.func5, Tryd.ntmps5
    go_wp2_with fail
    refine (listed_any _ hG.out).mono ?_
    rintro e w5 ⟨rfl, rfl⟩
    go_wp2_with fail
    go_ret
    exact ⟨rfl, Below.refl _ _⟩
end Go.Proofs.YtlbagmmkeekfjaaDoor
