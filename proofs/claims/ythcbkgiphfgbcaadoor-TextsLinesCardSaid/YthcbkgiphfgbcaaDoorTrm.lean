/-
  What is proved: strings.TrimPrefix, of any two texts: a contract. No condition.
-/
import Derived.Test.YthcbkgiphfgbcaaDoorBase
import Derived.Test.YthcbkgiphfgbcaaDoorRows
namespace Go.Proofs.YthcbkgiphfgbcaaDoor
open Go.RowKit

theorem isPrefix_iff (p s : List UInt8) : p.isPrefixOf s = (decide (p.length ≤ s.length) && (s.take p.length == p)) := by
  rw [Bool.eq_iff_iff, List.isPrefixOf_iff_prefix]
  simp only [Bool.and_eq_true, decide_eq_true_eq, beq_iff_eq]
  constructor
  · rintro ⟨t, rfl⟩
    simp
  · rintro ⟨_, h⟩
    exact ⟨s.drop p.length, by rw [← List.take_append_drop p.length s, h]; simp⟩
theorem prefix_lite (s p : List UInt8) (w : World) :
    Calls Tryd.prog 23 #[.string ⟨⟨s⟩⟩, .string ⟨⟨p⟩⟩] w fun e w' => e = .returned (.bool (p.isPrefixOf s)) ∧ w = w' := by
  rw [isPrefix_iff]
  by_cases h : (p.length : Int) ≤ s.length
  · go_enter Tryd.func23, Tryd.ntmps23
    go_wp2
    go_ret
    have h2 : p.length ≤ s.length := by omega
    refine ⟨ret_inj (bool_eq ?_), rfl⟩
    simp [h2]
  · have h3 : (s.length : Int) < p.length := by omega
    go_enter Tryd.func23, Tryd.ntmps23
    go_wp2
    go_ret
    have h2 : ¬ p.length ≤ s.length := by omega
    refine ⟨ret_inj (bool_eq ?_), rfl⟩
    simp [h2]
/-- A text without some bytes at its front, if they stand there. -/
def cutB (p s : List UInt8) : List UInt8 := if p.isPrefixOf s then s.drop p.length else s
theorem trim_lite (s p : List UInt8) (w : World) :
    Calls Tryd.prog 20 #[.string ⟨⟨s⟩⟩, .string ⟨⟨p⟩⟩] w fun e w' => e = .returned (.string ⟨⟨cutB p s⟩⟩) ∧ w = w' := by
  unfold cutB
  cases h : p.isPrefixOf s
  · have HH := Lib.hid h
    clear h
    go_enter Tryd.func20, Tryd.ntmps20
    go_wp2_with (go_at_call 23; refine (prefix_lite _ _ _).mono ?_; rintro e w' ⟨rfl, rfl⟩; rw [HH.out])
    go_ret
    exact ⟨rfl, rfl⟩
  · have hle := (List.isPrefixOf_iff_prefix.1 h).length_le
    have HH := Lib.hid h
    clear h
    go_enter Tryd.func20, Tryd.ntmps20
    go_wp2_with (go_at_call 23; refine (prefix_lite _ _ _).mono ?_; rintro e w' ⟨rfl, rfl⟩; rw [HH.out])
    go_ret
    exact ⟨rfl, rfl⟩
theorem trimPrefix_any (s p : List UInt8) (w : World) :
    Calls Tryd.prog 13 #[.string ⟨⟨s⟩⟩, .string ⟨⟨p⟩⟩] w fun e w' => e = .returned (.string ⟨⟨cutB p s⟩⟩) ∧ w = w' := by
  go_enter Tryd.func13, Tryd.ntmps13
  go_wp2_with (go_at_call 20; refine (trim_lite _ _ _).mono ?_; rintro e w' ⟨rfl, rfl⟩)
  go_ret
  exact ⟨rfl, rfl⟩
end Go.Proofs.YthcbkgiphfgbcaaDoor
