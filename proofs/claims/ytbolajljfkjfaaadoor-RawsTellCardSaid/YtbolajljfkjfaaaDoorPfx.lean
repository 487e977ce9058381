/-
  What is proved: strings.HasPrefix, of any two texts: a contract. No condition.
-/
import Derived.Test.YtbolajljfkjfaaaDoorBase
import Derived.Test.YtbolajljfkjfaaaDoorRows
namespace Go.Proofs.YtbolajljfkjfaaaDoor
open Go.RowKit

theorem isPrefix_iff (p s : List UInt8) : p.isPrefixOf s = (decide (p.length ≤ s.length) && (s.take p.length == p)) := by
  rw [Bool.eq_iff_iff, List.isPrefixOf_iff_prefix]
  simp only [Bool.and_eq_true, decide_eq_true_eq, beq_iff_eq]
  constructor
  · rintro ⟨t, rfl⟩
    simp
  · rintro ⟨_, h⟩
    exact ⟨s.drop p.length, by rw [← List.take_append_drop p.length s, h]; simp⟩
theorem prefix_lite (s p : List UInt8) (w : World) :
    Calls Tryd.prog 89 #[.string ⟨⟨s⟩⟩, .string ⟨⟨p⟩⟩] w fun e w' => e = .returned (.bool (p.isPrefixOf s)) ∧ w = w' := by
  rw [isPrefix_iff]
  by_cases h : (p.length : Int) ≤ s.length
  · go_enter Tryd.func89, Tryd.ntmps89
    go_wp2
    go_ret
    have h2 : p.length ≤ s.length := by omega
    refine ⟨ret_inj (bool_eq ?_), rfl⟩
    simp [h2]
  · have h3 : (s.length : Int) < p.length := by omega
    go_enter Tryd.func89, Tryd.ntmps89
    go_wp2
    go_ret
    have h2 : ¬ p.length ≤ s.length := by omega
    refine ⟨ret_inj (bool_eq ?_), rfl⟩
    simp [h2]
theorem hasPrefix_any (s p : List UInt8) (w : World) :
    Calls Tryd.prog 67 #[.string ⟨⟨s⟩⟩, .string ⟨⟨p⟩⟩] w fun e w' => e = .returned (.bool (p.isPrefixOf s)) ∧ w = w' := by
  go_enter Tryd.func67, Tryd.ntmps67
  go_wp2_with (go_at_call 89; refine (prefix_lite _ _ _).mono ?_; rintro e w' ⟨rfl, rfl⟩)
  go_ret
  exact ⟨rfl, rfl⟩
end Go.Proofs.YtbolajljfkjfaaaDoor
