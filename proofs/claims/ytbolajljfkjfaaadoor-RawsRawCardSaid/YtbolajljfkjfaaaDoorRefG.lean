/-
  What is proved: what begins where, in the reference of layer 9: a contract. No condition.
-/
import Derived.Test.YtbolajljfkjfaaaDoorRefF
namespace Go.Proofs.YtbolajljfkjfaaaDoor
open Go.RowKit

theorem begins_any (s t : List UInt8) (k : Nat) (w : World) (hk : k ≤ s.length) (hl : s.length < 100000) (ht : t.length < 100000) :
    Calls Tryd.prog 69 #[.string ⟨⟨s⟩⟩, .int .i64 k, .string ⟨⟨t⟩⟩] w fun e w' => e = .returned (.bool (t.isPrefixOf (s.drop k))) ∧ w = w' := by
  rw [isPrefix_iff]
  have HL : Hid ((s.drop k).length = s.length - k) := Lib.hid (by simp)
  by_cases h : (t.length : Int) ≤ s.length - k
  · go_enter Tryd.func69, Tryd.ntmps69
    go_wp2
    go_ret
    refine ⟨ret_inj (bool_eq ?_), rfl⟩
    have h2 : t.length ≤ (s.drop k).length := by rw [HL.out]; omega
    simp only [decide_eq_true h2, Bool.true_and]
  · have h3 : (s.length : Int) - k < t.length := by omega
    go_enter Tryd.func69, Tryd.ntmps69
    go_wp2
    go_ret
    refine ⟨ret_inj (bool_eq ?_), rfl⟩
    have h2 : ¬ t.length ≤ s.length - k := by omega
    simp only [decide_eq_false h2, Bool.false_and]
end Go.Proofs.YtbolajljfkjfaaaDoor
