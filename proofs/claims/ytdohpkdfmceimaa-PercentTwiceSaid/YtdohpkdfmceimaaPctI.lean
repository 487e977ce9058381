/-
  What is proved: the reference's In at the bytes that stand in some set: contracts. No condition. (Printed by a program of our own: a theorem a byte.)
-/
import Derived.Test.YtdohpkdfmceimaaPctX
namespace Go.Proofs.Ytdohpkdfmceimaa
open Go.RowKit
set_option maxHeartbeats 400000 in
theorem in_32 (k : Int) (w : World) : Calls Try.prog 17 #[.int .i64 k, .int .u8 32] w (OneRes (.bool (inSet k 32)) w) := by
  go_enter Try.func17, Try.ntmps17
  go_wp2
  all_goals
    go_ret
    refine ⟨ret_inj (bool_eq ?_), rfl⟩
    simp only [beq_iff_eq, beq_eq_false_iff_ne, ne_eq] at *
    first
      | (subst k; kernel_rfl)
      | exact (inSet_off k (by assumption) (by assumption) (by assumption) (by assumption) (by assumption) (by assumption) 32 (by decide) (by decide)).symm
set_option maxHeartbeats 400000 in
theorem in_34 (k : Int) (w : World) : Calls Try.prog 17 #[.int .i64 k, .int .u8 34] w (OneRes (.bool (inSet k 34)) w) := by
  go_enter Try.func17, Try.ntmps17
  go_wp2
  all_goals
    go_ret
    refine ⟨ret_inj (bool_eq ?_), rfl⟩
    simp only [beq_iff_eq, beq_eq_false_iff_ne, ne_eq] at *
    first
      | (subst k; kernel_rfl)
      | exact (inSet_off k (by assumption) (by assumption) (by assumption) (by assumption) (by assumption) (by assumption) 34 (by decide) (by decide)).symm
set_option maxHeartbeats 400000 in
theorem in_35 (k : Int) (w : World) : Calls Try.prog 17 #[.int .i64 k, .int .u8 35] w (OneRes (.bool (inSet k 35)) w) := by
  go_enter Try.func17, Try.ntmps17
  go_wp2
  all_goals
    go_ret
    refine ⟨ret_inj (bool_eq ?_), rfl⟩
    simp only [beq_iff_eq, beq_eq_false_iff_ne, ne_eq] at *
    first
      | (subst k; kernel_rfl)
      | exact (inSet_off k (by assumption) (by assumption) (by assumption) (by assumption) (by assumption) (by assumption) 35 (by decide) (by decide)).symm
set_option maxHeartbeats 400000 in
theorem in_39 (k : Int) (w : World) : Calls Try.prog 17 #[.int .i64 k, .int .u8 39] w (OneRes (.bool (inSet k 39)) w) := by
  go_enter Try.func17, Try.ntmps17
  go_wp2
  all_goals
    go_ret
    refine ⟨ret_inj (bool_eq ?_), rfl⟩
    simp only [beq_iff_eq, beq_eq_false_iff_ne, ne_eq] at *
    first
      | (subst k; kernel_rfl)
      | exact (inSet_off k (by assumption) (by assumption) (by assumption) (by assumption) (by assumption) (by assumption) 39 (by decide) (by decide)).symm
set_option maxHeartbeats 400000 in
theorem in_60 (k : Int) (w : World) : Calls Try.prog 17 #[.int .i64 k, .int .u8 60] w (OneRes (.bool (inSet k 60)) w) := by
  go_enter Try.func17, Try.ntmps17
  go_wp2
  all_goals
    go_ret
    refine ⟨ret_inj (bool_eq ?_), rfl⟩
    simp only [beq_iff_eq, beq_eq_false_iff_ne, ne_eq] at *
    first
      | (subst k; kernel_rfl)
      | exact (inSet_off k (by assumption) (by assumption) (by assumption) (by assumption) (by assumption) (by assumption) 60 (by decide) (by decide)).symm
set_option maxHeartbeats 400000 in
theorem in_62 (k : Int) (w : World) : Calls Try.prog 17 #[.int .i64 k, .int .u8 62] w (OneRes (.bool (inSet k 62)) w) := by
  go_enter Try.func17, Try.ntmps17
  go_wp2
  all_goals
    go_ret
    refine ⟨ret_inj (bool_eq ?_), rfl⟩
    simp only [beq_iff_eq, beq_eq_false_iff_ne, ne_eq] at *
    first
      | (subst k; kernel_rfl)
      | exact (inSet_off k (by assumption) (by assumption) (by assumption) (by assumption) (by assumption) (by assumption) 62 (by decide) (by decide)).symm
set_option maxHeartbeats 400000 in
theorem in_63 (k : Int) (w : World) : Calls Try.prog 17 #[.int .i64 k, .int .u8 63] w (OneRes (.bool (inSet k 63)) w) := by
  go_enter Try.func17, Try.ntmps17
  go_wp2
  all_goals
    go_ret
    refine ⟨ret_inj (bool_eq ?_), rfl⟩
    simp only [beq_iff_eq, beq_eq_false_iff_ne, ne_eq] at *
    first
      | (subst k; kernel_rfl)
      | exact (inSet_off k (by assumption) (by assumption) (by assumption) (by assumption) (by assumption) (by assumption) 63 (by decide) (by decide)).symm
set_option maxHeartbeats 400000 in
theorem in_94 (k : Int) (w : World) : Calls Try.prog 17 #[.int .i64 k, .int .u8 94] w (OneRes (.bool (inSet k 94)) w) := by
  go_enter Try.func17, Try.ntmps17
  go_wp2
  all_goals
    go_ret
    refine ⟨ret_inj (bool_eq ?_), rfl⟩
    simp only [beq_iff_eq, beq_eq_false_iff_ne, ne_eq] at *
    first
      | (subst k; kernel_rfl)
      | exact (inSet_off k (by assumption) (by assumption) (by assumption) (by assumption) (by assumption) (by assumption) 94 (by decide) (by decide)).symm
set_option maxHeartbeats 400000 in
theorem in_96 (k : Int) (w : World) : Calls Try.prog 17 #[.int .i64 k, .int .u8 96] w (OneRes (.bool (inSet k 96)) w) := by
  go_enter Try.func17, Try.ntmps17
  go_wp2
  all_goals
    go_ret
    refine ⟨ret_inj (bool_eq ?_), rfl⟩
    simp only [beq_iff_eq, beq_eq_false_iff_ne, ne_eq] at *
    first
      | (subst k; kernel_rfl)
      | exact (inSet_off k (by assumption) (by assumption) (by assumption) (by assumption) (by assumption) (by assumption) 96 (by decide) (by decide)).symm
set_option maxHeartbeats 400000 in
theorem in_123 (k : Int) (w : World) : Calls Try.prog 17 #[.int .i64 k, .int .u8 123] w (OneRes (.bool (inSet k 123)) w) := by
  go_enter Try.func17, Try.ntmps17
  go_wp2
  all_goals
    go_ret
    refine ⟨ret_inj (bool_eq ?_), rfl⟩
    simp only [beq_iff_eq, beq_eq_false_iff_ne, ne_eq] at *
    first
      | (subst k; kernel_rfl)
      | exact (inSet_off k (by assumption) (by assumption) (by assumption) (by assumption) (by assumption) (by assumption) 123 (by decide) (by decide)).symm
set_option maxHeartbeats 400000 in
theorem in_125 (k : Int) (w : World) : Calls Try.prog 17 #[.int .i64 k, .int .u8 125] w (OneRes (.bool (inSet k 125)) w) := by
  go_enter Try.func17, Try.ntmps17
  go_wp2
  all_goals
    go_ret
    refine ⟨ret_inj (bool_eq ?_), rfl⟩
    simp only [beq_iff_eq, beq_eq_false_iff_ne, ne_eq] at *
    first
      | (subst k; kernel_rfl)
      | exact (inSet_off k (by assumption) (by assumption) (by assumption) (by assumption) (by assumption) (by assumption) 125 (by decide) (by decide)).symm
set_option maxHeartbeats 400000 in
theorem in_47 (k : Int) (w : World) : Calls Try.prog 17 #[.int .i64 k, .int .u8 47] w (OneRes (.bool (inSet k 47)) w) := by
  go_enter Try.func17, Try.ntmps17
  go_wp2
  all_goals
    go_ret
    refine ⟨ret_inj (bool_eq ?_), rfl⟩
    simp only [beq_iff_eq, beq_eq_false_iff_ne, ne_eq] at *
    first
      | (subst k; kernel_rfl)
      | exact (inSet_off k (by assumption) (by assumption) (by assumption) (by assumption) (by assumption) (by assumption) 47 (by decide) (by decide)).symm
set_option maxHeartbeats 400000 in
theorem in_58 (k : Int) (w : World) : Calls Try.prog 17 #[.int .i64 k, .int .u8 58] w (OneRes (.bool (inSet k 58)) w) := by
  go_enter Try.func17, Try.ntmps17
  go_wp2
  all_goals
    go_ret
    refine ⟨ret_inj (bool_eq ?_), rfl⟩
    simp only [beq_iff_eq, beq_eq_false_iff_ne, ne_eq] at *
    first
      | (subst k; kernel_rfl)
      | exact (inSet_off k (by assumption) (by assumption) (by assumption) (by assumption) (by assumption) (by assumption) 58 (by decide) (by decide)).symm
set_option maxHeartbeats 400000 in
theorem in_59 (k : Int) (w : World) : Calls Try.prog 17 #[.int .i64 k, .int .u8 59] w (OneRes (.bool (inSet k 59)) w) := by
  go_enter Try.func17, Try.ntmps17
  go_wp2
  all_goals
    go_ret
    refine ⟨ret_inj (bool_eq ?_), rfl⟩
    simp only [beq_iff_eq, beq_eq_false_iff_ne, ne_eq] at *
    first
      | (subst k; kernel_rfl)
      | exact (inSet_off k (by assumption) (by assumption) (by assumption) (by assumption) (by assumption) (by assumption) 59 (by decide) (by decide)).symm
set_option maxHeartbeats 400000 in
theorem in_61 (k : Int) (w : World) : Calls Try.prog 17 #[.int .i64 k, .int .u8 61] w (OneRes (.bool (inSet k 61)) w) := by
  go_enter Try.func17, Try.ntmps17
  go_wp2
  all_goals
    go_ret
    refine ⟨ret_inj (bool_eq ?_), rfl⟩
    simp only [beq_iff_eq, beq_eq_false_iff_ne, ne_eq] at *
    first
      | (subst k; kernel_rfl)
      | exact (inSet_off k (by assumption) (by assumption) (by assumption) (by assumption) (by assumption) (by assumption) 61 (by decide) (by decide)).symm
set_option maxHeartbeats 400000 in
theorem in_64 (k : Int) (w : World) : Calls Try.prog 17 #[.int .i64 k, .int .u8 64] w (OneRes (.bool (inSet k 64)) w) := by
  go_enter Try.func17, Try.ntmps17
  go_wp2
  all_goals
    go_ret
    refine ⟨ret_inj (bool_eq ?_), rfl⟩
    simp only [beq_iff_eq, beq_eq_false_iff_ne, ne_eq] at *
    first
      | (subst k; kernel_rfl)
      | exact (inSet_off k (by assumption) (by assumption) (by assumption) (by assumption) (by assumption) (by assumption) 64 (by decide) (by decide)).symm
set_option maxHeartbeats 400000 in
theorem in_91 (k : Int) (w : World) : Calls Try.prog 17 #[.int .i64 k, .int .u8 91] w (OneRes (.bool (inSet k 91)) w) := by
  go_enter Try.func17, Try.ntmps17
  go_wp2
  all_goals
    go_ret
    refine ⟨ret_inj (bool_eq ?_), rfl⟩
    simp only [beq_iff_eq, beq_eq_false_iff_ne, ne_eq] at *
    first
      | (subst k; kernel_rfl)
      | exact (inSet_off k (by assumption) (by assumption) (by assumption) (by assumption) (by assumption) (by assumption) 91 (by decide) (by decide)).symm
set_option maxHeartbeats 400000 in
theorem in_92 (k : Int) (w : World) : Calls Try.prog 17 #[.int .i64 k, .int .u8 92] w (OneRes (.bool (inSet k 92)) w) := by
  go_enter Try.func17, Try.ntmps17
  go_wp2
  all_goals
    go_ret
    refine ⟨ret_inj (bool_eq ?_), rfl⟩
    simp only [beq_iff_eq, beq_eq_false_iff_ne, ne_eq] at *
    first
      | (subst k; kernel_rfl)
      | exact (inSet_off k (by assumption) (by assumption) (by assumption) (by assumption) (by assumption) (by assumption) 92 (by decide) (by decide)).symm
set_option maxHeartbeats 400000 in
theorem in_93 (k : Int) (w : World) : Calls Try.prog 17 #[.int .i64 k, .int .u8 93] w (OneRes (.bool (inSet k 93)) w) := by
  go_enter Try.func17, Try.ntmps17
  go_wp2
  all_goals
    go_ret
    refine ⟨ret_inj (bool_eq ?_), rfl⟩
    simp only [beq_iff_eq, beq_eq_false_iff_ne, ne_eq] at *
    first
      | (subst k; kernel_rfl)
      | exact (inSet_off k (by assumption) (by assumption) (by assumption) (by assumption) (by assumption) (by assumption) 93 (by decide) (by decide)).symm
set_option maxHeartbeats 400000 in
theorem in_124 (k : Int) (w : World) : Calls Try.prog 17 #[.int .i64 k, .int .u8 124] w (OneRes (.bool (inSet k 124)) w) := by
  go_enter Try.func17, Try.ntmps17
  go_wp2
  all_goals
    go_ret
    refine ⟨ret_inj (bool_eq ?_), rfl⟩
    simp only [beq_iff_eq, beq_eq_false_iff_ne, ne_eq] at *
    first
      | (subst k; kernel_rfl)
      | exact (inSet_off k (by assumption) (by assumption) (by assumption) (by assumption) (by assumption) (by assumption) 124 (by decide) (by decide)).symm
set_option maxHeartbeats 400000 in
theorem in_36 (k : Int) (w : World) : Calls Try.prog 17 #[.int .i64 k, .int .u8 36] w (OneRes (.bool (inSet k 36)) w) := by
  go_enter Try.func17, Try.ntmps17
  go_wp2
  all_goals
    go_ret
    refine ⟨ret_inj (bool_eq ?_), rfl⟩
    simp only [beq_iff_eq, beq_eq_false_iff_ne, ne_eq] at *
    first
      | (subst k; kernel_rfl)
      | exact (inSet_off k (by assumption) (by assumption) (by assumption) (by assumption) (by assumption) (by assumption) 36 (by decide) (by decide)).symm
set_option maxHeartbeats 400000 in
theorem in_37 (k : Int) (w : World) : Calls Try.prog 17 #[.int .i64 k, .int .u8 37] w (OneRes (.bool (inSet k 37)) w) := by
  go_enter Try.func17, Try.ntmps17
  go_wp2
  all_goals
    go_ret
    refine ⟨ret_inj (bool_eq ?_), rfl⟩
    simp only [beq_iff_eq, beq_eq_false_iff_ne, ne_eq] at *
    first
      | (subst k; kernel_rfl)
      | exact (inSet_off k (by assumption) (by assumption) (by assumption) (by assumption) (by assumption) (by assumption) 37 (by decide) (by decide)).symm
set_option maxHeartbeats 400000 in
theorem in_38 (k : Int) (w : World) : Calls Try.prog 17 #[.int .i64 k, .int .u8 38] w (OneRes (.bool (inSet k 38)) w) := by
  go_enter Try.func17, Try.ntmps17
  go_wp2
  all_goals
    go_ret
    refine ⟨ret_inj (bool_eq ?_), rfl⟩
    simp only [beq_iff_eq, beq_eq_false_iff_ne, ne_eq] at *
    first
      | (subst k; kernel_rfl)
      | exact (inSet_off k (by assumption) (by assumption) (by assumption) (by assumption) (by assumption) (by assumption) 38 (by decide) (by decide)).symm
set_option maxHeartbeats 400000 in
theorem in_43 (k : Int) (w : World) : Calls Try.prog 17 #[.int .i64 k, .int .u8 43] w (OneRes (.bool (inSet k 43)) w) := by
  go_enter Try.func17, Try.ntmps17
  go_wp2
  all_goals
    go_ret
    refine ⟨ret_inj (bool_eq ?_), rfl⟩
    simp only [beq_iff_eq, beq_eq_false_iff_ne, ne_eq] at *
    first
      | (subst k; kernel_rfl)
      | exact (inSet_off k (by assumption) (by assumption) (by assumption) (by assumption) (by assumption) (by assumption) 43 (by decide) (by decide)).symm
set_option maxHeartbeats 400000 in
theorem in_44 (k : Int) (w : World) : Calls Try.prog 17 #[.int .i64 k, .int .u8 44] w (OneRes (.bool (inSet k 44)) w) := by
  go_enter Try.func17, Try.ntmps17
  go_wp2
  all_goals
    go_ret
    refine ⟨ret_inj (bool_eq ?_), rfl⟩
    simp only [beq_iff_eq, beq_eq_false_iff_ne, ne_eq] at *
    first
      | (subst k; kernel_rfl)
      | exact (inSet_off k (by assumption) (by assumption) (by assumption) (by assumption) (by assumption) (by assumption) 44 (by decide) (by decide)).symm
theorem in_any (k : Int) (c : UInt8) (w : World) : Calls Try.prog 17 #[.int .i64 k, .int .u8 c.toNat] w (OneRes (.bool (inSet k c)) w) := by
  by_cases h1 : c < 32
  · exact in_low k c w (.inl h1)
  by_cases h2 : 126 < c
  · exact in_low k c w (.inr h2)
  by_cases h3 : c ∈ specials
  · simp only [specials, List.mem_cons, List.not_mem_nil, or_false] at h3
    rcases h3 with rfl | rfl | rfl | rfl | rfl | rfl | rfl | rfl | rfl | rfl | rfl | rfl | rfl | rfl | rfl | rfl | rfl | rfl | rfl | rfl | rfl | rfl | rfl | rfl | rfl
    · exact in_32 k w
    · exact in_34 k w
    · exact in_35 k w
    · exact in_39 k w
    · exact in_60 k w
    · exact in_62 k w
    · exact in_63 k w
    · exact in_94 k w
    · exact in_96 k w
    · exact in_123 k w
    · exact in_125 k w
    · exact in_47 k w
    · exact in_58 k w
    · exact in_59 k w
    · exact in_61 k w
    · exact in_64 k w
    · exact in_91 k w
    · exact in_92 k w
    · exact in_93 k w
    · exact in_124 k w
    · exact in_36 k w
    · exact in_37 k w
    · exact in_38 k w
    · exact in_43 k w
    · exact in_44 k w
  · exact in_plain k c w h1 h2 h3
end Go.Proofs.Ytdohpkdfmceimaa
