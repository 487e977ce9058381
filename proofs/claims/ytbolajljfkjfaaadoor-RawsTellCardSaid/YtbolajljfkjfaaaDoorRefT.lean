/-
  What is proved: the number at a text's front, in the program; the character of a number, in the reference; contracts. Condition: the program's table holds what its text lays.
-/
import Derived.Test.YtbolajljfkjfaaaDoorRefQ
namespace Go.Proofs.YtbolajljfkjfaaaDoor
open Go.RowKit

theorem min_nat10 (n d : Nat) : (if 1114112 < (10 : Int) * n + d then 1114112 else (10 : Int) * n + d) = ((min (10 * n + d) 1114112 : Nat) : Int) := by split <;> omega
theorem min_nat16 (n d : Nat) : (if 1114112 < (16 : Int) * n + d then 1114112 else (16 : Int) * n + d) = ((min (16 * n + d) 1114112 : Nat) : Int) := by split <;> omega
set_option maxRecDepth 100000 in
set_option maxHeartbeats 1000000 in
theorem number10_any (l : List UInt8) (w : World) (hw : OthersIs w) (hl : l.length < 100000) (hx : xP l = false) :
    Calls Tryd.prog 86 #[.string ⟨⟨l⟩⟩] w (TwoRes (.string ⟨⟨(numAt 10 0 l).1⟩⟩) (.int .i64 (numAt 10 0 l).2) w) := by
  unfold xP at hx
  rw [Bool.or_eq_false_iff] at hx
  obtain ⟨hx1, hx2⟩ := hx
  have X1 := Lib.hid hx1
  have X2 := Lib.hid hx2
  clear hx1 hx2
  have HW := Lib.hid hw
  clear hw
  go_enter Tryd.func86, Tryd.ntmps86
  go_wp2_with (go_at_call 67; refine (hasPrefix_any _ _ _).mono ?_; rintro e w' ⟨rfl, rfl⟩; first | rw [X1.out] | rw [X2.out])
  go_loop [5, 6] (fun i m => ∃ (k n : Nat), i = .int .i64 k ∧ m = .int .i64 n ∧ DigRel 10 0 l k n) (fun i _ => l.length - (intOf i).toNat)
  case atStart => exact ⟨0, 0, rfl, rfl, digRel_start (by omega)⟩
  case round =>
    obtain ⟨k, n, rfl, rfl, hr⟩ := hrel
    have hk0 := hr.1
    have hk1 := hr.2.1
    have hk2 := hr.2.2.1
    have HR := Lib.hid hr
    clear hr
    by_cases hlt : k < l.length
    · cases h1 : isHex l[k]
      · have H1 := Lib.hid h1
        have HS := Lib.hid (digs_stop (b := 10) (n := n) hlt (.inl h1))
        clear h1
        by_cases h0 : k = 0
        · have HA := Lib.hid (numAt_none HR.out HS.out h0)
          subst h0
          go_wp2_with (go_at_call 99; refine (hex_any _ _).mono ?_; rintro e w' ⟨rfl, rfl⟩; rw [H1.out])
          go_ret2
          rw [HA.out]
          exact ⟨rfl, rfl⟩
        · have h0' : 0 < k := by have := HR.out.1; omega
          have HA := Lib.hid (numAt_some HR.out HS.out h0')
          cases hs : ([59] : List UInt8).isPrefixOf (l.drop k)
          all_goals
            have HB := Lib.hid hs
            clear hs
            go_wp2_with (first
              | (go_at_call 99; refine (hex_any _ _).mono ?_; rintro e w' ⟨rfl, rfl⟩; rw [H1.out])
              | (go_at_call 67; refine (hasPrefix_any _ _ _).mono ?_; rintro e w' ⟨rfl, rfl⟩; rw [HB.out])
              | (go_at_call 100; refine (character_any _ _ hk2 HW.out).mono ?_; rintro e w' ⟨rfl, rfl⟩))
            go_ret2
            rw [HA.out, semiN, HB.out]
            exact ⟨by first | rfl | (congr 2; go_num), rfl⟩
      · have H1 := Lib.hid h1
        by_cases h2 : hexN l[k] < 10
        · have HN := Lib.hid (digRel_more HR.out hlt h1 h2)
          have HM := Lib.hid (min_nat10 n (hexN l[k]))
          have h2' : ((hexN l[k] : Nat) : Int) < 10 := by omega
          clear h1 h2
          go_wp2_with (go_at_call 99; refine (hex_any _ _).mono ?_; rintro e w' ⟨rfl, rfl⟩; rw [H1.out])
          go_round
          case rel => exact ⟨k + 1, _, by go_num, int_eq HM.out, HN.out⟩
          case measure => simp [intOf]; omega
        · have h2' : (10 : Int) ≤ ((hexN l[k] : Nat) : Int) := by omega
          have HS := Lib.hid (digs_stop (b := 10) (n := n) hlt (.inr (by omega)))
          clear h1 h2
          by_cases h0 : k = 0
          · have HA := Lib.hid (numAt_none HR.out HS.out h0)
            subst h0
            go_wp2_with (go_at_call 99; refine (hex_any _ _).mono ?_; rintro e w' ⟨rfl, rfl⟩; rw [H1.out])
            go_ret2
            rw [HA.out]
            exact ⟨rfl, rfl⟩
          · have h0' : 0 < k := by have := HR.out.1; omega
            have HA := Lib.hid (numAt_some HR.out HS.out h0')
            cases hs : ([59] : List UInt8).isPrefixOf (l.drop k)
            all_goals
              have HB := Lib.hid hs
              clear hs
              go_wp2_with (first
                | (go_at_call 99; refine (hex_any _ _).mono ?_; rintro e w' ⟨rfl, rfl⟩; rw [H1.out])
                | (go_at_call 67; refine (hasPrefix_any _ _ _).mono ?_; rintro e w' ⟨rfl, rfl⟩; rw [HB.out])
                | (go_at_call 100; refine (character_any _ _ hk2 HW.out).mono ?_; rintro e w' ⟨rfl, rfl⟩))
              go_ret2
              rw [HA.out, semiN, HB.out]
              exact ⟨by first | rfl | (congr 2; go_num), rfl⟩
    · have HS := Lib.hid (digs_end (b := 10) (n := n) (show l.length ≤ k by omega))
      have H1 := trivial
      by_cases h0 : k = 0
      · have HA := Lib.hid (numAt_none HR.out HS.out h0)
        subst h0
        go_wp2_with (go_at_call 99; refine (hex_any _ _).mono ?_; rintro e w' ⟨rfl, rfl⟩; rw [H1.out])
        go_ret2
        rw [HA.out]
        exact ⟨rfl, rfl⟩
      · have h0' : 0 < k := by have := HR.out.1; omega
        have HA := Lib.hid (numAt_some HR.out HS.out h0')
        cases hs : ([59] : List UInt8).isPrefixOf (l.drop k)
        all_goals
          have HB := Lib.hid hs
          clear hs
          go_wp2_with (first
            | (go_at_call 99; refine (hex_any _ _).mono ?_; rintro e w' ⟨rfl, rfl⟩; rw [H1.out])
            | (go_at_call 67; refine (hasPrefix_any _ _ _).mono ?_; rintro e w' ⟨rfl, rfl⟩; rw [HB.out])
            | (go_at_call 100; refine (character_any _ _ hk2 HW.out).mono ?_; rintro e w' ⟨rfl, rfl⟩))
          go_ret2
          rw [HA.out, semiN, HB.out]
          exact ⟨by first | rfl | (congr 2; go_num), rfl⟩
set_option maxRecDepth 100000 in
set_option maxHeartbeats 1000000 in
theorem number16a_any (l : List UInt8) (w : World) (hw : OthersIs w) (hl : l.length < 100000) (hx : ([120] : List UInt8).isPrefixOf l = true) (h1l : 1 ≤ l.length) :
    Calls Tryd.prog 86 #[.string ⟨⟨l⟩⟩] w (TwoRes (.string ⟨⟨(numAt 16 1 l).1⟩⟩) (.int .i64 (numAt 16 1 l).2) w) := by
  have X1 := Lib.hid hx
  clear hx
  have HW := Lib.hid hw
  clear hw
  go_enter Tryd.func86, Tryd.ntmps86
  go_wp2_with (go_at_call 67; refine (hasPrefix_any _ _ _).mono ?_; rintro e w' ⟨rfl, rfl⟩; rw [X1.out])
  go_loop [5, 6] (fun i m => ∃ (k n : Nat), i = .int .i64 k ∧ m = .int .i64 n ∧ DigRel 16 1 l k n) (fun i _ => l.length - (intOf i).toNat)
  case atStart => exact ⟨1, 0, rfl, rfl, digRel_start (by omega)⟩
  case round =>
    obtain ⟨k, n, rfl, rfl, hr⟩ := hrel
    have hk0 := hr.1
    have hk1 := hr.2.1
    have hk2 := hr.2.2.1
    have HR := Lib.hid hr
    clear hr
    by_cases hlt : k < l.length
    · cases h1 : isHex l[k]
      · have H1 := Lib.hid h1
        have HS := Lib.hid (digs_stop (b := 16) (n := n) hlt (.inl h1))
        clear h1
        by_cases h0 : k = 1
        · have HA := Lib.hid (numAt_none HR.out HS.out h0)
          subst h0
          go_wp2_with (go_at_call 99; refine (hex_any _ _).mono ?_; rintro e w' ⟨rfl, rfl⟩; rw [H1.out])
          go_ret2
          rw [HA.out]
          exact ⟨rfl, rfl⟩
        · have h0' : 1 < k := by have := HR.out.1; omega
          have HA := Lib.hid (numAt_some HR.out HS.out h0')
          cases hs : ([59] : List UInt8).isPrefixOf (l.drop k)
          all_goals
            have HB := Lib.hid hs
            clear hs
            go_wp2_with (first
              | (go_at_call 99; refine (hex_any _ _).mono ?_; rintro e w' ⟨rfl, rfl⟩; rw [H1.out])
              | (go_at_call 67; refine (hasPrefix_any _ _ _).mono ?_; rintro e w' ⟨rfl, rfl⟩; rw [HB.out])
              | (go_at_call 100; refine (character_any _ _ hk2 HW.out).mono ?_; rintro e w' ⟨rfl, rfl⟩))
            go_ret2
            rw [HA.out, semiN, HB.out]
            exact ⟨by first | rfl | (congr 2; go_num), rfl⟩
      · have H1 := Lib.hid h1
        by_cases h2 : hexN l[k] < 16
        · have HN := Lib.hid (digRel_more HR.out hlt h1 h2)
          have HM := Lib.hid (min_nat16 n (hexN l[k]))
          have h2' : ((hexN l[k] : Nat) : Int) < 16 := by omega
          clear h1 h2
          go_wp2_with (go_at_call 99; refine (hex_any _ _).mono ?_; rintro e w' ⟨rfl, rfl⟩; rw [H1.out])
          go_round
          case rel => exact ⟨k + 1, _, by go_num, int_eq HM.out, HN.out⟩
          case measure => simp [intOf]; omega
        · have h2' : (16 : Int) ≤ ((hexN l[k] : Nat) : Int) := by omega
          have HS := Lib.hid (digs_stop (b := 16) (n := n) hlt (.inr (by omega)))
          clear h1 h2
          by_cases h0 : k = 1
          · have HA := Lib.hid (numAt_none HR.out HS.out h0)
            subst h0
            go_wp2_with (go_at_call 99; refine (hex_any _ _).mono ?_; rintro e w' ⟨rfl, rfl⟩; rw [H1.out])
            go_ret2
            rw [HA.out]
            exact ⟨rfl, rfl⟩
          · have h0' : 1 < k := by have := HR.out.1; omega
            have HA := Lib.hid (numAt_some HR.out HS.out h0')
            cases hs : ([59] : List UInt8).isPrefixOf (l.drop k)
            all_goals
              have HB := Lib.hid hs
              clear hs
              go_wp2_with (first
                | (go_at_call 99; refine (hex_any _ _).mono ?_; rintro e w' ⟨rfl, rfl⟩; rw [H1.out])
                | (go_at_call 67; refine (hasPrefix_any _ _ _).mono ?_; rintro e w' ⟨rfl, rfl⟩; rw [HB.out])
                | (go_at_call 100; refine (character_any _ _ hk2 HW.out).mono ?_; rintro e w' ⟨rfl, rfl⟩))
              go_ret2
              rw [HA.out, semiN, HB.out]
              exact ⟨by first | rfl | (congr 2; go_num), rfl⟩
    · have HS := Lib.hid (digs_end (b := 16) (n := n) (show l.length ≤ k by omega))
      have H1 := trivial
      by_cases h0 : k = 1
      · have HA := Lib.hid (numAt_none HR.out HS.out h0)
        subst h0
        go_wp2_with (go_at_call 99; refine (hex_any _ _).mono ?_; rintro e w' ⟨rfl, rfl⟩; rw [H1.out])
        go_ret2
        rw [HA.out]
        exact ⟨rfl, rfl⟩
      · have h0' : 1 < k := by have := HR.out.1; omega
        have HA := Lib.hid (numAt_some HR.out HS.out h0')
        cases hs : ([59] : List UInt8).isPrefixOf (l.drop k)
        all_goals
          have HB := Lib.hid hs
          clear hs
          go_wp2_with (first
            | (go_at_call 99; refine (hex_any _ _).mono ?_; rintro e w' ⟨rfl, rfl⟩; rw [H1.out])
            | (go_at_call 67; refine (hasPrefix_any _ _ _).mono ?_; rintro e w' ⟨rfl, rfl⟩; rw [HB.out])
            | (go_at_call 100; refine (character_any _ _ hk2 HW.out).mono ?_; rintro e w' ⟨rfl, rfl⟩))
          go_ret2
          rw [HA.out, semiN, HB.out]
          exact ⟨by first | rfl | (congr 2; go_num), rfl⟩
set_option maxRecDepth 100000 in
set_option maxHeartbeats 1000000 in
theorem number16b_any (l : List UInt8) (w : World) (hw : OthersIs w) (hl : l.length < 100000) (hx : ([120] : List UInt8).isPrefixOf l = false) (hx2 : ([88] : List UInt8).isPrefixOf l = true) (h1l : 1 ≤ l.length) :
    Calls Tryd.prog 86 #[.string ⟨⟨l⟩⟩] w (TwoRes (.string ⟨⟨(numAt 16 1 l).1⟩⟩) (.int .i64 (numAt 16 1 l).2) w) := by
  have X1 := Lib.hid hx
  have X2 := Lib.hid hx2
  clear hx hx2
  have HW := Lib.hid hw
  clear hw
  go_enter Tryd.func86, Tryd.ntmps86
  go_wp2_with (go_at_call 67; refine (hasPrefix_any _ _ _).mono ?_; rintro e w' ⟨rfl, rfl⟩; first | rw [X1.out] | rw [X2.out])
  go_loop [5, 6] (fun i m => ∃ (k n : Nat), i = .int .i64 k ∧ m = .int .i64 n ∧ DigRel 16 1 l k n) (fun i _ => l.length - (intOf i).toNat)
  case atStart => exact ⟨1, 0, rfl, rfl, digRel_start (by omega)⟩
  case round =>
    obtain ⟨k, n, rfl, rfl, hr⟩ := hrel
    have hk0 := hr.1
    have hk1 := hr.2.1
    have hk2 := hr.2.2.1
    have HR := Lib.hid hr
    clear hr
    by_cases hlt : k < l.length
    · cases h1 : isHex l[k]
      · have H1 := Lib.hid h1
        have HS := Lib.hid (digs_stop (b := 16) (n := n) hlt (.inl h1))
        clear h1
        by_cases h0 : k = 1
        · have HA := Lib.hid (numAt_none HR.out HS.out h0)
          subst h0
          go_wp2_with (go_at_call 99; refine (hex_any _ _).mono ?_; rintro e w' ⟨rfl, rfl⟩; rw [H1.out])
          go_ret2
          rw [HA.out]
          exact ⟨rfl, rfl⟩
        · have h0' : 1 < k := by have := HR.out.1; omega
          have HA := Lib.hid (numAt_some HR.out HS.out h0')
          cases hs : ([59] : List UInt8).isPrefixOf (l.drop k)
          all_goals
            have HB := Lib.hid hs
            clear hs
            go_wp2_with (first
              | (go_at_call 99; refine (hex_any _ _).mono ?_; rintro e w' ⟨rfl, rfl⟩; rw [H1.out])
              | (go_at_call 67; refine (hasPrefix_any _ _ _).mono ?_; rintro e w' ⟨rfl, rfl⟩; rw [HB.out])
              | (go_at_call 100; refine (character_any _ _ hk2 HW.out).mono ?_; rintro e w' ⟨rfl, rfl⟩))
            go_ret2
            rw [HA.out, semiN, HB.out]
            exact ⟨by first | rfl | (congr 2; go_num), rfl⟩
      · have H1 := Lib.hid h1
        by_cases h2 : hexN l[k] < 16
        · have HN := Lib.hid (digRel_more HR.out hlt h1 h2)
          have HM := Lib.hid (min_nat16 n (hexN l[k]))
          have h2' : ((hexN l[k] : Nat) : Int) < 16 := by omega
          clear h1 h2
          go_wp2_with (go_at_call 99; refine (hex_any _ _).mono ?_; rintro e w' ⟨rfl, rfl⟩; rw [H1.out])
          go_round
          case rel => exact ⟨k + 1, _, by go_num, int_eq HM.out, HN.out⟩
          case measure => simp [intOf]; omega
        · have h2' : (16 : Int) ≤ ((hexN l[k] : Nat) : Int) := by omega
          have HS := Lib.hid (digs_stop (b := 16) (n := n) hlt (.inr (by omega)))
          clear h1 h2
          by_cases h0 : k = 1
          · have HA := Lib.hid (numAt_none HR.out HS.out h0)
            subst h0
            go_wp2_with (go_at_call 99; refine (hex_any _ _).mono ?_; rintro e w' ⟨rfl, rfl⟩; rw [H1.out])
            go_ret2
            rw [HA.out]
            exact ⟨rfl, rfl⟩
          · have h0' : 1 < k := by have := HR.out.1; omega
            have HA := Lib.hid (numAt_some HR.out HS.out h0')
            cases hs : ([59] : List UInt8).isPrefixOf (l.drop k)
            all_goals
              have HB := Lib.hid hs
              clear hs
              go_wp2_with (first
                | (go_at_call 99; refine (hex_any _ _).mono ?_; rintro e w' ⟨rfl, rfl⟩; rw [H1.out])
                | (go_at_call 67; refine (hasPrefix_any _ _ _).mono ?_; rintro e w' ⟨rfl, rfl⟩; rw [HB.out])
                | (go_at_call 100; refine (character_any _ _ hk2 HW.out).mono ?_; rintro e w' ⟨rfl, rfl⟩))
              go_ret2
              rw [HA.out, semiN, HB.out]
              exact ⟨by first | rfl | (congr 2; go_num), rfl⟩
    · have HS := Lib.hid (digs_end (b := 16) (n := n) (show l.length ≤ k by omega))
      have H1 := trivial
      by_cases h0 : k = 1
      · have HA := Lib.hid (numAt_none HR.out HS.out h0)
        subst h0
        go_wp2_with (go_at_call 99; refine (hex_any _ _).mono ?_; rintro e w' ⟨rfl, rfl⟩; rw [H1.out])
        go_ret2
        rw [HA.out]
        exact ⟨rfl, rfl⟩
      · have h0' : 1 < k := by have := HR.out.1; omega
        have HA := Lib.hid (numAt_some HR.out HS.out h0')
        cases hs : ([59] : List UInt8).isPrefixOf (l.drop k)
        all_goals
          have HB := Lib.hid hs
          clear hs
          go_wp2_with (first
            | (go_at_call 99; refine (hex_any _ _).mono ?_; rintro e w' ⟨rfl, rfl⟩; rw [H1.out])
            | (go_at_call 67; refine (hasPrefix_any _ _ _).mono ?_; rintro e w' ⟨rfl, rfl⟩; rw [HB.out])
            | (go_at_call 100; refine (character_any _ _ hk2 HW.out).mono ?_; rintro e w' ⟨rfl, rfl⟩))
          go_ret2
          rw [HA.out, semiN, HB.out]
          exact ⟨by first | rfl | (congr 2; go_num), rfl⟩
theorem number_any (l : List UInt8) (w : World) (hw : OthersIs w) (hl : l.length < 100000) :
    Calls Tryd.prog 86 #[.string ⟨⟨l⟩⟩] w (TwoRes (.string ⟨⟨(numB l).1⟩⟩) (.int .i64 (numB l).2) w) := by
  unfold numB
  cases hx : xP l
  · exact number10_any l w hw hl hx
  · have h1l : 1 ≤ l.length := by
      cases l with
      | nil => cases hx
      | cons a t => simp
    rw [if_pos rfl]
    cases h1 : ([120] : List UInt8).isPrefixOf l
    · refine number16b_any l w hw hl h1 ?_ h1l
      unfold xP at hx
      rw [h1] at hx
      exact hx
    · exact number16a_any l w hw hl h1 h1l
end Go.Proofs.YtbolajljfkjfaaaDoor
