/-
  What is proved: whether two texts are the same but for their case, the reference's lower case: contracts. Condition: texts that fit.
-/
import Derived.Test.YtbolajljfkjfaaaDoorAsc
import Derived.Test.YtbolajljfkjfaaaDoorQui
namespace Go.Proofs.YtbolajljfkjfaaaDoor
open Go.RowKit

theorem lowL_len (s : List UInt8) : (lowL s).length = s.length := by simp [lowL]
/-- Two texts of one length that are one in lower case, byte by byte. -/
theorem low_eq {s t : List UInt8} (hl : s.length = t.length) (h : ∀ i (h1 : i < s.length) (h2 : i < t.length), lowB s[i] = lowB t[i]) : lowL s = lowL t := by
  apply List.ext_getElem (by simp [lowL_len, hl])
  intro i h1 h2
  simp only [lowL_len] at h1 h2
  simp only [lowL, List.getElem_map]
  exact h i h1 h2
theorem low_ne {s t : List UInt8} {i : Nat} (h1 : i < s.length) (h2 : i < t.length) (h : ¬ lowB s[i] = lowB t[i]) : ¬ lowL s = lowL t := by
  intro e
  have := congrArg (·[i]?) e
  simp [lowL, h1, h2] at this
  exact h this
theorem u8_beq {c x : UInt8} : ((c.toNat : Int) == (x.toNat : Int)) = (c == x) := by
  rw [Bool.eq_iff_iff]
  simp only [beq_iff_eq]
  constructor
  · intro h
    exact UInt8.toNat_inj.1 (by omega)
  · intro h
    rw [h]
theorem low_any2 (c : UInt8) : ∀ W : World, Calls Tryd.prog 64 #[.int .u8 c.toNat] W fun e w' => e = .returned (.int .u8 (lowB c).toNat) ∧ W = w' := fun W => lower_any c W
set_option maxHeartbeats 4000000 in
theorem same_any (s t : List UInt8) (w : World) (hs : s.length ≤ maxLen) (ht : t.length ≤ maxLen) :
    Calls Tryd.prog 47 #[.string ⟨⟨s⟩⟩, .string ⟨⟨t⟩⟩] w fun e w' => e = .returned (.bool (lowL s == lowL t)) ∧ Ext w w' := by
  unfold maxLen at hs ht
  by_cases hlen : s.length = t.length
  · have e1 : ((s.length : Int) == (t.length : Int)) = true := by rw [hlen]; simp
    have e2 : ((s.length : Int) != (t.length : Int)) = false := by rw [hlen]; simp
    have HE := Lib.hid hlen
    clear hlen
    go_enter Tryd.func47, Tryd.ntmps47
    go_wp2_with fail
    clear e1 e2
    go_loopw [5, 13] (fun _ i wr => ∃ k : Nat, i = .int .i64 k ∧ k ≤ s.length ∧ Ext w wr ∧ Hid (∀ j (h : j < s.length) (h2 : j < t.length), j < k → lowB s[j] = lowB t[j])) (fun _ i _ => s.length - (intOf i).toNat)
    case atStart => exact ⟨0, rfl, by omega, Ext.refl _, Lib.hid (fun j _ _ hj => by omega)⟩
    case round =>
      obtain ⟨k, rfl, hk, hx, HN⟩ := hrel
      by_cases hlt : k < s.length
      · have hlt2 : k < t.length := by have := HE.out; omega
        obtain ⟨x, hxx⟩ : ∃ x, s[k] = x := ⟨_, rfl⟩
        obtain ⟨y, hyy⟩ : ∃ y, t[k] = y := ⟨_, rfl⟩
        have HX := Lib.hid hxx
        have HY := Lib.hid hyy
        have k0 : (0 : Int) ≤ (k : Int) := by omega
        have k1 : (k : Int) < (s.length : Int) := by omega
        have k2 : (k : Int) < (t.length : Int) := by omega
        have hxl := x.toNat_lt
        have hyl := y.toNat_lt
        have hxl2 := (lowB x).toNat_lt
        have hyl2 := (lowB y).toNat_lt
        by_cases hq : lowB x = lowB y
        · have HQ : Hid (lowB s[k] = lowB t[k]) := Lib.hid (by rw [HX.out, HY.out]; exact hq)
          have eq1 : (((lowB x).toNat : Int) == ((lowB y).toNat : Int)) = true := by rw [hq]; simp
          have eq2 : (((lowB x).toNat : Int) != ((lowB y).toNat : Int)) = false := by rw [hq]; simp
          clear hq
          go_wp2_with fail
          go_quiet ((go_at_call 64; first | exact still2 (low_any2 _) | exact still1 (low_any2 _)))
          go_wp2_with fail
          go_roundw
          case rel =>
            refine ⟨k + 1, by go_num, by omega, below_drewN hx _, Lib.hid (fun j h h2 hj => ?_)⟩
            by_cases e : j = k
            · subst e
              exact HQ.out
            · exact HN.out j h h2 (by omega)
          case measure => simp [intOf]; omega
        · have HF : Hid ((lowL s == lowL t) = false) := Lib.hid (beq_eq_false_iff_ne.2 (low_ne hlt hlt2 (by rw [HX.out, HY.out]; exact hq)))
          have eq1 : (((lowB x).toNat : Int) == ((lowB y).toNat : Int)) = false := u8_beq.trans (beq_eq_false_iff_ne.2 hq)
          have eq2 : (((lowB x).toNat : Int) != ((lowB y).toNat : Int)) = true := by unfold bne; rw [eq1]; rfl
          clear hq
          go_wp2_with fail
          go_quiet ((go_at_call 64; first | exact still2 (low_any2 _) | exact still1 (low_any2 _)))
          go_wp2_with fail
          go_ret
          exact ⟨ret_inj (bool_eq HF.out.symm), below_drewN hx _⟩
      · obtain rfl : k = s.length := by omega
        have HF : Hid ((lowL s == lowL t) = true) := Lib.hid (by
          rw [beq_iff_eq]
          exact low_eq HE.out (fun i h1 h2 => HN.out i h1 h2 h1))
        go_wp2_with fail
        go_ret
        exact ⟨ret_inj (bool_eq HF.out.symm), hx⟩
  · have e1 : ((s.length : Int) == (t.length : Int)) = false := by simp; omega
    have e2 : ((s.length : Int) != (t.length : Int)) = true := by simp; omega
    have HF : Hid ((lowL s == lowL t) = false) := Lib.hid (by
      rw [beq_eq_false_iff_ne]
      intro e
      have := congrArg List.length e
      rw [lowL_len, lowL_len] at this
      exact hlen this)
    clear hlen
    go_enter Tryd.func47, Tryd.ntmps47
    go_wp2_with fail
    go_ret
    exact ⟨ret_inj (bool_eq HF.out.symm), Ext.refl _⟩
set_option maxHeartbeats 4000000 in
theorem lowR_any (s : List UInt8) (w : World) (hs : s.length < 100000) :
    Calls Tryd.prog 40 #[.string ⟨⟨s⟩⟩] w fun e w' => e = .returned (.string ⟨⟨lowL s⟩⟩) ∧ Ext w w' := by
  go_enter Tryd.func40, Tryd.ntmps40
  go_wp2_with fail
  go_loopw [3, 4] (fun v i wr => ∃ k : Nat, i = .int .i64 k ∧ k ≤ s.length ∧ Ext w wr ∧ OwnB w.heap.size v (lowL (s.take k)) wr) (fun _ i _ => s.length - (intOf i).toNat)
  case atStart => exact ⟨0, rfl, by omega, Ext.refl _, OwnB.nil _ _⟩
  case round =>
    obtain ⟨k, rfl, hk, hx, hO⟩ := hrel
    by_cases hlt : k < s.length
    · obtain ⟨c, hc⟩ : ∃ c, s[k] = c := ⟨_, rfl⟩
      have hcl := c.toNat_lt
      have hll : (lowL (s.take k)).length + 1 ≤ 140737488355328 := by
        rw [lowL_len, List.length_take]
        omega
      have HS : Hid (lowL (s.take (k + 1)) = lowL (s.take k) ++ [lowB c]) := Lib.hid (by
        rw [List.take_succ_eq_append_getElem hlt, hc]
        unfold lowL
        rw [List.map_append]
        rfl)
      have HL := Lib.hid (low_nat c)
      have hws := hx.size
      by_cases h1 : (65 : Int) ≤ (c.toNat : Int)
      · by_cases h2 : (c.toNat : Int) ≤ 90
        · have HV : Hid (((c.toNat : Int) + 32) = ((lowB c).toNat : Int)) := Lib.hid (by rw [HL.out, if_pos (by omega)]; omega)
          go_wp2_with (at_builtin; refine app_byte rfl _ _ rfl (lowB c) _ wr rfl rfl HV.out hO rfl hll hws ?_; intro v1 w1 hO1 x1)
          go_roundw
          case rel => exact ⟨k + 1, by go_num, by omega, Below.trans hx x1, by rw [HS.out]; exact hO1⟩
          case measure => simp [intOf]; omega
        · have HV : Hid ((c.toNat : Int) = ((lowB c).toNat : Int)) := Lib.hid (by rw [HL.out, if_neg (by omega)])
          go_wp2_with (at_builtin; refine app_byte rfl _ _ rfl (lowB c) _ wr rfl rfl HV.out hO rfl hll hws ?_; intro v1 w1 hO1 x1)
          go_roundw
          case rel => exact ⟨k + 1, by go_num, by omega, Below.trans hx x1, by rw [HS.out]; exact hO1⟩
          case measure => simp [intOf]; omega
      · have HV : Hid ((c.toNat : Int) = ((lowB c).toNat : Int)) := Lib.hid (by rw [HL.out, if_neg (by omega)])
        go_wp2_with (at_builtin; refine app_byte rfl _ _ rfl (lowB c) _ wr rfl rfl HV.out hO rfl hll hws ?_; intro v1 w1 hO1 x1)
        go_roundw
        case rel => exact ⟨k + 1, by go_num, by omega, Below.trans hx x1, by rw [HS.out]; exact hO1⟩
        case measure => simp [intOf]; omega
    · obtain rfl : k = s.length := by omega
      have hconv := conv_byte hO
      rw [List.take_length] at hconv
      go_wp2_with fail
      go_ret
      exact ⟨rfl, hx⟩
end Go.Proofs.YtbolajljfkjfaaaDoor
