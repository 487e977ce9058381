/-
  What is proved: whether two texts are the same but for their case, whether a text is among some, the reference's lower case: contracts. Condition: texts that fit.
-/
import Derived.Test.YtkofccabfkkgjaaDoorTruP
import Derived.Test.YtkofccabfkkgjaaDoorQui
namespace Go.Proofs.YtkofccabfkkgjaaDoor
open Go.RowKit

theorem low_any2 (c : UInt8) : ∀ W : World, Calls Tryd.prog 50 #[.int .u8 c.toNat] W fun e w' => e = .returned (.int .u8 (lowB c).toNat) ∧ W = w' := fun W => lower_any c W
set_option maxHeartbeats 4000000 in
theorem same_any (s t : List UInt8) (w : World) (hs : s.length ≤ maxLen) (ht : t.length ≤ maxLen) :
    Calls Tryd.prog 36 #[.string ⟨⟨s⟩⟩, .string ⟨⟨t⟩⟩] w fun e w' => e = .returned (.bool (lowL s == lowL t)) ∧ Ext w w' := by
  unfold maxLen at hs ht
  by_cases hlen : s.length = t.length
  · have e1 : ((s.length : Int) == (t.length : Int)) = true := by rw [hlen]; simp
    have e2 : ((s.length : Int) != (t.length : Int)) = false := by rw [hlen]; simp
    have HE := Lib.hid hlen
    clear hlen
    go_enter Tryd.func36, Tryd.ntmps36
    go_wp2_with fail
    clear e1 e2
    go_loopw [5, 13] (fun _ i wr => ∃ k : Nat, i = .int .i64 k ∧ k ≤ s.length ∧ Ext w wr ∧ Hid (∀ j (h : j < s.length) (h2 : j < t.length), j < k → lowB s[j] = lowB t[j])) (fun _ i _ => s.length - (intOf i).toNat)
    case atStart => exact ⟨0, rfl, by omega, Ext.refl _, Lib.hid (fun j _ _ hj => by omega)⟩
    case round =>
      obtain ⟨k, rfl, hk, hx, HN⟩ := hrel
      by_cases hlt : k < s.length
      · have hlt2 : k < t.length := by have := HE.out; omega
        obtain ⟨x, hxx⟩ : ∃ x, s[k] = x := ⟨_, rfl⟩
        obtain ⟨y, hyy⟩ : ∃ y, t[k] = y := ⟨_, rfl⟩
        have HX := Lib.hid hxx
        have HY := Lib.hid hyy
        have k0 : (0 : Int) ≤ (k : Int) := by omega
        have k1 : (k : Int) < (s.length : Int) := by omega
        have k2 : (k : Int) < (t.length : Int) := by omega
        have hxl := x.toNat_lt
        have hyl := y.toNat_lt
        have hxl2 := (lowB x).toNat_lt
        have hyl2 := (lowB y).toNat_lt
        by_cases hq : lowB x = lowB y
        · have HQ : Hid (lowB s[k] = lowB t[k]) := Lib.hid (by rw [HX.out, HY.out]; exact hq)
          have eq1 : (((lowB x).toNat : Int) == ((lowB y).toNat : Int)) = true := by rw [hq]; simp
          have eq2 : (((lowB x).toNat : Int) != ((lowB y).toNat : Int)) = false := by rw [hq]; simp
          clear hq
          go_wp2_with fail
          go_quiet ((go_at_call 50; first | exact still2 (low_any2 _) | exact still1 (low_any2 _)))
          go_wp2_with fail
          go_roundw
          case rel =>
            refine ⟨k + 1, by go_num, by omega, below_drewN hx _, Lib.hid (fun j h h2 hj => ?_)⟩
            by_cases e : j = k
            · subst e
              exact HQ.out
            · exact HN.out j h h2 (by omega)
          case measure => simp [intOf]; omega
        · have HF : Hid ((lowL s == lowL t) = false) := Lib.hid (beq_eq_false_iff_ne.2 (low_ne hlt hlt2 (by rw [HX.out, HY.out]; exact hq)))
          have eq1 : (((lowB x).toNat : Int) == ((lowB y).toNat : Int)) = false := u8_beq.trans (beq_eq_false_iff_ne.2 hq)
          have eq2 : (((lowB x).toNat : Int) != ((lowB y).toNat : Int)) = true := by unfold bne; rw [eq1]; rfl
          clear hq
          go_wp2_with fail
          go_quiet ((go_at_call 50; first | exact still2 (low_any2 _) | exact still1 (low_any2 _)))
          go_wp2_with fail
          go_ret
          exact ⟨ret_inj (bool_eq HF.out.symm), below_drewN hx _⟩
      · obtain rfl : k = s.length := by omega
        have HF : Hid ((lowL s == lowL t) = true) := Lib.hid (by
          rw [beq_iff_eq]
          exact low_eq HE.out (fun i h1 h2 => HN.out i h1 h2 h1))
        go_wp2_with fail
        go_ret
        exact ⟨ret_inj (bool_eq HF.out.symm), hx⟩
  · have e1 : ((s.length : Int) == (t.length : Int)) = false := by simp; omega
    have e2 : ((s.length : Int) != (t.length : Int)) = true := by simp; omega
    have HF : Hid ((lowL s == lowL t) = false) := Lib.hid (by
      rw [beq_eq_false_iff_ne]
      intro e
      have := congrArg List.length e
      rw [lowL_len, lowL_len] at this
      exact hlen this)
    clear hlen
    go_enter Tryd.func36, Tryd.ntmps36
    go_wp2_with fail
    go_ret
    exact ⟨ret_inj (bool_eq HF.out.symm), Ext.refl _⟩
theorem idx_contains_s (c : List UInt8) (l : List (List UInt8)) : decide (0 ≤ idxG (fun x => c == x) l 0) = l.contains c := by
  rcases idxG_cases (fun x => c == x) l 0 with ⟨h1, h2⟩ | ⟨k, hk, h1, h2⟩
  · rw [h1]
    symm
    rw [List.find?_eq_none] at h2
    rw [show decide ((0 : Int) ≤ -1) = false from rfl]
    rw [← Bool.not_eq_true, List.contains_iff_mem]
    intro hm
    exact h2 c hm (by simp)
  · rw [h1]
    symm
    have := List.find?_some h2
    have e : c = l[k] := by simpa using this
    rw [decide_eq_true (by omega), List.contains_iff_mem, e]
    exact List.getElem_mem _
set_option maxHeartbeats 4000000 in
theorem indexStr_any (v : Value) (l : List (List UInt8)) (c : List UInt8) (w : World) (H : StrsAt w v l) :
    Calls Tryd.prog 52 #[v, .string ⟨⟨c⟩⟩] w fun e w' => e = .returned (.int .i64 (idxG (fun x => c == x) l 0)) ∧ w = w' := by
  have hm : l.length ≤ 9223372036854775807 := by obtain ⟨_, _, _, h, _⟩ := H; exact h
  obtain ⟨a, cap, rfl, hcells⟩ := H.cells
  have HC := Lib.hid hcells
  clear hcells H
  go_enter Tryd.func52, Tryd.ntmps52
  go_wp2
  go_loop [5, 8] (fun _ i => ∃ k : Nat, i = .int .i64 k ∧ k ≤ l.length ∧ Hid (∀ j (hj : j < l.length), j < k → (c == l[j]) = false)) (fun _ i => l.length - (intOf i).toNat)
  case atStart => exact ⟨0, rfl, by omega, Lib.hid (fun j _ hj => by omega)⟩
  case round =>
    obtain ⟨k, rfl, hk, HN⟩ := hrel
    by_cases hlt : k < l.length
    · obtain ⟨b, off, rfl, _, c1⟩ := HC.out k hlt
      obtain ⟨x, hx⟩ : ∃ x, l[k] = x := ⟨_, rfl⟩
      rw [hx] at c1
      have HX := Lib.hid hx
      have k0 : (0 : Int) ≤ (k : Int) := by omega
      have k1 : (k : Int) < (l.length : Int) := by omega
      clear hx
      cases hq : (c == x)
      · have HQ : Hid ((c == l[k]) = false) := Lib.hid (by rw [HX.out]; exact hq)
        go_wp2
        go_round
        case rel =>
          refine ⟨k + 1, by go_num, by omega, Lib.hid (fun j h hj => ?_)⟩
          by_cases e : j = k
          · subst e
            exact HQ.out
          · exact HN.out j h (by omega)
        case measure => simp [intOf]; omega
      · have HQ : Hid ((c == l[k]) = true) := Lib.hid (by rw [HX.out]; exact hq)
        go_wp2
        go_ret
        refine ⟨ret_inj (int_eq ?_), rfl⟩
        rw [idxG_hit (fun x => c == x) l k hlt 0 (fun j hj => HN.out j (by omega) hj) HQ.out]
        omega
    · have hkl : k = l.length := by omega
      subst hkl
      go_wp2
      go_ret
      refine ⟨ret_inj (int_eq ?_), rfl⟩
      rw [idxG_miss (fun x => c == x) l 0 (fun j hj => HN.out j hj hj)]
theorem containsStr_any (v : Value) (l : List (List UInt8)) (c : List UInt8) (w : World) (H : StrsAt w v l) :
    Calls Tryd.prog 40 #[v, .string ⟨⟨c⟩⟩] w fun e w' => e = .returned (.bool (l.contains c)) ∧ w = w' := by
  have ci := indexStr_any v l c w H
  have HI := Lib.hid (idx_contains_s c l)
  obtain ⟨i, hi⟩ : ∃ i, idxG (fun x => c == x) l 0 = i := ⟨_, rfl⟩
  rw [hi] at ci HI
  clear hi
  obtain ⟨a, cap, rfl, _⟩ := H
  go_enter Tryd.func40, Tryd.ntmps40
  go_wp2_with (go_at_call 52; refine ci.mono ?_; rintro e w' ⟨rfl, rfl⟩)
  go_ret
  exact ⟨ret_inj (bool_eq HI.out), rfl⟩
theorem contains_hit {l : List (List UInt8)} {c : List UInt8} {k : Nat} (hk : k < l.length) (h : l[k] = c) : l.contains c = true := by
  rw [List.contains_iff_mem, ← h]
  exact List.getElem_mem _
theorem contains_no {l : List (List UInt8)} {c : List UInt8} (h : ∀ j (hj : j < l.length), j < l.length → ¬ l[j] = c) : l.contains c = false := by
  rw [← Bool.not_eq_true, List.contains_iff_mem]
  intro hm
  obtain ⟨i, hi, e⟩ := List.getElem_of_mem hm
  exact h i hi hi e
set_option maxHeartbeats 4000000 in
theorem in_any (v : Value) (l : List (List UInt8)) (c : List UInt8) (w : World) (H : StrsAt w v l) :
    Calls Tryd.prog 41 #[.string ⟨⟨c⟩⟩, v] w fun e w' => e = .returned (.bool (l.contains c)) ∧ w = w' := by
  have hm : l.length ≤ 9223372036854775807 := by obtain ⟨_, _, _, h, _⟩ := H; exact h
  obtain ⟨a, cap, rfl, hcells⟩ := H.cells
  have HC := Lib.hid hcells
  obtain ⟨r, hr⟩ : ∃ r, l.contains c = r := ⟨_, rfl⟩
  rw [hr]
  have HR := Lib.hid hr
  clear hcells H hr
  go_enter Tryd.func41, Tryd.ntmps41
  go_wp2
  go_loop [5] (fun i => ∃ k : Nat, i = .int .i64 k ∧ k ≤ l.length ∧ Hid (∀ j (hj : j < l.length), j < k → ¬ l[j] = c)) (fun i => l.length - (intOf i).toNat)
  case atStart => exact ⟨0, rfl, by omega, Lib.hid (fun j _ hj => by omega)⟩
  case round =>
    obtain ⟨k, rfl, hk, HN⟩ := hrel
    by_cases hlt : k < l.length
    · obtain ⟨b, off, rfl, _, c1⟩ := HC.out k hlt
      obtain ⟨x, hx⟩ : ∃ x, l[k] = x := ⟨_, rfl⟩
      rw [hx] at c1
      have HX := Lib.hid hx
      have k0 : (0 : Int) ≤ (k : Int) := by omega
      have k1 : (k : Int) < (l.length : Int) := by omega
      clear hx
      by_cases hq : x = c
      · have HF : Hid (r = true) := Lib.hid (HR.out.symm.trans (contains_hit hlt (HX.out.trans hq)))
        have e1 : (x == c) = true := by simpa using hq
        clear hq
        go_wp2
        go_ret
        exact ⟨ret_inj (bool_eq HF.out.symm), rfl⟩
      · have HQ : Hid (¬ l[k] = c) := Lib.hid (fun e => hq (HX.out.symm.trans e))
        have e1 : (x == c) = false := beq_eq_false_iff_ne.2 hq
        clear hq
        go_wp2
        go_round
        case rel =>
          refine ⟨k + 1, by go_num, by omega, Lib.hid (fun j h hj => ?_)⟩
          by_cases e : j = k
          · subst e
            exact HQ.out
          · exact HN.out j h (by omega)
        case measure => simp [intOf]; omega
    · have hkl : k = l.length := by omega
      subst hkl
      have HF : Hid (r = false) := Lib.hid (HR.out.symm.trans (contains_no HN.out))
      go_wp2
      go_ret
      exact ⟨ret_inj (bool_eq HF.out.symm), rfl⟩
set_option maxHeartbeats 4000000 in
theorem lowR_any (s : List UInt8) (w : World) (hs : s.length < 100000) :
    Calls Tryd.prog 39 #[.string ⟨⟨s⟩⟩] w fun e w' => e = .returned (.string ⟨⟨lowL s⟩⟩) ∧ Ext w w' := by
  go_enter Tryd.func39, Tryd.ntmps39
  go_wp2_with fail
  go_loopw [3, 4] (fun v i wr => ∃ k : Nat, i = .int .i64 k ∧ k ≤ s.length ∧ Ext w wr ∧ OwnB w.heap.size v (lowL (s.take k)) wr) (fun _ i _ => s.length - (intOf i).toNat)
  case atStart => exact ⟨0, rfl, by omega, Ext.refl _, OwnB.nil _ _⟩
  case round =>
    obtain ⟨k, rfl, hk, hx, hO⟩ := hrel
    by_cases hlt : k < s.length
    · obtain ⟨c, hc⟩ : ∃ c, s[k] = c := ⟨_, rfl⟩
      have hcl := c.toNat_lt
      have hll : (lowL (s.take k)).length + 1 ≤ 140737488355328 := by
        rw [lowL_len, List.length_take]
        omega
      have HS : Hid (lowL (s.take (k + 1)) = lowL (s.take k) ++ [lowB c]) := Lib.hid (by
        rw [List.take_succ_eq_append_getElem hlt, hc]
        unfold lowL
        rw [List.map_append]
        rfl)
      have HL := Lib.hid (low_nat c)
      have hws := hx.size
      by_cases h1 : (65 : Int) ≤ (c.toNat : Int)
      · by_cases h2 : (c.toNat : Int) ≤ 90
        · have HV : Hid (((c.toNat : Int) + 32) = ((lowB c).toNat : Int)) := Lib.hid (by rw [HL.out, if_pos (by omega)]; omega)
          go_wp2_with (at_builtin; refine app_byte rfl _ _ rfl (lowB c) _ wr rfl rfl HV.out hO rfl hll hws ?_; intro v1 w1 hO1 x1)
          go_roundw
          case rel => exact ⟨k + 1, by go_num, by omega, Below.trans hx x1, by rw [HS.out]; exact hO1⟩
          case measure => simp [intOf]; omega
        · have HV : Hid ((c.toNat : Int) = ((lowB c).toNat : Int)) := Lib.hid (by rw [HL.out, if_neg (by omega)])
          go_wp2_with (at_builtin; refine app_byte rfl _ _ rfl (lowB c) _ wr rfl rfl HV.out hO rfl hll hws ?_; intro v1 w1 hO1 x1)
          go_roundw
          case rel => exact ⟨k + 1, by go_num, by omega, Below.trans hx x1, by rw [HS.out]; exact hO1⟩
          case measure => simp [intOf]; omega
      · have HV : Hid ((c.toNat : Int) = ((lowB c).toNat : Int)) := Lib.hid (by rw [HL.out, if_neg (by omega)])
        go_wp2_with (at_builtin; refine app_byte rfl _ _ rfl (lowB c) _ wr rfl rfl HV.out hO rfl hll hws ?_; intro v1 w1 hO1 x1)
        go_roundw
        case rel => exact ⟨k + 1, by go_num, by omega, Below.trans hx x1, by rw [HS.out]; exact hO1⟩
        case measure => simp [intOf]; omega
    · obtain rfl : k = s.length := by omega
      have hconv := conv_byte hO
      rw [List.take_length] at hconv
      go_wp2_with fail
      go_ret
      exact ⟨rfl, hx⟩
end Go.Proofs.YtkofccabfkkgjaaDoor
