/-
  What is proved: which bytes may stand in a name of a policy, whether a text is one: the program's and the reference's: contracts. Condition: texts that fit.
-/
import Derived.Test.YtkofccabfkkgjaaDoorNam
import Derived.Test.YtkofccabfkkgjaaDoorAsc
import Derived.Lib.SmallJoins
namespace Go.Proofs.YtkofccabfkkgjaaDoor
open Go.RowKit

def digB (c : UInt8) : Bool := 48 ≤ c && c ≤ 57
theorem digB_iff (c : UInt8) : digB c = decide (48 ≤ (c.toNat : Int) ∧ (c.toNat : Int) ≤ 57) := by
  unfold digB
  rw [Bool.eq_iff_iff]
  simp [UInt8.le_iff_toNat_le]
  omega
theorem digit_any (c : UInt8) (w : World) :
    Calls Tryd.prog 59 #[.int .u8 c.toNat] w fun e w' => e = .returned (.bool (digB c)) ∧ w = w' := by
  have h0 := c.toNat_lt
  go_enter Tryd.func59, Tryd.ntmps59
  go_wp2
  go_ret
  refine ⟨ret_inj (bool_eq ?_), rfl⟩
  rw [digB_iff]
  apply decide_eq_decide.2
  omega
theorem or32 (c : UInt8) : bits .or .u8 c.toNat 32 = ((c.toNat ||| 32 : Nat) : Int) := by
  have h : ∀ n : Fin 256, bits .or .u8 ((n : Nat) : Int) 32 = ((n.val ||| 32 : Nat) : Int) := by decide +kernel
  exact h ⟨c.toNat, c.toNat_lt⟩
theorem or32_lt (c : UInt8) : c.toNat ||| 32 < 256 := Nat.or_lt_two_pow (n := 8) c.toNat_lt (by decide)
def alphaB (c : UInt8) : Bool := (65 ≤ c && c ≤ 90) || (97 ≤ c && c ≤ 122)
theorem alpha_iff (c : UInt8) : alphaB c = (decide (97 ≤ ((c.toNat ||| 32 : Nat) : Int)) && decide (((c.toNat ||| 32 : Nat) : Int) ≤ 122)) := by
  have key : ∀ n : Fin 256, alphaB (UInt8.ofNat n) = (decide (97 ≤ ((n.val ||| 32 : Nat) : Int)) && decide (((n.val ||| 32 : Nat) : Int) ≤ 122)) := by decide +kernel
  have := key ⟨c.toNat, c.toNat_lt⟩
  simpa only [UInt8.ofNat_toNat] using this
theorem alpha_any (c : UInt8) (w : World) :
    Calls Tryd.prog 58 #[.int .u8 c.toNat] w fun e w' => e = .returned (.bool (alphaB c)) ∧ w = w' := by
  have h0 := c.toNat_lt
  have ho := or32_lt c
  have ho2 := or32 c
  have HA := Lib.hid (alpha_iff c)
  go_enter Tryd.func58, Tryd.ntmps58
  go_wp2
  all_goals
    go_ret
    refine ⟨ret_inj (bool_eq ?_), rfl⟩
    rw [HA.out]
    first | rfl | (simp; omega) | (rw [Bool.eq_iff_iff]; simp; omega)
def signL : List UInt8 := [45, 35, 61, 95, 47, 64, 46, 37]
def letB (c : UInt8) : Bool := alphaB c || digB c || signL.contains c
def nameB (s : List UInt8) : Bool := s.all letB && s != []
theorem idx_contains (c : UInt8) (l : List UInt8) : decide (0 ≤ idxG (fun x => c == x) l 0) = l.contains c := by
  rcases idxG_cases (fun x => c == x) l 0 with ⟨h1, h2⟩ | ⟨k, hk, h1, h2⟩
  · rw [h1]
    symm
    rw [List.find?_eq_none] at h2
    rw [show decide ((0 : Int) ≤ -1) = false from rfl]
    rw [← Bool.not_eq_true, List.contains_iff_mem]
    intro hm
    exact h2 c hm (by simp)
  · rw [h1]
    symm
    have := List.find?_some h2
    have e : c = l[k] := by simpa using this
    rw [decide_eq_true (by omega), List.contains_iff_mem, e]
    exact List.getElem_mem _
theorem u8_beq {c x : UInt8} : ((c.toNat : Int) == (x.toNat : Int)) = (c == x) := by
  rw [Bool.eq_iff_iff]
  simp only [beq_iff_eq]
  constructor
  · intro h
    exact UInt8.toNat_inj.1 (by omega)
  · intro h
    rw [h]
set_option maxHeartbeats 4000000 in
theorem indexU8_any (v : Value) (l : List UInt8) (c : UInt8) (w : World) (H : BytesAt w v l) :
    Calls Tryd.prog 65 #[v, .int .u8 c.toNat] w fun e w' => e = .returned (.int .i64 (idxG (fun x => c == x) l 0)) ∧ w = w' := by
  obtain ⟨a, cap, rfl, hm, h4⟩ := H
  have hcells : ∀ k (hk : k < l.length), ∃ b off, a = some ⟨b, off, none⟩ ∧ w.cell? ⟨b, off + k, none⟩ = some (.int .u8 l[k].toNat) := by
    intro k hk
    rcases h4 with h | ⟨b, off, e, _, h2⟩
    · subst h; simp at hk
    · exact ⟨b, off, e, h2 k hk⟩
  have HC := Lib.hid hcells
  unfold maxLen at hm
  clear hcells h4
  go_enter Tryd.func65, Tryd.ntmps65
  go_wp2
  go_loop [5, 8] (fun _ i => ∃ k : Nat, i = .int .i64 k ∧ k ≤ l.length ∧ Hid (∀ j (hj : j < l.length), j < k → (c == l[j]) = false)) (fun _ i => l.length - (intOf i).toNat)
  case atStart => exact ⟨0, rfl, by omega, Lib.hid (fun j _ hj => by omega)⟩
  case round =>
    obtain ⟨k, rfl, hk, HN⟩ := hrel
    by_cases hlt : k < l.length
    · obtain ⟨b, off, rfl, c1⟩ := HC.out k hlt
      obtain ⟨x, hx⟩ : ∃ x, l[k] = x := ⟨_, rfl⟩
      rw [hx] at c1
      have HX := Lib.hid hx
      have k0 : (0 : Int) ≤ (k : Int) := by omega
      have k1 : (k : Int) < (l.length : Int) := by omega
      have hcl := c.toNat_lt
      have hxl := x.toNat_lt
      clear hx
      cases hq : (c == x)
      · have hb : ((c.toNat : Int) == (x.toNat : Int)) = false := u8_beq.trans hq
        have HQ : Hid ((c == l[k]) = false) := Lib.hid (by rw [HX.out]; exact hq)
        clear hq
        go_wp2
        go_round
        case rel =>
          refine ⟨k + 1, by go_num, by omega, Lib.hid (fun j h hj => ?_)⟩
          by_cases e : j = k
          · subst e
            exact HQ.out
          · exact HN.out j h (by omega)
        case measure => simp [intOf]; omega
      · have hb : ((c.toNat : Int) == (x.toNat : Int)) = true := u8_beq.trans hq
        have HQ : Hid ((c == l[k]) = true) := Lib.hid (by rw [HX.out]; exact hq)
        clear hq
        go_wp2
        go_ret
        refine ⟨ret_inj (int_eq ?_), rfl⟩
        rw [idxG_hit (fun x => c == x) l k hlt 0 (fun j hj => HN.out j (by omega) hj) HQ.out]
        omega
    · have hkl : k = l.length := by omega
      subst hkl
      go_wp2
      go_ret
      refine ⟨ret_inj (int_eq ?_), rfl⟩
      rw [idxG_miss (fun x => c == x) l 0 (fun j hj => HN.out j hj hj)]
theorem containsU8_any (v : Value) (l : List UInt8) (c : UInt8) (w : World) (H : BytesAt w v l) :
    Calls Tryd.prog 60 #[v, .int .u8 c.toNat] w fun e w' => e = .returned (.bool (l.contains c)) ∧ w = w' := by
  have ci := indexU8_any v l c w H
  have HI := Lib.hid (idx_contains c l)
  obtain ⟨i, hi⟩ : ∃ i, idxG (fun x => c == x) l 0 = i := ⟨_, rfl⟩
  rw [hi] at ci HI
  clear hi
  obtain ⟨a, cap, rfl, _⟩ := H
  go_enter Tryd.func60, Tryd.ntmps60
  go_wp2_with (go_at_call 65; refine ci.mono ?_; rintro e w' ⟨rfl, rfl⟩)
  go_ret
  exact ⟨ret_inj (bool_eq HI.out), rfl⟩
theorem signs_at (w : World) : BytesAt (w.alloc (.cells #[.int .u8 45, .int .u8 35, .int .u8 61, .int .u8 95, .int .u8 47, .int .u8 64, .int .u8 46, .int .u8 37] 5 (8, 9))) (.slice (some ⟨w.heap.size, 0, none⟩) 8 8) signL := by
  refine ⟨_, 8, rfl, by decide, .inr ⟨_, 0, rfl, by simp, fun i hi => ?_⟩⟩
  have hi : i < 8 := hi
  unfold World.cell?
  rw [heap_alloc_new]
  obtain rfl | rfl | rfl | rfl | rfl | rfl | rfl | rfl : i = 0 ∨ i = 1 ∨ i = 2 ∨ i = 3 ∨ i = 4 ∨ i = 5 ∨ i = 6 ∨ i = 7 := by omega
  all_goals rfl
set_option maxHeartbeats 4000000 in
theorem letter_any (c : UInt8) (w : World) :
    Calls Tryd.prog 51 #[.int .u8 c.toNat] w fun e w' => e = .returned (.bool (letB c)) ∧ Ext w w' := by
  have hconv := Go.Joins.run_convert_bytes_const_at (P := Tryd.prog) w 48 5 #[.int .u8 45, .int .u8 35, .int .u8 61, .int .u8 95, .int .u8 47, .int .u8 64, .int .u8 46, .int .u8 37] 8 8 w.heap.size rfl Tryd.underlying48 Tryd.underlying5
  simp only [show (#[.int .u8 45, .int .u8 35, .int .u8 61, .int .u8 95, .int .u8 47, .int .u8 64, .int .u8 46, .int .u8 37] : Array Value).size = 8 from rfl] at hconv
  have hx : Ext w (w.alloc (.cells #[.int .u8 45, .int .u8 35, .int .u8 61, .int .u8 95, .int .u8 47, .int .u8 64, .int .u8 46, .int .u8 37] 5 (8, 9))) := (Below.refl _ _).alloc (Nat.le_refl _) _
  have cs := containsU8_any _ signL c _ (signs_at w)
  obtain ⟨s, hs⟩ : ∃ s, signL.contains c = s := ⟨_, rfl⟩
  rw [hs] at cs
  have ca := fun W => alpha_any c W
  have cd := fun W => digit_any c W
  have hcl := c.toNat_lt
  cases ha : alphaB c
  · cases hd : digB c
    · have HL : Hid (letB c = s) := Lib.hid (by unfold letB; rw [ha, hd, hs]; rfl)
      rw [ha] at ca
      rw [hd] at cd
      clear ha hd hs
      go_enter Tryd.func51, Tryd.ntmps51
      go_wp2_with (first
        | (go_at_call 58; refine (ca _).mono ?_; rintro e w1 ⟨rfl, rfl⟩)
        | (go_at_call 59; refine (cd _).mono ?_; rintro e w1 ⟨rfl, rfl⟩)
        | (go_at_call 60; refine cs.mono ?_; rintro e w1 ⟨rfl, rfl⟩))
      go_ret
      exact ⟨ret_inj (bool_eq HL.out.symm), hx⟩
    · have HL : Hid (letB c = true) := Lib.hid (by unfold letB; rw [ha, hd]; rfl)
      rw [ha] at ca
      rw [hd] at cd
      clear ha hd hs
      go_enter Tryd.func51, Tryd.ntmps51
      go_wp2_with (first
        | (go_at_call 58; refine (ca _).mono ?_; rintro e w1 ⟨rfl, rfl⟩)
        | (go_at_call 59; refine (cd _).mono ?_; rintro e w1 ⟨rfl, rfl⟩))
      go_ret
      exact ⟨ret_inj (bool_eq HL.out.symm), Ext.refl _⟩
  · have HL : Hid (letB c = true) := Lib.hid (by unfold letB; rw [ha]; rfl)
    rw [ha] at ca
    clear ha hs
    go_enter Tryd.func51, Tryd.ntmps51
    go_wp2_with (go_at_call 58; refine (ca _).mono ?_; rintro e w1 ⟨rfl, rfl⟩)
    go_ret
    exact ⟨ret_inj (bool_eq HL.out.symm), Ext.refl _⟩
theorem all_take {l : List UInt8} {k : Nat} (hk : k < l.length) (p : UInt8 → Bool) : (l.take (k + 1)).all p = ((l.take k).all p && p l[k]) := by
  rw [List.take_succ_eq_append_getElem hk, List.all_append]
  simp
theorem all_false {l : List UInt8} {k : Nat} (hk : k < l.length) {p : UInt8 → Bool} (h : p l[k] = false) : l.all p = false := by
  rw [← Bool.not_eq_true, List.all_eq_true]
  intro ha
  rw [ha _ (List.getElem_mem hk)] at h
  cases h
set_option maxHeartbeats 4000000 in
theorem name_any (s : List UInt8) (w : World) (hs : s.length ≤ maxLen) :
    Calls Tryd.prog 37 #[.string ⟨⟨s⟩⟩] w fun e w' => e = .returned (.bool (nameB s)) ∧ Ext w w' := by
  unfold maxLen at hs
  go_enter Tryd.func37, Tryd.ntmps37
  go_wp2_with fail
  go_loopw [3, 6] (fun _ i wr => ∃ k : Nat, i = .int .i64 k ∧ k ≤ s.length ∧ Ext w wr ∧ Hid ((s.take k).all letB = true)) (fun _ i _ => s.length - (intOf i).toNat)
  case atStart => exact ⟨0, rfl, by omega, Ext.refl _, Lib.hid rfl⟩
  case round =>
    obtain ⟨k, rfl, hk, hx, HA⟩ := hrel
    by_cases hlt : k < s.length
    · obtain ⟨c, hc⟩ : ∃ c, s[k] = c := ⟨_, rfl⟩
      have hcl := c.toNat_lt
      have cl := fun W => letter_any c W
      cases hq : letB c
      · have HF : Hid (nameB s = false) := Lib.hid (by unfold nameB; rw [all_false hlt (by rw [hc]; exact hq)]; rfl)
        rw [hq] at cl
        clear hq
        go_wp2_with (go_at_call 51; refine (cl _).mono ?_; rintro e w1 ⟨rfl, hx1⟩)
        go_ret
        exact ⟨ret_inj (bool_eq HF.out.symm), hx.trans hx1⟩
      · have HN : Hid ((s.take (k + 1)).all letB = true) := Lib.hid (by rw [all_take hlt, HA.out, hc, hq]; rfl)
        rw [hq] at cl
        clear hq
        go_wp2_with (go_at_call 51; refine (cl _).mono ?_; rintro e w1 ⟨rfl, hx1⟩)
        go_roundw
        case rel => exact ⟨k + 1, by go_num, by omega, hx.trans hx1, HN⟩
        case measure => simp [intOf]; omega
    · obtain rfl : k = s.length := by omega
      have HF : Hid (nameB s = !s.isEmpty) := Lib.hid (by
        have h := HA.out
        rw [List.take_length] at h
        unfold nameB
        rw [h]
        cases s <;> rfl)
      go_wp2_with fail
      go_ret
      exact ⟨ret_inj (bool_eq HF.out.symm), hx⟩
end Go.Proofs.YtkofccabfkkgjaaDoor
