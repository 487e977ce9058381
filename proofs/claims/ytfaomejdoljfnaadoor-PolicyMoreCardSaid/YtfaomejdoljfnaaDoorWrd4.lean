/-
  What is proved: whether two lists of texts, two directives are the same: contracts of the law's. No condition.
-/
import Derived.Test.YtfaomejdoljfnaaDoorPlcG
import Derived.Deep.QuietTactic
import Derived.BigQuiet
namespace Go.Proofs.YtfaomejdoljfnaaDoor
open Go.RowKit

set_option maxHeartbeats 4000000 in
theorem words_any (u v : Value) (l m : List (List UInt8)) (w : World) (H : StrsAt w u l) (K : StrsAt w v m) :
    Calls Tryd.prog 19 #[u, v] w fun e w' => e = .returned (.bool (l == m)) ∧ Ext w w' := by
  have hlm : l.length ≤ 9223372036854775807 := by obtain ⟨_, _, _, h, _⟩ := H; exact h
  have hmm : m.length ≤ 9223372036854775807 := by obtain ⟨_, _, _, h, _⟩ := K; exact h
  obtain ⟨a, c, rfl, hl⟩ := H.cells
  obtain ⟨b, d, rfl, hm⟩ := K.cells
  have HL := Lib.hid hl
  have HM := Lib.hid hm
  clear hl hm H K
  by_cases hlen : l.length = m.length
  · have e1 : ((l.length : Int) == (m.length : Int)) = true := by rw [hlen]; simp
    have e2 : ((l.length : Int) != (m.length : Int)) = false := by rw [hlen]; simp
    have HE := Lib.hid hlen
    clear hlen
    go_enter Tryd.func19, Tryd.ntmps19
    go_wp2
    clear e1 e2
    go_loopw [5] (fun i wr => ∃ k : Nat, i = .int .i64 k ∧ k ≤ l.length ∧ Ext w wr ∧ Hid (∀ j (h : j < l.length) (h2 : j < m.length), j < k → l[j] = m[j])) (fun i _ => l.length - (intOf i).toNat)
    case atStart => exact ⟨0, rfl, by omega, Ext.refl _, Lib.hid (fun j _ _ hj => by omega)⟩
    case round =>
      obtain ⟨k, rfl, hk, hx, HN⟩ := hrel
      by_cases hlt : k < l.length
      · have hlt2 : k < m.length := by have := HE.out; omega
        obtain ⟨b1, o1, rfl, hb1, c1⟩ := HL.out k hlt
        obtain ⟨b2, o2, rfl, hb2, c2⟩ := HM.out k hlt2
        have c1 := (hx.cell (p := ⟨b1, o1 + k, none⟩) hb1).trans c1
        have c2 := (hx.cell (p := ⟨b2, o2 + k, none⟩) hb2).trans c2
        obtain ⟨x, hxx⟩ : ∃ x, l[k] = x := ⟨_, rfl⟩
        obtain ⟨y, hyy⟩ : ∃ y, m[k] = y := ⟨_, rfl⟩
        rw [hxx] at c1
        rw [hyy] at c2
        have HX := Lib.hid hxx
        have HY := Lib.hid hyy
        have k0 : (0 : Int) ≤ (k : Int) := by omega
        have k1 : (k : Int) < (l.length : Int) := by omega
        have k2 : (k : Int) < (m.length : Int) := by omega
        clear hxx hyy
        by_cases hq : x = y
        · subst hq
          have HQ : Hid (l[k] = m[k]) := Lib.hid (HX.out.trans HY.out.symm)
          have eq1 : (x == x) = true := by simp
          have eq2 : (x != x) = false := by simp
          go_wp2_with fail
          go_quiet (fail)
          go_wp2_with fail
          go_roundw
          case rel =>
            refine ⟨k + 1, by go_num, by omega, below_drewN hx _, Lib.hid (fun j h h2 hj => ?_)⟩
            by_cases e : j = k
            · subst e
              exact HQ.out
            · exact HN.out j h h2 (by omega)
          case measure => simp [intOf]; omega
        · have HF : Hid ((l == m) = false) := Lib.hid (by
            rw [beq_eq_false_iff_ne]
            intro e
            subst e
            exact hq (HX.out.symm.trans HY.out))
          have eq1 : (x == y) = false := beq_eq_false_iff_ne.2 hq
          have eq2 : (x != y) = true := by simpa using hq
          go_wp2_with fail
          go_quiet (fail)
          go_wp2_with fail
          go_ret
          exact ⟨ret_inj (bool_eq HF.out.symm), below_drewN hx _⟩
      · obtain rfl : k = l.length := by omega
        have HF : Hid ((l == m) = true) := Lib.hid (by
          rw [beq_iff_eq]
          apply List.ext_getElem HE.out
          intro i h1 h2
          exact HN.out i h1 h2 h1)
        go_wp2_with fail
        go_ret
        exact ⟨ret_inj (bool_eq HF.out.symm), hx⟩
  · have e1 : ((l.length : Int) == (m.length : Int)) = false := by simp; omega
    have e2 : ((l.length : Int) != (m.length : Int)) = true := by simp; omega
    have HF : Hid ((l == m) = false) := Lib.hid (by
      rw [beq_eq_false_iff_ne]
      intro e
      exact hlen (by rw [e]))
    clear hlen
    go_enter Tryd.func19, Tryd.ntmps19
    go_wp2
    go_ret
    exact ⟨ret_inj (bool_eq HF.out.symm), Ext.refl _⟩
set_option maxHeartbeats 2000000 in
theorem directive_any (x y : List UInt8) (u v : Value) (l m : List (List UInt8)) (w : World) (H : StrsAt w u l) (K : StrsAt w v m) :
    Calls Tryd.prog 10 #[.agg #[.string ⟨⟨x⟩⟩, u], .agg #[.string ⟨⟨y⟩⟩, v]] w fun e w' => e = .returned (.bool (x == y && l == m)) ∧ Ext w w' := by
  have hx0 : Ext w ((w.alloc (.cells #[.string ⟨⟨x⟩⟩, u] 42)).alloc (.cells #[.string ⟨⟨y⟩⟩, v] 42)) := ((Below.refl _ _).alloc (Nat.le_refl _) _).alloc (by simp) _
  have cw := words_any u v l m _ (H.ext hx0) (K.ext hx0)
  obtain ⟨a, c, rfl, _⟩ := H.cells
  obtain ⟨b, d, rfl, _⟩ := K.cells
  by_cases h : x = y
  · subst h
    have e1 : (x == x) = true := by simp
    have HF : Hid ((x == x && l == m) = (l == m)) := Lib.hid (by rw [e1]; rfl)
    obtain ⟨r, hr⟩ : ∃ r, (l == m) = r := ⟨_, rfl⟩
    rw [hr] at cw
    have HR := Lib.hid hr
    clear hr H K
    go_enter Tryd.func10, Tryd.ntmps10
    go_wp2_with (go_at_call 19; refine cw.mono ?_; rintro e w1 ⟨rfl, hx1⟩)
    go_ret
    exact ⟨ret_inj (bool_eq (HR.out.symm.trans HF.out.symm)), hx0.trans hx1⟩
  · have e1 : (x == y) = false := beq_eq_false_iff_ne.2 h
    have HF : Hid ((x == y && l == m) = false) := Lib.hid (by rw [e1]; rfl)
    clear H K cw
    go_enter Tryd.func10, Tryd.ntmps10
    go_wp2_with fail
    go_ret
    exact ⟨ret_inj (bool_eq HF.out.symm), hx0⟩
end Go.Proofs.YtfaomejdoljfnaaDoor
