/-
  What is proved: the reference's Plain: a contract. Condition: texts of at most 100000 bytes.
-/
import Derived.Test.YtkgieaokckidmaaBasL
import Derived.Test.YtkgieaokckidmaaRows
import Derived.Test.YtkgieaokckidmaaOwn
namespace Go.Proofs.Ytkgieaokckidmaa
open Go.RowKit

theorem pln_snoc (l : List UInt8) (k : Nat) (h : k < l.length) {c : UInt8} (hc : l[k] = c) : plnL (l.take (k + 1)) = plnL (l.take k) ++ [plnB c] := by
  rw [List.take_succ_eq_append_getElem h, hc]
  simp [plnL]
theorem byte_ne {c d : UInt8} (h : c ≠ d) : ((c.toNat : Int) == d.toNat) = false := by
  rw [beq_eq_false_iff_ne]
  intro e
  exact h (UInt8.toNat.inj (by omega))
set_option maxRecDepth 100000 in
set_option maxHeartbeats 1000000 in
theorem refPlain_any (l : List UInt8) (w : World) (hs : l.length ≤ 100000) :
    Calls Try.prog 13 #[.string ⟨⟨l⟩⟩] w fun e w' => e = .returned (.string ⟨⟨plnL l⟩⟩) ∧ Ext w w' := by
  go_enter Try.func13, Try.ntmps13
  go_wp2_with fail
  go_loopw [3, 4] (fun o i wr => ∃ (k : Nat) (u : List UInt8), k ≤ l.length ∧ i = .int .i64 k ∧ Hid (plnL (l.take k) = u) ∧ OwnB w.heap.size o u wr ∧ u.length ≤ k ∧ w.heap.size ≤ wr.heap.size ∧ Below w.heap.size w wr) (fun _ i _ => l.length - (intOf i).toNat)
  case atStart => exact ⟨0, [], Nat.zero_le _, rfl, Lib.hid rfl, OwnB.nil _ _, Nat.le_refl _, Nat.le_refl _, Below.refl _ _⟩
  case round =>
    obtain ⟨k, u, hk, rfl, HU, hown, hul, hB, hb⟩ := hrel
    by_cases hlt : k < l.length
    · obtain ⟨c, hc⟩ : ∃ c, l[k] = c := ⟨_, rfl⟩
      have HC := Lib.hid hc
      have HS := Lib.hid (pln_snoc l k hlt hc)
      clear hc
      by_cases h1 : c = 45
      · subst h1
        have hb1 : ((l[k].toNat : Int) == 45) = true := by rw [HC.out]; rfl
        have HQ : Hid (plnL (l.take (k + 1)) = u ++ [43]) := Lib.hid (by rw [HS.out, HU.out]; rfl)
        go_wp2_with (at_builtin; refine app_byte rfl _ _ rfl 43 _ _ rfl rfl rfl hown rfl (by omega) hB ?_; intro v' w' hown' hb2)
        go_roundw
        case rel => exact ⟨k + 1, _, by omega, by go_num, HQ, hown', by simp; omega, Nat.le_trans hB hb2.size, hb.trans hb2⟩
        case measure => simp [intOf]; omega
      · have hb1 : ((l[k].toNat : Int) == 45) = false := by rw [HC.out]; exact byte_ne h1
        by_cases h2 : c = 95
        · subst h2
          have hb2 : ((l[k].toNat : Int) == 95) = true := by rw [HC.out]; rfl
          have HQ : Hid (plnL (l.take (k + 1)) = u ++ [47]) := Lib.hid (by rw [HS.out, HU.out]; rfl)
          clear h1
          go_wp2_with (at_builtin; refine app_byte rfl _ _ rfl 47 _ _ rfl rfl rfl hown rfl (by omega) hB ?_; intro v' w' hown' hb2)
          go_roundw
          case rel => exact ⟨k + 1, _, by omega, by go_num, HQ, hown', by simp; omega, Nat.le_trans hB hb2.size, hb.trans hb2⟩
          case measure => simp [intOf]; omega
        · have hb2 : ((l[k].toNat : Int) == 95) = false := by rw [HC.out]; exact byte_ne h2
          have HQ : Hid (plnL (l.take (k + 1)) = u ++ [l[k]]) := Lib.hid (by rw [HS.out, HU.out, HC.out]; unfold plnB; rw [if_neg h1, if_neg h2])
          clear h1 h2
          go_wp2_with (at_builtin; refine app_byte rfl _ _ rfl l[k] _ _ rfl rfl rfl hown rfl (by omega) hB ?_; intro v' w' hown' hb2)
          go_roundw
          case rel => exact ⟨k + 1, _, by omega, by go_num, HQ, hown', by simp; omega, Nat.le_trans hB hb2.size, hb.trans hb2⟩
          case measure => simp [intOf]; omega
    · obtain rfl : k = l.length := by omega
      have hcv := conv_byte hown
      have HF : Hid (plnL l = u) := Lib.hid (by rw [← HU.out, List.take_length])
      go_wp2_with fail
      go_ret
      exact ⟨ret_inj (str_eq HF.out.symm), hb⟩
end Go.Proofs.Ytkgieaokckidmaa
