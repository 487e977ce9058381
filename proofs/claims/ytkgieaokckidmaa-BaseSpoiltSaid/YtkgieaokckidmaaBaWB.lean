/-
  What is proved: what the law BaseBack computes: true. No condition but that lengths are ints.
-/
import Derived.Test.YtkgieaokckidmaaBasY
namespace Go.Proofs.Ytkgieaokckidmaa
open Go.RowKit

theorem dec_some {x u : List UInt8} (h : Hid (decL x = some u)) (hx : x.length ≤ 100000) (w : World) : Calls Try.prog 8 #[.string ⟨⟨x⟩⟩] w fun e w' => e = .returned (.tuple #[.string ⟨⟨u⟩⟩, .int .i64 0]) ∧ Ext w w' := by
  refine (decode_any x w hx).mono ?_
  rintro e w' ⟨rfl, he⟩
  exact ⟨by rw [h.out]; rfl, he⟩
set_option maxRecDepth 100000 in
set_option maxHeartbeats 4000000 in
theorem baseBack_walk (l : List UInt8) (bs : List Bool) (v : Value) (w : World) (hs : l.length ≤ maxLen) (hv : BoolsAt w v bs) :
    Calls Try.prog 4 #[.string ⟨⟨l⟩⟩, v] w fun e w' => e = .returned (.bool true) ∧ Below w.heap.size w w' := by
  unfold maxLen at hs
  by_cases hl : l.length ≤ 2000
  · obtain ⟨T, hT⟩ : ∃ T, encL l = T := ⟨_, rfl⟩
    obtain ⟨B, hB⟩ : ∃ B, strQ T = B := ⟨_, rfl⟩
    obtain ⟨O, hO⟩ : ∃ O, othL T bs = O := ⟨_, rfl⟩
    have htl : T.length = (l.length + 2) / 3 * 4 := by rw [← hT]; exact encL_len l
    have hT9 : T.length ≤ 100000 := by omega
    have hB9 : B.length ≤ 100000 := by
      rw [← hB, ← hT, strQ_enc, bodyL_len]
      omega
    have hO9 : O.length ≤ 100000 := by rw [← hO, othL_len]; exact hT9
    have D1 : Hid (decL T = some l) := Lib.hid (by rw [← hT]; exact dec_encL l)
    have D2 : Hid (decL B = some l) := Lib.hid (by rw [← hB, ← hT, strQ_enc]; exact dec_body l)
    have D3 : Hid (decL O = some l) := Lib.hid (by rw [← hO, ← hT]; exact dec_oth l bs)
    have HP : Hid (plnL O = T) := Lib.hid (by rw [← hO, ← hT]; exact pln_oth_enc l bs)
    have hlen : ((T.length : Int) != ((l.length : Int) + 2) / 3 * 4) = false := by
      rw [bne_eq_false_iff_eq]
      omega
    have HT := Lib.hid hT
    have HB := Lib.hid hB
    have HO := Lib.hid hO
    clear hT hB hO htl
    obtain ⟨a, n, cp, hve⟩ : ∃ a n cp, v = .slice a n cp := by
      obtain ⟨a, cap, e, _⟩ := hv
      exact ⟨a, _, cap, e⟩
    subst hve
    have i0 : ∀ w, (Instr.index 30 (.agg #[.string ⟨⟨T⟩⟩, .string ⟨⟨B⟩⟩, .string ⟨⟨O⟩⟩]) (.int .i64 0)).run Try.prog w = .ok (.string ⟨⟨T⟩⟩) w := fun _ => by kernel_rfl
    have i1 : ∀ w, (Instr.index 30 (.agg #[.string ⟨⟨T⟩⟩, .string ⟨⟨B⟩⟩, .string ⟨⟨O⟩⟩]) (.int .i64 1)).run Try.prog w = .ok (.string ⟨⟨B⟩⟩) w := fun _ => by kernel_rfl
    have i2 : ∀ w, (Instr.index 30 (.agg #[.string ⟨⟨T⟩⟩, .string ⟨⟨B⟩⟩, .string ⟨⟨O⟩⟩]) (.int .i64 2)).run Try.prog w = .ok (.string ⟨⟨O⟩⟩) w := fun _ => by kernel_rfl
    go_enter Try.func4, Try.ntmps4
    go_wp2_with (first
      | (go_at_call 10; refine (encode_any l _ (by omega)).mono ?_; rintro e w1 ⟨rfl, x1⟩; rw [HT.out]; have hv1 := hv.ext x1)
      | (go_at_call 14; refine (bareLaw_any T _ (by omega)).mono ?_; rintro e w' ⟨rfl, rfl⟩; rw [HB.out])
      | (go_at_call 15; refine (other_any T bs _ _ hv1 (by omega)).mono ?_; rintro e w2 ⟨rfl, x2⟩; rw [HO.out]; have hv2 := hv1.ext x2))
    refine wp_loop_rounds 4 ?_
    rw [rounds_succ]
    go_wp2_with (go_at_call 8; refine (dec_some D1 hT9 _).mono ?_; rintro e w3 ⟨rfl, x3⟩; have hv3 := hv2.ext x3)
    rw [rounds_succ]
    go_wp2_with (go_at_call 8; refine (dec_some D2 hB9 _).mono ?_; rintro e w4 ⟨rfl, x4⟩; have hv4 := hv3.ext x4)
    rw [rounds_succ]
    go_wp2_with (go_at_call 8; refine (dec_some D3 hO9 _).mono ?_; rintro e w5 ⟨rfl, x5⟩; have hv5 := hv4.ext x5)
    rw [rounds_succ]
    go_wp2_with (first
      | (go_at_call 15; refine (other_any T bs _ _ hv5 (by omega)).mono ?_; rintro e w6 ⟨rfl, x6⟩; rw [HO.out])
      | (go_at_call 12; refine (plain_any O _ hO9).mono ?_; rintro e w7 ⟨rfl, x7⟩; rw [HP.out])
      | (go_at_call 7; refine (lettered_any _).mono ?_; rintro e w8 ⟨rfl, x8⟩))
    go_ret
    exact ⟨rfl, Ext.trans (Ext.trans (Ext.trans (Ext.trans (Ext.trans (Ext.trans (Ext.trans x1 x2) x3) x4) x5) x6) x7) x8⟩
  · go_enter Try.func4, Try.ntmps4
    go_wp2_with (go_at_call 7; refine (lettered_any _).mono ?_; rintro e w7 ⟨rfl, x7⟩)
    go_ret
    exact ⟨rfl, x7⟩
end Go.Proofs.Ytkgieaokckidmaa
