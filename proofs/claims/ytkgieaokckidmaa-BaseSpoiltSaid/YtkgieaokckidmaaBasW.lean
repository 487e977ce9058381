/-
  What is proved: base.bare and base.worth: contracts. No condition but that lengths are ints.
-/
import Derived.Test.YtkgieaokckidmaaBasL
import Derived.Test.YtkgieaokckidmaaMap
import Derived.Test.YtkgieaokckidmaaRows
import Derived.Maps.Keyed
import Derived.Maps.OwnOps
import Derived.Maps.OwnSet
namespace Go.Proofs.Ytkgieaokckidmaa
open Go.RowKit Go.Maps

theorem lastB_snoc (t : List UInt8) (c : UInt8) : ((t ++ [c]).drop t.length == [61]) = decide ((t ++ [c]).getLast? = some 61) := by
  rw [List.drop_left, Bool.eq_iff_iff]
  simp
theorem suffix_lite (s : List UInt8) (w : World) (hs : s.length ≤ maxLen) :
    Calls Try.prog 33 #[.string ⟨⟨s⟩⟩, .string ⟨⟨[61]⟩⟩] w fun e w' => e = .returned (.bool (decide (s.getLast? = some 61))) ∧ w = w' := by
  unfold maxLen at hs
  rcases List.eq_nil_or_concat s with rfl | ⟨t, c, rfl⟩
  · go_enter Try.func33, Try.ntmps33
    go_wp2
    go_ret
    exact ⟨rfl, rfl⟩
  · rw [List.concat_eq_append] at hs ⊢
    have hb := Lib.hid (lastB_snoc t c)
    simp only [List.length_append, List.length_cons, List.length_nil] at hs
    have h1 : 1 ≤ (t.length : Int) + 1 := by omega
    go_enter Try.func33, Try.ntmps33
    go_wp2
    go_ret
    refine ⟨ret_inj (bool_eq ?_), rfl⟩
    rw [← hb.out]
    simp
theorem trim_lite (s : List UInt8) (w : World) (hs : s.length ≤ maxLen) :
    Calls Try.prog 28 #[.string ⟨⟨s⟩⟩, .string ⟨⟨[61]⟩⟩] w fun e w' => e = .returned (.string ⟨⟨trimQ s⟩⟩) ∧ w = w' := by
  by_cases h : s.getLast? = some 61
  · have e1 : trimQ s = s.dropLast := by unfold trimQ; rw [if_pos h]
    have e2 : decide (s.getLast? = some 61) = true := decide_eq_true h
    have h1 : 1 ≤ s.length := by
      cases s with
      | nil => cases h
      | cons a t => simp
    rw [e1, List.dropLast_eq_take]
    have H := Lib.hid e2
    clear e1 e2 h
    have hs2 := hs
    unfold maxLen at hs
    go_enter Try.func28, Try.ntmps28
    go_wp2_with (go_at_call 33; refine (suffix_lite _ _ hs2).mono ?_; rintro e w' ⟨rfl, rfl⟩; rw [H.out])
    go_ret
    refine ⟨ret_inj (str_eq ?_), rfl⟩
    simp
  · have e1 : trimQ s = s := trimQ_else h
    have e2 : decide (s.getLast? = some 61) = false := decide_eq_false h
    rw [e1]
    have H := Lib.hid e2
    clear e1 e2 h
    go_enter Try.func28, Try.ntmps28
    go_wp2_with (go_at_call 33; refine (suffix_lite _ _ hs).mono ?_; rintro e w' ⟨rfl, rfl⟩; rw [H.out])
    go_ret
    exact ⟨rfl, rfl⟩
theorem trim_any (s : List UInt8) (w : World) (hs : s.length ≤ maxLen) :
    Calls Try.prog 24 #[.string ⟨⟨s⟩⟩, .string ⟨⟨[61]⟩⟩] w fun e w' => e = .returned (.string ⟨⟨trimQ s⟩⟩) ∧ w = w' := by
  go_enter Try.func24, Try.ntmps24
  go_wp2_with (go_at_call 28; refine (trim_lite _ _ hs).mono ?_; rintro e w' ⟨rfl, rfl⟩)
  go_ret
  exact ⟨rfl, rfl⟩
theorem trimQ_le (s : List UInt8) : (trimQ s).length ≤ s.length := by
  unfold trimQ
  split
  · simp
  · exact Nat.le_refl _
theorem bare_any (s : List UInt8) (w : World) (hs : s.length ≤ maxLen) :
    Calls Try.prog 16 #[.string ⟨⟨s⟩⟩] w fun e w' => e = .returned (.string ⟨⟨bareB s⟩⟩) ∧ w = w' := by
  unfold bareB
  have hs2 := hs
  unfold maxLen at hs
  have h2 := trimQ_le s
  by_cases h : s.length % 4 = 0
  · rw [if_pos h]
    have hb : ((s.length : Int) % 4 != 0) = false := by simp; omega
    clear h
    go_enter Try.func16, Try.ntmps16
    go_wp2_with (go_at_call 24; refine (trim_any _ _ (by unfold maxLen; omega)).mono ?_; rintro e w' ⟨rfl, rfl⟩)
    go_ret
    exact ⟨rfl, rfl⟩
  · rw [if_neg h]
    have hb : ((s.length : Int) % 4 != 0) = true := by simp; omega
    clear h
    go_enter Try.func16, Try.ntmps16
    go_wp2
    go_ret
    exact ⟨rfl, rfl⟩

/-- What the letters' map reads as. -/
def worF : Nat → DataW Unit
  | 0 => ((DataW.map []).put (.int .u8 45) (.lit (.int .u32 62))).put (.int .u8 95) (.lit (.int .u32 63))
  | n + 1 => (worF n).put (.int .u8 (letN n).toNat) (.lit (.int .u32 n))
def numD : DataW Unit → Int
  | .lit (.int .u32 n) => n
  | _ => -1
set_option maxRecDepth 100000 in
theorem worF_all : ∀ k : Fin 256, (Maps.has (worF 64) (.int .u8 (k.val : Nat)) = (worB (UInt8.ofNat k.val)).isSome) ∧ numD ((worF 64).atKey (.int .u8 (k.val : Nat)) (.lit (.int .u32 0))) = ((worB (UInt8.ofNat k.val)).getD 0 : Nat) := by decide +kernel
theorem worF_has (c : UInt8) : Maps.has (worF 64) (.int .u8 c.toNat) = (worB c).isSome := by
  have := (worF_all ⟨c.toNat, c.toNat_lt⟩).1
  simpa only [UInt8.ofNat_toNat] using this
theorem worF_at (c : UInt8) : numD ((worF 64).atKey (.int .u8 c.toNat) (.lit (.int .u32 0))) = ((worB c).getD 0 : Nat) := by
  have := (worF_all ⟨c.toNat, c.toNat_lt⟩).2
  simpa only [UInt8.ofNat_toNat] using this
theorem law8 : Keyed Try.prog 5 := int_keyed Try.underlying5
/-- A block that is the letters' map. -/
def IsWor (b : Nat) (w : World) : Prop := w.ownsMap (H := Unit) Try.prog 5 (plainElem Try.prog 37) b 66 (worF 64)
theorem key_u8 (c : UInt8) : keyOf Try.prog 5 (.int .u8 (c.toNat : Int)) = some (.int .u8 c.toNat) := by
  have := c.toNat_lt
  exact keyOf_int_mk Try.underlying5 (by simp [Lit.wf, IntKind.min, IntKind.max, IntKind.bits, IntKind.signed]; omega)
theorem let_get (n : Nat) (h2 : n < letA.length) : letA[n] = letN n := by
  unfold letN
  rw [List.getD_eq_getElem?_getD, List.getElem?_eq_getElem h2]
  rfl
theorem let_len : letA.length = 64 := rfl
theorem wf_u32 (n : Nat) (h : n < 4294967296) : (Lit.int .u32 (n : Int)).wf = true := by
  simp [Lit.wf, IntKind.min, IntKind.max, IntKind.bits, IntKind.signed]; omega
set_option maxHeartbeats 1000000 in
theorem worth_any (w : World) : Calls Try.prog 17 #[] w fun e w' => e = .returned (.map (some w.heap.size)) ∧ IsWor w.heap.size w' ∧ Ext w w' := by
  have hmm := @run_makeMap Try.prog
  go_enter Try.func17, Try.ntmps17
  go_wp2_with (first
    | (refine wpList_insert_own (H := Unit) _ rfl _ _ _ 35 rfl 5 37 law8 Try.underlying35 (plainElem Try.prog 37) w.heap.size 0 (.map []) rfl (World.ownsMap_made _ _ _ _) (by unfold maxLen; omega) (.int .u8 45) (.int .u32 62) (.int .u8 45) rfl rfl (keyOf_int_mk Try.underlying5 (by decide)) _ [] (plainElem_int Try.underlying37 (by decide)) ?_; intro w1 h1 g1)
    | (refine wpList_insert_own (H := Unit) _ rfl _ _ _ 35 rfl 5 37 law8 Try.underlying35 (plainElem Try.prog 37) w.heap.size 1 _ rfl h1 (by unfold maxLen; omega) (.int .u8 95) (.int .u32 63) (.int .u8 95) rfl rfl (keyOf_int_mk Try.underlying5 (by decide)) _ [] (plainElem_int Try.underlying37 (by decide)) ?_; intro w2 h2 g2))
  have hb0 : Below w.heap.size w w2 := (((Below.refl _ _).alloc (Nat.le_refl _) _).grown g1 (by simp) (fun j hj => by cases hj; exact Nat.le_refl _)).grown g2 (by have := g1.size; simp at this; omega) (fun j hj => by cases hj; exact Nat.le_refl _)
  go_loopw [5] (fun i wr => ∃ k : Nat, k ≤ 64 ∧ i = .int .i64 k ∧ wr.ownsMap (H := Unit) Try.prog 5 (plainElem Try.prog 37) w.heap.size (k + 2) (worF k) ∧ Below w.heap.size w wr) (fun i _ => 64 - (intOf i).toNat)
  case atStart => exact ⟨0, Nat.zero_le _, rfl, h2, hb0⟩
  case round =>
    obtain ⟨k, hk, rfl, hown, hb⟩ := hrel
    clear h1 h2 g1 g2 hb0
    by_cases hlt : k < 64
    · have hl2 : k < letA.length := hlt
      have hg := let_get k hl2
      have HG := Lib.hid hg
      clear hg
      go_wp2_with (at_mapUpdate; refine wpList_mapUpdate_own (H := Unit) _ rfl _ _ _ 35 rfl 5 37 law8 Try.underlying35 (plainElem Try.prog 37) w.heap.size (k + 2) _ rfl hown (by unfold maxLen; omega) _ _ _ rfl rfl (key_u8 (letA[k]'hl2)) _ [] (plainElem_int Try.underlying37 (wf_u32 k (by omega))) ?_; intro w1 hown1 hgrow1)
      go_roundw
      case rel => exact ⟨k + 1, by omega, by go_num, by rw [HG.out] at hown1; exact hown1, hb.grown hgrow1 hb.size (fun j hj => by cases hj; exact Nat.le_refl _)⟩
      case measure => simp [intOf]; omega
    · obtain rfl : k = 64 := by omega
      go_wp2
      go_ret
      exact ⟨rfl, hown, hb⟩
end Go.Proofs.Ytkgieaokckidmaa
