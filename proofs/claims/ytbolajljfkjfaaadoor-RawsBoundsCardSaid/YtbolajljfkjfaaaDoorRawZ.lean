/-
  What is proved: whether a text has another one in it, or at its end: contracts; what comments around texts are. Condition: texts of less than 100000 bytes.
-/
import Derived.Test.YtbolajljfkjfaaaDoorRawY
import Derived.Test.YtbolajljfkjfaaaDoorRawR
import Derived.Test.YtbolajljfkjfaaaDoorRawL
namespace Go.Proofs.YtbolajljfkjfaaaDoor
open Go.RowKit

theorem isSuf_iff (p s : List UInt8) : p.isSuffixOf s = (decide (p.length ≤ s.length) && (s.drop (s.length - p.length) == p)) := by
  rw [Bool.eq_iff_iff, List.isSuffixOf_iff_suffix]
  simp only [Bool.and_eq_true, decide_eq_true_eq, beq_iff_eq]
  constructor
  · rintro ⟨t, rfl⟩
    simp
  · rintro ⟨_, h⟩
    have e := List.take_append_drop (s.length - p.length) s
    rw [h] at e
    exact ⟨_, e⟩
theorem fdI_zero (t s : List UInt8) : decide (0 ≤ fdI t s 0) = (idxP t s).isSome := by
  unfold fdI
  rw [List.drop_zero]
  cases idxP t s with
  | none => rfl
  | some j => simp
set_option maxHeartbeats 2000000 in
theorem has_any (s t : List UInt8) (w : World) (hs : s.length < 100000) (ht : t ≠ []) (htl : t.length < 100000) :
    Calls Tryd.prog 21 #[.string ⟨⟨s⟩⟩, .string ⟨⟨t⟩⟩] w fun e w' => e = .returned (.bool (idxP t s).isSome) ∧ w = w' := by
  have HT := Lib.hid ht
  have HZ := Lib.hid (fdI_zero t s)
  clear ht
  go_enter Tryd.func21, Tryd.ntmps21
  go_wp2_with fail
  go_loop [5] (fun i => ∃ k : Nat, i = .int .i64 k ∧ k ≤ s.length ∧ Hid (fdI t s 0 = fdI t s k)) (fun i => s.length - (intOf i).toNat)
  case atStart => exact ⟨0, rfl, by omega, Lib.hid rfl⟩
  case round =>
    obtain ⟨k, rfl, hk, HR⟩ := hrel
    have htp := List.length_pos_iff.2 HT.out
    by_cases hlt : k + t.length ≤ s.length
    · have hl2 : (k : Int) + t.length ≤ s.length := by omega
      cases hp : ((s.drop k).take t.length == t) with
      | true =>
        have HF : Hid ((idxP t s).isSome = true) := Lib.hid (by rw [← HZ.out, HR.out, fdI_here HT.out hlt hp]; simp)
        go_wp2_with fail
        go_ret
        exact ⟨ret_inj (bool_eq HF.out.symm), rfl⟩
      | false =>
        have HF : Hid (fdI t s 0 = fdI t s (k + 1)) := Lib.hid (by rw [HR.out, fdI_next HT.out hlt hp])
        go_wp2_with fail
        go_round
        case rel => exact ⟨k + 1, by go_num, by omega, HF⟩
        case measure => simp [intOf]; omega
    · have hl2 : ¬ ((k : Int) + t.length ≤ s.length) := by omega
      have HF : Hid ((idxP t s).isSome = false) := Lib.hid (by rw [← HZ.out, HR.out, fdI_off (by omega) HT.out]; rfl)
      go_wp2_with fail
      go_ret
      exact ⟨ret_inj (bool_eq HF.out.symm), rfl⟩
theorem ends_any (s t : List UInt8) (w : World) (hs : s.length < 100000) (htl : t.length < 100000) :
    Calls Tryd.prog 22 #[.string ⟨⟨s⟩⟩, .string ⟨⟨t⟩⟩] w fun e w' => e = .returned (.bool (t.isSuffixOf s)) ∧ w = w' := by
  have HZ := Lib.hid (isSuf_iff t s)
  by_cases hl : t.length ≤ s.length
  · have l1 : (t.length : Int) ≤ (s.length : Int) := by omega
    have n1 : ((s.length : Int) - (t.length : Int)).toNat = s.length - t.length := by omega
    obtain ⟨b, hb⟩ : ∃ b, (s.drop (s.length - t.length) == t) = b := ⟨_, rfl⟩
    have HF : Hid (t.isSuffixOf s = b) := Lib.hid (by rw [HZ.out, hb, decide_eq_true hl]; rfl)
    cases b
    all_goals
      go_enter Tryd.func22, Tryd.ntmps22
      go_wp2_with fail
      go_ret
      exact ⟨ret_inj (bool_eq HF.out.symm), rfl⟩
  · have l1 : ¬ (t.length : Int) ≤ (s.length : Int) := by omega
    have HF : Hid (t.isSuffixOf s = false) := Lib.hid (by rw [HZ.out, decide_eq_false hl]; rfl)
    go_enter Tryd.func22, Tryd.ntmps22
    go_wp2_with fail
    go_ret
    exact ⟨ret_inj (bool_eq HF.out.symm), rfl⟩
/-- What stands ahead makes no difference to a front. -/
theorem behI_ahead (f a s : List UInt8) : behI f (a ++ s) a.length = if standsB f s then some (s.drop f.length) else none := by
  rw [behI_nat f (a ++ s) a.length (by simp), List.drop_left' rfl]
theorem openC_on (x : List UInt8) : standsB openC (60 :: 33 :: 45 :: 45 :: x) = true := by
  rw [stands_open]
  rfl
/-- The comment around a text without ends. -/
theorem com_around {a s x : List UInt8} (h : Clear s) (h1 : standsB [62] s = false) (h2 : standsB [45, 62] s = false) {t : List UInt8} {m : Nat} (hx : cmF x = (t, m)) (x1 : standsB [62] x = false) (x2 : standsB [45, 62] x = false) :
    comI (a ++ (60 :: 33 :: 45 :: 45 :: (s ++ x))) a.length = some (cleanL (s ++ t), 4 + (s.length + m)) := by
  unfold comI
  rw [behI_ahead, openC_on, if_pos rfl]
  show some (cleanL (cmM 0 (s ++ x)).1, 4 + (cmM 0 (s ++ x)).2) = _
  rw [comment_text h h1 h2 x1 x2, hx]
theorem stands_len0 {s : List UInt8} (h : s.length = 0) : standsB [62] s = false ∧ standsB [45, 62] s = false := by
  cases s with
  | nil => exact ⟨rfl, rfl⟩
  | cons _ _ => simp at h
theorem stands_at0 {s : List UInt8} (h : 0 < s.length) : standsB [62] s = (s[0] == 62) := by
  cases s with
  | nil => simp at h
  | cons c t => rw [stands_sign (by simp), standsB_empty, Bool.and_true]; rfl
theorem stands_len1 {s : List UInt8} (h : s.length = 1) : standsB [45, 62] s = false := by
  unfold standsB
  rw [h]
  rfl
theorem stands_at1 {s : List UInt8} (h : 2 ≤ s.length) : standsB [45, 62] s = (s.take 2 == [45, 62]) := by
  match s, h with
  | c :: d :: t, _ =>
    rw [stands_sign (by simp), stands_sign (by simp), standsB_empty]
    simp
end Go.Proofs.YtbolajljfkjfaaaDoor
