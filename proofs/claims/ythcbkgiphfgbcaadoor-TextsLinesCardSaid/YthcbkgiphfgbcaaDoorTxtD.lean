/-
  What is proved: texts.Decode: a contract. Conditions: the text's size; the program's table holds what its text lays.
-/
import Derived.Test.YthcbkgiphfgbcaaDoorTxtW
import Derived.Test.YthcbkgiphfgbcaaDoorTrm
import Derived.Test.YthcbkgiphfgbcaaDoorBldS
namespace Go.Proofs.YthcbkgiphfgbcaaDoor
open Go.RowKit

theorem part_any (l : List UInt8) (w : World) (h : l ≠ []) (hl : l.length < 100000) (hw : LeadsIs w) : Calls Tryd.prog 14 #[.string ⟨⟨l⟩⟩] w (PartRes l w) := by
  cases l with
  | nil => exact absurd rfl h
  | cons c t =>
    by_cases hc : c < 0x80
    · exact part_low c t w hc
    · exact part_high c t w hc (by simp only [List.length_cons] at hl; omega) hw
theorem emit_len {l : List UInt8} (h : l ≠ []) : (emit l).length ≤ 3 * (partB l).1 := by
  have := partB_le h
  unfold emit
  split
  · rw [List.length_take]; omega
  · show 3 ≤ _; omega
set_option maxRecDepth 100000 in
set_option maxHeartbeats 1000000 in
theorem decode_any (l : List UInt8) (w : World) (hl : l.length < 20000) (hw : LeadsIs w) :
    Calls Tryd.prog 8 #[.string ⟨⟨l⟩⟩] w fun e w' => e = .returned (.string ⟨⟨decB (unmark l)⟩⟩) ∧ Ext w w' := by
  have HW := Lib.hid hw
  clear hw
  have hul : (unmark l).length ≤ l.length := by unfold unmark; split <;> simp
  go_enter Tryd.func8, Tryd.ntmps8
  go_wp2_with fail
  refine (trimPrefix_any _ _ _).mono ?_
  rintro e w1 ⟨rfl, rfl⟩
  have hU : cutB [239, 187, 191] l = unmark l := rfl
  rw [hU]
  clear hU
  obtain ⟨u, hu⟩ : ∃ u, unmark l = u := ⟨_, rfl⟩
  rw [hu] at hul ⊢
  have HU := Lib.hid hu
  clear hu
  go_wp2_with fail
  go_loopw [4] (fun s wr => ∃ rest acc : List UInt8, s = .string ⟨⟨rest⟩⟩ ∧ IsB w.heap.size acc wr ∧ Below w.heap.size w wr ∧ Hid (acc ++ decB rest = decB u) ∧ acc.length + 3 * rest.length ≤ 3 * u.length) (fun s _ => strLen s)
  case atStart => exact ⟨u, [], rfl, IsB.fresh w, (Below.refl _ _).alloc (by simp) _, Lib.hid rfl, by simp⟩
  case round =>
    obtain ⟨rest, acc, rfl, hI, hb, HD, hle⟩ := hrel
    have hWr := Lib.hid (HW.out.ext hb)
    by_cases hr : rest = []
    · subst hr
      go_wp2_with (go_at_call 16; refine (bld_string _ _ _ hI).mono ?_; rintro e w' ⟨rfl, h1, h2, h3⟩)
      go_ret
      exact ⟨ret_inj (str_eq (by rw [HU.out, ← HD.out, decB_nil, List.append_nil])), hb.trans h2⟩
    · have hst := decB_step hr
      have hel := emit_len hr
      obtain ⟨hp1, hp2, _⟩ := partB_le hr
      have he : emit rest = if (partB rest).2 then rest.take (partB rest).1 else fffd := rfl
      obtain ⟨n, hn⟩ : ∃ n, (partB rest).1 = n := ⟨_, rfl⟩
      have hrne : rest.isEmpty = false := by simpa using hr
      have hrne2 : (rest == []) = false := by simpa using hr
      rw [hn] at hst hel hp1 hp2 he
      have HST := Lib.hid hst
      have HNN := Lib.hid hn
      have HR := Lib.hid hr
      clear hst hn hr
      cases hok : (partB rest).2
      · rw [hok] at he
        have HE := Lib.hid he
        have hl3 : (emit rest).length = 3 := by rw [he]; rfl
        have HOK := Lib.hid hok
        clear he hok
        go_wp2_with fail
        refine (part_any _ _ HR.out (by omega) hWr.out).mono ?_
        unfold PartRes
        rw [HNN.out, HOK.out]
        rintro e w2 ⟨rfl, x2⟩
        have hI2 := hI.below x2
        go_wp2_with (go_at_call 15; refine (bld_writeString _ _ _ _ hI2 (by simp only [bsize, List.length_cons, List.length_nil]; omega)).mono ?_; rintro e w' ⟨rfl, h1, h2, h3⟩)
        go_roundw
        case rel => exact ⟨rest.drop n, _, rfl, h1, (hb.trans (x2.mono hb.size)).trans h2, Lib.hid (by rw [← HD.out, HST.out, HE.out]; simp [fffd]), by simp only [List.length_append, List.length_cons, List.length_nil, List.length_drop]; omega⟩
        case measure => simp [strLen]; omega
      · rw [hok] at he
        have HE := Lib.hid he
        have hl3 : (emit rest).length = n := by rw [he]; simp; omega
        have HOK := Lib.hid hok
        clear he hok
        go_wp2_with fail
        refine (part_any _ _ HR.out (by omega) hWr.out).mono ?_
        unfold PartRes
        rw [HNN.out, HOK.out]
        rintro e w2 ⟨rfl, x2⟩
        have hI2 := hI.below x2
        go_wp2_with (go_at_call 15; refine (bld_writeString _ _ _ _ hI2 (by simp; omega)).mono ?_; rintro e w' ⟨rfl, h1, h2, h3⟩)
        go_roundw
        case rel => exact ⟨rest.drop n, _, rfl, h1, (hb.trans (x2.mono hb.size)).trans h2, Lib.hid (by rw [← HD.out, HST.out, HE.out]; simp), by simp; omega⟩
        case measure => simp [strLen]; omega
end Go.Proofs.YthcbkgiphfgbcaaDoor
