/-
  What is proved: the lines of a text, in the program and in the reference: contracts. Condition: the text's size.
-/
import Derived.Test.YthcbkgiphfgbcaaDoorTxtQ
import Derived.Test.YthcbkgiphfgbcaaDoorRpA
import Derived.Deep.QuietTactic
import Derived.BigQuiet
namespace Go.Proofs.YthcbkgiphfgbcaaDoor
open Go.RowKit

theorem rep_two_len (l : List UInt8) : (Lib.replaceAll l [13, 10] [10]).length ≤ l.length := by
  rw [replaceAll_eq (by simp) (by decide)]
  have key : ∀ (n : Nat) (s : List UInt8), (repF [13, 10] [10] n s).length ≤ s.length := by
    intro n
    induction n with
    | zero => intro s; simp [repF]
    | succ n ih =>
      intro s
      cases s with
      | nil => simp [repF]
      | cons c t =>
        unfold repF
        split
        · have h1 := ih ((c :: t).drop ([13, 10] : List UInt8).length)
          rename_i hp
          have hl := (List.isPrefixOf_iff_prefix.1 hp).length_le
          simp only [List.length_append, List.length_drop, List.length_cons, List.length_nil] at h1 hl ⊢
          omega
        · have h1 := ih t
          simp only [List.length_cons]
          omega
  exact key _ _
theorem lines_any (l : List UInt8) (w : World) (hl : l.length < 20000) (hm : MaxIs w) :
    Calls Tryd.prog 10 #[.string ⟨⟨l⟩⟩] w fun e w' => e = .returned (.string ⟨⟨linesB l⟩⟩) ∧ Ext w w' := by
  have HE := Lib.hid (lines_all l)
  have h2 := rep_two_len l
  go_enter Tryd.func10, Tryd.ntmps10
  go_wp2_with fail
  refine (replaceAll_any _ _ _ _ hm (by omega) (by decide) (by decide)).mono ?_
  rintro e w1 ⟨rfl, x1⟩
  go_wp2_with fail
  refine (replaceAll_any _ _ _ _ (hm.ext x1) (by omega) (by decide) (by decide)).mono ?_
  rintro e w2 ⟨rfl, x2⟩
  go_wp2_with fail
  go_ret
  exact ⟨ret_inj (str_eq HE.out), Ext.trans x1 x2⟩
theorem getD_get {l : List UInt8} {i : Nat} (h : i < l.length) : l.getD i 0 = l[i] := by
  rw [List.getD_eq_getElem?_getD, List.getElem?_eq_getElem h]; rfl
theorem slice_one {l : List UInt8} {k : Nat} (h : k < l.length) : (l.drop k).take 1 = [l[k]] := by
  rw [List.drop_eq_getElem_cons h]; rfl
theorem u8_eq {c d : UInt8} (h : c.toNat = d.toNat) : c = d := UInt8.toNat_inj.1 h
set_option maxRecDepth 100000 in
set_option maxHeartbeats 1000000 in
theorem refLines_any (l : List UInt8) (w : World) (hl : l.length < 20000) :
    Calls Tryd.prog 11 #[.string ⟨⟨l⟩⟩] w fun e w' => e = .returned (.string ⟨⟨linesB l⟩⟩) ∧ w = w' := by
  go_enter Tryd.func11, Tryd.ntmps11
  go_wp2_with fail
  go_loop [3, 4] (fun so si => ∃ k : Nat, si = .int .i64 k ∧ so = .string ⟨⟨linesB (l.take k)⟩⟩ ∧ k ≤ l.length) (fun _ si => l.length - (intOf si).toNat)
  case atStart => exact ⟨0, rfl, rfl, by omega⟩
  case round =>
    obtain ⟨k, rfl, rfl, hk⟩ := hrel
    have hle := linesF_len false (l.take k)
    have hle2 : (l.take k).length ≤ k := List.length_take_le _ _
    have hle3 : (linesB (l.take k)).length ≤ k := Nat.le_trans hle hle2
    clear hle hle2
    by_cases hlt : k < l.length
    · have ht := linesB_take hlt
      have h13 : (13 : UInt8).toNat = 13 := rfl
      have h10 : (10 : UInt8).toNat = 10 := rfl
      by_cases h1 : l[k] = 13
      · rw [if_pos h1] at ht
        have HT := Lib.hid ht
        have c1 : ((l[k].toNat : Int) == 13) = true := by rw [h1]; rfl
        clear ht h1 h13 h10
        go_wp2_with fail
        go_round
        case rel => exact ⟨k + 1, by go_num, by rw [HT.out], by omega⟩
        case measure => simp [intOf]; omega
      · rw [if_neg h1] at ht
        have c1 : ((l[k].toNat : Int) == 13) = false := by
          rw [beq_eq_false_iff_ne]
          intro e
          exact h1 (u8_eq (by rw [h13]; omega))
        by_cases h2 : l[k] = 10
        · have c2 : ((l[k].toNat : Int) != 10) = false := by rw [h2]; rfl
          by_cases h3 : k = 0
          · rw [if_pos (.inr (.inl h3))] at ht
            have HT := Lib.hid ht
            have c3 : ((k : Int) == 0) = true := by rw [h3]; rfl
            clear ht h1 h2 h3 h13 h10
            go_wp2_with fail
            go_round
            case rel => exact ⟨k + 1, by go_num, by rw [HT.out]; simp [slice_one hlt], by omega⟩
            case measure => simp [intOf]; omega
          · have c3 : ((k : Int) == 0) = false := by rw [beq_eq_false_iff_ne]; omega
            have hk1 : k - 1 < l.length := by omega
            rw [getD_get hk1] at ht
            by_cases h4 : l[k - 1] = 13
            · rw [if_neg (by simp [h2, h3, h4])] at ht
              have HT := Lib.hid ht
              have c4 : ((l[k - 1].toNat : Int) != 13) = false := by rw [h4]; rfl
              have k1 : 1 ≤ k := by omega
              clear ht h1 h2 h3 h4 h13 h10
              go_wp2_with fail
              go_round
              case rel => exact ⟨k + 1, by go_num, by rw [HT.out]; simp [slice_one hlt], by omega⟩
              case measure => simp [intOf]; omega
            · rw [if_pos (.inr (.inr h4))] at ht
              have HT := Lib.hid ht
              have c4 : ((l[k - 1].toNat : Int) != 13) = true := by
                simp only [bne_iff_ne, ne_eq]
                intro e
                exact h4 (u8_eq (by rw [h13]; omega))
              have k1 : 1 ≤ k := by omega
              clear ht h1 h2 h3 h4 h13 h10
              go_wp2_with fail
              go_round
              case rel => exact ⟨k + 1, by go_num, by rw [HT.out]; simp [slice_one hlt], by omega⟩
              case measure => simp [intOf]; omega
        · have c2 : ((l[k].toNat : Int) != 10) = true := by
            simp only [bne_iff_ne, ne_eq]
            intro e
            exact h2 (u8_eq (by rw [h10]; omega))
          rw [if_pos (.inl h2)] at ht
          have HT := Lib.hid ht
          clear ht h1 h2 h13 h10
          go_wp2_with fail
          go_round
          case rel => exact ⟨k + 1, by go_num, by rw [HT.out]; simp [slice_one hlt], by omega⟩
          case measure => simp [intOf]; omega
    · go_wp2_with fail
      go_ret
      exact ⟨ret_inj (str_eq (by rw [List.take_of_length_le (by omega)])), rfl⟩
end Go.Proofs.YthcbkgiphfgbcaaDoor
