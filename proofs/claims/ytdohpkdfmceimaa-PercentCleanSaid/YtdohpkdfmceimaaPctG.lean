/-
  What is proved: what the reference's Decode computes: a contract. Condition: texts of at most 100000 bytes.
-/
import Derived.Test.YtdohpkdfmceimaaPctE
namespace Go.Proofs.Ytdohpkdfmceimaa
open Go.RowKit
theorem tri_short {r : List UInt8} (h : r.length < 3) : (tri r).2 = false := by
  match r, h with
  | [], _ => rfl
  | [a], _ => rfl
  | [a, b], _ => rfl
theorem tri_parts {a b c : UInt8} {r : List UInt8} : (tri (a :: b :: c :: r)).2 = (decide (a = 37) && (isHex b && isHex c)) := by
  unfold tri
  by_cases h : a = 37 <;> simp [h]
set_option maxHeartbeats 400000 in
theorem refDec_any (l : List UInt8) (w : World) (hs : l.length ≤ 100000)  :
    Calls Try.prog 11 #[.string ⟨⟨l⟩⟩] w fun e w' => e = .returned (.string ⟨⟨dec l⟩⟩) ∧ Below w.heap.size w w' := by
  go_enter Try.func11, Try.ntmps11
  go_wp2_with fail
  go_loopw [3, 4] (fun v i wr => ∃ (n : Nat) (acc : List UInt8), i = .int .i64 n ∧ n ≤ l.length ∧ OwnB w.heap.size v acc wr ∧ Below w.heap.size w wr ∧ acc ++ dec (l.drop n) = dec l ∧ acc.length ≤ n) (fun _ i _ => l.length - (intOf i).toNat)
  case atStart => exact ⟨0, [], rfl, by omega, OwnB.nil _ _, Below.refl _ _, rfl, by simp⟩
  case round =>
    obtain ⟨n, acc, rfl, hn, hown, hb, hd, hacc⟩ := hrel
    have HD := Lib.hid hd
    clear hd
    have hbs : w.heap.size ≤ wr.heap.size := hb.size
    by_cases hlt : n < l.length
    · obtain ⟨c, hc⟩ : ∃ c, l[n] = c := ⟨_, rfl⟩
      have hdrop : l.drop n = c :: l.drop (n + 1) := by rw [List.drop_eq_getElem_cons hlt, hc]
      by_cases h37 : c = 37
      · by_cases h2 : n + 2 < l.length
        · obtain ⟨a, ha⟩ : ∃ a, l[n + 1] = a := ⟨_, rfl⟩
          obtain ⟨b, hbb⟩ : ∃ b, l[n + 2] = b := ⟨_, rfl⟩
          have hd1 : l.drop (n + 1) = a :: l.drop (n + 2) := by rw [List.drop_eq_getElem_cons (by omega), ha]
          have hd2 : l.drop (n + 2) = b :: l.drop (n + 3) := by rw [List.drop_eq_getElem_cons (by omega), hbb]
          have h37' : ((c.toNat : Int) == 37) = true := by rw [h37]; rfl
          have h2' : (n : Int) + 2 < l.length := by omega
          by_cases hx : isHex a = true ∧ isHex b = true
          · obtain ⟨hx1, hx2⟩ := hx
            have ht : dec (l.drop n) = UInt8.ofNat (16 * hexN a + hexN b) :: dec (l.drop (n + 3)) := by
              rw [hdrop, hd1, hd2]
              simp only [dec, h37, hx1, hx2, and_self, if_true]
            have HD2 := Lib.hid ht
            have ba := hexN_le a
            have bb := hexN_le b
            have hv : (((16 * hexN a + hexN b : Nat) : Int)) = ((UInt8.ofNat (16 * hexN a + hexN b)).toNat : Int) := by
              simp only [UInt8.toNat_ofNat']
              omega
            have HV := Lib.hid hv
            clear ht hdrop hd1 hd2 h37 hv
            go_wp2_with (first | (go_at_call 19; refine (refHex_any _ _).mono ?_; rintro e w' ⟨rfl, rfl⟩) | (at_builtin; refine app_byte rfl _ _ rfl (UInt8.ofNat (16 * hexN a + hexN b)) _ _ rfl rfl (by rw [← HV.out]; push_cast; rfl) hown rfl (by omega) hbs ?_; intro v' w' h1 hb2))
            go_roundw
            case rel => exact ⟨n + 3, acc ++ [_], by go_num, by omega, h1, hb.trans hb2, by rw [← HD.out, HD2.out]; simp, by simp; omega⟩
            case measure => simp [intOf]; omega
          · have ht : dec (l.drop n) = c :: dec (l.drop (n + 1)) := by
              rw [hdrop]
              apply dec_not
              rw [hd1, hd2, tri_parts]
              simp only [h37, decide_true, Bool.true_and, Bool.and_eq_false_iff]
              cases h5 : isHex a
              · exact .inl rfl
              · refine .inr ?_
                cases h6 : isHex b
                · rfl
                · exact absurd ⟨h5, h6⟩ hx
            have HD2 := Lib.hid ht
            clear ht hdrop hd1 hd2 h37
            cases hx1 : isHex a
            · clear hx
              go_wp2_with (first | (go_at_call 19; refine (refHex_any _ _).mono ?_; rintro e w' ⟨rfl, rfl⟩) | (at_builtin; refine app_byte rfl _ _ rfl c _ _ rfl rfl rfl hown rfl (by omega) hbs ?_; intro v' w' h1 hb2))
              go_roundw
              case rel => exact ⟨n + 1, acc ++ [c], by go_num, by omega, h1, hb.trans hb2, by rw [← HD.out, HD2.out]; simp, by simp; omega⟩
              case measure => simp [intOf]; omega
            · have hx2 : isHex b = false := by
                cases h6 : isHex b
                · rfl
                · exact absurd ⟨hx1, h6⟩ hx
              clear hx
              go_wp2_with (first | (go_at_call 19; refine (refHex_any _ _).mono ?_; rintro e w' ⟨rfl, rfl⟩) | (at_builtin; refine app_byte rfl _ _ rfl c _ _ rfl rfl rfl hown rfl (by omega) hbs ?_; intro v' w' h1 hb2))
              go_roundw
              case rel => exact ⟨n + 1, acc ++ [c], by go_num, by omega, h1, hb.trans hb2, by rw [← HD.out, HD2.out]; simp, by simp; omega⟩
              case measure => simp [intOf]; omega
        · have ht : dec (l.drop n) = c :: dec (l.drop (n + 1)) := by
            rw [hdrop]
            apply dec_not
            apply tri_short
            simp
            omega
          have h37' : ((c.toNat : Int) == 37) = true := by rw [h37]; rfl
          have h2' : ¬ (n : Int) + 2 < l.length := by omega
          have HD2 := Lib.hid ht
          clear ht hdrop h37
          go_wp2_with (at_builtin; refine app_byte rfl _ _ rfl c _ _ rfl rfl rfl hown rfl (by omega) hbs ?_; intro v' w' h1 hb2)
          go_roundw
          case rel => exact ⟨n + 1, acc ++ [c], by go_num, by omega, h1, hb.trans hb2, by rw [← HD.out, HD2.out]; simp, by simp; omega⟩
          case measure => simp [intOf]; omega
      · have ht : dec (l.drop n) = c :: dec (l.drop (n + 1)) := by
          rw [hdrop]
          apply dec_not
          unfold tri
          split
          · rename_i h8; injection h8 with h8 h9; subst h8; simp [h37]
          · rfl
        have h37' : ((c.toNat : Int) == 37) = false := by
          rw [beq_eq_false_iff_ne]
          intro h
          exact h37 (UInt8.toNat.inj (by have : (37 : UInt8).toNat = 37 := rfl; omega))
        have HD2 := Lib.hid ht
        clear ht hdrop h37
        go_wp2_with (at_builtin; refine app_byte rfl _ _ rfl c _ _ rfl rfl rfl hown rfl (by omega) hbs ?_; intro v' w' h1 hb2)
        go_roundw
        case rel => exact ⟨n + 1, acc ++ [c], by go_num, by omega, h1, hb.trans hb2, by rw [← HD.out, HD2.out]; simp, by simp; omega⟩
        case measure => simp [intOf]; omega
    · have hl : l.drop n = [] := List.drop_eq_nil_of_le (by omega)
      rw [hl] at HD
      clear hl
      have hcv := conv_byte hown
      go_wp2
      go_ret
      exact ⟨ret_inj (str_eq (by rw [← HD.out]; simp [dec])), hb⟩
end Go.Proofs.Ytdohpkdfmceimaa
