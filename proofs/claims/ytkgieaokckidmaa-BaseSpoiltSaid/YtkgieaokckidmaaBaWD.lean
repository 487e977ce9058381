/-
  What is proved: what the law BaseSpoilt computes: true. No condition but that lengths are ints.
-/
import Derived.Test.YtkgieaokckidmaaBaWC
import Derived.Test.YtkgieaokckidmaaBasR
import Derived.Deep.RegionHeld3
import Derived.Deep.CutRange
namespace Go.Proofs.Ytkgieaokckidmaa
open Go.RowKit

/-- A number is a letter's. -/
def LetI (x : Int) : Prop := (97 ≤ x ∧ x ≤ 122) ∨ (65 ≤ x ∧ x ≤ 90) ∨ (48 ≤ x ∧ x ≤ 57) ∨ x = 43 ∨ x = 47 ∨ x = 45 ∨ x = 95
theorem isLet_iff (c : UInt8) : isLet c = true ↔ LetI c.toNat := by
  have e : ∀ d : UInt8, (c = d) ↔ (c.toNat : Int) = d.toNat := fun d => ⟨fun h => by rw [h], fun h => UInt8.toNat.inj (by omega)⟩
  unfold isLet LetI
  simp only [Bool.or_eq_true, Bool.and_eq_true, decide_eq_true_eq, beq_iff_eq, UInt8.le_iff_toNat_le, e]
  have t1 : (97 : UInt8).toNat = 97 := rfl
  have t2 : (122 : UInt8).toNat = 122 := rfl
  have t3 : (65 : UInt8).toNat = 65 := rfl
  have t4 : (90 : UInt8).toNat = 90 := rfl
  have t5 : (48 : UInt8).toNat = 48 := rfl
  have t6 : (57 : UInt8).toNat = 57 := rfl
  have t7 : (43 : UInt8).toNat = 43 := rfl
  have t8 : (47 : UInt8).toNat = 47 := rfl
  have t9 : (45 : UInt8).toNat = 45 := rfl
  have ta : (95 : UInt8).toNat = 95 := rfl
  rw [t1, t2, t3, t4, t5, t6, t7, t8, t9, ta]
  omega
theorem isLet_is {c : UInt8} {b : Bool} (h : b = true ↔ LetI c.toNat) : b = isLet c := by
  rw [Bool.eq_iff_iff, isLet_iff]; exact h
/-- A text of letters, that is spoilt by any byte more. -/
def EncF (w : World) (e : Ending) (w' : World) : Prop := ∃ F : List UInt8, e = .returned (.string ⟨⟨F⟩⟩) ∧ F.length ≤ 50000 ∧ (∀ c, Hid (decL (F ++ [c]) = none)) ∧ Ext w w'
theorem encF_any (X : List UInt8) (w : World) (h : X.length ≤ 5000) : Calls Try.prog 10 #[.string ⟨⟨X⟩⟩] w (EncF w) := by
  refine (encode_any X w (by omega)).mono ?_
  rintro e w' ⟨rfl, he⟩
  have hl := encL_len X
  exact ⟨_, rfl, by omega, fun c => Lib.hid (dec_len _ c (by omega)), he⟩
theorem conv_atB (W : World) (b : Nat) (c : UInt8) (h : W.cell? ⟨b, 0, none⟩ = some (.int .u8 (c.toNat : Nat))) : (convert 33 9 (.slice (some ⟨b, 0, none⟩) 1 1)).run Try.prog W = .ok (.string ⟨⟨[c]⟩⟩) W := by
  refine run_convert_bytes_back _ 33 9 5 ⟨b, 0, none⟩ 1 [c] Try.underlying33 Try.underlying5 Try.underlying9 fun j hj => ?_
  have hj : j < 1 := hj
  obtain rfl : j = 0 := by omega
  exact h
set_option maxRecDepth 100000 in
set_option maxHeartbeats 4000000 in
theorem baseSpoilt_walk (l : List UInt8) (A : Nat) (c : UInt8) (w : World) (hs : l.length ≤ maxLen) (hA : A < 65536) :
    Calls Try.prog 6 #[.string ⟨⟨l⟩⟩, .int .u16 A, .int .u8 c.toNat] w fun e w' => e = .returned (.bool true) ∧ Below w.heap.size w w' := by
  unfold maxLen at hs
  by_cases hl : l.length ≤ 1500
  · obtain ⟨T, hT⟩ : ∃ T, encL l = T := ⟨_, rfl⟩
    obtain ⟨B, hB⟩ : ∃ B, strQ T = B := ⟨_, rfl⟩
    have hBb : B = bodyL l := by rw [← hB, ← hT, strQ_enc]
    have htl : T.length = (l.length + 2) / 3 * 4 := by rw [← hT]; exact encL_len l
    have hBl : B.length ≤ 2100 := by rw [hBb, bodyL_len]; omega
    have hTl : T.length ≤ 2100 := by omega
    obtain ⟨k, hk⟩ : ∃ k, A % (B.length + 1) = k := ⟨_, rfl⟩
    have hkB : k ≤ B.length := by
      rw [← hk]
      have := Nat.mod_lt A (show 0 < B.length + 1 by omega)
      omega
    have hki : ((A : Int) % ((B.length : Int) + 1)) = (k : Int) := by rw [← hk]; simp
    have hcl := c.toNat_lt
    have HT := Lib.hid hT
    have HB := Lib.hid hB
    have HBB := Lib.hid hBb
    have HTL := Lib.hid htl
    have HKI := Lib.hid hki
    clear hT hB hBb htl hk hki
    go_enter Try.func6, Try.ntmps6
    go_upto_region 5 with (first
      | (go_at_call 10; refine (encode_any l _ (by omega)).mono ?_; rintro e w1 ⟨rfl, x1⟩; rw [HT.out])
      | (go_at_call 14; refine (bareLaw_any T _ (by omega)).mono ?_; rintro e w' ⟨rfl, rfl⟩; rw [HB.out]))
    rw [HKI.out]
    go_cut [9] from 30 to 67 (fun b wx => b = .bool (isLet c) ∧ w1 = wx)
    case first =>
      by_cases h43 : c = 43
      · subst h43
        go_wp2_with fail
        go_meet
        case rel => exact ⟨rfl, rfl⟩
      have b43 : ((c.toNat : Int) == 43) = false := byteY_ne h43
      have n43 : c.toNat ≠ 43 := fun e => h43 (UInt8.toNat.inj e)
      by_cases h47 : c = 47
      · subst h47
        go_wp2_with fail
        go_meet
        case rel => exact ⟨rfl, rfl⟩
      have b47 : ((c.toNat : Int) == 47) = false := byteY_ne h47
      have n47 : c.toNat ≠ 47 := fun e => h47 (UInt8.toNat.inj e)
      by_cases h45 : c = 45
      · subst h45
        go_wp2_with fail
        go_meet
        case rel => exact ⟨rfl, rfl⟩
      have b45 : ((c.toNat : Int) == 45) = false := byteY_ne h45
      have n45 : c.toNat ≠ 45 := fun e => h45 (UInt8.toNat.inj e)
      by_cases h95 : c = 95
      · subst h95
        go_wp2_with fail
        go_meet
        case rel => exact ⟨rfl, rfl⟩
      have b95 : ((c.toNat : Int) == 95) = false := byteY_ne h95
      have n95 : c.toNat ≠ 95 := fun e => h95 (UInt8.toNat.inj e)
      clear h43 h47 h45 h95
      go_wp2_with fail
      all_goals (go_meet; case rel => exact ⟨congrArg Value.bool (isLet_is (by unfold LetI; first | (simp only [Bool.false_eq_true, false_iff]; omega) | (simp only [true_iff]; omega) | (simp only [Bool.or_eq_true, Bool.and_eq_true, decide_eq_true_eq, beq_iff_eq]; omega))), rfl⟩)
    case rest =>
      obtain ⟨rfl, rfl⟩ := hcut
      obtain ⟨L, hL⟩ : ∃ L, isLet c = L := ⟨_, rfl⟩
      rw [hL]
      have HL := Lib.hid hL
      clear hL
      obtain ⟨G, hG⟩ : ∃ G, (!L && (!(decide (c = 61)) || decide (k < B.length))) = G := ⟨_, rfl⟩
      have HG := Lib.hid hG
      clear hG
      go_upto_region 6 with fail
      go_cut [80] from 68 to 80 (fun b wx => b = .bool G ∧ w1 = wx)
      case first =>
        cases L
        · by_cases hc : c = 61
          · have hb : ((c.toNat : Int) != 61) = false := by rw [hc]; rfl
            by_cases hk : k < B.length
            · have hd1 : decide ((k : Int) < (B.length : Int)) = true := by rw [decide_eq_true_iff]; omega
              have HF : Hid (true = G) := Lib.hid (by rw [← HG.out, decide_eq_true hk]; simp)
              clear hc
              go_wp2_with (go_at_call 14; refine (bareLaw_any T _ (by omega)).mono ?_; rintro e w' ⟨rfl, rfl⟩; rw [HB.out])
              go_meet
              case rel => exact ⟨bool_eq HF.out, rfl⟩
            · have hd1 : decide ((k : Int) < (B.length : Int)) = false := by rw [decide_eq_false_iff_not]; omega
              have HF : Hid (false = G) := Lib.hid (by rw [← HG.out, decide_eq_false hk, decide_eq_true hc]; simp)
              clear hc
              go_wp2_with (go_at_call 14; refine (bareLaw_any T _ (by omega)).mono ?_; rintro e w' ⟨rfl, rfl⟩; rw [HB.out])
              go_meet
              case rel => exact ⟨bool_eq HF.out, rfl⟩
          · have hb : ((c.toNat : Int) != 61) = true := by
              rw [bne_iff_ne]
              intro e
              exact hc (UInt8.toNat.inj (by have e3 : (61 : UInt8).toNat = 61 := rfl; omega))
            have HF : Hid (true = G) := Lib.hid (by rw [← HG.out, decide_eq_false hc]; simp)
            clear hc
            go_wp2_with fail
            go_meet
            case rel => exact ⟨bool_eq HF.out, rfl⟩
        · have HF : Hid (false = G) := Lib.hid (by rw [← HG.out]; simp)
          go_wp2_with fail
          go_meet
          case rel => exact ⟨bool_eq HF.out, rfl⟩
      case rest =>
        obtain ⟨rfl, rfl⟩ := hcut
        go_upto_if 80 with fail
        go_cut [10, 11] from 81 to 99 (fun _ _ wx => Ext w1 wx)
        case first =>
          cases G
          · go_wp2_with fail
            go_meet
            case rel => exact Ext.refl _
          · have hg := HG.out
            simp only [Bool.and_eq_true, Bool.not_eq_true', Bool.or_eq_true, decide_eq_false_iff_not, decide_eq_true_eq] at hg
            have HD : Hid (decL (B.take k ++ [c] ++ B.drop k) = none) := Lib.hid (by
              have := HBB.out
              rw [this] at hg hkB ⊢
              exact spoilt l c k hkB (by rw [HL.out]; exact hg.1) hg.2)
            clear hg
            go_wp2_with fail
            have hcv0 := conv_oneB w1 c c.toNat rfl
            have hcv1 := conv_atB (w1.alloc (.cells #[.int .u8 (c.toNat : Nat)] 5)).drew w1.heap.size c (by rw [World.cell?_drew]; exact cells_of_litB (heap_alloc_new w1 _) 0)
            have hXe : B.take k ++ [c] ++ B.drop k = B.take k ++ c :: B.drop k := by simp
            rw [hXe] at HD
            have hXl : (B.take k ++ c :: B.drop k).length ≤ 100000 := by simp; omega
            clear hXe
            go_region_with (first
              | (go_at_call 14; refine (bareLaw_any T _ (by omega)).mono ?_; rintro e w' ⟨rfl, rfl⟩; rw [HB.out])
              | (go_at_call 8; (with_reducible refine (dec_none HD hXl _).mono ?_); rintro e w2 ⟨rfl, y2⟩))
            all_goals (clear hcv0 hcv1; go_wp2_with fail)
            all_goals go_meet
            all_goals exact Ext.trans (by repeat (first | exact Below.refl _ _ | refine Below.drew ?_ | refine Below.alloc ?_ (Nat.le_refl _) _)) y2
        case rest =>
          have x2 := hcut
          have D1 : Hid (decL (T ++ [61]) = none) := Lib.hid (dec_len T 61 (by have := HTL.out; omega))
          have hTb : (T ++ [(61 : UInt8)]).length ≤ 100000 := by simp; omega
          clear hcut
          go_wp2_with (first
            | (go_at_call 8; (with_reducible refine (dec_none D1 hTb _).mono ?_); rintro e w3 ⟨rfl, x3⟩)
            | (go_at_call 10; refine (encF_any _ _ (by simp; omega)).mono ?_; rintro e w4 ⟨F, rfl, hF, HD2, x4⟩)
            | (go_at_call 8; refine (dec_none (HD2 81) (by simp; omega) _).mono ?_; rintro e w5 ⟨rfl, x5⟩)
            | (go_at_call 7; refine (lettered_any _).mono ?_; rintro e w6 ⟨rfl, x6⟩))
          go_ret
          exact ⟨rfl, Ext.trans (Ext.trans (Ext.trans (Ext.trans (Ext.trans x1 x2) x3) x4) x5) x6⟩
  · go_enter Try.func6, Try.ntmps6
    go_wp2_with (go_at_call 7; refine (lettered_any _).mono ?_; rintro e w7 ⟨rfl, x7⟩)
    go_ret
    exact ⟨rfl, x7⟩
theorem baseSpoilt_int (l : List UInt8) (a b : Int) (w : World) (hs : l.length ≤ maxLen) (ha1 : 0 ≤ a) (ha2 : a ≤ 65535) (hb1 : 0 ≤ b) (hb2 : b ≤ 255) :
    Calls Try.prog 6 #[.string ⟨⟨l⟩⟩, .int .u16 a, .int .u8 b] w fun e w' => e = .returned (.bool true) ∧ Below w.heap.size w w' := by
  obtain ⟨A, rfl⟩ := Int.eq_ofNat_of_zero_le ha1
  obtain ⟨B, rfl⟩ := Int.eq_ofNat_of_zero_le hb1
  have e : ((B : Nat) : Int) = ((UInt8.ofNat B).toNat : Nat) := by rw [UInt8.toNat_ofNat']; omega
  rw [e]
  exact baseSpoilt_walk l A (UInt8.ofNat B) w hs (by omega)
end Go.Proofs.Ytkgieaokckidmaa
