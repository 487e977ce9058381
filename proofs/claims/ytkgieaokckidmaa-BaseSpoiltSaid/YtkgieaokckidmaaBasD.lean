/-
  What is proved: base.Decode: a contract. Condition: texts of at most 100000 bytes.
-/
import Derived.Test.YtkgieaokckidmaaBasW
import Derived.Test.YtkgieaokckidmaaOwn
import Derived.Laws.BitsAllLaws
namespace Go.Proofs.Ytkgieaokckidmaa
open Go.RowKit Go.Maps

/-- What decoding tells. -/
def decR : Option (List UInt8) → Value
  | some u => .tuple #[.string ⟨⟨u⟩⟩, .int .i64 0]
  | none => .tuple #[.string ⟨⟨[]⟩⟩, .int .i64 30]
theorem IsWor.below {b B : Nat} {w w' : World} (h : IsWor b w) (hb : b < B) (k : Below B w w') : IsWor b w' := by
  obtain ⟨es, clock, h1, F, hs, hD⟩ := h
  exact ⟨es, clock, (k.block b hb).trans h1, F, hs, hD⟩
theorem IsWor.lt {b : Nat} {w : World} (h : IsWor b w) : b < w.heap.size := World.ownsMap.lt h
theorem zeroU32 (w : World) : (zeroValue 37).run Try.prog w = .ok (.int .u32 0) w := by kernel_rfl
theorem wor_num {c : UInt8} {n : Nat} {x : Int} (h : worB c = some n) (ha : (worF 64).atKey (.int .u8 c.toNat) (.lit (.int .u32 0)) = .lit (.int .u32 x)) : x = n := by
  have := worF_at c
  rw [ha, h] at this
  exact this
theorem decL_none {l : List UInt8} {k : Nat} (hk : k < (bareB l).length) (h : worB (bareB l)[k] = none) : decL l = none := by
  unfold decL
  split
  · rfl
  · have e : bareB l = (bareB l).take k ++ (bareB l)[k] :: (bareB l).drop (k + 1) := by simp
    rw [e, valsL_bad _ _ h]
    rfl
theorem or_low (h n m : Nat) (hn : n < 2 ^ m) : (h * 2 ^ m) ||| n = h * 2 ^ m + n := by
  rw [← Nat.shiftLeft_eq, Nat.shiftLeft_add_eq_or_of_lt hn]
theorem or6 (h n : Nat) (hh : h < 64) (hn : n < 64) : bits .or .u32 ((h : Int) * 64) (n : Int) = ((h * 64 + n : Nat) : Int) := by
  have e : ((h : Int) * 64) = ((h * 64 : Nat) : Int) := by push_cast; rfl
  rw [e, u32_or_nat _ _ (by omega) (by omega)]
  have := or_low h n 6 (by simpa using hn)
  simp only [Nat.reducePow] at this
  rw [this]
theorem and_low (x m k : Nat) (hx : x < 4294967296) (hk : 2 ^ m - 1 = k) (hk2 : k < 4294967296) : bits .and .u32 (x : Int) (k : Int) = ((x % 2 ^ m : Nat) : Int) := by
  rw [u32_and_nat _ _ hx hk2, ← hk, Nat.and_two_pow_sub_one_eq_mod]
theorem ofNat_mod (x : Nat) : (((UInt8.ofNat x).toNat : Nat) : Int) = (x : Int) % 256 := by
  rw [UInt8.toNat_ofNat']; omega
/-- The state of the loop. -/
def DecAt (t : List UInt8) (M B : Nat) (W : World) (hv bv o i : Value) (wr : World) : Prop :=
  ∃ (k : Nat) (vs : List Nat) (h b : Nat) (u : List UInt8), k ≤ t.length ∧ i = .int .i64 k ∧ valsL (t.take k) = some vs ∧ runD vs = (h, b, u) ∧ okD (h, b, u) k ∧ OwnB B o u wr ∧ hv = .int .u32 h ∧ bv = .int .i64 b ∧ IsWor M wr ∧ B ≤ wr.heap.size ∧ Below B W wr
theorem dec_step {t : List UInt8} {M B : Nat} {W wr' : World} {k n h b h' b' : Nat} {vs : List Nat} {u u' : List UInt8} {c : UInt8} {hv bv o i : Value} (hlt : k < t.length) (HTK : Hid (t.take (k + 1) = t.take k ++ [c])) (HW : Hid (worB c = some n)) (HV : Hid (valsL (t.take k) = some vs)) (HR : Hid (runD vs = (h, b, u)))
    (HO : Hid (okD (h, b, u) k)) (hs : stepD (h, b, u) n = (h', b', u')) (e1 : hv = .int .u32 h') (e2 : bv = .int .i64 b') (e3 : i = .int .i64 ((k + 1 : Nat) : Int)) (hown : OwnB B o u' wr') (hw : IsWor M wr') (hB : B ≤ wr'.heap.size) (hbel : Below B W wr') : DecAt t M B W hv bv o i wr' := by
  refine ⟨k + 1, vs ++ [n], h', b', u', by omega, e3, ?_, ?_, ?_, hown, e1, e2, hw, hB, hbel⟩
  · rw [HTK.out]; exact valsL_snoc HV.out HW.out
  · rw [runD_snoc, HR.out, hs]
  · rw [← hs]; exact okD_step HO.out (worth_letN c n HW.out).1
theorem step0 {h n x : Nat} (u : List UInt8) (HX : Hid (h * 64 + n = x)) : stepD (h, 0, u) n = (x, 6, u) := by
  simp [stepD, HX.out]
theorem step2 {h n x : Nat} (u : List UInt8) (HX : Hid (h * 64 + n = x)) : stepD (h, 2, u) n = (0, 0, u ++ [UInt8.ofNat (x / 1)]) := by
  simp [stepD, HX.out, Nat.mod_one]
theorem step4 {h n x : Nat} (u : List UInt8) (HX : Hid (h * 64 + n = x)) : stepD (h, 4, u) n = (x % 4, 2, u ++ [UInt8.ofNat (x / 4)]) := by
  simp [stepD, HX.out]
theorem step6 {h n x : Nat} (u : List UInt8) (HX : Hid (h * 64 + n = x)) : stepD (h, 6, u) n = (x % 16, 4, u ++ [UInt8.ofNat (x / 16)]) := by
  simp [stepD, HX.out]
theorem dec_end {l t : List UInt8} {vs : List Nat} {h b : Nat} {u : List UInt8} (HT : Hid (bareB l = t)) (HL : Hid (¬ t.length % 4 = 1)) (HV : Hid (valsL (t.take t.length) = some vs)) (HR : Hid (runD vs = (h, b, u))) : decL l = if h = 0 then some u else none := by
  have hv := HV.out
  rw [List.take_length] at hv
  unfold decL
  rw [HT.out, if_neg HL.out, hv, Option.bind_some, runD_dec (valsL_lt hv) (by rw [valsL_len hv]; exact HL.out), HR.out]
set_option maxRecDepth 100000 in
set_option maxHeartbeats 1000000 in
theorem decode_any (l : List UInt8) (w : World) (hs : l.length ≤ 100000) :
    Calls Try.prog 8 #[.string ⟨⟨l⟩⟩] w fun e w' => e = .returned (decR (decL l)) ∧ Ext w w' := by
  obtain ⟨t, ht⟩ : ∃ t, bareB l = t := ⟨_, rfl⟩
  have htl : t.length ≤ l.length := by
    obtain ⟨n, hn⟩ := bareB_split l
    have := congrArg List.length hn
    rw [ht, List.length_append] at this
    omega
  have HT := Lib.hid ht
  clear ht
  by_cases h1 : t.length % 4 = 1
  · have e1 : decL l = none := by unfold decL; rw [HT.out, if_pos h1]
    have hb : ((t.length : Int) % 4 == 1) = true := by simp; omega
    rw [e1]
    clear e1 h1
    go_enter Try.func8, Try.ntmps8
    go_wp2_with (go_at_call 16; refine (bare_any _ _ (by unfold maxLen; omega)).mono ?_; rintro e w' ⟨rfl, rfl⟩; rw [HT.out])
    go_ret2
    exact ⟨rfl, Ext.refl _⟩
  · have hb : ((t.length : Int) % 4 == 1) = false := by simp; omega
    have HL := Lib.hid h1
    clear h1
    go_enter Try.func8, Try.ntmps8
    go_wp2_with (first
      | (go_at_call 16; refine (bare_any _ _ (by unfold maxLen; omega)).mono ?_; rintro e w' ⟨rfl, rfl⟩; rw [HT.out])
      | (go_at_call 17; refine (worth_any _).mono ?_; rintro e w1 ⟨rfl, hm, he⟩))
    go_loopw [4, 6, 7, 20] (fun o hv bv i wr => DecAt t w.heap.size w1.heap.size w1 hv bv o i wr) (fun _ _ _ i _ => t.length - (intOf i).toNat)
    case atStart => exact ⟨0, [], 0, 0, [], Nat.zero_le _, rfl, rfl, rfl, ⟨.inl rfl, by decide, Nat.zero_le _⟩, OwnB.nil _ _, rfl, rfl, hm, Nat.le_refl _, Below.refl _ _⟩
    case round =>
      obtain ⟨k, vs, h, b, u, hk, rfl, hvs, hrun, hok, hown, rfl, rfl, hw, hB, hbel⟩ := hrel
      by_cases hlt : k < t.length
      · obtain ⟨c, hc⟩ : ∃ c, t[k] = c := ⟨_, rfl⟩
        have HC := Lib.hid hc
        have htk : t.take (k + 1) = t.take k ++ [c] := by rw [List.take_succ_eq_append_getElem hlt, hc]
        have HTK := Lib.hid htk
        clear hc htk
        have hkey := Lib.hid (key_u8 c)
        cases hwc : worB c with
        | none =>
          have hhas : Maps.has (worF 64) (.int .u8 c.toNat) = false := by rw [worF_has, hwc]; rfl
          have HH := Lib.hid hhas
          have hd : decL l = none := decL_none (l := l) (k := k) (by rw [HT.out]; exact hlt) (by
            have : (bareB l)[k]'(by rw [HT.out]; exact hlt) = t[k] := by simp only [HT.out]
            rw [this, HC.out]; exact hwc)
          have HD := Lib.hid hd
          have HV := Lib.hid hvs
          have HR := Lib.hid hrun
          clear hhas hd hwc hvs hrun hok
          go_wp2_with (at_lookup; rw [HC.out]; refine wpList_lookup_own_ok_int (H := Unit) _ rfl _ _ 35 rfl 5 37 .u32 law8 Try.underlying35 Try.underlying37 (zeroU32 _) w.heap.size 66 (worF 64) rfl hw _ _ rfl hkey.out ?_; intro cL hat hwcL; rw [HH.out])
          go_ret2
          exact ⟨by rw [HD.out]; rfl, Ext.trans he hbel⟩
        | some n =>
          have hn : n < 64 := (worth_letN c n hwc).1
          have hhas : Maps.has (worF 64) (.int .u8 c.toNat) = true := by rw [worF_has, hwc]; rfl
          have HH := Lib.hid hhas
          have HW := Lib.hid hwc
          have HO := Lib.hid hok
          obtain ⟨hbs, hh, hul⟩ := hok
          simp only at hbs hh hul
          have HV := Lib.hid hvs
          have HR := Lib.hid hrun
          clear hhas hwc hvs hrun
          obtain ⟨x, hx⟩ : ∃ x, h * 64 + n = x := ⟨_, rfl⟩
          have hor : h < 64 → bits .or .u32 ((h : Int) * 64) (n : Int) = (x : Int) := fun hh => by rw [← hx]; exact or6 h n hh hn
          have hxl : h < 64 → x < 4096 := fun _ => by omega
          have HX := Lib.hid hx
          clear hx
          rcases hbs with rfl | rfl | rfl | rfl
          · simp only [Nat.reducePow] at hh
            have hor := hor (by omega)
            have hxl := hxl (by omega)
            go_wp2_with (at_lookup; rw [HC.out]; refine wpList_lookup_own_ok_int (H := Unit) _ rfl _ _ 35 rfl 5 37 .u32 law8 Try.underlying35 Try.underlying37 (zeroU32 _) w.heap.size 66 (worF 64) rfl hw _ _ rfl hkey.out ?_; intro cL hat hwcL; rw [HH.out]; obtain rfl := wor_num HW.out hat; clear hat hwcL)
            go_roundw
            case rel => exact dec_step hlt HTK HW HV HR HO (step0 u HX) (by first | rfl | go_num) (by first | rfl | go_num) (by go_num) hown hw hB hbel
            case measure => simp [intOf]; omega
          · simp only [Nat.reducePow] at hh
            have hor := hor (by omega)
            have hxl := hxl (by omega)
            have ha : bits .and .u32 (x : Int) 0 = 0 := by have := and_low x 0 0 (by omega) rfl (by omega); simpa [Nat.mod_one] using this
            go_wp2_with (first
              | (at_lookup; rw [HC.out]; refine wpList_lookup_own_ok_int (H := Unit) _ rfl _ _ 35 rfl 5 37 .u32 law8 Try.underlying35 Try.underlying37 (zeroU32 _) w.heap.size 66 (worF 64) rfl hw _ _ rfl hkey.out ?_; intro cL hat hwcL; rw [HH.out]; obtain rfl := wor_num HW.out hat; clear hat hwcL)
              | (at_builtin; refine app_byte rfl _ _ rfl (UInt8.ofNat (x / 1)) _ _ rfl rfl (by rw [ofNat_mod]; omega) hown rfl (by omega) hB ?_; intro v' w' hown' hb2))
            go_roundw
            case rel => exact dec_step hlt HTK HW HV HR HO (step2 u HX) (by first | rfl | go_num) (by first | rfl | go_num) (by go_num) hown' (hw.below hm.lt hb2) (Nat.le_trans hB hb2.size) (hbel.trans hb2)
            case measure => simp [intOf]; omega
          · simp only [Nat.reducePow] at hh
            have hor := hor (by omega)
            have hxl := hxl (by omega)
            have ha : bits .and .u32 (x : Int) 3 = ((x % 4 : Nat) : Int) := and_low x 2 3 (by omega) rfl (by omega)
            go_wp2_with (first
              | (at_lookup; rw [HC.out]; refine wpList_lookup_own_ok_int (H := Unit) _ rfl _ _ 35 rfl 5 37 .u32 law8 Try.underlying35 Try.underlying37 (zeroU32 _) w.heap.size 66 (worF 64) rfl hw _ _ rfl hkey.out ?_; intro cL hat hwcL; rw [HH.out]; obtain rfl := wor_num HW.out hat; clear hat hwcL)
              | (at_builtin; refine app_byte rfl _ _ rfl (UInt8.ofNat (x / 4)) _ _ rfl rfl (by rw [ofNat_mod]; omega) hown rfl (by omega) hB ?_; intro v' w' hown' hb2))
            go_roundw
            case rel => exact dec_step hlt HTK HW HV HR HO (step4 u HX) (by first | rfl | go_num) (by first | rfl | go_num) (by go_num) hown' (hw.below hm.lt hb2) (Nat.le_trans hB hb2.size) (hbel.trans hb2)
            case measure => simp [intOf]; omega
          · simp only [Nat.reducePow] at hh
            have hor := hor (by omega)
            have hxl := hxl (by omega)
            have ha : bits .and .u32 (x : Int) 15 = ((x % 16 : Nat) : Int) := and_low x 4 15 (by omega) rfl (by omega)
            go_wp2_with (first
              | (at_lookup; rw [HC.out]; refine wpList_lookup_own_ok_int (H := Unit) _ rfl _ _ 35 rfl 5 37 .u32 law8 Try.underlying35 Try.underlying37 (zeroU32 _) w.heap.size 66 (worF 64) rfl hw _ _ rfl hkey.out ?_; intro cL hat hwcL; rw [HH.out]; obtain rfl := wor_num HW.out hat; clear hat hwcL)
              | (at_builtin; refine app_byte rfl _ _ rfl (UInt8.ofNat (x / 16)) _ _ rfl rfl (by rw [ofNat_mod]; omega) hown rfl (by omega) hB ?_; intro v' w' hown' hb2))
            go_roundw
            case rel => exact dec_step hlt HTK HW HV HR HO (step6 u HX) (by first | rfl | go_num) (by first | rfl | go_num) (by go_num) hown' (hw.below hm.lt hb2) (Nat.le_trans hB hb2.size) (hbel.trans hb2)
            case measure => simp [intOf]; omega
      · obtain rfl : k = t.length := by omega
        have HV := Lib.hid hvs
        have HR := Lib.hid hrun
        have HE := Lib.hid (dec_end HT HL HV HR)
        clear hvs hrun hok
        by_cases h0 : h = 0
        · subst h0
          have hcv := conv_byte hown
          go_wp2
          go_ret2
          exact ⟨by rw [HE.out]; rfl, Ext.trans he hbel⟩
        · have hne : ((h : Int) != 0) = true := by simp; omega
          have H0 := Lib.hid h0
          clear h0
          go_wp2
          go_ret2
          exact ⟨by rw [HE.out, if_neg H0.out]; rfl, Ext.trans he hbel⟩
end Go.Proofs.Ytkgieaokckidmaa
