/-
  What is proved: base.Encode: a contract. Condition: texts of at most 100000 bytes.
-/
import Derived.Test.YtkgieaokckidmaaBasD
import Derived.Test.YtkgieaokckidmaaBld
namespace Go.Proofs.Ytkgieaokckidmaa
open Go.RowKit Go.Maps

/-- So many bytes as a number. -/
def nP (s : List UInt8) : Nat → Nat
  | 0 => 0
  | k + 1 => nP s k * 256 + (s.getD k 0).toNat
theorem nP_lt (s : List UInt8) : ∀ k, nP s k < 256 ^ k
  | 0 => by simp [nP]
  | k + 1 => by
    have := nP_lt s k
    have := (s.getD k 0).toNat_lt
    simp only [nP, Nat.pow_succ]
    omega
theorem or8 (h : Nat) (c : UInt8) (hh : h < 65536) : bits .or .u32 ((h : Int) * 256) (c.toNat : Int) = ((h * 256 + c.toNat : Nat) : Int) := by
  have hc := c.toNat_lt
  have e : ((h : Int) * 256) = ((h * 256 : Nat) : Int) := (Int.natCast_mul h 256).symm
  rw [e, u32_or_nat _ _ (by omega) (by omega)]
  have := or_low h c.toNat 8 hc
  simp only [Nat.reducePow] at this
  rw [this]
/-- One letter of four. -/
def quadB (s : List UInt8) (k : Nat) : UInt8 := if s.length < k then 61 else letN (nP s 3 / 2 ^ (18 - 6 * k) % 64)
def quadL (s : List UInt8) : List UInt8 := [quadB s 0, quadB s 1, quadB s 2, quadB s 3]
theorem enc_quad : ∀ s : List UInt8, s ≠ [] → encL s = quadL s ++ encL (s.drop 3)
  | [], h => (h rfl).elim
  | [a], _ => by
    have ha := a.toNat_lt
    have e1 : (((0 * 256 + a.toNat) * 256 + 0) * 256 + 0) / 262144 % 64 = a.toNat / 4 := by omega
    have e2 : (((0 * 256 + a.toNat) * 256 + 0) * 256 + 0) / 4096 % 64 = a.toNat % 4 * 16 := by omega
    show [letN (a.toNat / 4), letN (a.toNat % 4 * 16)] ++ [61, 61] = [letN ((((0 * 256 + a.toNat) * 256 + 0) * 256 + 0) / 262144 % 64), letN ((((0 * 256 + a.toNat) * 256 + 0) * 256 + 0) / 4096 % 64), 61, 61] ++ encL []
    rw [e1, e2]
    rfl
  | [a, b], _ => by
    have ha := a.toNat_lt
    have hb := b.toNat_lt
    have e1 : (((0 * 256 + a.toNat) * 256 + b.toNat) * 256 + 0) / 262144 % 64 = a.toNat / 4 := by omega
    have e2 : (((0 * 256 + a.toNat) * 256 + b.toNat) * 256 + 0) / 4096 % 64 = a.toNat % 4 * 16 + b.toNat / 16 := by omega
    have e3 : (((0 * 256 + a.toNat) * 256 + b.toNat) * 256 + 0) / 64 % 64 = b.toNat % 16 * 4 := by omega
    show [letN (a.toNat / 4), letN (a.toNat % 4 * 16 + b.toNat / 16), letN (b.toNat % 16 * 4)] ++ [61] = [letN ((((0 * 256 + a.toNat) * 256 + b.toNat) * 256 + 0) / 262144 % 64), letN ((((0 * 256 + a.toNat) * 256 + b.toNat) * 256 + 0) / 4096 % 64), letN ((((0 * 256 + a.toNat) * 256 + b.toNat) * 256 + 0) / 64 % 64), 61] ++ encL []
    rw [e1, e2, e3]
    rfl
  | a :: b :: c :: t, _ => by
    have ha := a.toNat_lt
    have hb := b.toNat_lt
    have hc := c.toNat_lt
    have e1 : (((0 * 256 + a.toNat) * 256 + b.toNat) * 256 + c.toNat) / 262144 % 64 = a.toNat / 4 := by omega
    have e2 : (((0 * 256 + a.toNat) * 256 + b.toNat) * 256 + c.toNat) / 4096 % 64 = a.toNat % 4 * 16 + b.toNat / 16 := by omega
    have e3 : (((0 * 256 + a.toNat) * 256 + b.toNat) * 256 + c.toNat) / 64 % 64 = b.toNat % 16 * 4 + c.toNat / 64 := by omega
    have e4 : (((0 * 256 + a.toNat) * 256 + b.toNat) * 256 + c.toNat) / 1 % 64 = c.toNat % 64 := by omega
    have hN : nP (a :: b :: c :: t) 3 = ((0 * 256 + a.toNat) * 256 + b.toNat) * 256 + c.toNat := rfl
    have q : ∀ k, k ≤ 3 → quadB (a :: b :: c :: t) k = letN (nP (a :: b :: c :: t) 3 / 2 ^ (18 - 6 * k) % 64) := fun k hk => by
      unfold quadB
      rw [if_neg (by simp only [List.length_cons]; omega)]
    have hp : padL (a :: b :: c :: t).length = padL t.length := by
      have e : (a :: b :: c :: t).length % 3 = t.length % 3 := by simp only [List.length_cons]; omega
      unfold padL
      simp only [e]
    unfold quadL
    rw [q 0 (by omega), q 1 (by omega), q 2 (by omega), q 3 (by omega), hN]
    simp only [Nat.reduceMul, Nat.reduceSub, Nat.reducePow]
    rw [e1, e2, e3, e4]
    unfold encL
    rw [hp]
    rfl
theorem quad_take (s : List UInt8) (k : Nat) (h : k < 4) : (quadL s).take (k + 1) = (quadL s).take k ++ [quadB s k] := by
  have : k = 0 ∨ k = 1 ∨ k = 2 ∨ k = 3 := by omega
  rcases this with rfl | rfl | rfl | rfl <;> rfl
theorem and63 (x v : Nat) (hx : x < 4294967296) (h : x % 64 = v) : bits .and .u32 (x : Int) 63 = (v : Int) := by
  rw [← h]
  exact and_low x 6 63 hx rfl (by omega)
theorem quadB_eq (s : List UInt8) (k v : Nat) {N : Nat} (HN : Hid (nP s 3 = N)) (hv : N / 2 ^ (18 - 6 * k) % 64 = v) (hvA : v < letA.length) : quadB s k = if s.length < k then 61 else letA[v] := by
  unfold quadB
  rw [HN.out, hv, let_get v hvA]
set_option maxRecDepth 100000 in
set_option maxHeartbeats 1000000 in
theorem encode_any (l : List UInt8) (w : World) (hs : l.length ≤ 100000) :
    Calls Try.prog 10 #[.string ⟨⟨l⟩⟩] w fun e w' => e = .returned (.string ⟨⟨encL l⟩⟩) ∧ Ext w w' := by
  go_enter Try.func10, Try.ntmps10
  go_wp2_with fail
  go_loopw [0] (fun s wr => ∃ rest acc : List UInt8, s = .string ⟨⟨rest⟩⟩ ∧ IsB w.heap.size acc wr ∧ Below w.heap.size w wr ∧ Hid (acc ++ encL rest = encL l) ∧ rest.length ≤ l.length) (fun s _ => strLen s)
  case atStart => exact ⟨l, [], rfl, IsB.fresh w, (Below.refl _ _).alloc (by simp) _, Lib.hid rfl, Nat.le_refl _⟩
  case round =>
    obtain ⟨rest, acc, rfl, hI, hb, HD, hl⟩ := hrel
    have hal : acc.length ≤ 200000 := by
      have := congrArg List.length HD.out
      rw [List.length_append, encL_len, encL_len] at this
      omega
    by_cases hne : rest = []
    · subst hne
      go_wp2_with (go_at_call 20; refine (bld_string _ _ _ hI).mono ?_; rintro e w' ⟨rfl, h1, h2, h3⟩)
      go_ret
      exact ⟨ret_inj (str_eq (by rw [← HD.out]; simp [encL, encV, padL])), hb.trans h2⟩
    · have hq := Lib.hid (enc_quad rest hne)
      have hpos : 0 < rest.length := List.length_pos_iff.2 hne
      have hE : (!rest.isEmpty) = true := by cases rest with | nil => exact (hne rfl).elim | cons a t => rfl
      have hE2 : (rest != []) = true := by cases rest with | nil => exact (hne rfl).elim | cons a t => rfl
      clear hne
      go_wp2_with fail
      go_loop [4, 15] (fun nv kv => ∃ k : Nat, k ≤ 3 ∧ kv = .int .i64 k ∧ nv = .int .u32 (nP rest k)) (fun _ kv => 3 - (intOf kv).toNat)
      case atStart => exact ⟨0, by omega, rfl, rfl⟩
      case round =>
        obtain ⟨k, hk, rfl, rfl⟩ := hrel
        by_cases hlt : k < 3
        · have hxl : nP rest k < 65536 := by
            have := nP_lt rest k
            have : k = 0 ∨ k = 1 ∨ k = 2 := by omega
            rcases this with rfl | rfl | rfl <;> simp only [Nat.reducePow] at * <;> omega
          by_cases hkl : k < rest.length
          · obtain ⟨c, hc⟩ : ∃ c, rest[k] = c := ⟨_, rfl⟩
            have hor := or8 (nP rest k) c hxl
            have hnx : nP rest (k + 1) = nP rest k * 256 + c.toNat := by
              simp only [nP, List.getD_eq_getElem?_getD, List.getElem?_eq_getElem hkl, hc]; rfl
            have HN := Lib.hid hnx
            have HC := Lib.hid hc
            have HOR := Lib.hid hor
            have h4 : ((rest[k].toNat : Int) % 4294967296) = rest[k].toNat := by have := rest[k].toNat_lt; omega
            have H4 := Lib.hid h4
            clear hnx hc hor h4
            go_wp2_with fail
            go_round
            case rel => exact ⟨k + 1, by omega, by go_num, by rw [HN.out, ← HOR.out, ← HC.out, H4.out]⟩
            case measure => simp [intOf]; omega
          · have hnx : nP rest (k + 1) = nP rest k * 256 := by
              simp only [nP, List.getD_eq_getElem?_getD, List.getElem?_eq_none (Nat.le_of_not_lt hkl)]; rfl
            have HN := Lib.hid hnx
            clear hnx
            go_wp2_with fail
            go_round
            case rel => exact ⟨k + 1, by omega, by go_num, by rw [HN.out]; go_num⟩
            case measure => simp [intOf]; omega
        · obtain rfl : k = 3 := by omega
          have hN := nP_lt rest 3
          obtain ⟨N, hNe⟩ : ∃ N, nP rest 3 = N := ⟨_, rfl⟩
          rw [hNe]
          rw [hNe] at hN
          have HN := Lib.hid hNe
          clear hNe
          simp only [Nat.reducePow] at hN
          go_wp2_with fail
          go_loopw [31] (fun kv w1 => ∃ k : Nat, k ≤ 4 ∧ kv = .int .i64 k ∧ IsB w.heap.size (acc ++ (quadL rest).take k) w1 ∧ Below w.heap.size w w1) (fun kv _ => 4 - (intOf kv).toNat)
          case atStart => exact ⟨0, by omega, rfl, by simpa using hI, hb⟩
          case round =>
            obtain ⟨k, hk, rfl, hI1, hb1⟩ := hrel
            by_cases hlt : k < 4
            · have hcs : k = 0 ∨ k = 1 ∨ k = 2 ∨ k = 3 := by omega
              have HT := Lib.hid (quad_take rest k hlt)
              have htl : ((quadL rest).take k).length ≤ 4 := by simp [quadL]; omega
              rcases hcs with rfl | rfl | rfl | rfl
              · obtain ⟨v, hv⟩ : ∃ v, N / 262144 % 64 = v := ⟨_, rfl⟩
                have hvl : v < 64 := by omega
                have hvA : v < letA.length := hvl
                have ha : bits .and .u32 ((N : Int) / 262144) 63 = (v : Int) := by have := and63 (N / 262144) v (by omega) hv; rwa [Int.natCast_ediv] at this
                have HQ := Lib.hid (quadB_eq rest 0 v HN (by simpa using hv) hvA)
                clear hv
                go_wp2_with (go_at_call 19; refine (bld_writeByte _ _ (letA[v]'hvA) _ hI1 (by simp only [List.length_append]; omega)).mono ?_; rintro e w' ⟨rfl, h1, h2, h3⟩)
                go_roundw
                case rel => exact ⟨1, by omega, by go_num, by rw [HT.out, HQ.out, if_neg (by omega), ← List.append_assoc]; exact h1, hb1.trans h2⟩
                case measure => simp [intOf]
              · obtain ⟨v, hv⟩ : ∃ v, N / 4096 % 64 = v := ⟨_, rfl⟩
                have hvl : v < 64 := by omega
                have hvA : v < letA.length := hvl
                have ha : bits .and .u32 ((N : Int) / 4096) 63 = (v : Int) := by have := and63 (N / 4096) v (by omega) hv; rwa [Int.natCast_ediv] at this
                have HQ := Lib.hid (quadB_eq rest 1 v HN (by simpa using hv) hvA)
                clear hv
                have hgt : decide ((rest.length : Int) < 1) = false := by rw [decide_eq_false_iff_not]; omega
                go_wp2_with (go_at_call 19; refine (bld_writeByte _ _ (letA[v]'hvA) _ hI1 (by simp only [List.length_append]; omega)).mono ?_; rintro e w' ⟨rfl, h1, h2, h3⟩)
                go_roundw
                case rel => exact ⟨2, by omega, by go_num, by rw [HT.out, HQ.out, if_neg (by omega), ← List.append_assoc]; exact h1, hb1.trans h2⟩
                case measure => simp [intOf]
              · obtain ⟨v, hv⟩ : ∃ v, N / 64 % 64 = v := ⟨_, rfl⟩
                have hvl : v < 64 := by omega
                have hvA : v < letA.length := hvl
                have ha : bits .and .u32 ((N : Int) / 64) 63 = (v : Int) := by have := and63 (N / 64) v (by omega) hv; rwa [Int.natCast_ediv] at this
                have HQ := Lib.hid (quadB_eq rest 2 v HN (by simpa using hv) hvA)
                clear hv
                by_cases hgt : rest.length < 2
                · have hgt1 : decide ((rest.length : Int) < 2) = true := by rw [decide_eq_true_iff]; omega
                  have HG := Lib.hid hgt
                  clear hgt
                  go_wp2_with (go_at_call 19; refine (bld_writeByte _ _ 61 _ hI1 (by simp only [List.length_append]; omega)).mono ?_; rintro e w' ⟨rfl, h1, h2, h3⟩)
                  go_roundw
                  case rel => exact ⟨3, by omega, by go_num, by rw [HT.out, HQ.out, if_pos HG.out, ← List.append_assoc]; exact h1, hb1.trans h2⟩
                  case measure => simp [intOf]
                · have hgt1 : decide ((rest.length : Int) < 2) = false := by rw [decide_eq_false_iff_not]; omega
                  have HG := Lib.hid hgt
                  clear hgt
                  go_wp2_with (go_at_call 19; refine (bld_writeByte _ _ (letA[v]'hvA) _ hI1 (by simp only [List.length_append]; omega)).mono ?_; rintro e w' ⟨rfl, h1, h2, h3⟩)
                  go_roundw
                  case rel => exact ⟨3, by omega, by go_num, by rw [HT.out, HQ.out, if_neg HG.out, ← List.append_assoc]; exact h1, hb1.trans h2⟩
                  case measure => simp [intOf]
              · obtain ⟨v, hv⟩ : ∃ v, N % 64 = v := ⟨_, rfl⟩
                have hvl : v < 64 := by omega
                have hvA : v < letA.length := hvl
                have ha : bits .and .u32 (N : Int) 63 = (v : Int) := and63 N v (by omega) hv
                have HQ := Lib.hid (quadB_eq rest 3 v HN (by simpa using hv) hvA)
                clear hv
                by_cases hgt : rest.length < 3
                · have hgt1 : decide ((rest.length : Int) < 3) = true := by rw [decide_eq_true_iff]; omega
                  have HG := Lib.hid hgt
                  clear hgt
                  go_wp2_with (go_at_call 19; refine (bld_writeByte _ _ 61 _ hI1 (by simp only [List.length_append]; omega)).mono ?_; rintro e w' ⟨rfl, h1, h2, h3⟩)
                  go_roundw
                  case rel => exact ⟨4, by omega, by go_num, by rw [HT.out, HQ.out, if_pos HG.out, ← List.append_assoc]; exact h1, hb1.trans h2⟩
                  case measure => simp [intOf]
                · have hgt1 : decide ((rest.length : Int) < 3) = false := by rw [decide_eq_false_iff_not]; omega
                  have HG := Lib.hid hgt
                  clear hgt
                  go_wp2_with (go_at_call 19; refine (bld_writeByte _ _ (letA[v]'hvA) _ hI1 (by simp only [List.length_append]; omega)).mono ?_; rintro e w' ⟨rfl, h1, h2, h3⟩)
                  go_roundw
                  case rel => exact ⟨4, by omega, by go_num, by rw [HT.out, HQ.out, if_neg HG.out, ← List.append_assoc]; exact h1, hb1.trans h2⟩
                  case measure => simp [intOf]
            · obtain rfl : k = 4 := by omega
              have hq4 : acc ++ (quadL rest).take 4 = acc ++ quadL rest := rfl
              rw [hq4] at hI1
              have HD2 : Hid ((acc ++ quadL rest) ++ encL (rest.drop 3) = encL l) := Lib.hid (by rw [← HD.out, hq.out, List.append_assoc])
              clear hq4
              by_cases h3 : 3 ≤ rest.length
              · go_wp2_with fail
                go_roundw
                case rel => exact ⟨rest.drop 3, acc ++ quadL rest, str_eq (by rw [show (min 3 (rest.length : Int)).toNat = 3 by omega]), hI1, hb1, HD2, by simp; omega⟩
                case measure => simp [strLen]; omega
              · have hdr : rest.drop 3 = [] := List.drop_eq_nil_of_le (by omega)
                have HDR := Lib.hid hdr
                clear hdr
                go_wp2_with fail
                go_roundw
                case rel => exact ⟨rest.drop 3, acc ++ quadL rest, str_eq (by rw [HDR.out]; simp; omega), hI1, hb1, HD2, by simp; omega⟩
                case measure => simp [strLen]; omega
end Go.Proofs.Ytkgieaokckidmaa
