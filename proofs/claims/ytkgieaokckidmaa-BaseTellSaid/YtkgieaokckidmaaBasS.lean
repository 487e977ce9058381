/-
  What is proved: the reference's Decode: a contract. Condition: texts of at most 100000 bytes.
-/
import Derived.Test.YtkgieaokckidmaaBasV
import Derived.Test.YtkgieaokckidmaaBasB
import Derived.Test.YtkgieaokckidmaaOwn
import Derived.Deep.CutRange
namespace Go.Proofs.Ytkgieaokckidmaa
open Go.RowKit

/-- What decoding tells. -/
def decR2 : Option (List UInt8) → Value
  | some u => .tuple #[.string ⟨⟨u⟩⟩, .int .i64 0]
  | none => .tuple #[.string ⟨⟨[]⟩⟩, .int .i64 30]
theorem OwnB.cells {B : Nat} {v : Value} {l : List UInt8} {w : World} (h : OwnB B v l w) :
    ∃ a cap, v = .slice a l.length cap ∧ ∀ j (hj : j < l.length), ∃ b, a = some ⟨b, 0, none⟩ ∧ B ≤ b ∧ b < w.heap.size ∧ w.cell? ⟨b, j, none⟩ = some (.int .u8 (l[j].toNat : Nat)) := by
  obtain ⟨_, h⟩ := h
  rcases h with ⟨rfl, h0⟩ | ⟨g, cap, cur, rfl, hB, hg, hn, _, hc, htk⟩
  · exact ⟨none, 0, by rw [h0], fun j hj => absurd hj (by omega)⟩
  · refine ⟨some ⟨g, 0, none⟩, cap, rfl, fun j hj => ⟨g, rfl, hB, (Array.getElem?_eq_some_iff.1 hg).1, ?_⟩⟩
    simp only [World.cell?, hg]
    have h1 : (cur.toList.take (l.length * 1))[j]? = (Lib.byteCells l)[j]? := by rw [htk]
    rw [List.getElem?_take, if_pos (by omega)] at h1
    simp [Lib.byteCells, hj] at h1
    simpa using h1
theorem OwnB.len {B : Nat} {v : Value} {l : List UInt8} {w : World} (h : OwnB B v l w) : ∃ a cap, v = .slice a l.length cap := by
  obtain ⟨a, cap, e, _⟩ := h.cells
  exact ⟨a, cap, e⟩
def trimN : Nat → List UInt8 → List UInt8
  | 0, s => s
  | n + 1, s => trimN n (trimQ s)
theorem trimN_id {s : List UInt8} (h : s.getLast? ≠ some 61) : ∀ n, trimN n s = s
  | 0 => rfl
  | n + 1 => by rw [trimN, trimQ_else h, trimN_id h n]
theorem last_at (s : List UInt8) (h : s.length - 1 < s.length) : s.getLast? = some s[s.length - 1] := by
  rw [List.getLast?_eq_getElem?, List.getElem?_eq_getElem h]
theorem trimQ_last (s : List UInt8) (h : s.getLast? = some 61) : trimQ s = s.take (s.length - 1) := by
  unfold trimQ; rw [if_pos h, List.dropLast_eq_take]
theorem and1 (n : Nat) (h : n < 64) : bits .and .i64 (n : Int) 1 = ((n % 2 : Nat) : Int) := by
  have key : ∀ n : Fin 64, bits .and .i64 ((n.val : Nat) : Int) 1 = ((n.val % 2 : Nat) : Int) := by decide +kernel
  exact key ⟨n, h⟩
theorem bitsN_at (n m : Nat) (h : m < 6) : (bitsN n).take (m + 1) = (bitsN n).take m ++ [UInt8.ofNat (n / 2 ^ (5 - m) % 2)] := by
  have : m = 0 ∨ m = 1 ∨ m = 2 ∨ m = 3 ∨ m = 4 ∨ m = 5 := by omega
  rcases this with rfl | rfl | rfl | rfl | rfl | rfl <;> simp [bitsN]
theorem bitsV_snoc (vs : List Nat) (n : Nat) : bitsV (vs ++ [n]) = bitsV vs ++ bitsN n := by simp [bitsV]
theorem bit_nat (x : Nat) : ((x % 2 : Nat) : Int) % 256 = (((UInt8.ofNat (x % 2)).toNat : Nat) : Int) := by
  rw [UInt8.toNat_ofNat']; omega
theorem valI_some {c : UInt8} {n : Nat} (h : worB c = some n) : valI c = n := by unfold valI; rw [h]
theorem valI_none {c : UInt8} (h : worB c = none) : valI c = -1 := by unfold valI; rw [h]
theorem oct_add (c b : UInt8) : ((2 * c + b).toNat : Int) = (2 * (c.toNat : Int) % 256 + b.toNat) % 256 := by
  rw [UInt8.toNat_add, UInt8.toNat_mul]
  have e : (2 : UInt8).toNat = 2 := rfl
  rw [e]
  omega
theorem oct_take (bs : List UInt8) (a m : Nat) (h : a + m < bs.length) : octF ((bs.drop a).take (m + 1)) = 2 * octF ((bs.drop a).take m) + bs[a + m] := by
  have h2 : m < (bs.drop a).length := by simp; omega
  rw [List.take_succ_eq_append_getElem h2, octF_snoc, List.getElem_drop]
theorem decL_noneR {l t : List UInt8} {k : Nat} (HT : Hid (bareB l = t)) (hk : k < t.length) (h : worB t[k] = none) : decL l = none := by
  unfold decL
  rw [HT.out]
  split
  · rfl
  · have e : t = t.take k ++ t[k] :: t.drop (k + 1) := by simp
    have e2 : valsL t = none := by
      rw [e]
      exact valsL_bad _ _ h
    rw [e2]
    rfl
theorem decL_bits {l t : List UInt8} {vs : List Nat} {bs : List UInt8} (HT : Hid (bareB l = t)) (HL : Hid (¬ t.length % 4 = 1)) (HV : Hid (valsL t = some vs)) (HB : Hid (bitsV vs = bs)) :
    decL l = if 1 ∈ bs.drop (8 * (bs.length / 8)) then none else some (outsV bs (bs.length / 8)) := by
  have hl := bitsV_len vs
  rw [HB.out] at hl
  unfold decL
  rw [HT.out, if_neg HL.out, HV.out, Option.bind_some, dec_bits vs (valsL_lt HV.out) (by rw [valsL_len HV.out]; exact HL.out), HB.out, ← hl]
set_option maxRecDepth 100000 in
set_option maxHeartbeats 4000000 in
theorem refDec_any (l : List UInt8) (w : World) (hs : l.length ≤ 100000) :
    Calls Try.prog 9 #[.string ⟨⟨l⟩⟩] w fun e w' => e = .returned (decR2 (decL l)) ∧ Ext w w' := by
  obtain ⟨t, ht⟩ : ∃ t, bareB l = t := ⟨_, rfl⟩
  have htl : t.length ≤ l.length := by
    obtain ⟨n, hn⟩ := bareB_split l
    have := congrArg List.length hn
    rw [ht, List.length_append] at this
    omega
  have HT := Lib.hid ht
  clear ht
  go_enter Try.func9, Try.ntmps9
  go_upto_if 17 with fail
  go_cut [0] from 4 to 39 (fun s wx => s = .string ⟨⟨t⟩⟩ ∧ w = wx)
  case first =>
    by_cases h4 : l.length % 4 = 0
    · have hb4 : ((l.length : Int) % 4 == 0) = true := by simp; omega
      have HB0 : Hid (t = trimN 2 l) := Lib.hid (by rw [← HT.out]; unfold bareB; rw [if_pos h4]; rfl)
      clear h4
      rw [hb4]
      go_wp2_with fail
      go_loop [0, 4] (fun s i => ∃ (k : Nat) (t : List UInt8), k ≤ 2 ∧ i = .int .i64 k ∧ s = .string ⟨⟨t⟩⟩ ∧ t.length ≤ l.length ∧ Hid (trimN (2 - k) t = trimN 2 l)) (fun _ i => 2 - (intOf i).toNat)
      case atStart => exact ⟨0, l, Nat.zero_le _, rfl, rfl, Nat.le_refl _, Lib.hid rfl⟩
      case round =>
        obtain ⟨k, s, hk, rfl, rfl, hsl, HQ⟩ := hrel
        by_cases hgo : k < 2 ∧ s.getLast? = some 61
        · obtain ⟨hlt, hla⟩ := hgo
          have hpos : 0 < s.length := by
            cases s with
            | nil => cases hla
            | cons a t => simp
          have hp2 : s.length - 1 < s.length := by omega
          have hc : s[s.length - 1] = 61 := by
            have := last_at s hp2
            rw [hla] at this
            exact (Option.some.inj this).symm
          have hbc : ((s[s.length - 1].toNat : Int) == 61) = true := by rw [hc]; rfl
          have HQ2 : Hid (trimN (2 - (k + 1)) (s.take (s.length - 1)) = trimN 2 l) := Lib.hid (by
            rw [← HQ.out, show 2 - k = (2 - (k + 1)) + 1 by omega, trimN, trimQ_last s hla])
          clear hc hla
          go_wp2_with fail
          go_round
          case rel => exact ⟨k + 1, s.take (s.length - 1), by omega, by go_num, by first | rfl | (apply str_eq; congr 1; omega), by simp; omega, HQ2⟩
          case measure => simp [intOf]; omega
        · have hfin : s = t := by
            rw [HB0.out, ← HQ.out]
            by_cases hk2 : k < 2
            · exact (trimN_id (fun e => hgo ⟨hk2, e⟩) _).symm
            · rw [show 2 - k = 0 by omega]; rfl
          have HS := Lib.hid hfin
          by_cases hk2 : k < 2
          · have hla : s.getLast? ≠ some 61 := fun e => hgo ⟨hk2, e⟩
            by_cases hpos : 0 < s.length
            · have hp2 : s.length - 1 < s.length := by omega
              have hc : s[s.length - 1] ≠ 61 := by
                intro e
                have := last_at s hp2
                rw [e] at this
                exact hla this
              have hbc : ((s[s.length - 1].toNat : Int) == 61) = false := by
                rw [beq_eq_false_iff_ne]
                intro e
                exact hc (UInt8.toNat.inj (by have e3 : (61 : UInt8).toNat = 61 := rfl; omega))
              clear hc hla hgo hfin
              go_wp2_with fail
              go_meet
              case rel => exact ⟨str_eq HS.out, rfl⟩
            · have hd : decide (0 < (s.length : Int)) = false := by rw [decide_eq_false_iff_not]; omega
              clear hla hgo hfin
              go_wp2_with fail
              go_meet
              case rel => exact ⟨str_eq HS.out, rfl⟩
          · clear hgo hfin
            go_wp2_with fail
            go_meet
            case rel => exact ⟨str_eq HS.out, rfl⟩
    · have hb4 : ((l.length : Int) % 4 == 0) = false := by simp; omega
      have HS : Hid (l = t) := Lib.hid (by rw [← HT.out]; unfold bareB; rw [if_neg h4])
      clear h4
      go_wp2_with fail
      go_meet
      case rel => exact ⟨str_eq HS.out, rfl⟩
  case rest =>
    obtain ⟨rfl, rfl⟩ := hcut
    by_cases h1 : t.length % 4 = 1
    · have hb1 : ((t.length : Int) % 4 == 1) = true := by simp; omega
      have HD : Hid (decL l = none) := Lib.hid (by unfold decL; rw [HT.out, if_pos h1])
      clear h1
      go_wp2_with fail
      go_ret2
      exact ⟨by rw [HD.out]; rfl, Ext.refl _⟩
    · have hb1 : ((t.length : Int) % 4 == 1) = false := by simp; omega
      have HL := Lib.hid h1
      clear h1
      go_wp2_with fail
      go_loopw [5, 6] (fun o i wr => ∃ (k : Nat) (vs : List Nat) (bs : List UInt8), k ≤ t.length ∧ i = .int .i64 k ∧ Hid (valsL (t.take k) = some vs) ∧ Hid (bitsV vs = bs) ∧ OwnB w.heap.size o bs wr ∧ bs.length ≤ 6 * k ∧ w.heap.size ≤ wr.heap.size ∧ Below w.heap.size w wr) (fun _ i _ => t.length - (intOf i).toNat)
      case atStart => exact ⟨0, [], [], Nat.zero_le _, rfl, Lib.hid rfl, Lib.hid rfl, OwnB.nil _ _, Nat.zero_le _, Nat.le_refl _, Below.refl _ _⟩
      case round =>
        obtain ⟨k, vs, bs, hk, rfl, HV, HB, hown, hbl, hsz, hbel⟩ := hrel
        by_cases hlt : k < t.length
        · cases hw : worB t[k] with
          | none =>
            have HI := Lib.hid (valI_none hw)
            have HD := Lib.hid (decL_noneR HT hlt hw)
            clear hw
            go_wp2_with (go_at_call 18; refine (value_any _ _).mono ?_; rintro e w' ⟨rfl, rfl⟩; rw [HI.out])
            go_ret2
            exact ⟨by rw [HD.out]; rfl, hbel⟩
          | some n =>
            have HI := Lib.hid (valI_some hw)
            have hn : n < 64 := (worth_letN _ n hw).1
            have HV2 : Hid (valsL (t.take (k + 1)) = some (vs ++ [n])) := Lib.hid (by
              rw [List.take_succ_eq_append_getElem hlt]
              exact valsL_snoc HV.out hw)
            clear hw
            go_wp2_with (go_at_call 18; refine (value_any _ _).mono ?_; rintro e w' ⟨rfl, rfl⟩; rw [HI.out])
            go_loopw [5, 8] (fun o kv w2 => ∃ (m : Nat) (kz : Int), m ≤ 6 ∧ kv = .int .i64 kz ∧ kz = 5 - m ∧ OwnB w.heap.size o (bs ++ (bitsN n).take m) w2 ∧ w.heap.size ≤ w2.heap.size ∧ Below w.heap.size w w2) (fun _ kv _ => (intOf kv + 1).toNat)
            case atStart => exact ⟨0, 5, by omega, rfl, rfl, by simpa using hown, hsz, hbel⟩
            case round =>
              obtain ⟨m, kz, hm, rfl, hkz, hown2, hsz2, hbel2⟩ := hrel
              have hl2 : (bs ++ (bitsN n).take m).length ≤ 700000 := by simp [bitsN]; omega
              by_cases hm6 : m < 6
              · have hcs : m = 0 ∨ m = 1 ∨ m = 2 ∨ m = 3 ∨ m = 4 ∨ m = 5 := by omega
                have HM := Lib.hid (bitsN_at n m hm6)
                rcases hcs with rfl | rfl | rfl | rfl | rfl | rfl
                · obtain rfl : kz = 5 := by omega
                  obtain ⟨b, hb⟩ : ∃ b, n / 2 ^ (5 - 0) % 2 = b := ⟨_, rfl⟩
                  have hb2 : b < 2 := by omega
                  have ha : bits .and .i64 ((n : Int) / 32) 1 = (b : Int) := by
                    have e : ((n : Int) / 32) = ((n / 32 : Nat) : Int) := (Int.natCast_ediv n 32).symm
                    rw [e, and1 (n / 32) (by omega), ← hb]
                  have HM2 : Hid ((bitsN n).take (0 + 1) = (bitsN n).take 0 ++ [UInt8.ofNat b]) := Lib.hid (by rw [HM.out, hb])
                  have hcb : (b : Int) = (((UInt8.ofNat b).toNat : Nat) : Int) := by rw [UInt8.toNat_ofNat']; omega
                  have HCB := Lib.hid hcb
                  clear hb hcb hkz
                  go_wp2_with (at_builtin; refine app_byte rfl _ _ rfl (UInt8.ofNat b) _ _ rfl rfl HCB.out hown2 rfl (by omega) hsz2 ?_; intro v' w' hown3 hb3)
                  go_roundw
                  case rel => exact ⟨1, 4, by omega, rfl, rfl, by rw [HM2.out, ← List.append_assoc]; exact hown3, Nat.le_trans hsz2 hb3.size, hbel2.trans hb3⟩
                  case measure => simp [intOf]
                · obtain rfl : kz = 4 := by omega
                  obtain ⟨b, hb⟩ : ∃ b, n / 2 ^ (5 - 1) % 2 = b := ⟨_, rfl⟩
                  have hb2 : b < 2 := by omega
                  have ha : bits .and .i64 ((n : Int) / 16) 1 = (b : Int) := by
                    have e : ((n : Int) / 16) = ((n / 16 : Nat) : Int) := (Int.natCast_ediv n 16).symm
                    rw [e, and1 (n / 16) (by omega), ← hb]
                  have HM2 : Hid ((bitsN n).take (1 + 1) = (bitsN n).take 1 ++ [UInt8.ofNat b]) := Lib.hid (by rw [HM.out, hb])
                  have hcb : (b : Int) = (((UInt8.ofNat b).toNat : Nat) : Int) := by rw [UInt8.toNat_ofNat']; omega
                  have HCB := Lib.hid hcb
                  clear hb hcb hkz
                  go_wp2_with (at_builtin; refine app_byte rfl _ _ rfl (UInt8.ofNat b) _ _ rfl rfl HCB.out hown2 rfl (by omega) hsz2 ?_; intro v' w' hown3 hb3)
                  go_roundw
                  case rel => exact ⟨2, 3, by omega, rfl, rfl, by rw [HM2.out, ← List.append_assoc]; exact hown3, Nat.le_trans hsz2 hb3.size, hbel2.trans hb3⟩
                  case measure => simp [intOf]
                · obtain rfl : kz = 3 := by omega
                  obtain ⟨b, hb⟩ : ∃ b, n / 2 ^ (5 - 2) % 2 = b := ⟨_, rfl⟩
                  have hb2 : b < 2 := by omega
                  have ha : bits .and .i64 ((n : Int) / 8) 1 = (b : Int) := by
                    have e : ((n : Int) / 8) = ((n / 8 : Nat) : Int) := (Int.natCast_ediv n 8).symm
                    rw [e, and1 (n / 8) (by omega), ← hb]
                  have HM2 : Hid ((bitsN n).take (2 + 1) = (bitsN n).take 2 ++ [UInt8.ofNat b]) := Lib.hid (by rw [HM.out, hb])
                  have hcb : (b : Int) = (((UInt8.ofNat b).toNat : Nat) : Int) := by rw [UInt8.toNat_ofNat']; omega
                  have HCB := Lib.hid hcb
                  clear hb hcb hkz
                  go_wp2_with (at_builtin; refine app_byte rfl _ _ rfl (UInt8.ofNat b) _ _ rfl rfl HCB.out hown2 rfl (by omega) hsz2 ?_; intro v' w' hown3 hb3)
                  go_roundw
                  case rel => exact ⟨3, 2, by omega, rfl, rfl, by rw [HM2.out, ← List.append_assoc]; exact hown3, Nat.le_trans hsz2 hb3.size, hbel2.trans hb3⟩
                  case measure => simp [intOf]
                · obtain rfl : kz = 2 := by omega
                  obtain ⟨b, hb⟩ : ∃ b, n / 2 ^ (5 - 3) % 2 = b := ⟨_, rfl⟩
                  have hb2 : b < 2 := by omega
                  have ha : bits .and .i64 ((n : Int) / 4) 1 = (b : Int) := by
                    have e : ((n : Int) / 4) = ((n / 4 : Nat) : Int) := (Int.natCast_ediv n 4).symm
                    rw [e, and1 (n / 4) (by omega), ← hb]
                  have HM2 : Hid ((bitsN n).take (3 + 1) = (bitsN n).take 3 ++ [UInt8.ofNat b]) := Lib.hid (by rw [HM.out, hb])
                  have hcb : (b : Int) = (((UInt8.ofNat b).toNat : Nat) : Int) := by rw [UInt8.toNat_ofNat']; omega
                  have HCB := Lib.hid hcb
                  clear hb hcb hkz
                  go_wp2_with (at_builtin; refine app_byte rfl _ _ rfl (UInt8.ofNat b) _ _ rfl rfl HCB.out hown2 rfl (by omega) hsz2 ?_; intro v' w' hown3 hb3)
                  go_roundw
                  case rel => exact ⟨4, 1, by omega, rfl, rfl, by rw [HM2.out, ← List.append_assoc]; exact hown3, Nat.le_trans hsz2 hb3.size, hbel2.trans hb3⟩
                  case measure => simp [intOf]
                · obtain rfl : kz = 1 := by omega
                  obtain ⟨b, hb⟩ : ∃ b, n / 2 ^ (5 - 4) % 2 = b := ⟨_, rfl⟩
                  have hb2 : b < 2 := by omega
                  have ha : bits .and .i64 ((n : Int) / 2) 1 = (b : Int) := by
                    have e : ((n : Int) / 2) = ((n / 2 : Nat) : Int) := (Int.natCast_ediv n 2).symm
                    rw [e, and1 (n / 2) (by omega), ← hb]
                  have HM2 : Hid ((bitsN n).take (4 + 1) = (bitsN n).take 4 ++ [UInt8.ofNat b]) := Lib.hid (by rw [HM.out, hb])
                  have hcb : (b : Int) = (((UInt8.ofNat b).toNat : Nat) : Int) := by rw [UInt8.toNat_ofNat']; omega
                  have HCB := Lib.hid hcb
                  clear hb hcb hkz
                  go_wp2_with (at_builtin; refine app_byte rfl _ _ rfl (UInt8.ofNat b) _ _ rfl rfl HCB.out hown2 rfl (by omega) hsz2 ?_; intro v' w' hown3 hb3)
                  go_roundw
                  case rel => exact ⟨5, 0, by omega, rfl, rfl, by rw [HM2.out, ← List.append_assoc]; exact hown3, Nat.le_trans hsz2 hb3.size, hbel2.trans hb3⟩
                  case measure => simp [intOf]
                · obtain rfl : kz = 0 := by omega
                  obtain ⟨b, hb⟩ : ∃ b, n / 2 ^ (5 - 5) % 2 = b := ⟨_, rfl⟩
                  have hb2 : b < 2 := by omega
                  have ha : bits .and .i64 (n : Int) 1 = (b : Int) := by
                    rw [and1 n (by omega), ← hb]
                    simp
                  have HM2 : Hid ((bitsN n).take (5 + 1) = (bitsN n).take 5 ++ [UInt8.ofNat b]) := Lib.hid (by rw [HM.out, hb])
                  have hcb : (b : Int) = (((UInt8.ofNat b).toNat : Nat) : Int) := by rw [UInt8.toNat_ofNat']; omega
                  have HCB := Lib.hid hcb
                  clear hb hcb hkz
                  go_wp2_with (at_builtin; refine app_byte rfl _ _ rfl (UInt8.ofNat b) _ _ rfl rfl HCB.out hown2 rfl (by omega) hsz2 ?_; intro v' w' hown3 hb3)
                  go_roundw
                  case rel => exact ⟨6, -1, by omega, rfl, rfl, by rw [HM2.out, ← List.append_assoc]; exact hown3, Nat.le_trans hsz2 hb3.size, hbel2.trans hb3⟩
                  case measure => simp [intOf]
              · obtain rfl : m = 6 := by omega
                obtain rfl : kz = -1 := by omega
                go_wp2_with fail
                go_roundw
                case rel => exact ⟨k + 1, vs ++ [n], bs ++ bitsN n, by omega, by go_num, HV2, Lib.hid (by rw [bitsV_snoc, HB.out]), hown2, by simp [bitsN]; omega, hsz2, hbel2⟩
                case measure => simp [intOf]; omega
        · obtain rfl : k = t.length := by omega
          have HV2 : Hid (valsL t = some vs) := Lib.hid (by have := HV.out; rwa [List.take_length] at this)
          have HE := Lib.hid (decL_bits HT HL HV2 HB)
          obtain ⟨ao, co, rfl, hcells⟩ := hown.cells
          have HC := Lib.hid hcells
          have hbb : bs.length ≤ 700000 := by omega
          clear hcells
          go_wp2_with fail
          go_loopw [9, 10] (fun o av w2 => ∃ (j a8 : Nat) (u : List UInt8), a8 ≤ bs.length ∧ Hid (8 * j = a8) ∧ av = .int .i64 a8 ∧ Hid (outsV bs j = u) ∧ OwnB wr.heap.size o u w2 ∧ u.length ≤ a8 ∧ wr.heap.size ≤ w2.heap.size ∧ Below wr.heap.size wr w2) (fun _ av _ => bs.length + 8 - (intOf av).toNat)
          case atStart => exact ⟨0, 0, [], Nat.zero_le _, Lib.hid rfl, rfl, Lib.hid rfl, OwnB.nil _ _, Nat.zero_le _, Nat.le_refl _, Below.refl _ _⟩
          case round =>
            obtain ⟨j, a8, u, ha8, HJ, rfl, HU, hownu, hul, hsz2, hbel2⟩ := hrel
            by_cases hlt8 : a8 + 8 ≤ bs.length
            · have hd8 : decide ((a8 : Int) + 8 ≤ (bs.length : Int)) = true := by rw [decide_eq_true_iff]; omega
              go_wp2_with fail
              go_loop [11, 12] (fun cv kv => ∃ (m : Nat) (c : UInt8), m ≤ 8 ∧ cv = .int .u8 (c.toNat : Nat) ∧ Hid (octF ((bs.drop a8).take m) = c) ∧ kv = .int .i64 ((a8 + m : Nat) : Int)) (fun _ kv => a8 + 8 - (intOf kv).toNat)
              case atStart => exact ⟨0, 0, by omega, rfl, Lib.hid rfl, rfl⟩
              case round =>
                obtain ⟨m, c, hm, rfl, HO, rfl⟩ := hrel
                obtain ⟨q, hq⟩ : ∃ q, a8 + m = q := ⟨_, rfl⟩
                rw [hq]
                by_cases hm8 : m < 8
                · have hqb : q < bs.length := by omega
                  have hdq : decide ((q : Int) < (a8 : Int) + 8) = true := by rw [decide_eq_true_iff]; omega
                  obtain ⟨g, hge, _, hg2, hcell⟩ := HC.out q hqb
                  subst hge
                  have hcell2 : wr.cell? ⟨g, q, none⟩ = some (.int .u8 (bs[q].toNat : Nat)) := (hbel2.cell (p := ⟨g, q, none⟩) hg2).trans hcell
                  have hqe : bs[a8 + m]'(by omega) = bs[q] := by simp only [hq]
                  have HO2 : Hid (octF ((bs.drop a8).take (m + 1)) = 2 * c + bs[q]) := Lib.hid (by rw [oct_take bs a8 m (by omega), HO.out, hqe])
                  have HA := Lib.hid (oct_add c bs[q])
                  have HQ := Lib.hid hq
                  clear hcell hq hqe
                  go_wp2_with fail
                  go_round
                  case rel => exact ⟨m + 1, 2 * c + bs[q], by omega, by rw [HA.out], HO2, by rw [← HQ.out]; go_num⟩
                  case measure => have := HQ.out; simp [intOf]; omega
                · obtain rfl : m = 8 := by omega
                  have hdq : decide ((q : Int) < (a8 : Int) + 8) = false := by rw [decide_eq_false_iff_not]; omega
                  have HU2 : Hid (outsV bs (j + 1) = u ++ [c]) := Lib.hid (by rw [outsV_succ, HJ.out, HU.out, HO.out])
                  clear hq
                  go_wp2_with (at_builtin; refine app_byte rfl _ _ rfl c _ _ rfl rfl rfl hownu rfl (by omega) hsz2 ?_; intro v' w' hown3 hb3)
                  go_roundw
                  case rel => exact ⟨j + 1, a8 + 8, _, hlt8, Lib.hid (by have := HJ.out; omega), by go_num, HU2, hown3, by simp; omega, Nat.le_trans hsz2 hb3.size, hbel2.trans hb3⟩
                  case measure => simp [intOf]; omega
            · have hd8 : decide ((a8 : Int) + 8 ≤ (bs.length : Int)) = false := by rw [decide_eq_false_iff_not]; omega
              have hjn : j = bs.length / 8 := by have := HJ.out; omega
              obtain ⟨au, cu, rfl⟩ := hownu.len
              have hul2 : 8 * u.length = a8 := by rw [← HU.out, outsV_len]; exact HJ.out
              have HUL := Lib.hid hul2
              have HE2 : Hid (decL l = if 1 ∈ bs.drop a8 then none else some u) := Lib.hid (by rw [HE.out, ← hjn, HJ.out, HU.out])
              have hu8 : (8 * (u.length : Int)) = (a8 : Int) := by omega
              clear hjn hul2
              go_wp2_with fail
              go_loop [13] (fun kv => ∃ k : Nat, k ≤ bs.length ∧ kv = .int .i64 k ∧ Hid (1 ∈ bs.drop a8 ↔ 1 ∈ bs.drop k)) (fun kv => bs.length - (intOf kv).toNat)
              case atStart => exact ⟨a8, ha8, rfl, Lib.hid Iff.rfl⟩
              case round =>
                obtain ⟨k, hk, rfl, HK⟩ := hrel
                by_cases hkl : k < bs.length
                · obtain ⟨g, hge, _, hg2, hcell⟩ := HC.out k hkl
                  subst hge
                  have hcell2 : wr.cell? ⟨g, k, none⟩ = some (.int .u8 (bs[k].toNat : Nat)) := (hbel2.cell (p := ⟨g, k, none⟩) hg2).trans hcell
                  have hdr : bs.drop k = bs[k] :: bs.drop (k + 1) := List.drop_eq_getElem_cons hkl
                  have HDR := Lib.hid hdr
                  clear hcell hdr
                  by_cases hone : bs[k] = 1
                  · have hbo : ((bs[k].toNat : Int) == 1) = true := by rw [hone]; rfl
                    have HD : Hid (decL l = none) := Lib.hid (by rw [HE2.out, if_pos (HK.out.2 (by rw [HDR.out, hone]; simp))])
                    clear hone
                    go_wp2_with fail
                    go_ret2
                    exact ⟨by rw [HD.out]; rfl, hbel.trans (hbel2.mono hsz)⟩
                  · have hbo : ((bs[k].toNat : Int) == 1) = false := by
                      rw [beq_eq_false_iff_ne]
                      intro e
                      exact hone (UInt8.toNat.inj (by have e3 : (1 : UInt8).toNat = 1 := rfl; omega))
                    have HK2 : Hid (1 ∈ bs.drop a8 ↔ 1 ∈ bs.drop (k + 1)) := Lib.hid (by
                      rw [HK.out, HDR.out, List.mem_cons]
                      exact ⟨fun h => h.resolve_left (fun e => hone e.symm), .inr⟩)
                    clear hone
                    go_wp2_with fail
                    go_round
                    case rel => exact ⟨k + 1, by omega, by go_num, HK2⟩
                    case measure => simp [intOf]; omega
                · have HD : Hid (decL l = some u) := Lib.hid (by
                    rw [HE2.out, if_neg]
                    rw [HK.out, List.drop_eq_nil_of_le (by omega)]
                    simp)
                  have hcv := conv_byte hownu
                  go_wp2_with fail
                  go_ret2
                  exact ⟨by rw [HD.out]; rfl, hbel.trans (hbel2.mono hsz)⟩
end Go.Proofs.Ytkgieaokckidmaa
