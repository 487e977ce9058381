/-
  What is proved: what the program's Space, lower and Lower compute: contracts. Condition: texts of at most 100000 bytes where a text is built.
-/
import Derived.Test.YtbolajljfkjfaaaDoorFldP
import Derived.Test.YtbolajljfkjfaaaDoorRow
import Derived.Test.YtbolajljfkjfaaaDoorStr
import Derived.Test.YtbolajljfkjfaaaDoorRows
import Derived.Shelf.Small.Strs
import Derived.Deep.DeepCutAuto
import Derived.StillTailTactics
namespace Go.Proofs
open Go.Shelf
def Tryd.lays137_ren : Go.Shelf.Ren := ⟨fun | 137 => 80 | 217 => 93 | 266 => 104 | n => n, fun | 3 => 3 | 5 => 5 | 9 => 9 | n => n, fun | n => n⟩
theorem Tryd.lays137 : Go.Proofs.Lays.n137 Tryd.prog Tryd.lays137_ren := {
  mixed := by kernel_rfl
  f137 := Tryd.func80.trans (congrArg some (by kernel_rfl))
  f217 := Tryd.func93.trans (congrArg some (by kernel_rfl))
  f266 := Tryd.func104.trans (congrArg some (by kernel_rfl))
  t3 := Tryd.underlying3
  a3 := Tryd.isAgg3
  z3 := Tryd.sizeOf3
  v3 := Tryd.zeroValue3
  t5 := Tryd.underlying5
  a5 := Tryd.isAgg5
  z5 := Tryd.sizeOf5
  v5 := Tryd.zeroValue5
  t9 := Tryd.underlying9
  a9 := Tryd.isAgg9
  z9 := Tryd.sizeOf9
  v9 := Tryd.zeroValue9 }
end Go.Proofs
namespace Go.Proofs.YtbolajljfkjfaaaDoor
open Go.RowKit

theorem indexByte_any (l : List UInt8) (c : UInt8) (w : World) :
    Calls Tryd.prog 80 #[.string ⟨⟨l⟩⟩, .int .u8 c.toNat] w fun e w' => e = .returned (.int .i64 (Lib.indexByte l c)) ∧ w = w' := by
  refine (Any.strings_IndexByte Tryd.lays137 ⟨⟨l⟩⟩ c.toNat w).mono ?_
  rintro e w' ⟨rfl, rfl⟩
  refine ⟨?_, rfl⟩
  have h : ((c.toNat : Int).toNat).toUInt8 = c := by simp
  rw [h]
theorem indexByte_nonneg (l : List UInt8) (c : UInt8) : decide (0 ≤ Lib.indexByte l c) = l.contains c := by
  induction l with
  | nil => rfl
  | cons b l ih =>
    unfold Lib.indexByte
    have hg := Lib.indexByte_ge l c
    by_cases h : b = c
    · subst h; simp
    · have h' : ¬ c = b := fun e => h e.symm
      simp only [beq_iff_eq, h, if_false, List.contains_cons, beq_eq_false_iff_ne.2 h', Bool.false_or, ← ih]
      by_cases h2 : Lib.indexByte l c = -1
      · simp [h2]
      · simp only [h2, if_false]
        by_cases h3 : 0 ≤ Lib.indexByte l c
        · simp [h3]; omega
        · omega


theorem sp_contains (c : UInt8) : ([9, 10, 12, 13, 32] : List UInt8).contains c = spB c := by
  unfold spB
  simp [List.contains_cons]
  rw [Bool.eq_iff_iff]
  simp [or_assoc]
theorem low_nat (c : UInt8) : (lowB c).toNat = if 65 ≤ c.toNat ∧ c.toNat ≤ 90 then c.toNat + 32 else c.toNat := by
  have key : ∀ n : Fin 256, (lowB (UInt8.ofNat n)).toNat = if 65 ≤ n.val ∧ n.val ≤ 90 then n.val + 32 else n.val := by decide +kernel
  have := key ⟨c.toNat, c.toNat_lt⟩
  simpa using this
theorem lower_any (c : UInt8) (w : World) :
    Calls Tryd.prog 64 #[.int .u8 c.toNat] w fun e w' => e = .returned (.int .u8 (lowB c).toNat) ∧ w = w' := by
  have hc := c.toNat_lt
  have HL := Lib.hid (low_nat c)
  by_cases h1 : (65 : Int) ≤ (c.toNat : Int)
  · by_cases h2 : (c.toNat : Int) ≤ 90
    · go_enter Tryd.func64, Tryd.ntmps64
      go_wp2_with fail
      go_ret
      exact ⟨ret_inj (int_eq (by rw [HL.out, if_pos (by omega)]; omega)), rfl⟩
    · go_enter Tryd.func64, Tryd.ntmps64
      go_wp2_with fail
      go_ret
      exact ⟨ret_inj (int_eq (by rw [HL.out, if_neg (by omega)])), rfl⟩
  · go_enter Tryd.func64, Tryd.ntmps64
    go_wp2_with fail
    go_ret
    exact ⟨ret_inj (int_eq (by rw [HL.out, if_neg (by omega)])), rfl⟩
theorem low_set {l t : List UInt8} {k : Nat} (hk : k < l.length) (ht : t = lowL (l.take k) ++ l.drop k) : t.set k (lowB l[k]) = lowL (l.take (k + 1)) ++ l.drop (k + 1) := by
  subst ht
  have h1 : (lowL (l.take k)).length = k := by simp [lowL]; omega
  have e : l.drop k = l[k] :: l.drop (k + 1) := List.drop_eq_getElem_cons hk
  rw [List.set_append_right _ _ (by omega), h1, Nat.sub_self, e, List.take_succ_eq_append_getElem hk]
  show lowL (l.take k) ++ (lowB l[k] :: l.drop (k + 1)) = (l.take k ++ [l[k]]).map lowB ++ l.drop (k + 1)
  rw [List.map_append, List.append_assoc]
  rfl
theorem low_at {l t : List UInt8} {k : Nat} (hk : k < l.length) (ht : t = lowL (l.take k) ++ l.drop k) : t.length = l.length ∧ t[k]? = some l[k] := by
  subst ht
  have h1 : (lowL (l.take k)).length = k := by simp [lowL]; omega
  refine ⟨by simp [lowL]; omega, ?_⟩
  rw [List.getElem?_append_right (by omega), h1, Nat.sub_self, List.drop_eq_getElem_cons hk]
  rfl
set_option maxHeartbeats 2000000 in
theorem Lower_any (l : List UInt8) (w : World) (hl : l.length < 100000) :
    Calls Tryd.prog 38 #[.string ⟨⟨l⟩⟩] w fun e w' => e = .returned (.string ⟨⟨lowL l⟩⟩) ∧ Ext w w' := by
  obtain ⟨cap, w1, hconv, hcap, hrow, hext, hsz⟩ := row_of_string (P := Tryd.prog) w 9 45 5 l Tryd.underlying9 Tryd.underlying45 Tryd.underlying5
  have HR := Lib.hid hrow
  have HE := Lib.hid hext
  clear hrow hext
  go_enter Tryd.func38, Tryd.ntmps38
  go_wp2_with fail
  clear hconv
  go_loopw [10] (fun i wr => ∃ (k : Nat) (t : List UInt8), i = .int .i64 k ∧ k ≤ l.length ∧ ByteRow w.heap.size t wr ∧ Hid (t = lowL (l.take k) ++ l.drop k) ∧ Ext w wr) (fun i _ => l.length - (intOf i).toNat)
  case atStart => exact ⟨0, l, rfl, by omega, HR.out, Lib.hid (by simp [lowL]), HE.out⟩
  case round =>
    obtain ⟨k, t, rfl, hk, hR, HT, hx⟩ := hrel
    by_cases hlt : k < l.length
    · obtain ⟨hlen, hat⟩ := low_at hlt HT.out
      have hkt : k < t.length := by omega
      have hcell := hR.cell k hkt
      have hfree := hR.free k hkt
      have hc : t[k] = l[k] := by
        rw [List.getElem?_eq_getElem hkt] at hat
        exact Option.some.inj hat
      rw [hc] at hcell
      have HS := Lib.hid (low_set hlt HT.out)
      obtain ⟨c, hcc⟩ : ∃ c, l[k] = c := ⟨_, rfl⟩
      rw [hcc] at hcell HS
      have hcl := c.toNat_lt
      clear hat hc hcc hlen
      go_wp2_with (go_at_call 64; refine (lower_any c _).mono ?_; rintro e w' ⟨rfl, rfl⟩)
      go_roundw
      case rel => exact ⟨k + 1, t.set k (lowB c), by go_num, by omega, hR.set k (lowB c), HS, hx.setCell (Nat.le_refl _) _⟩
      case measure => simp [intOf]; omega
    · have hkl : k = l.length := by omega
      have HT2 : Hid (t = lowL l) := Lib.hid (by rw [HT.out, hkl]; simp)
      have hlen : t.length = l.length := by rw [HT2.out]; simp [lowL]
      have hback := hR.back (P := Tryd.prog) 45 9 5 cap Tryd.underlying45 Tryd.underlying5 Tryd.underlying9
      rw [hlen] at hback
      clear hlen
      go_wp2_with fail
      go_ret
      exact ⟨ret_inj (str_eq HT2.out), hx⟩
end Go.Proofs.YtbolajljfkjfaaaDoor
