/-
  What is proved: a number written to the base 16 by the library: contracts. Condition: the library's table of bits holds what its text lays.
-/
import Derived.Test.YtlhbofekochhkaaDoorRefY
import Derived.Test.YtlhbofekochhkaaDoorRefL
import Derived.Test.YtlhbofekochhkaaDoorRow
import Derived.Laws.BitsAllLaws
namespace Go.Proofs.YtlhbofekochhkaaDoor
open Go.RowKit

theorem key16 : IntKind.u64.wrap (bits BinOp.and IntKind.u64 16 (IntKind.u64.wrap (-16)) * 285870213051353865) / 288230376151711744 = 15 := by kernel_rfl
theorem tz64_16 (w : World) (hc : w.cell? ⟨3, 15, none⟩ = some (.int .u8 4)) : Calls Tryd.prog 42 #[.int .u64 16] w fun e w' => e = .returned (.int .i64 4) ∧ w = w' := by
  have key := key16
  go_enter Tryd.func42, Tryd.ntmps42
  go_wp2_with fail
  go_ret
  exact ⟨rfl, rfl⟩
theorem tz_16 (w : World) (hc : w.cell? ⟨3, 15, none⟩ = some (.int .u8 4)) : Calls Tryd.prog 40 #[.int .u64 16] w fun e w' => e = .returned (.int .i64 4) ∧ w = w' := by
  have HC := Lib.hid hc
  clear hc
  go_enter Tryd.func40, Tryd.ntmps40
  go_wp2_with (go_at_call 42; refine (tz64_16 _ HC.out).mono ?_; rintro e w' ⟨rfl, rfl⟩)
  go_ret
  exact ⟨rfl, rfl⟩
theorem pow_16 (w : World) : Calls Tryd.prog 39 #[.int .i64 16] w fun e w' => e = .returned (.bool true) ∧ w = w' := by
  go_enter Tryd.func39, Tryd.ntmps39
  go_wp2_with fail
  go_ret
  exact ⟨rfl, rfl⟩
theorem and15 (u : Nat) (h : u < 18446744073709551616) : bits .and .u64 (u : Int) 15 = ((u % 16 : Nat) : Int) := by
  have h1 := u64_and_nat u 15 h (by omega)
  have h2 : u &&& 15 = u % 16 := Nat.and_two_pow_sub_one_eq_mod u 4
  rw [h2] at h1
  exact h1
/-- The array's cells at first. -/
def zeros65 : Array Value := ⟨List.replicate 65 (.int .u8 0)⟩
theorem zero65 (w : World) : (zeroValue 61).run Tryd.prog w = .ok (.agg zeros65) w := by kernel_rfl
theorem row65 (w : World) (t : TypeId) : ByteRow w.heap.size (List.replicate 65 0) (w.alloc (.cells zeros65 t)) := by
  have hh : (w.alloc (.cells zeros65 t)).heap[w.heap.size]? = some (.cells zeros65 t) := heap_alloc_new w _
  refine ⟨fun j hj => ?_, fun j hj => ?_⟩
  · unfold World.cell?
    rw [hh]
    simp only [List.length_replicate] at hj
    have h0 : zeros65[j]? = some (Value.int .u8 0) := by
      show (List.replicate 65 (Value.int .u8 0)).toArray[j]? = _
      rw [List.getElem?_toArray, List.getElem?_replicate, if_pos hj]
    rw [List.getElem_replicate]
    exact h0
  · unfold World.frozen?
    rw [hh]
    simp
theorem setCell_size (w : World) (a : Addr) (v : Value) : (w.setCell a v).heap.size = w.heap.size := by simp [World.setCell]
def digits36 : List UInt8 := [48, 49, 50, 51, 52, 53, 54, 55, 56, 57, 97, 98, 99, 100, 101, 102, 103, 104, 105, 106, 107, 108, 109, 110, 111, 112, 113, 114, 115, 116, 117, 118, 119, 120, 121, 122]
theorem digit_at (d : Nat) (h : d < 16) : ([48, 49, 50, 51, 52, 53, 54, 55, 56, 57, 97, 98, 99, 100, 101, 102, 103, 104, 105, 106, 107, 108, 109, 110, 111, 112, 113, 114, 115, 116, 117, 118, 119, 120, 121, (122 : UInt8)] : List UInt8)[d]'(by simp only [List.length_cons, List.length_nil]; omega) = dgt d := by
  have key : ∀ d : Fin 16, digits36[d.val]? = some (dgt d) := by decide +kernel
  have := key ⟨d, h⟩
  exact (List.getElem?_eq_some_iff.1 this).2
theorem bit_step {n f u : Nat} {L : List UInt8} (hf : 1 ≤ f) (hf7 : f ≤ 7) (hu : 16 ≤ u) (hL : L.length = 65) (h16 : u < 16 ^ (f + 1)) (hH : hexL 7 n = hexL f u ++ L.drop (58 + f)) :
    u / 16 < 16 ^ (f - 1 + 1) ∧ hexL 7 n = hexL (f - 1) (u / 16) ++ (L.set (57 + f) (dgt (u % 16))).drop (58 + (f - 1)) := by
  obtain ⟨g, rfl⟩ : ∃ g, f = g + 1 := ⟨f - 1, by omega⟩
  by_cases hg : 57 + (g + 1) < 65
  · refine ⟨by rw [Nat.pow_succ] at h16; show u / 16 < 16 ^ (g + 1); omega, ?_⟩
    have e : hexL (g + 1) u = hexL g (u / 16) ++ [dgt (u % 16)] := by
      conv => lhs; unfold hexL
      rw [if_neg (by omega)]
    have e1 : 58 + (g + 1 - 1) = 57 + (g + 1) := by omega
    have e2 : 58 + (g + 1) = 57 + (g + 1) + 1 := by omega
    rw [hH, e, e1, e2, List.append_assoc]
    show hexL g (u / 16) ++ _ = hexL g (u / 16) ++ _
    congr 1
    rw [List.drop_eq_getElem_cons (i := 57 + (g + 1)) (by rw [List.length_set]; omega), List.getElem_set_self, List.drop_set_of_lt (by omega)]
    rfl
  · exfalso
    omega
theorem bit_end {n f u : Nat} {L : List UInt8} (hu : u < 16) (hL : L.length = 65) (hf : f ≤ 7) (hH : hexL 7 n = hexL f u ++ L.drop (58 + f)) :
    hexL 7 n = (L.set (57 + f) (dgt u)).drop (57 + f) := by
  have e : hexL f u = [dgt u] := by
    cases f with
    | zero => unfold hexL; rw [Nat.mod_eq_of_lt hu]
    | succ f => unfold hexL; rw [if_pos hu]
  have e2 : 58 + f = 57 + f + 1 := by omega
  rw [hH, e, e2, List.drop_eq_getElem_cons (i := 57 + f) (by rw [List.length_set]; omega), List.getElem_set_self, List.drop_set_of_lt (by omega)]
  rfl
/-- What the loop holds: the rest of the number, how many digits may still come, the array. -/
def BitRel (w : World) (n : Nat) (wr : World) (su si : Value) : Prop :=
  ∃ (u f : Nat) (L : List UInt8), su = .int .u64 u ∧ si = .int .i64 ((58 + f : Nat) : Int) ∧ f ≤ 7 ∧ L.length = 65 ∧ ByteRow w.heap.size L wr ∧ Ext w wr ∧ w.heap.size < wr.heap.size ∧ u < 16 ^ (f + 1) ∧ Hid (hexL 7 n = hexL f u ++ L.drop (58 + f))
theorem add_at (b o i : Nat) : (⟨b, o, none⟩ : Addr).add i = ⟨b, o + i, none⟩ := by unfold Addr.add; split <;> simp_all
theorem elem65 : Tryd.prog.elem 61 = 5 := by kernel_rfl
theorem len65 : Tryd.prog.arrayLen 61 = 65 := by kernel_rfl
theorem under65 : Tryd.prog.underlying 61 = some (.array (Tryd.prog.arrayLen 61) (Tryd.prog.elem 61)) := by kernel_rfl
theorem slice65 (b : Nat) {f : Nat} (hf : f ≤ 7) (W : World) : (Instr.sliceAt 61 (.pointer (some ⟨b, 0, none⟩)) (some (.int .i64 (58 + (f : Int) - 1))) none none).run Tryd.prog W = .ok (.slice (some ⟨b, 57 + f, none⟩) (8 - f) (8 - f)) W := by
  have h := run_sliceAt_array_l (P := Tryd.prog) W 61 ⟨b, 0, none⟩ under65 .i64 (58 + (f : Int) - 1) (by omega) (by rw [len65]; omega)
  rw [elem65, len65, Tryd.sizeOf5] at h
  rw [h]
  have e : (58 + (f : Int) - 1).toNat = 57 + f := by omega
  have e2 : ¬ 65 = 57 + f := by omega
  show Result.ok (slicedAt ⟨b, 0, none⟩ (58 + (f : Int) - 1).toNat 65 65 1) W = _
  rw [e]
  unfold slicedAt
  rw [if_neg e2]
  have e3 : (⟨b, 0, none⟩ : Addr).add ((57 + f) * 1) = ⟨b, 57 + f, none⟩ := by
    rw [Nat.mul_one, add_at, Nat.zero_add]
  have e4 : 65 - (57 + f) = 8 - f := by omega
  rw [e3, e4]
theorem hex_back {b n f : Nat} {L : List UInt8} {W : World} (h : ByteRow b L W) (hL : L.length = 65) (hf : f ≤ 7) (hH : hexL 7 n = L.drop (57 + f)) :
    (convert 54 9 (.slice (some ⟨b, 57 + f, none⟩) (8 - f) (8 - f))).run Tryd.prog W = .ok (.string ⟨⟨hexL 7 n⟩⟩) W := by
  have hl : (hexL 7 n).length = 8 - f := by rw [hH, List.length_drop]; omega
  have hc := run_convert_bytes_back (P := Tryd.prog) W 54 9 5 ⟨b, 57 + f, none⟩ (8 - f) (hexL 7 n) Tryd.underlying54 Tryd.underlying5 Tryd.underlying9 (fun j hj => by
    rw [add_at, h.cell (57 + f + j) (by omega)]
    have e : (hexL 7 n)[j]? = L[57 + f + j]? := by rw [hH, List.getElem?_drop]
    rw [List.getElem?_eq_getElem hj, List.getElem?_eq_getElem (by omega)] at e
    rw [Option.some.inj e])
  rw [hl] at hc
  exact hc
set_option maxRecDepth 100000 in
set_option maxHeartbeats 2000000 in
theorem bits_16 (n : Nat) (w : World) (hn : n < 4294967296) (hc : w.cell? ⟨3, 15, none⟩ = some (.int .u8 4)) :
    Calls Tryd.prog 35 #[.slice none 0 0, .int .u64 n, .int .i64 16, .bool false, .bool false] w fun e w' => e = .returned (.tuple #[.slice none 0 0, .string ⟨⟨hexL 7 n⟩⟩]) ∧ Ext w w' := by
  have hlt : 3 < w.heap.size := by
    unfold World.cell? at hc
    apply Classical.byContradiction
    intro hn
    rw [Array.getElem?_eq_none (by show w.heap.size ≤ 3; omega)] at hc
    simp at hc
  have HC := Lib.hid hc
  clear hc
  have hz := zero65
  go_enter Tryd.func35, Tryd.ntmps35
  go_wp2_with (first
    | (go_at_call 39; refine (pow_16 _).mono ?_; rintro e w' ⟨rfl, rfl⟩)
    | (go_at_call 40; refine (tz_16 _ (((Below.refl _ _).alloc (Nat.le_refl _) _).cell (p := ⟨3, 15, none⟩) hlt |>.trans HC.out)).mono ?_; rintro e w' ⟨rfl, rfl⟩))
  have hrow := row65 w 61
  go_loopw [1, 13] (fun su si wr => BitRel w n wr su si) (fun su si _ => (intOf si).toNat)
  case atStart => exact ⟨n, 7, List.replicate 65 0, rfl, rfl, by omega, by simp, hrow, (Below.refl _ _).alloc (Nat.le_refl _) _, by simp, by show n < 16 ^ 8; omega, Lib.hid (by simp)⟩
  case round =>
    obtain ⟨u, f, L, rfl, rfl, hf, hL, hR, hx, hsz, hu, hH⟩ := hrel
    have h16 := Nat.pow_le_pow_right (n := 16) (by omega) (show f + 1 ≤ 8 by omega)
    have hu64 : u < 18446744073709551616 := by
      have : (16 : Nat) ^ 8 = 4294967296 := by decide
      omega
    have hand := and15 u hu64
    have HU := Lib.hid hu
    have HU6 := Lib.hid hu64
    clear h16 hu hu64
    have hcell := hR.cell (57 + f) (by omega)
    have hfree := hR.free (57 + f) (by omega)
    obtain ⟨old, hold⟩ : ∃ old : UInt8, L[57 + f]'(by omega) = old := ⟨_, rfl⟩
    rw [hold] at hcell
    clear hold
    by_cases hge : 16 ≤ u
    · have hdg := digit_at (u % 16) (by omega)
      have hf1 : 1 ≤ f := by
        apply Classical.byContradiction
        intro hf0
        have h0 : f = 0 := by omega
        have := HU.out
        rw [h0] at this
        omega
      have HB := Lib.hid (bit_step (n := n) (f := f) (u := u) (L := L) hf1 hf hge hL HU.out hH.out)
      go_wp2_with fail
      go_roundw
      case rel => exact ⟨u / 16, f - 1, L.set (57 + f) (dgt (u % 16)), rfl, int_eq (by omega), by omega, by rw [List.length_set]; exact hL, hR.set (57 + f) (dgt (u % 16)), hx.setCell (by simp) _, by rw [setCell_size]; exact hsz, HB.out.1, Lib.hid HB.out.2⟩
      case measure => simp [intOf]; omega
    · have hdg := digit_at u (by omega)
      have hlt16 : u < 16 := by omega
      have HB := Lib.hid (bit_end (n := n) (f := f) (u := u) (L := L) hlt16 hL hf hH.out)
      have hR2 := hR.set (57 + f) (dgt u)
      have hconv := hex_back hR2 (by rw [List.length_set]; exact hL) hf HB.out
      have hsl := slice65 w.heap.size hf
      go_wp2_with fail
      go_ret2
      exact ⟨rfl, hx.setCell (by simp) _⟩
set_option maxHeartbeats 1000000 in
theorem fmt_16 (n : Nat) (w : World) (hn : n < 4294967296) (hc : w.cell? ⟨3, 15, none⟩ = some (.int .u8 4)) :
    Calls Tryd.prog 25 #[.int .u64 n, .int .i64 16] w fun e w' => e = .returned (.string ⟨⟨hexL 7 n⟩⟩) ∧ Ext w w' := by
  have HC := Lib.hid hc
  clear hc
  go_enter Tryd.func25, Tryd.ntmps25
  go_wp2_with fail
  refine (bits_16 n _ hn HC.out).mono ?_
  rintro e w1 ⟨rfl, x1⟩
  go_wp2_with fail
  go_ret
  exact ⟨rfl, x1⟩
end Go.Proofs.YtlhbofekochhkaaDoor
