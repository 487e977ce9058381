/-
  What is proved: the law's letters of a list of bytes: a contract. Condition: a list that fits.
-/
import Derived.Test.YtkofccabfkkgjaaDoorTruN
namespace Go.Proofs.YtkofccabfkkgjaaDoor
open Go.RowKit

theorem letters_step {l : List UInt8} {k : Nat} (h : k < l.length) (h30 : k < 30) : 116 :: ((l.take (k + 1)).map letC) = (116 :: (l.take k).map letC) ++ [letC l[k]] := by
  rw [List.take_succ_eq_append_getElem h, List.map_append]
  rfl
theorem conv_one (w : World) (c : UInt8) (n : Int) (hn : n = (c.toNat : Int)) : (convert 48 9 (.slice (some ⟨w.heap.size, 0, none⟩) 1 1)).run Tryd.prog (w.alloc (.cells #[.int .u8 n] 5)) = .ok (.string ⟨⟨[c]⟩⟩) (w.alloc (.cells #[.int .u8 n] 5)) := by
  subst hn
  refine run_convert_bytes_back _ 48 9 5 ⟨w.heap.size, 0, none⟩ 1 [c] Tryd.underlying48 Tryd.underlying5 Tryd.underlying9 fun j hj => ?_
  have hj : j < 1 := hj
  obtain rfl : j = 0 := by omega
  exact cells_of_lit (heap_alloc_new w _) 0
set_option maxHeartbeats 4000000 in
theorem letters_any (v : Value) (l : List UInt8) (w : World) (H : BytesAt w v l) :
    Calls Tryd.prog 29 #[v] w fun e w' => e = .returned (.string ⟨⟨lettersL l⟩⟩) ∧ Ext w w' := by
  obtain ⟨a, cap, rfl, hm, h4⟩ := H
  have hcells : ∀ k (hk : k < l.length), ∃ b off, a = some ⟨b, off, none⟩ ∧ b < w.heap.size ∧ w.cell? ⟨b, off + k, none⟩ = some (.int .u8 l[k].toNat) := by
    intro k hk
    rcases h4 with h | ⟨b, off, e, hb, h2⟩
    · subst h; simp at hk
    · exact ⟨b, off, e, hb, h2 k hk⟩
  have HC := Lib.hid hcells
  unfold maxLen at hm
  clear hcells h4
  go_enter Tryd.func29, Tryd.ntmps29
  go_wp2_with fail
  go_loopw [3, 4] (fun s i wr => ∃ (k : Nat) (t : List UInt8), i = .int .i64 k ∧ k ≤ l.length ∧ k ≤ 30 ∧ s = .string ⟨⟨t⟩⟩ ∧ Hid (t = 116 :: (l.take k).map letC) ∧ Ext w wr) (fun _ i _ => l.length - (intOf i).toNat)
  case atStart => exact ⟨0, _, rfl, by omega, by omega, rfl, Lib.hid rfl, Ext.refl _⟩
  case round =>
    obtain ⟨k, t, rfl, hk, hk30, rfl, HT, hx⟩ := hrel
    have htl : t.length ≤ 31 := by rw [HT.out]; simp; omega
    by_cases hlt : k < l.length
    · by_cases h30 : k < 30
      · obtain ⟨b, off, rfl, hb, c1⟩ := HC.out k hlt
        have c1 := (hx.cell (p := ⟨b, off + k, none⟩) hb).trans c1
        obtain ⟨x, hxx⟩ : ∃ x, l[k] = x := ⟨_, rfl⟩
        have HS := Lib.hid (letters_step hlt h30)
        rw [hxx] at c1 HS
        have hxl := x.toNat_lt
        have k0 : (0 : Int) ≤ (k : Int) := by omega
        have k1 : (k : Int) < (l.length : Int) := by omega
        have hconv := conv_one wr (letC x) (97 + (x.toNat : Int) % 26) (by rw [letC_nat]; omega)
        clear hxx
        go_wp2_with fail
        go_roundw
        case rel => exact ⟨k + 1, _, by go_num, by omega, by omega, rfl, Lib.hid (by rw [HS.out, ← HT.out]), hx.alloc hx.size _⟩
        case measure => simp [intOf]; omega
      · have e : k = 30 := by omega
        have HF : Hid (t = lettersL l) := Lib.hid (by rw [HT.out, e]; rfl)
        have h30' : (30 : Int) ≤ (k : Int) := by omega
        clear e
        go_wp2_with fail
        go_ret
        exact ⟨ret_inj (str_eq HF.out), hx⟩
    · obtain rfl : k = l.length := by omega
      have HF : Hid (t = lettersL l) := Lib.hid (by
        rw [HT.out]
        unfold lettersL
        rw [List.take_length, List.take_of_length_le hk30])
      go_wp2_with fail
      go_ret
      exact ⟨ret_inj (str_eq HF.out), hx⟩
end Go.Proofs.YtkofccabfkkgjaaDoor
