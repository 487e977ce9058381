/-
  What is proved: the first blank of any text: strings.IndexAny; texts without blanks at their front, at both ends: strings.TrimLeft, strings.Trim: contracts. Condition: texts of less than 100000 bytes.
-/
import Derived.Test.YtbolajljfkjfaaaDoorRawI
namespace Go.Proofs.YtbolajljfkjfaaaDoor
open Go.RowKit

theorem indexRune_any (r : Nat) (hv : Utf8.valid (r : Int) = true) (h : 128 ≤ r) (w : World) :
    Calls Tryd.prog 58 #[.string ⟨⟨[9, 10, 12, 32]⟩⟩, .int .i32 (r : Int)] w fun e w' => e = .returned (.int .i64 (-1)) ∧ Ext w w' := by
  by_cases hb : r = 65533
  · exact indexRune_bad (r : Int) (by omega) w
  · exact indexRune_high r hv h hb w
theorem indexRune_low (c : UInt8) (h : c.toNat < 128) (w : World) :
    Calls Tryd.prog 58 #[.string ⟨⟨[9, 10, 12, 32]⟩⟩, .int .i32 (c.toNat : Int)] w fun e w' => e = .returned (.int .i64 (Lib.indexByte [9, 10, 12, 32] c)) ∧ w = w' := by
  refine (Any.strings_IndexRune_ascii { Tryd.lays153 with } ⟨⟨[9, 10, 12, 32]⟩⟩ (c.toNat : Int) w (by omega) (by omega)).mono ?_
  rintro e w' ⟨rfl, rfl⟩
  have e1 : ((c.toNat : Int)).toNat.toUInt8 = c := by simp
  exact ⟨by rw [e1], rfl⟩
set_option maxRecDepth 100000 in
set_option maxHeartbeats 4000000 in
theorem indexAny_short (l : List UInt8) (w : World) (h8 : l.length ≤ 8) :
    Calls Tryd.prog 36 #[.string ⟨⟨l⟩⟩, .string ⟨⟨[9, 10, 12, 32]⟩⟩] w fun e w' => e = .returned (.int .i64 (anyI l)) ∧ Ext w w' := by
  have h8z : decide ((8 : Int) < (l.length : Int)) = false := decide_eq_false (by omega)
  go_enter Tryd.func36, Tryd.ntmps36
  go_wp2_with (go_at_call 59; go_in)
  go_loopw [9, 10] (fun _ _ wr => ∃ k : Nat, k ≤ l.length ∧ wr.heap[w.heap.size]? = some (.stringIter ⟨⟨l⟩⟩ k) ∧ Below w.heap.size w wr ∧ Hid (∀ j (hj : j < l.length), j < k → blankB l[j] = false)) (fun _ _ wr => l.length - wr.iterPos w.heap.size)
  case atStart => exact ⟨0, by omega, World.iter_heap _ _ _, (Below.refl _ _).alloc (Nat.le_refl _) _, Lib.hid (fun j _ hj => by omega)⟩
  case round =>
    obtain ⟨k, hk, hit, hx, HN⟩ := hrel
    have hsz : w.heap.size < _ := (Array.getElem?_eq_some_iff.1 hit).1
    by_cases hlt : k < l.length
    · by_cases hasc : (l[k]).toNat < 128
      · have hnx := fun ty => Lib.run_next_ascii_at (P := Tryd.prog) _ w.heap.size ⟨⟨l⟩⟩ k ty hit hlt hasc
        have hn2 := Lib.iterAt_heap _ _ _ _ (k + 1) hit
        have hbel := Lib.below_iterAt hx (Nat.le_refl _) ⟨⟨l⟩⟩ (k + 1)
        have hszi := Lib.iterAt_size wr w.heap.size ⟨⟨l⟩⟩ (k + 1)
        obtain ⟨c, hc⟩ : ∃ c, l[k] = c := ⟨_, rfl⟩
        have hgc : (ByteArray.mk ⟨l⟩)[k]'hlt = c := hc
        rw [hgc] at hnx
        have hge := indexByte_nonneg [9, 10, 12, 32] c
        rw [blank_contains] at hge
        have hcl : c.toNat < 128 := by rw [← hc]; exact hasc
        have ci := fun W => indexRune_low c hcl W
        obtain ⟨z, hz⟩ : ∃ z, Lib.indexByte [9, 10, 12, 32] c = z := ⟨_, rfl⟩
        rw [hz] at ci hge
        cases hb : blankB c with
        | true =>
          rw [hb] at hge
          have hz0 : 0 ≤ z := of_decide_eq_true hge
          have HF : Hid (anyI l = k) := Lib.hid (anyI_hit HN.out hlt (by rw [hc]; exact hb))
          clear hge hz hb hgc hc hasc hcl hn2 hszi
          go_wp2_with (go_at_call 58; refine (ci _).mono ?_; rintro e w2 ⟨rfl, rfl⟩)
          go_ret
          exact ⟨ret_inj (int_eq HF.out.symm), hbel⟩
        | false =>
          rw [hb] at hge
          have hz0 : ¬ 0 ≤ z := of_decide_eq_false hge
          have HF : Hid (∀ j (hj : j < l.length), j < k + 1 → blankB l[j] = false) := Lib.hid (fun j hj hjk => by
            by_cases e : j = k
            · subst e; rw [hc]; exact hb
            · exact HN.out j hj (by omega))
          clear hge hz hb hgc hc hasc hcl
          go_wp2_with (go_at_call 58; refine (ci _).mono ?_; rintro e w2 ⟨rfl, rfl⟩)
          go_roundw
          case rel => ((repeat apply Exists.intro); exact ⟨⟨k + 1, by omega, hn2, hbel, HF⟩, rfl⟩)
          case measure => simp [World.iterPos, hn2, hit]; omega
      · have hnx := fun ty => Lib.run_next_any_at (P := Tryd.prog) _ w.heap.size ⟨⟨l⟩⟩ k ty hit hlt
        obtain ⟨d1, d2, d3, d4, d5⟩ := dec_high l k hlt (by omega)
        obtain ⟨r, d, hd⟩ : ∃ r d, Utf8.decode ⟨⟨l⟩⟩ k = (r, d) := ⟨_, _, rfl⟩
        rw [hd] at hnx d1 d2 d3 d4 d5
        dsimp only at hnx d1 d2 d3 d4 d5
        have hn2 := Lib.iterAt_heap _ _ _ _ (k + d) hit
        have hbel := Lib.below_iterAt hx (Nat.le_refl _) ⟨⟨l⟩⟩ (k + d)
        have hszi := Lib.iterAt_size wr w.heap.size ⟨⟨l⟩⟩ (k + d)
        have ci := fun W => indexRune_any r d1 d2 W
        have HF : Hid (∀ j (hj : j < l.length), j < k + d → blankB l[j] = false) := Lib.hid (fun j hj hjk => by
          by_cases e : j < k
          · exact HN.out j hj e
          · obtain ⟨m, rfl⟩ : ∃ m, j = k + m := ⟨j - k, by omega⟩
            exact blank_low (d5 m (by omega) hj))
        clear hd d1 d2 d5 hasc
        go_wp2_with (go_at_call 58; refine (ci _).mono ?_; rintro e w2 ⟨rfl, x2⟩; have hn3 := (x2.block w.heap.size (by rw [hszi]; exact hsz)).trans hn2; have hbe2 := Below.trans hbel (x2.mono (by rw [hszi]; omega)))
        go_roundw
        case rel => ((repeat apply Exists.intro); exact ⟨⟨k + d, by omega, hn3, hbe2, HF⟩, rfl⟩)
        case measure => simp [World.iterPos, hn3, hit]; omega
    · obtain rfl : k = l.length := by omega
      have hnx := fun ty => Lib.run_next_end_at (P := Tryd.prog) _ w.heap.size ⟨⟨l⟩⟩ l.length ty hit (by show ¬ l.length < l.length; omega)
      have HF : Hid (anyI l = -1) := Lib.hid (anyI_none (fun j hj => HN.out j hj hj))
      go_wp2_with fail
      go_ret
      exact ⟨ret_inj (int_eq HF.out.symm), hx⟩
theorem indexAny_any (l : List UInt8) (w : World) (hl : l.length < 100000) :
    Calls Tryd.prog 36 #[.string ⟨⟨l⟩⟩, .string ⟨⟨[9, 10, 12, 32]⟩⟩] w fun e w' => e = .returned (.int .i64 (anyI l)) ∧ Ext w w' := by
  by_cases h8 : l.length ≤ 8
  · exact indexAny_short l w h8
  · have h116 := zero_of_info (P := Tryd.prog) (t := Tryd.lays153_ren.t 116) (v := .agg (Array.replicate 256 (.bool false))) (n := 256) (by kernel_rfl)
    refine (Any.strings_IndexAny_long Tryd.lays153 h116.1 h116.2 ⟨⟨l⟩⟩ ⟨⟨[9, 10, 12, 32]⟩⟩ w (by decide) (by show 8 < l.length; omega) (by show l.length < _; omega) (by decide) (Go.Proofs.ascii_of_all (by decide))).mono ?_
    rintro e w' ⟨rfl, rfl⟩
    refine ⟨ret_inj (int_eq ?_), ((Below.refl _ _).alloc (Nat.le_refl _) _).alloc (by simp) _⟩
    exact anyI_lib l
theorem trimLeft_any (l : List UInt8) (w : World) :
    Calls Tryd.prog 35 #[.string ⟨⟨l⟩⟩, .string ⟨⟨[9, 10, 12, 32]⟩⟩] w fun e w' => e = .returned (.string ⟨⟨skipB l⟩⟩) ∧ Ext w w' := by
  refine (Go.Proofs.Any.strings_TrimLeft_laid Tryd.lays161 (by kernel_rfl) ⟨⟨l⟩⟩ ⟨⟨[9, 10, 12, 32]⟩⟩ w (by decide) (Go.Proofs.ascii_of_all (by decide))).mono ?_
  rintro e w' ⟨rfl, hb⟩
  refine ⟨ret_inj (str_eq ?_), hb⟩
  have e1 : (fun c => ([9, 10, 12, 32] : List UInt8).contains c) = blankB := funext blank_contains
  show Lib.trimLeftS l [9, 10, 12, 32] = skipB l
  unfold Lib.trimLeftS skipB
  rw [e1]
/-- A text without blanks around it. -/
def trimB (l : List UInt8) : List UInt8 := Lib.trimS l [9, 10, 12, 32]
theorem trim_any (l : List UInt8) (w : World) (hl : l.length < 100000) :
    Calls Tryd.prog 37 #[.string ⟨⟨l⟩⟩, .string ⟨⟨[9, 10, 12, 32]⟩⟩] w fun e w' => e = .returned (.string ⟨⟨trimB l⟩⟩) ∧ Ext w w' := by
  refine (Go.Proofs.Any.strings_Trim_laid Tryd.lays160 (by kernel_rfl) ⟨⟨l⟩⟩ ⟨⟨[9, 10, 12, 32]⟩⟩ w (by show l.length ≤ _; omega) (by decide) (Go.Proofs.ascii_of_all (by decide))).mono ?_
  rintro e w' ⟨rfl, hb⟩
  exact ⟨rfl, hb⟩
/-- What is left between blanks is nothing if all are blanks. -/
theorem trimB_nil (l : List UInt8) : (trimB l == []) = (skipB l == []) := by
  have e1 : (fun c => ([9, 10, 12, 32] : List UInt8).contains c) = blankB := funext blank_contains
  unfold trimB Lib.trimS Lib.trimLeftS Lib.trimRightS skipB
  rw [e1, Bool.eq_iff_iff]
  simp only [beq_iff_eq]
  have key : ∀ x : List UInt8, x.dropWhile blankB = [] ↔ ∀ c ∈ x, blankB c = true := by
    intro x
    induction x with
    | nil => simp
    | cons c x ih =>
      rw [List.dropWhile_cons]
      cases hc : blankB c with
      | true => simp [ih, hc]
      | false => simp [hc]
  rw [key, key]
  constructor
  · intro h c hc
    have e := List.takeWhile_append_dropWhile (p := blankB) (l := l.reverse)
    have hm : c ∈ l.reverse.takeWhile blankB ++ l.reverse.dropWhile blankB := by rw [e]; simpa using hc
    rcases List.mem_append.1 hm with h1 | h1
    · exact List.all_eq_true.1 (List.all_takeWhile (p := blankB) (l := l.reverse)) c h1
    · exact h c (by simpa using h1)
  · intro h c hc
    have hs : c ∈ l.reverse.dropWhile blankB := by simpa using hc
    exact h c (by simpa using (List.dropWhile_sublist blankB).subset hs)
end Go.Proofs.YtbolajljfkjfaaaDoor
