/-
  What is proved: the part with which a text begins, in the program: a contract. Condition: the program's table holds what its text lays.
-/
import Derived.Test.YthcbkgiphfgbcaaDoorTxtU
import Derived.Test.YthcbkgiphfgbcaaDoorRows
import Derived.Laws.Rows
import Derived.Deep.QuietTactic
import Derived.BigQuiet
namespace Go.Proofs.YthcbkgiphfgbcaaDoor
open Go.RowKit

structure Lead where
  fr : UInt8
  to : UInt8
  more : Nat
  lo : UInt8
  hi : UInt8
def leadL : List Lead := [⟨0xc2, 0xdf, 1, 0x80, 0xbf⟩, ⟨0xe0, 0xe0, 2, 0xa0, 0xbf⟩, ⟨0xe1, 0xec, 2, 0x80, 0xbf⟩, ⟨0xed, 0xed, 2, 0x80, 0x9f⟩, ⟨0xee, 0xef, 2, 0x80, 0xbf⟩, ⟨0xf0, 0xf0, 3, 0x90, 0xbf⟩, ⟨0xf1, 0xf3, 3, 0x80, 0xbf⟩, ⟨0xf4, 0xf4, 3, 0x80, 0x8f⟩]
def leadV (x : Lead) : Array Value := #[.int .u8 x.fr.toNat, .int .u8 x.to.toNat, .int .i64 x.more, .int .u8 x.lo.toNat, .int .u8 x.hi.toNat]
def leadC : Array Value := ⟨leadL.flatMap fun x => (leadV x).toList⟩
/-- The table as the package lays it. -/
def LeadsIs (w : World) : Prop := ∃ t fr, w.heap[0]? = some (.cells leadC t fr)
theorem LeadsIs.ext {w w' : World} (h : LeadsIs w) (k : Below w.heap.size w w') : LeadsIs w' := by
  obtain ⟨t, fr, h⟩ := h
  have hlt : 0 < w.heap.size := (Array.getElem?_eq_some_iff.1 h).1
  exact ⟨t, fr, (k.block _ hlt).trans h⟩
def inRow (c : UInt8) (x : Lead) : Bool := x.fr ≤ c && c ≤ x.to
theorem row_find (c : UInt8) : ldRow c = (leadL.find? (inRow c)).map fun x => (x.more, x.lo, x.hi) := by
  have key : (List.range 256).all (fun n => decide (ldRow (UInt8.ofNat n) = (leadL.find? (inRow (UInt8.ofNat n))).map fun x => (x.more, x.lo, x.hi))) = true := by decide +kernel
  have := u8 (fun c => decide (ldRow c = (leadL.find? (inRow c)).map fun x => (x.more, x.lo, x.hi))) key c
  simpa using this
theorem index_lead0 : ∀ w : World, (Instr.index 45 (.agg leadC) (.int .i64 0)).run Tryd.prog w = .ok (.agg (leadV ⟨0xc2, 0xdf, 1, 0x80, 0xbf⟩)) w := fun _ => by kernel_rfl
theorem index_lead1 : ∀ w : World, (Instr.index 45 (.agg leadC) (.int .i64 1)).run Tryd.prog w = .ok (.agg (leadV ⟨0xe0, 0xe0, 2, 0xa0, 0xbf⟩)) w := fun _ => by kernel_rfl
theorem index_lead2 : ∀ w : World, (Instr.index 45 (.agg leadC) (.int .i64 2)).run Tryd.prog w = .ok (.agg (leadV ⟨0xe1, 0xec, 2, 0x80, 0xbf⟩)) w := fun _ => by kernel_rfl
theorem index_lead3 : ∀ w : World, (Instr.index 45 (.agg leadC) (.int .i64 3)).run Tryd.prog w = .ok (.agg (leadV ⟨0xed, 0xed, 2, 0x80, 0x9f⟩)) w := fun _ => by kernel_rfl
theorem index_lead4 : ∀ w : World, (Instr.index 45 (.agg leadC) (.int .i64 4)).run Tryd.prog w = .ok (.agg (leadV ⟨0xee, 0xef, 2, 0x80, 0xbf⟩)) w := fun _ => by kernel_rfl
theorem index_lead5 : ∀ w : World, (Instr.index 45 (.agg leadC) (.int .i64 5)).run Tryd.prog w = .ok (.agg (leadV ⟨0xf0, 0xf0, 3, 0x90, 0xbf⟩)) w := fun _ => by kernel_rfl
theorem index_lead6 : ∀ w : World, (Instr.index 45 (.agg leadC) (.int .i64 6)).run Tryd.prog w = .ok (.agg (leadV ⟨0xf1, 0xf3, 3, 0x80, 0xbf⟩)) w := fun _ => by kernel_rfl
theorem index_lead7 : ∀ w : World, (Instr.index 45 (.agg leadC) (.int .i64 7)).run Tryd.prog w = .ok (.agg (leadV ⟨0xf4, 0xf4, 3, 0x80, 0x8f⟩)) w := fun _ => by kernel_rfl
theorem index_lead {i : Nat} {x : Lead} (h : leadL[i]? = some x) (w : World) : (Instr.index 45 (.agg leadC) (.int .i64 i)).run Tryd.prog w = .ok (.agg (leadV x)) w := by
  have hi : i < 8 := (List.getElem?_eq_some_iff.1 h).1
  have hc : i = 0 ∨ i = 1 ∨ i = 2 ∨ i = 3 ∨ i = 4 ∨ i = 5 ∨ i = 6 ∨ i = 7 := by omega
  rcases hc with rfl | rfl | rfl | rfl | rfl | rfl | rfl | rfl
  · obtain rfl := Option.some.inj h; exact index_lead0 w
  · obtain rfl := Option.some.inj h; exact index_lead1 w
  · obtain rfl := Option.some.inj h; exact index_lead2 w
  · obtain rfl := Option.some.inj h; exact index_lead3 w
  · obtain rfl := Option.some.inj h; exact index_lead4 w
  · obtain rfl := Option.some.inj h; exact index_lead5 w
  · obtain rfl := Option.some.inj h; exact index_lead6 w
  · obtain rfl := Option.some.inj h; exact index_lead7 w
theorem lead_small {i : Nat} {x : Lead} (h : leadL[i]? = some x) : 1 ≤ x.more ∧ x.more ≤ 3 := by
  have key : leadL.all (fun x => decide (1 ≤ x.more) && decide (x.more ≤ 3)) = true := by decide +kernel
  have := List.all_eq_true.1 key x (List.mem_of_getElem? h)
  simpa using this
theorem partK_in {lo hi : UInt8} {m k : Nat} {t : List UInt8} (h : k < m) (hk : k < t.length) (h1 : lo.toNat ≤ t[k].toNat) (h2 : t[k].toNat ≤ hi.toNat) : partK lo hi (m - k) (t.drop k) k = partK 0x80 0xbf (m - (k + 1)) (t.drop (k + 1)) (k + 1) := by
  have e : m - k = m - (k + 1) + 1 := by omega
  rw [e, List.drop_eq_getElem_cons hk]
  conv => lhs; unfold partK
  rw [if_pos (by simp only [Bool.and_eq_true, decide_eq_true_eq, UInt8.le_iff_toNat_le]; exact ⟨h1, h2⟩)]
theorem partK_out {lo hi : UInt8} {m k : Nat} {t : List UInt8} (h : k < m) (hk : k < t.length) (h1 : ¬ (lo.toNat ≤ t[k].toNat ∧ t[k].toNat ≤ hi.toNat)) : partK lo hi (m - k) (t.drop k) k = (k + 1, false) := by
  have e : m - k = m - (k + 1) + 1 := by omega
  rw [e, List.drop_eq_getElem_cons hk]
  conv => lhs; unfold partK
  rw [if_neg (by simp only [Bool.and_eq_true, decide_eq_true_eq, UInt8.le_iff_toNat_le]; exact h1)]
theorem partK_nil {lo hi : UInt8} {m k : Nat} {t : List UInt8} (h : k < m) (hk : t.length ≤ k) : partK lo hi (m - k) (t.drop k) k = (k + 1, false) := by
  have e : m - k = m - (k + 1) + 1 := by omega
  rw [e, List.drop_eq_nil_of_le hk]
  rfl
theorem partK_end {lo hi : UInt8} {m k : Nat} {t : List UInt8} (h : m ≤ k) : partK lo hi (m - k) (t.drop k) k = (k + 1, true) := by
  have e : m - k = 0 := by omega
  rw [e]
  rfl
theorem no_more {c : UInt8} {i : Nat} {x : Lead} (h : ∀ j x, j < i → leadL[j]? = some x → inRow c x = false) (hx : leadL[i]? = some x) (hr : inRow c x = false) : ∀ j x, j < i + 1 → leadL[j]? = some x → inRow c x = false := by
  intro j y hj hy
  by_cases e : j = i
  · subst e; rw [hx] at hy; cases hy; exact hr
  · exact h j y (by omega) hy
theorem row_at {c : UInt8} {i : Nat} {x : Lead} (h : ∀ j x, j < i → leadL[j]? = some x → inRow c x = false) (hx : leadL[i]? = some x) (hr : inRow c x = true) : ldRow c = some (x.more, x.lo, x.hi) := by
  have hf : leadL.find? (inRow c) = some x := by
    rw [List.find?_eq_some_iff_getElem]
    obtain ⟨hi, e⟩ := List.getElem?_eq_some_iff.1 hx
    exact ⟨hr, i, hi, e, fun j hj => by rw [h j _ hj (List.getElem?_eq_getElem (by omega))]; rfl⟩
  rw [row_find, hf]
  rfl
theorem row_none {c : UInt8} (h : ∀ j x, j < 8 → leadL[j]? = some x → inRow c x = false) : ldRow c = none := by
  have hf : leadL.find? (inRow c) = none := by
    rw [List.find?_eq_none]
    intro x hx
    obtain ⟨j, hj, e⟩ := List.getElem_of_mem hx
    have := h j x hj (by rw [List.getElem?_eq_getElem hj, e])
    rw [this]
    simp
  rw [row_find, hf]
  rfl
def InRel (x : Lead) (t : List UInt8) (s6 s7 s34 : Value) : Prop :=
  ∃ (lo hi : UInt8) (k : Nat), s6 = .int .u8 lo.toNat ∧ s7 = .int .u8 hi.toNat ∧ s34 = .int .i64 k ∧ k ≤ x.more ∧ k ≤ t.length ∧ Hid (partK x.lo x.hi x.more t 0 = partK lo hi (x.more - k) (t.drop k) k)
def PartRes (l : List UInt8) (w : World) (e : Ending) (w' : World) : Prop := e = .returned (.tuple #[.int .i64 (partB l).1, .bool (partB l).2]) ∧ Ext w w'
theorem part_low (c : UInt8) (t : List UInt8) (w : World) (h : c < 0x80) : Calls Tryd.prog 14 #[.string ⟨⟨c :: t⟩⟩] w (PartRes (c :: t) w) := by
  have hc : (c.toNat : Int) < 128 := by
    have := UInt8.lt_iff_toNat_lt.1 h
    have h2 : (0x80 : UInt8).toNat = 128 := rfl
    omega
  unfold PartRes
  rw [partB_low t h]
  go_enter Tryd.func14, Tryd.ntmps14
  go_wp2_with fail
  go_ret2
  exact ⟨rfl, Ext.refl _⟩
set_option maxRecDepth 100000 in
set_option maxHeartbeats 2000000 in
theorem part_high (c : UInt8) (t : List UInt8) (w : World) (h : ¬ c < 0x80) (hl : t.length < 100000) (hw : LeadsIs w) : Calls Tryd.prog 14 #[.string ⟨⟨c :: t⟩⟩] w (PartRes (c :: t) w) := by
  have hc : (128 : Int) ≤ (c.toNat : Int) := by
    have h2 : (0x80 : UInt8).toNat = 128 := rfl
    simp only [UInt8.lt_iff_toNat_lt] at h
    omega
  have HH := Lib.hid h
  obtain ⟨gt, gf, hg⟩ := hw
  have HG := Lib.hid hg
  clear h hg
  go_enter Tryd.func14, Tryd.ntmps14
  go_wp2_with (refine wpList_load_row rfl 45 _ rfl 0 rfl gt leadC gf _ HG.out Tryd.underlying45 rfl (by kernel_rfl) ?_)
  go_loopw [13] (fun si wr => ∃ i : Nat, si = .int .i64 i ∧ i ≤ 8 ∧ (∀ j x, j < i → leadL[j]? = some x → inRow c x = false) ∧ Ext w wr) (fun si _ => 8 - (intOf si).toNat)
  case atStart => exact ⟨0, rfl, by omega, fun j x hj => by omega, Ext.refl _⟩
  case round =>
    obtain ⟨i, rfl, hi, hno, hx⟩ := hrel
    have HN := Lib.hid hno
    clear hno
    by_cases hi8 : i < 8
    · obtain ⟨x, hxi⟩ : ∃ x, leadL[i]? = some x := ⟨_, List.getElem?_eq_getElem hi8⟩
      have hrun := index_lead hxi
      obtain ⟨hm1, hm2⟩ := lead_small hxi
      have HX := Lib.hid hxi
      unfold leadV at hrun
      have hb8 : decide ((i : Int) < 8) = true := by rw [decide_eq_true_eq]; omega
      clear hxi
      have hin : inRow c x = (decide (x.fr.toNat ≤ c.toNat) && decide (c.toNat ≤ x.to.toNat)) := rfl
      by_cases h1 : c.toNat < x.fr.toNat
      · have b1 : decide ((c.toNat : Int) < x.fr.toNat) = true := by rw [decide_eq_true_eq]; omega
        have b2 : decide (c.toNat < x.fr.toNat) = true := by rw [decide_eq_true_eq]; omega
        have HR : Hid (inRow c x = false) := Lib.hid (by rw [hin, decide_eq_false (by omega)]; rfl)
        clear hin h1
        go_wp2_with fail
        go_quiet (fail)
        go_wp2_with fail
        go_roundw
        case rel => exact ⟨i + 1, by go_num, by omega, no_more HN.out HX.out HR.out, Ext.trans hx (below_drewN ((Below.refl _ _).alloc (Nat.le_refl _) _) _)⟩
        case measure => simp [intOf]; omega
      · have b1 : decide ((c.toNat : Int) < x.fr.toNat) = false := by rw [decide_eq_false_iff_not]; omega
        have b2 : decide (c.toNat < x.fr.toNat) = false := by rw [decide_eq_false_iff_not]; omega
        by_cases h2 : x.to.toNat < c.toNat
        · have b3 : decide ((x.to.toNat : Int) < c.toNat) = true := by rw [decide_eq_true_eq]; omega
          have b4 : decide (x.to.toNat < c.toNat) = true := by rw [decide_eq_true_eq]; omega
          have HR : Hid (inRow c x = false) := Lib.hid (by rw [hin, decide_eq_false (p := c.toNat ≤ x.to.toNat) (by omega), Bool.and_false])
          clear hin h1 h2
          go_wp2_with fail
          go_quiet (fail)
          go_wp2_with fail
          go_roundw
          case rel => exact ⟨i + 1, by go_num, by omega, no_more HN.out HX.out HR.out, Ext.trans hx (below_drewN ((Below.refl _ _).alloc (Nat.le_refl _) _) _)⟩
          case measure => simp [intOf]; omega
        · have b3 : decide ((x.to.toNat : Int) < c.toNat) = false := by rw [decide_eq_false_iff_not]; omega
          have b4 : decide (x.to.toNat < c.toNat) = false := by rw [decide_eq_false_iff_not]; omega
          have hr2 : inRow c x = true := by rw [hin, decide_eq_true (by omega), decide_eq_true (by omega)]; rfl
          have HP := Lib.hid (partB_row t HH.out (row_at HN.out HX.out hr2))
          clear hin h1 h2 hr2
          go_wp2_with fail
          go_quiet (fail)
          go_wp2_with fail
          go_quiet (fail)
          go_wp2_with fail
          go_loop [6, 7, 34] (fun s6 s7 s34 => InRel x t s6 s7 s34) (fun _ _ s34 => x.more - (intOf s34).toNat)
          case atStart => exact ⟨x.lo, x.hi, 0, rfl, rfl, rfl, by omega, by omega, Lib.hid rfl⟩
          case round =>
            obtain ⟨lo, hi', k, rfl, rfl, rfl, hk, hkt, hK⟩ := hrel
            by_cases hkm : k < x.more
            · by_cases hkl : k < t.length
              · have hkb : (((k : Int) + 1) == ((t.length : Int) + 1)) = false := by rw [beq_eq_false_iff_ne]; omega
                by_cases hin : lo.toNat ≤ t[k].toNat ∧ t[k].toNat ≤ hi'.toNat
                · obtain ⟨q1, q2⟩ := hin
                  have hKn := Lib.hid (hK.out.trans (partK_in hkm hkl q1 q2))
                  go_wp2_with fail
                  go_round
                  case rel => exact ⟨0x80, 0xbf, k + 1, rfl, rfl, by go_num, by omega, by omega, hKn⟩
                  case measure => simp [intOf]; omega
                · have hKn := Lib.hid (hK.out.trans (partK_out hkm hkl hin))
                  by_cases q1 : t[k].toNat < lo.toNat
                  · clear hin
                    go_wp2_with fail
                    go_ret2
                    unfold PartRes
                    rw [HP.out, hKn.out]
                    exact ⟨rfl, Ext.trans hx (below_drewN ((Below.refl _ _).alloc (Nat.le_refl _) _) _)⟩
                  · have q2 : hi'.toNat < t[k].toNat := by omega
                    clear hin
                    go_wp2_with fail
                    go_ret2
                    unfold PartRes
                    rw [HP.out, hKn.out]
                    exact ⟨rfl, Ext.trans hx (below_drewN ((Below.refl _ _).alloc (Nat.le_refl _) _) _)⟩
              · have hkl2 : k = t.length := by omega
                have hKn := Lib.hid (hK.out.trans (partK_nil hkm (by omega)))
                have hkb : (((k : Int) + 1) == ((t.length : Int) + 1)) = true := by rw [beq_iff_eq]; omega
                clear hkl2 hkl
                go_wp2_with fail
                go_ret2
                unfold PartRes
                rw [HP.out, hKn.out]
                exact ⟨rfl, Ext.trans hx (below_drewN ((Below.refl _ _).alloc (Nat.le_refl _) _) _)⟩
            · have hkm2 : k = x.more := by omega
              have hKn := Lib.hid (hK.out.trans (partK_end (by omega)))
              have HKM := Lib.hid hkm2
              clear hkm2
              go_wp2_with fail
              go_ret2
              unfold PartRes
              rw [HP.out, hKn.out]
              exact ⟨by rw [HKM.out]; rfl, Ext.trans hx (below_drewN ((Below.refl _ _).alloc (Nat.le_refl _) _) _)⟩
    · have hi9 : i = 8 := by omega
      subst hi9
      have HP := Lib.hid (partB_none t HH.out (row_none HN.out))
      go_wp2_with fail
      go_ret2
      unfold PartRes
      rw [HP.out]
      exact ⟨rfl, hx⟩
end Go.Proofs.YthcbkgiphfgbcaaDoor
