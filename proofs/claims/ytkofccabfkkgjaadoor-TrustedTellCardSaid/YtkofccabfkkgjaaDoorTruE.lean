/-
  What is proved: whether a policy lets a name be made: the program's, the reference's; whether it asks for trusted scripts, the reference's: contracts. Condition: lists of at most a million, texts of at most 99999 bytes.
-/
import Derived.Test.YtkofccabfkkgjaaDoorTruD
namespace Go.Proofs.YtkofccabfkkgjaaDoor
open Go.RowKit

/-- What Parse gives, by its parts. -/
def ParseIs (l : List (List UInt8)) (an tw has : Bool) (w : World) (e : Ending) (w' : World) : Prop :=
  ∃ a cap, e = .returned (.agg #[.slice a l.length cap, .bool an, .bool tw, .bool has]) ∧ StrsAt w' (.slice a l.length cap) l ∧ Ext w w'
def createsP (l : List (List UInt8)) (an tw has : Bool) (n : List UInt8) (there : List (List UInt8)) : Bool :=
  if has then (if there.contains n && !tw then false else an || l.contains n) else true
theorem creates_is (ds : List Dir) (n : List UInt8) (there : List (List UInt8)) : createsN ds n there = createsP (parseN ds).list (parseN ds).any (parseN ds).twice (hasN ds) n there := rfl
set_option maxHeartbeats 8000000 in
theorem createsP_any (v : Value) (rep : Bool) (n : List UInt8) (ta : Option Addr) (tc : Nat) (there : List (List UInt8)) (l : List (List UInt8)) (an tw has : Bool) (w : World)
    (K : StrsAt w (.slice ta there.length tc) there)
    (cp : Calls Tryd.prog 23 #[.agg #[v, .bool rep]] (w.alloc (.cells #[v, .bool rep] 30)) (ParseIs l an tw has (w.alloc (.cells #[v, .bool rep] 30)))) (hv : ∃ a m c, v = .slice a m c) :
    Calls Tryd.prog 25 #[.agg #[v, .bool rep], .string ⟨⟨n⟩⟩, .slice ta there.length tc] w fun e w' => e = .returned (.bool (createsP l an tw has n there)) ∧ Ext w w' := by
  obtain ⟨a, m, c, rfl⟩ := hv
  have hext0 : Ext w (w.alloc (.cells #[.slice a m c, .bool rep] 30)) := (Below.refl _ _).alloc (Nat.le_refl _) _
  obtain ⟨r1, h1⟩ : ∃ r, there.contains n = r := ⟨_, rfl⟩
  obtain ⟨r2, h2⟩ : ∃ r, l.contains n = r := ⟨_, rfl⟩
  have HF : Hid (createsP l an tw has n there = if has then (if r1 && !tw then false else an || r2) else true) := Lib.hid (by unfold createsP; rw [h1, h2])
  have ct := fun W H => containsStr_any (.slice ta there.length tc) there n W H
  have cl := fun la lc W H => containsStr_any (.slice la l.length lc) l n W H
  rw [h1] at ct
  rw [h2] at cl
  rw [HF.out]
  clear h1 h2 HF
  go_enter Tryd.func25, Tryd.ntmps25
  go_wp2_with fail
  refine cp.mono ?_
  rintro e w1 ⟨la, lc, rfl, hst, x1⟩
  have hA : Ext w1 (w1.alloc (.cells #[.slice la l.length lc, .bool an, .bool tw, .bool has] 43)) := (Below.refl _ _).alloc (Nat.le_refl _) _
  have hE : Ext w (w1.alloc (.cells #[.slice la l.length lc, .bool an, .bool tw, .bool has] 43)) := Ext.trans hext0 (Ext.trans x1 hA)
  have ct := ct _ (K.ext hE)
  have cl := cl la lc _ (hst.ext hA)
  clear cp hst x1 hA
  have HE := Lib.hid hE
  clear hE
  cases has
  · go_wp2_with (first
        | (go_at_call 40; (with_reducible refine ct.mono ?_); rintro e w3 ⟨rfl, rfl⟩)
        | (go_at_call 40; (with_reducible refine cl.mono ?_); rintro e w3 ⟨rfl, rfl⟩))
    go_ret
    exact ⟨rfl, HE.out⟩
  · cases r1 <;> cases tw <;> cases an
    all_goals
      go_wp2_with (first
        | (go_at_call 40; (with_reducible refine ct.mono ?_); rintro e w3 ⟨rfl, rfl⟩)
        | (go_at_call 40; (with_reducible refine cl.mono ?_); rintro e w3 ⟨rfl, rfl⟩))
      go_ret
      exact ⟨by simp, HE.out⟩
set_option maxHeartbeats 8000000 in
theorem createsRP_any (v : Value) (rep : Bool) (n : List UInt8) (ta : Option Addr) (tc : Nat) (there : List (List UInt8)) (l : List (List UInt8)) (an tw has : Bool) (w : World)
    (K : StrsAt w (.slice ta there.length tc) there)
    (cp : Calls Tryd.prog 24 #[.agg #[v, .bool rep]] (w.alloc (.cells #[v, .bool rep] 30)) (ParseIs l an tw has (w.alloc (.cells #[v, .bool rep] 30)))) (hv : ∃ a m c, v = .slice a m c) :
    Calls Tryd.prog 26 #[.agg #[v, .bool rep], .string ⟨⟨n⟩⟩, .slice ta there.length tc] w fun e w' => e = .returned (.bool (createsP l an tw has n there)) ∧ Ext w w' := by
  obtain ⟨a, m, c, rfl⟩ := hv
  have hext0 : Ext w (w.alloc (.cells #[.slice a m c, .bool rep] 30)) := (Below.refl _ _).alloc (Nat.le_refl _) _
  obtain ⟨r1, h1⟩ : ∃ r, there.contains n = r := ⟨_, rfl⟩
  obtain ⟨r2, h2⟩ : ∃ r, l.contains n = r := ⟨_, rfl⟩
  have HF : Hid (createsP l an tw has n there = if has then (if r1 && !tw then false else an || r2) else true) := Lib.hid (by unfold createsP; rw [h1, h2])
  have ct := fun W H => in_any (.slice ta there.length tc) there n W H
  have cl := fun la lc W H => in_any (.slice la l.length lc) l n W H
  rw [h1] at ct
  rw [h2] at cl
  rw [HF.out]
  clear h1 h2 HF
  go_enter Tryd.func26, Tryd.ntmps26
  go_wp2_with fail
  refine cp.mono ?_
  rintro e w1 ⟨la, lc, rfl, hst, x1⟩
  have hA : Ext w1 (w1.alloc (.cells #[.slice la l.length lc, .bool an, .bool tw, .bool has] 45)) := (Below.refl _ _).alloc (Nat.le_refl _) _
  have hE : Ext w (w1.alloc (.cells #[.slice la l.length lc, .bool an, .bool tw, .bool has] 45)) := Ext.trans hext0 (Ext.trans x1 hA)
  have ct := ct _ (K.ext hE)
  have cl := cl la lc _ (hst.ext hA)
  clear cp hst x1 hA
  have HE := Lib.hid hE
  clear hE
  cases has
  · go_wp2_with (first
        | (go_at_call 41; (with_reducible refine ct.mono ?_); rintro e w3 ⟨rfl, rfl⟩)
        | (go_at_call 41; (with_reducible refine cl.mono ?_); rintro e w3 ⟨rfl, rfl⟩))
    go_ret
    exact ⟨rfl, HE.out⟩
  · cases r1 <;> cases tw <;> cases an
    all_goals
      go_wp2_with (first
        | (go_at_call 41; (with_reducible refine ct.mono ?_); rintro e w3 ⟨rfl, rfl⟩)
        | (go_at_call 41; (with_reducible refine cl.mono ?_); rintro e w3 ⟨rfl, rfl⟩))
      go_ret
      exact ⟨by simp, HE.out⟩
theorem creates_any (v : Value) (rep : Bool) (ds : List Dir) (n : List UInt8) (tv : Value) (there : List (List UInt8)) (w : World) (H : DirsAt w v ds) (hs : SmallD ds) (K : StrsAt w tv there) :
    Calls Tryd.prog 25 #[.agg #[v, .bool rep], .string ⟨⟨n⟩⟩, tv] w fun e w' => e = .returned (.bool (createsN ds n there)) ∧ Ext w w' := by
  obtain ⟨ta, tc, rfl, _⟩ := K.cells
  rw [creates_is]
  have hv : ∃ a m c, v = .slice a m c := by obtain ⟨a, c, e, _⟩ := H.cells; exact ⟨a, _, c, e⟩
  exact createsP_any v rep n ta tc there _ _ _ _ w K (parse_any v rep ds _ (H.ext ((Below.refl _ _).alloc (Nat.le_refl _) _)) hs) hv
theorem createsR_any (v : Value) (rep : Bool) (ds : List Dir) (n : List UInt8) (tv : Value) (there : List (List UInt8)) (w : World) (H : DirsAt w v ds) (hs : SmallD ds) (hl : ∀ s ∈ valsOf (findD ds ttL), s.length < 100000) (K : StrsAt w tv there) :
    Calls Tryd.prog 26 #[.agg #[v, .bool rep], .string ⟨⟨n⟩⟩, tv] w fun e w' => e = .returned (.bool (createsN ds n there)) ∧ Ext w w' := by
  obtain ⟨ta, tc, rfl, _⟩ := K.cells
  rw [creates_is]
  have hv : ∃ a m c, v = .slice a m c := by obtain ⟨a, c, e, _⟩ := H.cells; exact ⟨a, _, c, e⟩
  exact createsRP_any v rep n ta tc there _ _ _ _ w K (parseR_any v rep ds _ (H.ext ((Below.refl _ _).alloc (Nat.le_refl _) _)) hs hl) hv
theorem any_hit {l : List (List UInt8)} {k : Nat} (hk : k < l.length) {p : List UInt8 → Bool} (h : p l[k] = true) : l.any p = true := List.any_eq_true.2 ⟨_, List.getElem_mem hk, h⟩
theorem any_no {l : List (List UInt8)} {p : List UInt8 → Bool} (h : ∀ j (hj : j < l.length), j < l.length → p l[j] = false) : l.any p = false := by
  rw [← Bool.not_eq_true, List.any_eq_true]
  rintro ⟨x, hx, e⟩
  obtain ⟨i, hi, rfl⟩ := List.getElem_of_mem hx
  rw [h i hi hi] at e
  cases e
set_option maxHeartbeats 4000000 in
theorem requiresR_any (v : Value) (rep : Bool) (ds : List Dir) (w : World) (H : DirsAt w v ds) (hs : SmallD ds) (hl : ∀ s ∈ valsOf (findD ds rtL), s.length < 100000) :
    Calls Tryd.prog 28 #[.agg #[v, .bool rep]] w fun e w' => e = .returned (.bool (requiresN ds)) ∧ Ext w w' := by
  obtain ⟨a, cap, rfl, _⟩ := H.cells
  have hext0 : Ext w (w.alloc (.cells #[.slice a ds.length cap, .bool rep] 30)) := (Below.refl _ _).alloc (Nat.le_refl _) _
  have cf := findVR_any (.slice a ds.length cap) rep ds rtL w _ H hext0 hs
  have hvl := vals_small hs rtL
  obtain ⟨V, hV⟩ : ∃ V, valsOf (findD ds rtL) = V := ⟨_, rfl⟩
  have HN : Hid (requiresN ds = V.any fun s => lowL s == scL) := Lib.hid (by unfold requiresN; rw [hV])
  obtain ⟨r, hr⟩ : ∃ r, requiresN ds = r := ⟨_, rfl⟩
  rw [hV] at cf hvl hl
  rw [hr] at HN ⊢
  have HV := Lib.hid hl
  clear hV hl hr
  go_enter Tryd.func28, Tryd.ntmps28
  go_wp2_with fail
  refine cf.mono ?_
  rintro e w1 ⟨nm, av, cv, rfl, hst, x1⟩
  have hA : Ext w1 (w1.alloc (.cells #[.string ⟨⟨nm⟩⟩, .slice av V.length cv] 33)) := (Below.refl _ _).alloc (Nat.le_refl _) _
  have hE := Ext.trans hext0 (Ext.trans x1 hA)
  have dd : (w1.alloc (.cells #[.string ⟨⟨nm⟩⟩, .slice av V.length cv] 33)).cell? ⟨w1.heap.size, 1, none⟩ = some (.slice av V.length cv) := cells_of_lit (heap_alloc_new w1 _) 1
  have hz : w1.heap.size < (w1.alloc (.cells #[.string ⟨⟨nm⟩⟩, .slice av V.length cv] 33)).heap.size := by simp
  have HC := Lib.hid hst.cells
  clear hst cf
  go_wp2_with fail
  obtain ⟨W5, hW5⟩ : ∃ W5, w1.alloc (.cells #[.string ⟨⟨nm⟩⟩, .slice av V.length cv] 33) = W5 := ⟨_, rfl⟩
  rw [hW5] at hE dd hz
  have HW5 := Lib.hid hW5
  have DD := Lib.hid dd
  clear hW5 hA dd
  go_loopw [5] (fun i wr => ∃ k : Nat, i = .int .i64 k ∧ k ≤ V.length ∧ Ext W5 wr ∧ Hid (∀ j (hj : j < V.length), j < k → (lowL V[j] == scL) = false)) (fun i _ => V.length - (intOf i).toNat)
  case atStart => exact ⟨0, rfl, by omega, by rw [HW5.out]; exact Ext.refl _, Lib.hid (fun j _ hj => by omega)⟩
  case round =>
    obtain ⟨k, rfl, hk, hx, HN2⟩ := hrel
    have dd := (hx.cell (p := ⟨w1.heap.size, 1, none⟩) hz).trans DD.out
    by_cases hlt : k < V.length
    · obtain ⟨av', cv', ev, hcl⟩ := HC.out
      obtain ⟨b2, o2, e2, hb2, d2⟩ := hcl k hlt
      cases ev
      subst e2
      have d3 := ((Ext.trans hE hx).cell (p := ⟨b2, o2 + k, none⟩) hb2).trans d2
      have hx5 := HV.out V[k] (List.getElem_mem hlt)
      obtain ⟨x, hx1⟩ : ∃ x, V[k] = x := ⟨_, rfl⟩
      rw [hx1] at d3 hx5
      have HX := Lib.hid hx1
      have clw := fun W => lowR_any x W hx5
      have k0 : (0 : Int) ≤ (k : Int) := by omega
      have k1 : (k : Int) < (V.length : Int) := by omega
      clear hx1 hcl d2
      cases hq : (lowL x == scL)
      · have HQ : Hid ((lowL V[k] == scL) = false) := Lib.hid (by rw [HX.out]; exact hq)
        have eq : (lowL x == [39, 115, 99, 114, 105, 112, 116, 39]) = false := hq
        clear hq
        go_wp2_with (go_at_call 39; refine (clw _).mono ?_; rintro e w5 ⟨rfl, y5⟩)
        go_roundw
        case rel =>
          refine ⟨k + 1, by go_num, by omega, hx.trans y5, Lib.hid (fun j h hj => ?_)⟩
          by_cases e : j = k
          · subst e
            exact HQ.out
          · exact HN2.out j h (by omega)
        case measure => simp [intOf]; omega
      · have HF : Hid (r = true) := Lib.hid (by rw [HN.out]; exact any_hit hlt (by show (lowL V[k] == scL) = true; rw [HX.out]; exact hq))
        have eq : (lowL x == [39, 115, 99, 114, 105, 112, 116, 39]) = true := hq
        clear hq
        go_wp2_with (go_at_call 39; refine (clw _).mono ?_; rintro e w5 ⟨rfl, y5⟩)
        go_ret
        exact ⟨ret_inj (bool_eq HF.out.symm), Ext.trans hE (Ext.trans hx y5)⟩
    · obtain rfl : k = V.length := by omega
      have HF : Hid (r = false) := Lib.hid (by rw [HN.out]; exact any_no HN2.out)
      go_wp2_with fail
      go_ret
      exact ⟨ret_inj (bool_eq HF.out.symm), Ext.trans hE hx⟩
end Go.Proofs.YtkofccabfkkgjaaDoor
