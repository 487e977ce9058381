/-
  What is proved: the walk of the statement PolicyMeta: it answers true. Conditions: a text that fits, what the package's variable holds.
-/
import Derived.Test.YtghafpkkmeibgaaDoorSay
namespace Go.Proofs.YtghafpkkmeibgaaDoor
open Go.RowKit

theorem meta_take {ds : List Dir} {k : Nat} (h : k < ds.length) : metaL (ds.take (k + 1)) = if hdrB ds[k].name then metaL (ds.take k) else metaL (ds.take k) ++ [ds[k]] := by
  unfold metaL
  rw [List.take_succ_eq_append_getElem h, List.filter_append]
  cases hh : hdrB ds[k].name <;> simp [hh]
/-- What is kept of the first ones is the first of what is kept. -/
theorem meta_prefix (ds : List Dir) (k : Nat) : ∃ more, metaL ds = metaL (ds.take k) ++ more := by
  refine ⟨metaL (ds.drop k), ?_⟩
  unfold metaL
  rw [← List.filter_append, List.take_append_drop]
theorem meta_at {ds : List Dir} {k : Nat} (h : k < ds.length) (hk : hdrB ds[k].name = false) : ∃ h2 : (metaL (ds.take k)).length < (metaL ds).length, (metaL ds)[(metaL (ds.take k)).length] = ds[k] := by
  obtain ⟨more, hm⟩ := meta_prefix ds (k + 1)
  rw [meta_take h, if_neg (by rw [hk]; simp)] at hm
  refine ⟨by rw [hm]; simp, ?_⟩
  simp only [hm, List.append_assoc]
  rw [List.getElem_append_right (Nat.le_refl _)]
  simp
set_option maxHeartbeats 8000000 in
set_option maxRecDepth 100000 in
theorem meta_walk (s : List UInt8) (w : World) (hm : MaxIs w) (hs : s.length ≤ maxLen) :
    Calls Tryd.prog 6 #[.string ⟨⟨s⟩⟩] w fun e w' => e = .returned (.bool true) ∧ Ext w w' := by
  unfold maxLen at hs
  by_cases g1 : 2000 < s.length
  · go_enter Tryd.func6, Tryd.ntmps6
    go_wp2_with (go_at_call 15; refine (says_any _ hm).mono ?_; rintro e w1 ⟨rfl, x1⟩)
    go_ret
    exact ⟨rfl, x1⟩
  · have hsl : s.length < 100000 := by omega
    have c1 := fun W hM => one_any s W hM hsl
    have c2 := fun W hM => meta_any s W hM hsl
    have hol := one_len s
    obtain ⟨D, hD⟩ : ∃ D, oneL s = D := ⟨_, rfl⟩
    rw [hD] at c1 c2 hol
    have hml := meta_len D
    obtain ⟨M, hM⟩ : ∃ M, metaL D = M := ⟨_, rfl⟩
    rw [hM] at c2 hml
    have HM := Lib.hid hM
    clear hD hM
    go_enter Tryd.func6, Tryd.ntmps6
    go_wp2_with fail
    refine (c2 _ hm).mono ?_
    rintro e w1 ⟨a1, p1, rfl, h1, x1⟩
    have x1b : Ext w1 (w1.alloc (.cells #[.slice a1 M.length p1, .bool false] 25)) := (Below.refl _ _).alloc (Nat.le_refl _) _
    have y1 := Ext.trans x1 x1b
    have P1 : PolCell (w1.alloc (.cells #[.slice a1 M.length p1, .bool false] 25)) w1.heap.size a1 M.length p1 false M := ⟨cells_of_lit (heap_alloc_new w1 _) 0, cells_of_lit (heap_alloc_new w1 _) 1, h1.ext x1b⟩
    go_wp2_with fail
    refine (c1 _ (hm.ext y1)).mono ?_
    rintro e w2 ⟨v2, rfl, o2, x2⟩
    have h2 := o2.dirs (by unfold maxLen; omega)
    obtain ⟨a2, p2, rfl⟩ := o2.len
    have y2 := Ext.trans y1 x2
    have P2 := P1.ext x2
    clear c1 c2 h1 x1 x1b P1 o2
    go_wp2_with fail
    go_loopw [6, 7] (fun av iv wr => ∃ (k i : Nat), iv = .int .i64 k ∧ av = .int .i64 i ∧ k ≤ D.length ∧ i ≤ k ∧ i ≤ M.length ∧ Hid ((metaL (D.take k)).length = i) ∧ Ext w2 wr) (fun _ iv _ => D.length - (intOf iv).toNat)
    case atStart => exact ⟨0, 0, rfl, rfl, by omega, by omega, by omega, Lib.hid rfl, Ext.refl _⟩
    case round =>
      obtain ⟨k, i, rfl, rfl, hk, hik, hiM, HI, hx⟩ := hrel
      have P3 := P2.ext hx
      have s1 := P3.lst
      have s2 := P3.rep
      have k0 : (0 : Int) ≤ (k : Int) := by omega
      have i0 : (0 : Int) ≤ (i : Int) := by omega
      by_cases hlt : k < D.length
      · obtain ⟨a', c', e', hcl⟩ := (h2.ext hx).cells
        obtain ⟨b, off, u, e2, hb, c1, c2, hu⟩ := hcl k hlt
        cases e'
        subst e2
        have HT := Lib.hid (meta_take hlt)
        have HA : Hid (hdrB D[k].name = false → ∃ h : i < M.length, M[i] = D[k]) := Lib.hid (fun h => by
          obtain ⟨q1, q2⟩ := meta_at hlt h
          have e := HI.out
          have em := HM.out
          subst e
          subst em
          exact ⟨q1, q2⟩)
        obtain ⟨d, hd⟩ : ∃ d, D[k] = d := ⟨_, rfl⟩
        rw [hd] at c1 hu HT HA
        obtain ⟨ua, uc, rfl, _⟩ := hu.cells
        have k1 : (k : Int) < (D.length : Int) := by omega
        have HD : Hid (hdrB d.name = (d.name == [114, 101, 112, 111, 114, 116, 45, 117, 114, 105] || d.name == [102, 114, 97, 109, 101, 45, 97, 110, 99, 101, 115, 116, 111, 114, 115] || d.name == [115, 97, 110, 100, 98, 111, 120])) := Lib.hid rfl
        clear hd hcl
        obtain ⟨q1, e1⟩ : ∃ q, (d.name == [114, 101, 112, 111, 114, 116, 45, 117, 114, 105]) = q := ⟨_, rfl⟩
        obtain ⟨q2, e2⟩ : ∃ q, (d.name == [102, 114, 97, 109, 101, 45, 97, 110, 99, 101, 115, 116, 111, 114, 115]) = q := ⟨_, rfl⟩
        obtain ⟨q3, e3⟩ : ∃ q, (d.name == [115, 97, 110, 100, 98, 111, 120]) = q := ⟨_, rfl⟩
        have HQ : Hid (hdrB d.name = (q1 || q2 || q3)) := Lib.hid (by rw [HD.out, e1, e2, e3])
        have hcase : (q1 = true ∨ (q1 = false ∧ q3 = true) ∨ (q1 = false ∧ q3 = false ∧ q2 = true)) ∨ (q1 = false ∧ q3 = false ∧ q2 = false) := by cases q1 <;> cases q2 <;> cases q3 <;> simp
        rcases hcase with hH | ⟨rfl, rfl, rfl⟩
        · have HH : Hid (hdrB d.name = true) := Lib.hid (by rw [HQ.out]; rcases hH with rfl | ⟨rfl, rfl⟩ | ⟨rfl, rfl, rfl⟩ <;> simp)
          rcases hH with rfl | ⟨rfl, rfl⟩ | ⟨rfl, rfl, rfl⟩
          all_goals
            go_wp2_with fail
            go_roundw
            case rel => exact ⟨k + 1, i, by go_num, rfl, by omega, by omega, hiM, Lib.hid (by rw [HT.out, if_pos HH.out]; exact HI.out), hx⟩
            case measure => simp [intOf]; omega
        · have HH : Hid (hdrB d.name = false) := Lib.hid (by rw [HQ.out]; rfl)
          obtain ⟨hi2, hMi⟩ := HA.out HH.out
          obtain ⟨a', c', e', hcl⟩ := P3.dirs.cells
          obtain ⟨b3, o3, u3, e4, hb3, d1, d2, hu3⟩ := hcl i hi2
          cases e'
          subst e4
          rw [hMi] at d1 hu3
          obtain ⟨va, vc, rfl, _⟩ := hu3.cells
          have i1 : (i : Int) < (M.length : Int) := by omega
          have cd := fun W (hW : Ext wr W) => directive_same d _ _ W (hu3.ext hW) (hu.ext hW)
          have ge : decide (M.length ≤ i) = false := by simp; omega
          have ge3 : decide ((M.length : Int) ≤ (i : Int)) = false := by simp; omega
          clear hMi hcl
          go_wp2_with fail
          go_region_held3 (fun w' => w'.cell? ⟨w1.heap.size, 0, none⟩ = some (.slice (some ⟨b3, o3, none⟩) M.length p1) ∧ w'.cell? ⟨b3, o3 + i * 2, none⟩ = some (.string ⟨⟨d.name⟩⟩) ∧ w'.cell? ⟨b3, o3 + i * 2 + 1, none⟩ = some (.slice va d.vals.length vc) ∧ w'.cell? ⟨b, off + k * 2, none⟩ = some (.string ⟨⟨d.name⟩⟩) ∧ w'.cell? ⟨b, off + k * 2 + 1, none⟩ = some (.slice ua d.vals.length uc)) (go_keep)
            (first | (go_at_call 25; refine (cd _ (by repeat (first | with_reducible exact Below.refl _ _ | with_reducible refine Below.drew ?_))).mono ?_; rintro e w4 ⟨rfl, x4⟩; have hw : Ext wr w4 := Ext.trans (by repeat (first | with_reducible exact Below.refl _ _ | with_reducible refine Below.drew ?_)) x4; have t1 := old_cell hw s1; have t3 := old_cell hw c1; have t4 := old_cell hw c2; have t5 := old_cell hw d1; have t6 := old_cell hw d2))
          go_wp2_with fail
          go_roundw
          case rel => exact ⟨k + 1, i + 1, by go_num, by go_num, by omega, by omega, by omega, Lib.hid (by rw [HT.out, if_neg (by rw [HH.out]; simp), List.length_append, HI.out]; rfl), Ext.trans hx hw⟩
          case measure => simp [intOf]; omega
      · obtain rfl : k = D.length := by omega
        have hiE : i = M.length := by
          have e := HI.out
          rw [List.take_length, HM.out] at e
          exact e.symm
        subst hiE
        have y3 := Ext.trans y2 hx
        cases hE : M.isEmpty
        · have hpos : 0 < (M.length : Int) := by
            have : M ≠ [] := fun e => by rw [e] at hE; cases hE
            have := List.length_pos_iff.2 this
            omega
          go_wp2_with fail
          refine (says_any _ (hm.ext y3)).mono ?_
          rintro e w4 ⟨rfl, x4⟩
          go_wp2_with fail
          go_ret
          exact ⟨rfl, Ext.trans y3 x4⟩
        · have hM0 : M = [] := by simpa using hE
          subst hM0
          go_wp2_with fail
          refine (says_any _ (hm.ext y3)).mono ?_
          rintro e w4 ⟨rfl, x4⟩
          go_wp2_with fail
          go_ret
          exact ⟨rfl, Ext.trans y3 x4⟩
end Go.Proofs.YtghafpkkmeibgaaDoor
