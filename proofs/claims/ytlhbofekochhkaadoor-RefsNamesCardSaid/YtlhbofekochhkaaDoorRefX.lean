/-
  What is proved: the walks of RefsPlace and RefsNames. Condition: the program's table holds what its text lays.
-/
import Derived.Test.YtlhbofekochhkaaDoorRefL
import Derived.Test.YtlhbofekochhkaaDoorRefW
namespace Go.Proofs.YtlhbofekochhkaaDoor
open Go.RowKit

theorem findI_nat (s : List UInt8) (k : Nat) (attr : Bool) : findI s k attr = findB s k attr := by
  unfold findI
  rw [if_neg (by omega), Int.toNat_natCast]
theorem findI_zero (s : List UInt8) (attr : Bool) : findI s 0 attr = findB s 0 attr := findI_nat s 0 attr
set_option maxRecDepth 100000 in
set_option maxHeartbeats 2000000 in
theorem place_walk (a s : List UInt8) (attr : Bool) (w : World) (ho : OthersIs w) (hs1 : a.length ≤ maxLen) (hs2 : s.length ≤ maxLen) :
    Calls Tryd.prog 5 #[.string ⟨⟨a⟩⟩, .string ⟨⟨s⟩⟩, .bool attr] w fun e w' => e = .returned (.bool true) ∧ Below w.heap.size w w' := by
  have h : St w w := ⟨Ext.refl _, ho⟩
  clear ho
  unfold maxLen at hs1 hs2
  by_cases hl : a.length ≤ 500
  · by_cases hl2 : s.length ≤ 500
    · have hm := find_ahead a s attr
      obtain ⟨t, n, ok, hr⟩ : ∃ t n ok, findB s 0 attr = (t, n, ok) := ⟨_, _, _, rfl⟩
      have hgood := findB_good (s := s) (attr := attr)
      have hnone := findB_none (s := s) (k := 0) (attr := attr)
      rw [hr] at hm hgood hnone
      cases ok
      · have hr2 := hnone rfl
        have HR := Lib.hid (hr.trans hr2)
        rw [hr2] at hm
        have HM := Lib.hid hm
        clear hm hgood hnone hr hr2
        go_enter Tryd.func5, Tryd.ntmps5
        go_wp2_with fail
        refine (find_st w _ _ _ _ h (by omega)).mono ?_
        rw [findI_zero, HR.out]
        rintro e w1 ⟨rfl, h1⟩
        go_wp2_with fail
        refine (find_st w _ _ _ _ h1 (by simp; omega)).mono ?_
        rw [findI_nat, HM.out]
        rintro e w2 ⟨rfl, h2⟩
        go_wp2_with fail
        refine (refers_st w _ h2).mono ?_
        rintro e w5 ⟨rfl, h5⟩
        go_wp2_with fail
        go_ret
        exact ⟨rfl, h5.1⟩
      · obtain ⟨g1, g2, ⟨g3, g4⟩, g5⟩ := hgood rfl
        simp only at g1 g2 g5
        rw [getD_get g3] at g4
        have hc : ((s[0].toNat : Int) != 38) = false := by rw [g4]; rfl
        have ht1 : (t == []) = false := by simpa using g5
        have ht2 : t.isEmpty = false := by simpa using g5
        have HR := Lib.hid hr
        have HM := Lib.hid hm
        have hcast : ((n + a.length : Nat) : Int) = (n : Int) + a.length := by omega
        have HC := Lib.hid hcast
        clear hm hnone hr hgood g4 g5 hcast
        go_enter Tryd.func5, Tryd.ntmps5
        go_wp2_with fail
        refine (find_st w _ _ _ _ h (by omega)).mono ?_
        rw [findI_zero, HR.out]
        rintro e w1 ⟨rfl, h1⟩
        go_wp2_with fail
        refine (find_st w _ _ _ _ h1 (by simp; omega)).mono ?_
        rw [findI_nat, HM.out]
        simp only [moved, if_true, HC.out]
        rintro e w2 ⟨rfl, h2⟩
        go_wp2_with fail
        refine (refers_st w _ h2).mono ?_
        rintro e w5 ⟨rfl, h5⟩
        go_wp2_with fail
        go_ret
        exact ⟨rfl, h5.1⟩
    · go_enter Tryd.func5, Tryd.ntmps5
      go_wp2_with fail
      refine (refers_st w _ h).mono ?_
      rintro e w5 ⟨rfl, h5⟩
      go_wp2_with fail
      go_ret
      exact ⟨rfl, h5.1⟩
  · go_enter Tryd.func5, Tryd.ntmps5
    go_wp2_with fail
    refine (refers_st w _ h).mono ?_
    rintro e w5 ⟨rfl, h5⟩
    go_wp2_with fail
    go_ret
    exact ⟨rfl, h5.1⟩
/-- What lies in a block of three cells. -/
def NmAt (w : World) (b : Nat) (x : Nm) : Prop :=
  w.cell? ⟨b, 0, none⟩ = some (.string ⟨⟨x.name⟩⟩) ∧ w.cell? ⟨b, 1, none⟩ = some (.string ⟨⟨x.text⟩⟩) ∧ w.cell? ⟨b, 2, none⟩ = some (.bool x.loose) ∧ b < w.heap.size
theorem NmAt.ext {w w' : World} {b : Nat} {x : Nm} (h : NmAt w b x) (k : Ext w w') : NmAt w' b x :=
  ⟨(k.cell (p := ⟨b, 0, none⟩) h.2.2.2).trans h.1, (k.cell (p := ⟨b, 1, none⟩) h.2.2.2).trans h.2.1, (k.cell (p := ⟨b, 2, none⟩) h.2.2.2).trans h.2.2.1, Nat.lt_of_lt_of_le h.2.2.2 k.size⟩
theorem find_nm (w0 : World) (b : Nat) (x : Nm) (a r s : List UInt8) (i : Int) (attr : Bool) (w : World) (h : St w0 w) (hx : NmAt w b x) (hl : s.length < 100000) (hs : s = a ++ r) (hi : i = a.length) (q : List UInt8 × Nat × Bool) (hq : moved a.length (findB r 0 attr) = q) :
    Calls Tryd.prog 8 #[.string ⟨⟨s⟩⟩, .int .i64 i, .bool attr] w fun e w' => e = .returned (.tuple #[.string ⟨⟨q.1⟩⟩, .int .i64 q.2.1, .bool q.2.2]) ∧ St w0 w' ∧ NmAt w' b x := by
  subst hs hi hq
  refine (refsFind_any (a ++ r) a.length attr w hl h.2).mono fun _ _ ⟨he, k⟩ => ?_
  rw [findI_nat, find_ahead] at he
  exact ⟨he, h.next k, hx.ext k⟩
theorem St.names {w0 w w' : World} {e : Ending} (h : St w0 w) (k : NamesRes w e w') : St w0 w' := h.next k.2.2.1
theorem St.alloc {w0 w : World} (h : St w0 w) (o : Obj) : St w0 (w.alloc o) := h.next ((Below.refl _ _).alloc (Nat.le_refl _) _)
set_option maxRecDepth 100000 in
set_option maxHeartbeats 4000000 in
theorem names_walk (a b : List UInt8) (z : Int) (w : World) (ho : OthersIs w) (hs1 : a.length ≤ maxLen) (hs2 : b.length ≤ maxLen) (hz0 : 0 ≤ z) (hz1 : z ≤ 255) :
    Calls Tryd.prog 4 #[.string ⟨⟨a⟩⟩, .string ⟨⟨b⟩⟩, .int .u8 z] w fun e w' => e = .returned (.bool true) ∧ Below w.heap.size w w' := by
  have h : St w w := ⟨Ext.refl _, ho⟩
  clear ho
  unfold maxLen at hs1 hs2
  by_cases hl : a.length ≤ 500
  · by_cases hl2 : b.length ≤ 500
    · obtain ⟨j, hj, hj2⟩ : ∃ j : Nat, z % 52 = j ∧ j < 52 := ⟨(z % 52).toNat, by omega, by omega⟩
      obtain ⟨x, hx⟩ : ∃ x, allN[j]? = some x := ⟨_, List.getElem?_eq_getElem (by rw [allN_len]; exact hj2)⟩
      have hxm := List.mem_of_getElem? hx
      obtain ⟨hx1, hx0⟩ := name_short hx
      have HX := Lib.hid hx
      have HJ := Lib.hid hj
      clear hx
      go_enter Tryd.func4, Tryd.ntmps4
      go_wp2_with fail
      refine (names_any _).mono ?_
      rintro e w1 ⟨rfl, n1, n2, n3⟩
      have h1 := h.next n2
      obtain ⟨c1, c2, c3⟩ := n1 j x HX.out
      rw [Nat.mul_comm] at c1 c2 c3
      clear n1 n2 h
      have i0 : ∀ w, (Instr.index 23 (.agg #[.bool false, .bool true]) (.int .i64 0)).run Tryd.prog w = .ok (.bool false) w := fun _ => by kernel_rfl
      have i1 : ∀ w, (Instr.index 23 (.agg #[.bool false, .bool true]) (.int .i64 1)).run Tryd.prog w = .ok (.bool true) w := fun _ => by kernel_rfl
      go_wp2_with fail
      have h2 := St.alloc h1 (.cells #[.string ⟨⟨x.name⟩⟩, .string ⟨⟨x.text⟩⟩, .bool x.loose] 30)
      have hn2 : NmAt (w1.alloc (.cells #[.string ⟨⟨x.name⟩⟩, .string ⟨⟨x.text⟩⟩, .bool x.loose] 30)) w1.heap.size x := by
        have hh : (w1.alloc (.cells #[.string ⟨⟨x.name⟩⟩, .string ⟨⟨x.text⟩⟩, .bool x.loose] 30)).heap[w1.heap.size]? = some (.cells #[.string ⟨⟨x.name⟩⟩, .string ⟨⟨x.text⟩⟩, .bool x.loose] 30) := heap_alloc_new w1 _
        refine ⟨?_, ?_, ?_, by simp⟩ <;> (unfold World.cell?; rw [hh]; rfl)
      clear h1 c1 c2 c3 hj
      go_loopw [42] (fun i wr => ∃ n : Nat, i = .int .i64 n ∧ n ≤ 2 ∧ St w wr ∧ NmAt wr w1.heap.size x) (fun i _ => 2 - (intOf i).toNat)
      case atStart => exact ⟨0, rfl, by omega, h2, hn2⟩
      case round =>
        obtain ⟨n, rfl, hn, hb, hx⟩ := hrel
        clear h2 hn2
        have hc : n = 0 ∨ n = 1 ∨ n = 2 := by omega
        rcases hc with rfl | rfl | rfl
        · obtain ⟨b1, b2⟩ := find_blank hxm b false
          have M1 : moved a.length (findB (38 :: (x.name ++ 59 :: b)) 0 false) = (x.text, x.name.length + 2 + a.length, true) := by rw [find_semi hxm]; rfl
          obtain ⟨d1, d2, d3, d4⟩ := id hx
          cases hL : x.loose
          · obtain ⟨t, m, ok, hq⟩ : ∃ t m ok, findB (38 :: (x.name ++ 32 :: b)) 0 false = (t, m, ok) := ⟨_, _, _, rfl⟩
            have hm := b2 hL
            have M2 : moved a.length (findB (38 :: (x.name ++ 32 :: b)) 0 false) = if ok then (t, m + a.length, true) else ([], 0, false) := by rw [hq]; rfl
            rw [hq] at hm
            simp only at hm
            rw [hL] at d3
            have HM1 := Lib.hid M1
            have HM2 := Lib.hid M2
            have HL := Lib.hid hL
            clear M1 M2 hL b1 b2 hq
            go_wp2_with fail
            refine (find_nm w w1.heap.size x a (38 :: (x.name ++ 59 :: b)) _ _ _ _ hb hx (by simp; omega) (by simp) rfl _ HM1.out).mono ?_
            rintro e w2 ⟨rfl, h2, hx2⟩
            obtain ⟨e1, e2, e3, e4⟩ := id hx2
            rw [HL.out] at e3
            go_wp2_with fail
            refine (find_nm w w1.heap.size x a (38 :: (x.name ++ 32 :: b)) _ _ _ _ h2 hx2 (by simp; omega) (by simp) rfl _ HM2.out).mono ?_
            rintro e w3 ⟨rfl, h3, hx3⟩
            obtain ⟨g1, g2, g3, g4⟩ := id hx3
            rw [HL.out] at g3
            cases ok
            · simp only [Bool.false_eq_true, if_false]
              go_wp2_with fail
              go_roundw
              case rel => exact ⟨1, rfl, by omega, h3, hx3⟩
              case measure => simp [intOf]
            · simp only [if_true]
              have hlt : (m : Int) + a.length < a.length + (1 + x.name.length) := by omega
              go_wp2_with fail
              go_roundw
              case rel => exact ⟨1, rfl, by omega, h3, hx3⟩
              case measure => simp [intOf]
          · have M2 : moved a.length (findB (38 :: (x.name ++ 32 :: b)) 0 false) = (x.text, x.name.length + 1 + a.length, true) := by rw [b1 hL]; rfl
            rw [hL] at d3
            have HM1 := Lib.hid M1
            have HM2 := Lib.hid M2
            have HL := Lib.hid hL
            clear M1 M2 hL b1 b2
            go_wp2_with fail
            refine (find_nm w w1.heap.size x a (38 :: (x.name ++ 59 :: b)) _ _ _ _ hb hx (by simp; omega) (by simp) rfl _ HM1.out).mono ?_
            rintro e w2 ⟨rfl, h2, hx2⟩
            obtain ⟨e1, e2, e3, e4⟩ := id hx2
            rw [HL.out] at e3
            go_wp2_with fail
            refine (find_nm w w1.heap.size x a (38 :: (x.name ++ 32 :: b)) _ _ _ _ h2 hx2 (by simp; omega) (by simp) rfl _ HM2.out).mono ?_
            rintro e w3 ⟨rfl, h3, hx3⟩
            obtain ⟨g1, g2, g3, g4⟩ := id hx3
            rw [HL.out] at g3
            go_wp2_with fail
            go_roundw
            case rel => exact ⟨1, rfl, by omega, h3, hx3⟩
            case measure => simp [intOf]
        · obtain ⟨b1, b2⟩ := find_blank hxm b true
          have M1 : moved a.length (findB (38 :: (x.name ++ 59 :: b)) 0 true) = (x.text, x.name.length + 2 + a.length, true) := by rw [find_semi hxm]; rfl
          obtain ⟨d1, d2, d3, d4⟩ := id hx
          cases hL : x.loose
          · obtain ⟨t, m, ok, hq⟩ : ∃ t m ok, findB (38 :: (x.name ++ 32 :: b)) 0 true = (t, m, ok) := ⟨_, _, _, rfl⟩
            have hm := b2 hL
            have M2 : moved a.length (findB (38 :: (x.name ++ 32 :: b)) 0 true) = if ok then (t, m + a.length, true) else ([], 0, false) := by rw [hq]; rfl
            rw [hq] at hm
            simp only at hm
            rw [hL] at d3
            have HM1 := Lib.hid M1
            have HM2 := Lib.hid M2
            have HL := Lib.hid hL
            clear M1 M2 hL b1 b2 hq
            go_wp2_with fail
            refine (find_nm w w1.heap.size x a (38 :: (x.name ++ 59 :: b)) _ _ _ _ hb hx (by simp; omega) (by simp) rfl _ HM1.out).mono ?_
            rintro e w2 ⟨rfl, h2, hx2⟩
            obtain ⟨e1, e2, e3, e4⟩ := id hx2
            rw [HL.out] at e3
            go_wp2_with fail
            refine (find_nm w w1.heap.size x a (38 :: (x.name ++ 32 :: b)) _ _ _ _ h2 hx2 (by simp; omega) (by simp) rfl _ HM2.out).mono ?_
            rintro e w3 ⟨rfl, h3, hx3⟩
            obtain ⟨g1, g2, g3, g4⟩ := id hx3
            rw [HL.out] at g3
            cases ok
            · simp only [Bool.false_eq_true, if_false]
              go_wp2_with fail
              go_roundw
              case rel => exact ⟨2, rfl, by omega, h3, hx3⟩
              case measure => simp [intOf]
            · simp only [if_true]
              have hlt : (m : Int) + a.length < a.length + (1 + x.name.length) := by omega
              go_wp2_with fail
              go_roundw
              case rel => exact ⟨2, rfl, by omega, h3, hx3⟩
              case measure => simp [intOf]
          · have M2 : moved a.length (findB (38 :: (x.name ++ 32 :: b)) 0 true) = (x.text, x.name.length + 1 + a.length, true) := by rw [b1 hL]; rfl
            rw [hL] at d3
            have HM1 := Lib.hid M1
            have HM2 := Lib.hid M2
            have HL := Lib.hid hL
            clear M1 M2 hL b1 b2
            go_wp2_with fail
            refine (find_nm w w1.heap.size x a (38 :: (x.name ++ 59 :: b)) _ _ _ _ hb hx (by simp; omega) (by simp) rfl _ HM1.out).mono ?_
            rintro e w2 ⟨rfl, h2, hx2⟩
            obtain ⟨e1, e2, e3, e4⟩ := id hx2
            rw [HL.out] at e3
            go_wp2_with fail
            refine (find_nm w w1.heap.size x a (38 :: (x.name ++ 32 :: b)) _ _ _ _ h2 hx2 (by simp; omega) (by simp) rfl _ HM2.out).mono ?_
            rintro e w3 ⟨rfl, h3, hx3⟩
            obtain ⟨g1, g2, g3, g4⟩ := id hx3
            rw [HL.out] at g3
            go_wp2_with fail
            go_roundw
            case rel => exact ⟨2, rfl, by omega, h3, hx3⟩
            case measure => simp [intOf]
        · clear hx
          go_wp2_with fail
          refine (refers_st w _ hb).mono ?_
          rintro e w5 ⟨rfl, h5⟩
          go_wp2_with fail
          go_ret
          exact ⟨rfl, h5.1⟩
    · go_enter Tryd.func4, Tryd.ntmps4
      go_wp2_with fail
      refine (refers_st w _ h).mono ?_
      rintro e w5 ⟨rfl, h5⟩
      go_wp2_with fail
      go_ret
      exact ⟨rfl, h5.1⟩
  · go_enter Tryd.func4, Tryd.ntmps4
    go_wp2_with fail
    refine (refers_st w _ h).mono ?_
    rintro e w5 ⟨rfl, h5⟩
    go_wp2_with fail
    go_ret
    exact ⟨rfl, h5.1⟩
end Go.Proofs.YtlhbofekochhkaaDoor
