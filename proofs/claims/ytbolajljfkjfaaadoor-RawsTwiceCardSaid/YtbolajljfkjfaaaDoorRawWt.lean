/-
  What is proved: the walk of RawsTwice: it answers true. Conditions: the library's variable holds an integer, the program's table what its text lays.
-/
import Derived.Test.YtbolajljfkjfaaaDoorRawZ
import Derived.Test.YtbolajljfkjfaaaDoorRawJ
namespace Go.Proofs.YtbolajljfkjfaaaDoor
open Go.RowKit

theorem raw_part {x p q t : List UInt8} {m : Nat} (hx : x = p ++ q) (h : haltP scN 0 x = p.length) (ht : cleanL p = t) (hm : p.length = m) : rawP scN 3 x = some (t, m) := by
  subst hx
  exact raw_script h ht hm
theorem beq_int {a b : Int} (h : a = b) : (a == b) = true := by rw [h]; exact beq_self_eq_true b

theorem twice_1 {a b : List UInt8} (h : Mild a b) : rawP [115, 99, 114, 105, 112, 116] 3 (60 :: 33 :: 45 :: 45 :: (a ++ 60 :: 115 :: 99 :: 114 :: 105 :: 112 :: 116 :: 62 :: (b ++ 60 :: 47 :: 83 :: 67 :: 82 :: 73 :: 80 :: 84 :: 62 :: (a ++ [60, 47, 115, 99, 114, 105, 112, 116, 32, 62])))) = some ((60 :: 33 :: 45 :: 45 :: (cleanL a ++ 60 :: 115 :: 99 :: 114 :: 105 :: 112 :: 116 :: 62 :: (cleanL b ++ 60 :: 47 :: 83 :: 67 :: 82 :: 73 :: 80 :: 84 :: 62 :: cleanL a))), (60 :: 33 :: 45 :: 45 :: (a ++ 60 :: 115 :: 99 :: 114 :: 105 :: 112 :: 116 :: 62 :: (b ++ 60 :: 47 :: 83 :: 67 :: 82 :: 73 :: 80 :: 84 :: 62 :: a))).length) := by
  refine raw_part (t := _) (p := (60 :: 33 :: 45 :: 45 :: (a ++ 60 :: 115 :: 99 :: 114 :: 105 :: 112 :: 116 :: 62 :: (b ++ 60 :: 47 :: 83 :: 67 :: 82 :: 73 :: 80 :: 84 :: 62 :: a)))) (q := [60, 47, 115, 99, 114, 105, 112, 116, 32, 62]) (by simp) ((Mild.one h).trans (by simp; omega)) ?_ rfl
  simp [cleanL_cons, cleanL_app, cleanL_nil, cleanB]
theorem twice_2 {a b : List UInt8} (h : Mild a b) : rawP [115, 99, 114, 105, 112, 116] 3 (60 :: 33 :: 45 :: 45 :: (a ++ 45 :: 45 :: 62 :: (b ++ 60 :: 47 :: 115 :: 99 :: 114 :: 105 :: 112 :: 116 :: 62 :: a))) = some ((60 :: 33 :: 45 :: 45 :: (cleanL a ++ 45 :: 45 :: 62 :: cleanL b)), (60 :: 33 :: 45 :: 45 :: (a ++ 45 :: 45 :: 62 :: b)).length) := by
  refine raw_part (t := _) (p := (60 :: 33 :: 45 :: 45 :: (a ++ 45 :: 45 :: 62 :: b))) (q := (60 :: 47 :: 115 :: 99 :: 114 :: 105 :: 112 :: 116 :: 62 :: a)) (by simp) ((Mild.two h).trans (by simp; omega)) ?_ rfl
  simp [cleanL_cons, cleanL_app, cleanL_nil, cleanB]
theorem twice_3 {a b : List UInt8} (h : Mild a b) : rawP [115, 99, 114, 105, 112, 116] 3 (60 :: 33 :: 45 :: 45 :: (a ++ 60 :: 115 :: 99 :: 114 :: 105 :: 112 :: 116 :: 62 :: (b ++ 45 :: 45 :: 62 :: (a ++ [60, 47, 115, 99, 114, 105, 112, 116, 47])))) = some ((60 :: 33 :: 45 :: 45 :: (cleanL a ++ 60 :: 115 :: 99 :: 114 :: 105 :: 112 :: 116 :: 62 :: (cleanL b ++ 45 :: 45 :: 62 :: cleanL a))), (60 :: 33 :: 45 :: 45 :: (a ++ 60 :: 115 :: 99 :: 114 :: 105 :: 112 :: 116 :: 62 :: (b ++ 45 :: 45 :: 62 :: a))).length) := by
  refine raw_part (t := _) (p := (60 :: 33 :: 45 :: 45 :: (a ++ 60 :: 115 :: 99 :: 114 :: 105 :: 112 :: 116 :: 62 :: (b ++ 45 :: 45 :: 62 :: a)))) (q := [60, 47, 115, 99, 114, 105, 112, 116, 47]) (by simp) ((Mild.three h).trans (by simp; omega)) ?_ rfl
  simp [cleanL_cons, cleanL_app, cleanL_nil, cleanB]
theorem twice_4 {a b : List UInt8} (h : Mild a b) : rawP [115, 99, 114, 105, 112, 116] 3 (60 :: 33 :: 45 :: 45 :: (a ++ 60 :: 115 :: 99 :: 114 :: 105 :: 112 :: 116 :: 115 :: 62 :: (b ++ [60, 47, 115, 99, 114, 105, 112, 116, 62]))) = some ((60 :: 33 :: 45 :: 45 :: (cleanL a ++ 60 :: 115 :: 99 :: 114 :: 105 :: 112 :: 116 :: 115 :: 62 :: cleanL b)), (60 :: 33 :: 45 :: 45 :: (a ++ 60 :: 115 :: 99 :: 114 :: 105 :: 112 :: 116 :: 115 :: 62 :: b)).length) := by
  refine raw_part (t := _) (p := (60 :: 33 :: 45 :: 45 :: (a ++ 60 :: 115 :: 99 :: 114 :: 105 :: 112 :: 116 :: 115 :: 62 :: b))) (q := [60, 47, 115, 99, 114, 105, 112, 116, 62]) (by simp) ((Mild.four h).trans (by simp; omega)) ?_ rfl
  simp [cleanL_cons, cleanL_app, cleanL_nil, cleanB]
set_option maxRecDepth 100000 in
set_option maxHeartbeats 16000000 in
theorem rtwice_walk (a b : List UInt8) (w : World) (hm : MaxIs w) (hO : OthersIs w) (ha : a.length ≤ maxLen) (hb : b.length ≤ maxLen) :
    Calls Tryd.prog 8 #[.string ⟨⟨a⟩⟩, .string ⟨⟨b⟩⟩] w fun e w' => e = .returned (.bool true) ∧ Below w.heap.size w w' := by
  have h := StR.start hm hO
  clear hm hO
  unfold maxLen at ha hb
  by_cases ga : (500 : Int) < (a.length : Int)
  · go_enter Tryd.func8, Tryd.ntmps8
    go_wp2_with (first | (go_at_call 9; refine (raw_st w _ ?hst).mono ?_; (case hst => exact h.next (by go_grown)); rintro e wz ⟨rfl, hz⟩))
    go_ret
    exact ⟨rfl, hz.1⟩
  by_cases gb : (500 : Int) < (b.length : Int)
  · go_enter Tryd.func8, Tryd.ntmps8
    go_wp2_with (first | (go_at_call 9; refine (raw_st w _ ?hst).mono ?_; (case hst => exact h.next (by go_grown)); rintro e wz ⟨rfl, hz⟩))
    go_ret
    exact ⟨rfl, hz.1⟩
  have l1 : (a.length : Int) ≤ 500 := by omega
  have l2 : (b.length : Int) ≤ 500 := by omega
  have c1 := fun W => has_any (a ++ b) [60] W (by simp; omega) (by decide) (by decide)
  have c2 := fun W => has_any (a ++ b) [45] W (by simp; omega) (by decide) (by decide)
  cases hc1 : idxP [60] (a ++ b) with
  | some _ =>
    rw [hc1] at c1
    go_enter Tryd.func8, Tryd.ntmps8
    go_wp2_with (first | (go_at_call 21; (with_reducible refine (c1 _).mono ?_); rintro e w1 ⟨rfl, rfl⟩) | (go_at_call 9; refine (raw_st w _ ?hst).mono ?_; (case hst => exact h.next (by go_grown)); rintro e wz ⟨rfl, hz⟩))
    go_ret
    exact ⟨rfl, hz.1⟩
  | none =>
  rw [hc1] at c1
  cases hc2 : idxP [45] (a ++ b) with
  | some _ =>
    rw [hc2] at c2
    go_enter Tryd.func8, Tryd.ntmps8
    go_wp2_with (first | (go_at_call 21; (with_reducible refine (c1 _).mono ?_); rintro e w1 ⟨rfl, rfl⟩) | (go_at_call 21; (with_reducible refine (c2 _).mono ?_); rintro e w1 ⟨rfl, rfl⟩) | (go_at_call 9; refine (raw_st w _ ?hst).mono ?_; (case hst => exact h.next (by go_grown)); rintro e wz ⟨rfl, hz⟩))
    go_ret
    exact ⟨rfl, hz.1⟩
  | none =>
  rw [hc2] at c2
  have n1 := idx_none 60 _ hc1
  have n2 := idx_none 45 _ hc2
  have HA : Hid (∀ c ∈ a, c ≠ 60 ∧ c ≠ 45) := Lib.hid (fun c hc => ⟨n1 c (by simp [hc]), n2 c (by simp [hc])⟩)
  have HB : Hid (∀ c ∈ b, c ≠ 60 ∧ c ≠ 45) := Lib.hid (fun c hc => ⟨n1 c (by simp [hc]), n2 c (by simp [hc])⟩)
  clear n1 n2 hc1 hc2
  by_cases hl0 : a.length = 0
  · have HM : Hid (Mild a b) := Lib.hid ⟨HA.out, HB.out, fun u e => by rw [e] at hl0; simp at hl0⟩
    have q1 : ¬ (0 : Int) < (a.length : Int) := by omega
    have q3 : ¬ 0 < a.length := by omega
    clear hl0
    have k1 := twice_1 HM.out
    have r1 := fun w => raw_is (n := [115, 99, 114, 105, 112, 116]) (i := 0) (st := 3) (z := (((60 :: 33 :: 45 :: 45 :: (a ++ 60 :: 115 :: 99 :: 114 :: 105 :: 112 :: 116 :: 62 :: (b ++ 60 :: 47 :: 83 :: 67 :: 82 :: 73 :: 80 :: 84 :: 62 :: a)))).length : Int)) (k := 0) rfl (by omega) k1 (by first | omega | (simp; omega) | simp) (by first | (simp; omega) | simp) (by decide) w
    have k2 := twice_2 HM.out
    have r2 := fun w => raw_is (n := [115, 99, 114, 105, 112, 116]) (i := 0) (st := 3) (z := 7 + (a.length : Int) + b.length) (k := 0) rfl (by omega) k2 (by first | omega | (simp; omega) | simp) (by first | (simp; omega) | simp) (by decide) w
    have k3 := twice_3 HM.out
    have r3 := fun w => raw_is (n := [115, 99, 114, 105, 112, 116]) (i := 0) (st := 3) (z := 15 + 2 * (a.length : Int) + b.length) (k := 0) rfl (by omega) k3 (by first | omega | (simp; omega) | simp) (by first | (simp; omega) | simp) (by decide) w
    have k4 := twice_4 HM.out
    have r4 := fun w => raw_is (n := [115, 99, 114, 105, 112, 116]) (i := 0) (st := 3) (z := 13 + (a.length : Int) + b.length) (k := 0) rfl (by omega) k4 (by first | omega | (simp; omega) | simp) (by first | (simp; omega) | simp) (by decide) w
    have ca := fun W => cleanR_any a W (by omega)
    have cb := fun W => cleanR_any b W (by omega)
    obtain ⟨c, hc⟩ : ∃ c, cleanL a = c := ⟨_, rfl⟩
    obtain ⟨d, hd⟩ : ∃ d, cleanL b = d := ⟨_, rfl⟩
    have hcl := cleanL_len a
    have hdl := cleanL_len b
    rw [hc] at ca r1 r2 r3 r4 hcl
    rw [hd] at cb r1 r2 r3 r4 hdl
    clear k1 k2 k3 k4 hc hd HM HA HB
    go_enter Tryd.func8, Tryd.ntmps8
    go_wp2_with (first
      | (go_at_call 21; (with_reducible refine (c1 _).mono ?_); rintro e w1 ⟨rfl, rfl⟩)
      | (go_at_call 21; (with_reducible refine (c2 _).mono ?_); rintro e w1 ⟨rfl, rfl⟩)
      | (go_at_call 19; (with_reducible refine (r1 w _ ?hst).mono ?_); (case hst => exact h.next (by go_grown)); rintro e w1 ⟨rfl, x1, h1⟩; have y1 := x1)
      | (go_at_call 19; (with_reducible refine (r2 w _ ?hst).mono ?_); (case hst => exact h.next (by go_grown)); rintro e w2 ⟨rfl, x2, h2⟩; have y2 := Ext.trans y1 x2)
      | (go_at_call 19; (with_reducible refine (r3 w _ ?hst).mono ?_); (case hst => exact h.next (by go_grown)); rintro e w3 ⟨rfl, x3, h3⟩; have y3 := Ext.trans y2 x3)
      | (go_at_call 19; (with_reducible refine (r4 w _ ?hst).mono ?_); (case hst => exact h.next (by go_grown)); rintro e w4 ⟨rfl, x4, h4⟩; have y4 := Ext.trans y3 x4)
      | (go_at_call 23; (with_reducible refine (ca _).mono ?_); rintro e w5 ⟨rfl, rfl⟩)
      | (go_at_call 23; (with_reducible refine (cb _).mono ?_); rintro e w6 ⟨rfl, rfl⟩)
      | (go_at_call 9; refine (raw_st w _ ?hst).mono ?_; (case hst => exact h.next (by go_grown)); rintro e wz ⟨rfl, hz⟩))
    go_ret
    exact ⟨rfl, hz.1⟩
  have p0 : 0 < a.length := by omega
  have p1 : (0 : Int) < (a.length : Int) := by omega
  have e62 : (((a[0]).toNat : Int) == 62) = (a[0] == 62) := u8_beq (x := 62)
  obtain ⟨cc, hcc⟩ : ∃ c, a[0] = c := ⟨_, rfl⟩
  have hcl := cc.toNat_lt
  rw [hcc] at e62
  cases h62 : (cc == 62) with
  | true =>
    rw [h62] at e62
    clear h62
    go_enter Tryd.func8, Tryd.ntmps8
    go_wp2_with (first | (go_at_call 21; (with_reducible refine (c1 _).mono ?_); rintro e w1 ⟨rfl, rfl⟩) | (go_at_call 21; (with_reducible refine (c2 _).mono ?_); rintro e w1 ⟨rfl, rfl⟩) | (go_at_call 9; refine (raw_st w _ ?hst).mono ?_; (case hst => exact h.next (by go_grown)); rintro e wz ⟨rfl, hz⟩))
    go_ret
    exact ⟨rfl, hz.1⟩
  | false =>
  rw [h62] at e62
  have HM : Hid (Mild a b) := Lib.hid ⟨HA.out, HB.out, fun u e => by
    subst e
    simp only [List.getElem_cons_zero] at hcc
    subst hcc
    cases h62⟩
  clear h62 hl0
  have k1 := twice_1 HM.out
  have r1 := fun w => raw_is (n := [115, 99, 114, 105, 112, 116]) (i := 0) (st := 3) (z := (((60 :: 33 :: 45 :: 45 :: (a ++ 60 :: 115 :: 99 :: 114 :: 105 :: 112 :: 116 :: 62 :: (b ++ 60 :: 47 :: 83 :: 67 :: 82 :: 73 :: 80 :: 84 :: 62 :: a)))).length : Int)) (k := 0) rfl (by omega) k1 (by first | omega | (simp; omega) | simp) (by first | (simp; omega) | simp) (by decide) w
  have k2 := twice_2 HM.out
  have r2 := fun w => raw_is (n := [115, 99, 114, 105, 112, 116]) (i := 0) (st := 3) (z := 7 + (a.length : Int) + b.length) (k := 0) rfl (by omega) k2 (by first | omega | (simp; omega) | simp) (by first | (simp; omega) | simp) (by decide) w
  have k3 := twice_3 HM.out
  have r3 := fun w => raw_is (n := [115, 99, 114, 105, 112, 116]) (i := 0) (st := 3) (z := 15 + 2 * (a.length : Int) + b.length) (k := 0) rfl (by omega) k3 (by first | omega | (simp; omega) | simp) (by first | (simp; omega) | simp) (by decide) w
  have k4 := twice_4 HM.out
  have r4 := fun w => raw_is (n := [115, 99, 114, 105, 112, 116]) (i := 0) (st := 3) (z := 13 + (a.length : Int) + b.length) (k := 0) rfl (by omega) k4 (by first | omega | (simp; omega) | simp) (by first | (simp; omega) | simp) (by decide) w
  have ca := fun W => cleanR_any a W (by omega)
  have cb := fun W => cleanR_any b W (by omega)
  obtain ⟨c, hc⟩ : ∃ c, cleanL a = c := ⟨_, rfl⟩
  obtain ⟨d, hd⟩ : ∃ d, cleanL b = d := ⟨_, rfl⟩
  have hcl := cleanL_len a
  have hdl := cleanL_len b
  rw [hc] at ca r1 r2 r3 r4 hcl
  rw [hd] at cb r1 r2 r3 r4 hdl
  clear k1 k2 k3 k4 hc hd HM HA HB
  go_enter Tryd.func8, Tryd.ntmps8
  go_wp2_with (first
    | (go_at_call 21; (with_reducible refine (c1 _).mono ?_); rintro e w1 ⟨rfl, rfl⟩)
    | (go_at_call 21; (with_reducible refine (c2 _).mono ?_); rintro e w1 ⟨rfl, rfl⟩)
    | (go_at_call 19; (with_reducible refine (r1 w _ ?hst).mono ?_); (case hst => exact h.next (by go_grown)); rintro e w1 ⟨rfl, x1, h1⟩; have y1 := x1)
    | (go_at_call 19; (with_reducible refine (r2 w _ ?hst).mono ?_); (case hst => exact h.next (by go_grown)); rintro e w2 ⟨rfl, x2, h2⟩; have y2 := Ext.trans y1 x2)
    | (go_at_call 19; (with_reducible refine (r3 w _ ?hst).mono ?_); (case hst => exact h.next (by go_grown)); rintro e w3 ⟨rfl, x3, h3⟩; have y3 := Ext.trans y2 x3)
    | (go_at_call 19; (with_reducible refine (r4 w _ ?hst).mono ?_); (case hst => exact h.next (by go_grown)); rintro e w4 ⟨rfl, x4, h4⟩; have y4 := Ext.trans y3 x4)
    | (go_at_call 23; (with_reducible refine (ca _).mono ?_); rintro e w5 ⟨rfl, rfl⟩)
    | (go_at_call 23; (with_reducible refine (cb _).mono ?_); rintro e w6 ⟨rfl, rfl⟩)
    | (go_at_call 9; refine (raw_st w _ ?hst).mono ?_; (case hst => exact h.next (by go_grown)); rintro e wz ⟨rfl, hz⟩))
  go_ret
  exact ⟨rfl, hz.1⟩
end Go.Proofs.YtbolajljfkjfaaaDoor

