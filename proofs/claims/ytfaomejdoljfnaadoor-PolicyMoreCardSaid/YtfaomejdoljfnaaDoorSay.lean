/-
  What is proved: the chapter's policies: a contract of the law's. Condition: what the package's variable holds.
-/
import Derived.Test.YtfaomejdoljfnaaDoorMta
import Derived.Test.YtfaomejdoljfnaaDoorSamP
import Derived.Test.YtfaomejdoljfnaaDoorTxtX
namespace Go.Proofs.YtfaomejdoljfnaaDoor
open Go.RowKit

def sx1 : List UInt8 := [73, 109, 103, 45, 83, 114, 99, 32, 97, 32, 32, 98, 59, 32, 59, 115, 99, 114, 105, 112, 116, 45, 115, 114, 99, 59, 105, 109, 103, 45, 115, 114, 99, 32, 99]
def sx2 : List UInt8 := [97, 32, 98, 44, 32, 59, 44, 99]
def sx3 : List UInt8 := [115, 97, 110, 100, 98, 111, 120, 59, 32, 97, 44, 32, 98]
def sx4 : List UInt8 := [114, 101, 112, 111, 114, 116, 45, 117, 114, 105, 32, 120]
def sd1 : Dir := ⟨[105, 109, 103, 45, 115, 114, 99], [[97], [98]]⟩
def sd2 : Dir := ⟨[115, 99, 114, 105, 112, 116, 45, 115, 114, 99], []⟩
def sd3 : Dir := ⟨[97], [[98]]⟩
def sd4 : Dir := ⟨[99], []⟩
def sd5 : Dir := ⟨[97, 44], [[98]]⟩
theorem dir_eq {a b : Dir} (h1 : a.name = b.name) (h2 : a.vals = b.vals) : a = b := by
  cases a; cases b; simp_all
theorem dirs_eq {a b : List Dir} (h : a.map (fun d => (d.name, d.vals)) = b.map (fun d => (d.name, d.vals))) : a = b := by
  have inj : ∀ x y : Dir, (x.name, x.vals) = (y.name, y.vals) → x = y := fun x y e => dir_eq (congrArg Prod.fst e) (congrArg Prod.snd e)
  induction a generalizing b with
  | nil => cases b <;> simp_all
  | cons x a ih =>
    cases b with
    | nil => simp at h
    | cons y b =>
      simp only [List.map_cons, List.cons.injEq] at h
      rw [inj x y h.1, ih h.2]
theorem says1 : oneL sx1 = [sd1, sd2] := dirs_eq (by decide +kernel)
theorem says3 : metaL (oneL sx3) = [sd5] := dirs_eq (by decide +kernel)
theorem says4 : metaL (oneL sx4) = [] := dirs_eq (by decide +kernel)
theorem oneA : oneL [97, 32, 98] = [sd3] := dirs_eq (by decide +kernel)
theorem oneB : oneL [32, 59] = [] := dirs_eq (by decide +kernel)
theorem oneC : oneL [99] = [sd4] := dirs_eq (by decide +kernel)
theorem says2 : polsL sx2 true = [⟨[sd3], true⟩, ⟨[sd4], true⟩] := by
  have e : splitL 44 sx2 = [[97, 32, 98], [32, 59], [99]] := by decide +kernel
  unfold polsL listL
  rw [e]
  simp only [List.foldl_cons, List.foldl_nil, listStep, oneA, oneB, oneC]
  rfl
theorem says5 : textL [sd1, sd2] = [105, 109, 103, 45, 115, 114, 99, 32, 97, 32, 98, 59, 32, 115, 99, 114, 105, 112, 116, 45, 115, 114, 99] := by decide +kernel
theorem saysOk : TextOk [sd1, sd2] := ⟨by decide, by decide +kernel⟩
theorem old_cell {w w' : World} {b i : Nat} {v : Value} (x : Ext w w') (h : w.cell? ⟨b, i, none⟩ = some v) : w'.cell? ⟨b, i, none⟩ = some v := (x.cell (p := ⟨b, i, none⟩) (cell_lt h)).trans h
theorem dirs_one {w : World} {a : Option Addr} {c : Nat} {d : Dir} (h : DirsAt w (.slice a 1 c) [d]) : ∃ b o ua uc, a = some ⟨b, o, none⟩ ∧ w.cell? ⟨b, o, none⟩ = some (.string ⟨⟨d.name⟩⟩) ∧ w.cell? ⟨b, o + 1, none⟩ = some (.slice ua d.vals.length uc) ∧ StrsAt w (.slice ua d.vals.length uc) d.vals := by
  obtain ⟨a', c', e, hc⟩ := h.cells
  cases e
  obtain ⟨b, o, u, e, _, h1, h2, h3⟩ := hc 0 (by simp)
  obtain ⟨ua, uc, rfl, _⟩ := h3.cells
  exact ⟨b, o, ua, uc, e, by simpa using h1, by simpa using h2, h3⟩
theorem dirs_two {w : World} {a : Option Addr} {c : Nat} {d e : Dir} (h : DirsAt w (.slice a 2 c) [d, e]) : ∃ b o ua uc va vc, a = some ⟨b, o, none⟩ ∧ w.cell? ⟨b, o, none⟩ = some (.string ⟨⟨d.name⟩⟩) ∧ w.cell? ⟨b, o + 1, none⟩ = some (.slice ua d.vals.length uc) ∧ StrsAt w (.slice ua d.vals.length uc) d.vals ∧
    w.cell? ⟨b, o + 2, none⟩ = some (.string ⟨⟨e.name⟩⟩) ∧ w.cell? ⟨b, o + 3, none⟩ = some (.slice va e.vals.length vc) ∧ StrsAt w (.slice va e.vals.length vc) e.vals := by
  obtain ⟨a', c', ee, hc⟩ := h.cells
  cases ee
  obtain ⟨b, o, u, ee, _, h1, h2, h3⟩ := hc 0 (by simp)
  obtain ⟨b', o', v, ef, _, k1, k2, k3⟩ := hc 1 (by simp)
  rw [ee] at ef
  cases ef
  obtain ⟨ua, uc, rfl, _⟩ := h3.cells
  obtain ⟨va, vc, rfl, _⟩ := k3.cells
  exact ⟨b, o, ua, uc, va, vc, ee, by simpa using h1, by simpa using h2, h3, by simpa using k1, by simpa using k2, k3⟩
theorem pols_two {w : World} {a : Option Addr} {c : Nat} {p q : Pol} (h : PolsAt w (.slice a 2 c) [p, q]) : ∃ b o u v, a = some ⟨b, o, none⟩ ∧ w.cell? ⟨b, o, none⟩ = some u ∧ w.cell? ⟨b, o + 1, none⟩ = some (.bool p.rep) ∧ w.cell? ⟨b, o + 2, none⟩ = some v ∧ w.cell? ⟨b, o + 3, none⟩ = some (.bool q.rep) ∧ DirsAt w u p.ds ∧ DirsAt w v q.ds := by
  obtain ⟨a', c', ee, hc⟩ := h.cells
  cases ee
  obtain ⟨b, o, u, ee, _, h1, h2, h3⟩ := hc 0 (by simp)
  obtain ⟨b', o', v, ef, _, k1, k2, k3⟩ := hc 1 (by simp)
  rw [ee] at ef
  cases ef
  exact ⟨b, o, u, v, ee, by simpa using h1, by simpa using h2, by simpa using k1, by simpa using k2, h3, k3⟩
set_option maxHeartbeats 8000000 in
set_option maxRecDepth 100000 in
theorem says_any (w : World) (hm : MaxIs w) : Calls Tryd.prog 4 #[] w fun e w' => e = .returned (.bool true) ∧ Ext w w' := by
  have c1 := fun W hM => one_any sx1 W hM (by decide)
  rw [says1] at c1
  have c2 := fun W hM => list_any sx2 true W hM (by decide)
  rw [says2] at c2
  have c3 := fun W hM => meta_any sx3 W hM (by decide)
  rw [says3] at c3
  have c4 := fun W hM => meta_any sx4 W hM (by decide)
  rw [says4] at c4
  have c5 := fun v W H => text_any v false [sd1, sd2] W H saysOk
  rw [says5] at c5
  go_enter Tryd.func4, Tryd.ntmps4
  go_wp2_with fail
  refine (c1 _ hm).mono ?_
  rintro e w1 ⟨v1, rfl, o1, x1⟩
  have h1 := o1.dirs (by decide)
  obtain ⟨a1, p1, rfl⟩ := o1.len
  go_wp2_with fail
  refine (c2 _ (hm.ext x1)).mono ?_
  rintro e w2 ⟨v2, rfl, o2, x2⟩
  have h2 := o2.pols (by decide)
  obtain ⟨a2, p2, rfl⟩ := o2.len
  have y2 := Ext.trans x1 x2
  go_wp2_with fail
  refine (c3 _ (hm.ext y2)).mono ?_
  rintro e w3 ⟨a3, p3, rfl, h3, x3⟩
  have y3 := Ext.trans y2 x3
  go_wp2_with fail
  have x3b : Ext w3 (w3.alloc (.cells #[.slice a3 1 p3, .bool false] 36)) := (Below.refl _ _).alloc (Nat.le_refl _) _
  have y3b := Ext.trans y3 x3b
  have P3 : PolCell (w3.alloc (.cells #[.slice a3 1 p3, .bool false] 36)) w3.heap.size a3 1 p3 false [sd5] := ⟨cells_of_lit (heap_alloc_new w3 _) 0, cells_of_lit (heap_alloc_new w3 _) 1, h3.ext x3b⟩
  refine (c4 _ (hm.ext y3b)).mono ?_
  rintro e w4 ⟨a4, p4, rfl, h4, x4⟩
  have y4 := Ext.trans y3b x4
  go_upto_region 5 with fail
  obtain ⟨W, hW⟩ : ∃ W, w4.alloc (.cells #[.slice a4 0 p4, .bool false] 36) = W := ⟨_, rfl⟩
  have x5 : Ext w4 W := by rw [← hW]; exact (Below.refl _ _).alloc (Nat.le_refl _) _
  have y5 := Ext.trans y4 x5
  have xx4 := Ext.trans x4 x5
  have xx3 := Ext.trans x3 (Ext.trans x3b xx4)
  have xx2 := Ext.trans x2 xx3
  have k1 := h1.ext xx2
  obtain ⟨b1, q1, ua, uc, va, vc, rfl, n1, n2, n3, n4, n5, n6⟩ := dirs_two k1
  obtain ⟨b2, q2, pu, pv, rfl, m1, m2, m3, m4, m5, m6⟩ := pols_two (h2.ext xx3)
  obtain ⟨pva, pvc, rfl, _⟩ := m6.cells
  obtain ⟨b3, q3, ra, rc, rfl, r1, r2, r3⟩ := dirs_one m6
  have P4 := P3.ext xx4
  have l1 := P4.lst
  obtain ⟨b4, q4, ta, tc, rfl, t1, t2, t3⟩ := dirs_one P4.dirs
  rw [hW]
  go_wp2_with fail
  have l6 : Ext W (W.alloc (.cells (Array.mk (strCells [[97], [98]])) 9)) := (Below.refl _ _).alloc (Nat.le_refl _) _
  have t6 := (OwnS.lit W [[97], [98]] 2 rfl (by decide)).strs (by decide) (by decide)
  refine (directive_same sd1 _ _ _ (n3.ext l6) t6).mono ?_
  rintro e w6 ⟨rfl, x6⟩
  have z6 := Ext.trans l6 x6
  have n4' := old_cell z6 n4
  have n5' := old_cell z6 n5
  clear n1 n2 n4 n5
  go_wp2_with fail
  refine (directive_same sd2 _ _ _ (n6.ext z6) (StrsAt.nil _)).mono ?_
  rintro e w7 ⟨rfl, x7⟩
  have z7 := Ext.trans z6 x7
  have m2' := old_cell z7 m2
  have m3' := old_cell z7 m3
  have r1' := old_cell z7 r1
  have l1' := old_cell z7 l1
  have t1' := old_cell z7 t1
  clear m1 m2 m3 m4 r1 r2 l1 t1 t2 n4' n5'
  go_wp2_with fail
  refine (c5 _ _ (k1.ext z7)).mono ?_
  rintro e w8 ⟨rfl, x8⟩
  go_wp2_with fail
  go_ret
  exact ⟨rfl, Ext.trans y5 (Ext.trans z7 x8)⟩
end Go.Proofs.YtfaomejdoljfnaaDoor
