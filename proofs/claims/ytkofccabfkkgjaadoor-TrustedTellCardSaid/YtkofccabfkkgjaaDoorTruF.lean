/-
  What is proved: the law's own helpers: a policy of a text, the chapter's policies: contracts. Condition: what the package's variable holds.
-/
import Derived.Test.YtkofccabfkkgjaaDoorTruE
import Derived.Test.YtkofccabfkkgjaaDoorOne
import Derived.Test.YtkofccabfkkgjaaDoorChnL
namespace Go.Proofs.YtkofccabfkkgjaaDoor
open Go.RowKit

theorem StrsB.set {w : World} {v : Value} {l : List (List UInt8)} (h : StrsB w v l) {p : Addr} {cs : Array Value} {t : TypeId} {fz : Nat × Nat} (ht : w.heap[p.block]? = some (.cells cs t fz)) (hne : t ≠ 9) (u : Value) : StrsB (w.setCell p u) v l := by
  obtain ⟨a, cap, h1, h2, h3, h4⟩ := h
  refine ⟨a, cap, h1, h2, h3, ?_⟩
  rcases h4 with h4 | ⟨b, off, cs', fz', e, hb, hc⟩
  · exact .inl h4
  · refine .inr ⟨b, off, cs', fz', e, (Below.heap_setCell w p u b (fun e => ?_)).trans hb, hc⟩
    subst e
    rw [hb] at ht
    simp at ht
    exact hne ht.2.1.symm
theorem OwnD.set {B : Nat} {v : Value} {ds : List Dir} {w : World} (h : OwnD B v ds w) {p : Addr} (hp : p.block < B) {cs : Array Value} {t : TypeId} {fz : Nat × Nat} (ht : w.heap[p.block]? = some (.cells cs t fz)) (hne : t ≠ 9) (u : Value) : OwnD B v ds (w.setCell p u) := by
  obtain ⟨ps, h1, h2, h3, h4⟩ := h
  exact ⟨ps, h1, ownsRow_setCell_below h2 hp u, fun q hq => (h3 q hq).set ht hne u, h4⟩
theorem block_of_set {w : World} {b i : Nat} {cs : Array Value} {t : TypeId} {fz : Nat × Nat} (h : w.heap[b]? = some (.cells cs t fz)) (u : Value) : ∃ cs', (w.setCell ⟨b, i, none⟩ u).heap[b]? = some (.cells cs' t fz) := ⟨_, Go.Joins.block_setCell h u⟩
set_option maxHeartbeats 2000000 in
theorem of_any (l : List UInt8) (w : World) (hm : MaxIs w) (hl : l.length < 100000) :
    Calls Tryd.prog 30 #[.string ⟨⟨l⟩⟩] w fun e w' => ∃ a c, e = .returned (.agg #[.slice a (oneL l).length c, .bool false]) ∧ DirsAt w' (.slice a (oneL l).length c) (oneL l) ∧ Ext w w' := by
  have hx0 : Ext w (w.alloc (.cells #[.slice none 0 0, .bool false] 30)) := (Below.refl _ _).alloc (Nat.le_refl _) _
  have co := one_any l _ (hm.ext hx0) hl
  have ho := one_len l
  obtain ⟨D, hD⟩ : ∃ D, oneL l = D := ⟨_, rfl⟩
  rw [hD] at co ho ⊢
  clear hD
  go_enter Tryd.func30, Tryd.ntmps30
  go_wp2_with fail
  refine co.mono ?_
  rintro e w1 ⟨v, rfl, hown, x1⟩
  obtain ⟨a, c, rfl⟩ := hown.len
  obtain ⟨hc1, hf1⟩ := bcell x1
  go_wp2_with fail
  refine bodyPost_ret (v := .agg #[.slice a D.length c, .bool false]) (by simp [results, Tryd.results30, go_sem, hc1]) rfl ⟨_, _, rfl, ?_, ?_⟩
  · have h1 : OwnD (w.heap.size + 1) (.slice a D.length c) D w1 := by simpa using hown
    have hb : w1.heap[w.heap.size]? = some (.cells #[.slice none 0 0, .bool false] 30) := (x1.block w.heap.size (by simp)).trans (heap_alloc_new w _)
    obtain ⟨cs', hb2⟩ := block_of_set (i := 0) hb (.slice a D.length c)
    exact ((h1.set (p := ⟨w.heap.size, 0, none⟩) (Nat.lt_succ_self _) hb (by decide) _).set (p := ⟨w.heap.size, 1, none⟩) (Nat.lt_succ_self _) hb2 (by decide) _).dirs (by unfold maxLen; omega)
  · exact ((hx0.trans x1).setCell (Nat.le_refl _) _).setCell (Nat.le_refl _) _
theorem parse_at (v : Value) (rep : Bool) (ds : List Dir) (w : World) (H : DirsAt w v ds) (hs : SmallD ds) (l : List (List UInt8)) (an tw has : Bool) (hp : parseN ds = ⟨l, an, tw⟩) (hh : hasN ds = has) :
    Calls Tryd.prog 23 #[.agg #[v, .bool rep]] w (ParseIs l an tw has w) := by
  have c := parse_any v rep ds w H hs
  unfold ParseSays at c
  rw [hp, hh] at c
  exact c
def tx1 : List UInt8 := [116, 114, 117, 115, 116, 101, 100, 45, 116, 121, 112, 101, 115, 32, 97, 32, 39, 65, 108, 108, 111, 119, 45, 68, 117, 112, 108, 105, 99, 97, 116, 101, 115, 39, 32, 33]
def tx2 : List UInt8 := [116, 114, 117, 115, 116, 101, 100, 45, 116, 121, 112, 101, 115, 32, 39, 110, 111, 110, 101, 39]
def tx3 : List UInt8 := [114, 101, 113, 117, 105, 114, 101, 45, 116, 114, 117, 115, 116, 101, 100, 45, 116, 121, 112, 101, 115, 45, 102, 111, 114, 32, 39, 83, 67, 82, 73, 80, 84, 39]
theorem namesL_eq {N : NamesL} {l : List (List UInt8)} {a t : Bool} (h : N.list = l ∧ N.any = a ∧ N.twice = t) : N = ⟨l, a, t⟩ := by
  obtain ⟨x, y, z⟩ := N
  obtain ⟨rfl, rfl, rfl⟩ := h
  rfl
theorem tx1_parse : parseN (oneL tx1) = ⟨[[97]], false, true⟩ := namesL_eq (by decide +kernel)
theorem tx1_rest : hasN (oneL tx1) = true ∧ createsN (oneL tx1) [97] [[97]] = true ∧ createsN (oneL tx1) [98] [] = false := by decide +kernel
theorem tx2_facts : createsN (oneL tx2) [97] [] = false ∧ createsN (oneL tx2) [39, 110, 111, 110, 101, 39] [] = false := by decide +kernel
theorem tx3_facts : requiresN (oneL tx3) = true := by decide +kernel
set_option maxHeartbeats 8000000 in
set_option maxRecDepth 100000 in
theorem types_any (w : World) (hm : MaxIs w) : Calls Tryd.prog 22 #[] w fun e w' => e = .returned (.bool true) ∧ Ext w w' := by
  have o1 := fun W hM => of_any tx1 W hM (by decide)
  have o2 := fun W hM => of_any tx2 W hM (by decide)
  have o3 := fun W hM => of_any tx3 W hM (by decide)
  have s1 : SmallD (oneL tx1) := one_small (by decide)
  have s2 : SmallD (oneL tx2) := one_small (by decide)
  have s3 : SmallD (oneL tx3) := one_small (by decide)
  have p1 := tx1_parse
  obtain ⟨p2, p3, p4⟩ := tx1_rest
  obtain ⟨p5, p6⟩ := tx2_facts
  have p7 := tx3_facts
  obtain ⟨D1, hD1⟩ : ∃ D, oneL tx1 = D := ⟨_, rfl⟩
  obtain ⟨D2, hD2⟩ : ∃ D, oneL tx2 = D := ⟨_, rfl⟩
  obtain ⟨D3, hD3⟩ : ∃ D, oneL tx3 = D := ⟨_, rfl⟩
  rw [hD1] at o1 s1 p1 p2 p3 p4
  rw [hD2] at o2 s2 p5 p6
  rw [hD3] at o3 s3 p7
  have k1 := fun v W H => parse_at v false D1 W H s1 _ _ _ _ p1 p2
  have k3 := fun v tv W H K => creates_any v false D1 [97] tv [[97]] W H s1 K
  have k4 := fun v tv W H K => creates_any v false D1 [98] tv [] W H s1 K
  have k5 := fun v tv W H K => creates_any v false D2 [97] tv [] W H s2 K
  have k6 := fun v tv W H K => creates_any v false D2 [39, 110, 111, 110, 101, 39] tv [] W H s2 K
  have k7 := fun v W H => requires_any v false D3 W H s3
  rw [p3] at k3
  rw [p4] at k4
  rw [p5] at k5
  rw [p6] at k6
  rw [p7] at k7
  clear hD1 hD2 hD3 p1 p2 p3 p4 p5 p6 p7 s1 s2 s3
  go_enter Tryd.func22, Tryd.ntmps22
  go_wp2_with fail
  refine (o1 _ hm).mono ?_
  rintro e w1 ⟨a1, c1, rfl, h1, x1⟩
  have hA1 : Ext w1 (w1.alloc (.cells #[.slice a1 D1.length c1, .bool false] 30)) := (Below.refl _ _).alloc (Nat.le_refl _) _
  have P1 : PolCell (w1.alloc (.cells #[.slice a1 D1.length c1, .bool false] 30)) w1.heap.size a1 D1.length c1 false D1 := ⟨cells_of_lit (heap_alloc_new w1 _) 0, cells_of_lit (heap_alloc_new w1 _) 1, h1.ext hA1⟩
  have y1 := Ext.trans x1 hA1
  go_wp2_with fail
  refine (k1 _ _ P1.dirs).mono ?_
  rintro e w2 ⟨la, lc, rfl, hst, x2⟩
  have hA2 : Ext w2 (w2.alloc (.cells #[.slice la 1 lc, .bool false, .bool true, .bool true] 43)) := (Below.refl _ _).alloc (Nat.le_refl _) _
  have P2 := (P1.ext x2).ext hA2
  have y2 := Ext.trans y1 (Ext.trans x2 hA2)
  have n0 : (w2.alloc (.cells #[.slice la 1 lc, .bool false, .bool true, .bool true] 43)).cell? ⟨w2.heap.size, 0, none⟩ = some (.slice la 1 lc) := cells_of_lit (heap_alloc_new w2 _) 0
  have n1 : (w2.alloc (.cells #[.slice la 1 lc, .bool false, .bool true, .bool true] 43)).cell? ⟨w2.heap.size, 1, none⟩ = some (.bool false) := cells_of_lit (heap_alloc_new w2 _) 1
  have n2 : (w2.alloc (.cells #[.slice la 1 lc, .bool false, .bool true, .bool true] 43)).cell? ⟨w2.heap.size, 2, none⟩ = some (.bool true) := cells_of_lit (heap_alloc_new w2 _) 2
  have n3 : (w2.alloc (.cells #[.slice la 1 lc, .bool false, .bool true, .bool true] 43)).cell? ⟨w2.heap.size, 3, none⟩ = some (.bool true) := cells_of_lit (heap_alloc_new w2 _) 3
  have nz : w2.heap.size < (w2.alloc (.cells #[.slice la 1 lc, .bool false, .bool true, .bool true] 43)).heap.size := by simp
  obtain ⟨bl, ol, el, hbl, cl⟩ : ∃ b o, la = some ⟨b, o, none⟩ ∧ b < w2.heap.size ∧ w2.cell? ⟨b, o + 0, none⟩ = some (.string ⟨⟨[97]⟩⟩) := by
    obtain ⟨a', c', e', hcl⟩ := hst.cells
    cases e'
    exact hcl 0 (by simp)
  subst el
  have cl2 := (hA2.cell (p := ⟨bl, ol + 0, none⟩) hbl).trans cl
  have NN := Lib.hid (And.intro n0 (And.intro n1 (And.intro n2 (And.intro n3 (And.intro nz cl2)))))
  clear n0 n1 n2 n3 cl cl2 nz hst
  go_wp2_with fail
  refine (o2 _ (hm.ext y2)).mono ?_
  rintro e w3 ⟨a2, c2, rfl, h2, x3⟩
  have hA3 : Ext w3 (w3.alloc (.cells #[.slice a2 D2.length c2, .bool false] 30)) := (Below.refl _ _).alloc (Nat.le_refl _) _
  have Q3 : PolCell (w3.alloc (.cells #[.slice a2 D2.length c2, .bool false] 30)) w3.heap.size a2 D2.length c2 false D2 := ⟨cells_of_lit (heap_alloc_new w3 _) 0, cells_of_lit (heap_alloc_new w3 _) 1, h2.ext hA3⟩
  have P3 := (P2.ext x3).ext hA3
  have y3 := Ext.trans y2 (Ext.trans x3 hA3)
  have x3A := Ext.trans x3 hA3
  obtain ⟨n0, n1, n2, n3, nz, cl⟩ := NN.out
  have m0 := (x3A.cell (p := ⟨w2.heap.size, 0, none⟩) nz).trans n0
  have m1 := (x3A.cell (p := ⟨w2.heap.size, 1, none⟩) nz).trans n1
  have m2 := (x3A.cell (p := ⟨w2.heap.size, 2, none⟩) nz).trans n2
  have m3 := (x3A.cell (p := ⟨w2.heap.size, 3, none⟩) nz).trans n3
  have m4 := (x3A.cell (p := ⟨bl, ol + 0, none⟩) (Nat.lt_trans hbl nz)).trans cl
  have q0 := P3.lst
  have q1 := P3.rep
  clear n0 n1 n2 n3 nz cl
  simp only [Nat.add_zero] at m4
  go_wp2_with fail
  have l4 : Ext (w3.alloc (.cells #[.slice a2 D2.length c2, .bool false] 30)) ((w3.alloc (.cells #[.slice a2 D2.length c2, .bool false] 30)).alloc (.cells (Array.mk (strCells [[97]])) 9)) := (Below.refl _ _).alloc (Nat.le_refl _) _
  have t4 := (OwnS.lit (w3.alloc (.cells #[.slice a2 D2.length c2, .bool false] 30)) [[97]] 1 rfl (by decide)).strs (by decide) (by decide)
  simp only [World.size_alloc] at t4
  have P4 := P3.ext l4
  have Q4 := Q3.ext l4
  have y4 := Ext.trans y3 l4
  refine (k3 _ _ _ P4.dirs t4).mono ?_
  rintro e w5 ⟨rfl, x5⟩
  have P5 := P4.ext x5
  have Q5 := Q4.ext x5
  have y5 := Ext.trans y4 x5
  have q0 := P5.lst
  have q1 := P5.rep
  clear m0 m1 m2 m3 m4
  go_wp2_with fail
  refine (k4 _ _ _ P5.dirs (StrsAt.nil _)).mono ?_
  rintro e w6 ⟨rfl, x6⟩
  have Q6 := Q5.ext x6
  have y6 := Ext.trans y5 x6
  have q2 := Q6.lst
  have q3 := Q6.rep
  go_wp2_with fail
  refine (k5 _ _ _ Q6.dirs (StrsAt.nil _)).mono ?_
  rintro e w7 ⟨rfl, x7⟩
  have Q7 := Q6.ext x7
  have y7 := Ext.trans y6 x7
  have q4 := Q7.lst
  have q5 := Q7.rep
  go_wp2_with fail
  refine (k6 _ _ _ Q7.dirs (StrsAt.nil _)).mono ?_
  rintro e w8 ⟨rfl, x8⟩
  have y8 := Ext.trans y7 x8
  go_wp2_with fail
  refine (o3 _ (hm.ext y8)).mono ?_
  rintro e w9 ⟨a9, c9, rfl, h9, x9⟩
  have y9 := Ext.trans y8 x9
  go_wp2_with fail
  refine (k7 _ _ h9).mono ?_
  rintro e w10 ⟨rfl, x10⟩
  go_wp2_with fail
  go_ret
  exact ⟨rfl, Ext.trans y9 x10⟩
end Go.Proofs.YtkofccabfkkgjaaDoor
