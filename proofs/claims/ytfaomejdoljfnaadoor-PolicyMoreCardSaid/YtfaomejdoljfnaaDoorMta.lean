/-
  What is proved: the policy of a meta element, the program's and the reference's: contracts. Condition: texts of at most 100000 bytes.
-/
import Derived.Test.YtfaomejdoljfnaaDoorMtaD
import Derived.Test.YtfaomejdoljfnaaDoorOneR
namespace Go.Proofs.YtfaomejdoljfnaaDoor
open Go.RowKit

/-- A policy and a bool are given; the policy reads so. -/
def MetaIs (ds : List Dir) (w : World) (e : Ending) (w' : World) : Prop := ∃ a cap, e = .returned (.tuple #[.agg #[.slice a ds.length cap, .bool false], .bool (!ds.isEmpty)]) ∧ DirsAt w' (.slice a ds.length cap) ds ∧ Ext w w'
theorem meta_len (ds : List Dir) : (metaL ds).length ≤ ds.length := List.length_filter_le _ _
theorem DirsAt.nil (w : World) : DirsAt w (.slice none 0 0) [] := ⟨none, 0, fun _ => default, rfl, Nat.zero_le _, by simp, by simp, .inl rfl⟩
/-- A block without texts. -/
def NoStr (W : World) (g : Nat) : Prop := ∀ o s, W.cell? ⟨g, o, none⟩ ≠ some (.string s)
theorem NoStr.pol {W : World} {g : Nat} {t : TypeId} {a : Option Addr} {n c : Nat} {b : Bool} (h : W.heap[g]? = some (.cells #[.slice a n c, .bool b] t)) : NoStr W g := by
  intro o s e
  rw [cells_of_lit h o] at e
  match o with
  | 0 => simp at e
  | 1 => simp at e
  | o + 2 => simp at e
theorem StrsAt.apart {W w : World} {g : Nat} {v : Value} {l : List (List UInt8)} (H : StrsAt W v l) (k : KeepG W g w) (hg : NoStr W g) : StrsAt w v l := by
  obtain ⟨a, cap, h1, h2, h3, h4⟩ := H
  refine ⟨a, cap, h1, h2, h3, ?_⟩
  rcases h4 with h4 | ⟨b, off, e, hb, hc⟩
  · exact .inl h4
  · by_cases h0 : l.length = 0
    · exact .inl (List.eq_nil_of_length_eq_zero h0)
    · have hc0 := hc 0 (by omega)
      refine .inr ⟨b, off, e, Nat.lt_of_lt_of_le hb k.size, fun i hi => ?_⟩
      rw [World.cell?_of_block (a := ⟨b, off + i, none⟩) (k.block b hb (fun e => hg _ _ (e ▸ hc0)))]
      exact hc i hi
theorem DirsAt.apart {W w : World} {g : Nat} {v : Value} {l : List Dir} (H : DirsAt W v l) (k : KeepG W g w) (hg : NoStr W g) : DirsAt w v l := by
  obtain ⟨a, cap, us, h1, h2, h3, h5, h4⟩ := H
  refine ⟨a, cap, us, h1, h2, fun i hi => (h3 i hi).apart k hg, h5, ?_⟩
  rcases h4 with h4 | ⟨b, off, e, hb, hc⟩
  · exact .inl h4
  · by_cases h0 : l.length = 0
    · exact .inl (List.eq_nil_of_length_eq_zero h0)
    · have hc0 := (hc 0 (by omega)).1
      have hk := k.block b hb (fun e => hg _ _ (e ▸ hc0))
      refine .inr ⟨b, off, e, Nat.lt_of_lt_of_le hb k.size, fun i hi => ?_⟩
      rw [World.cell?_of_block (a := ⟨b, off + i * 2, none⟩) hk, World.cell?_of_block (a := ⟨b, off + i * 2 + 1, none⟩) hk]
      exact hc i hi
set_option maxHeartbeats 4000000 in
theorem meta_any (l : List UInt8) (w : World) (hm : MaxIs w) (hl : l.length < 100000) :
    Calls Tryd.prog 9 #[.string ⟨⟨l⟩⟩] w (MetaIs (metaL (oneL l)) w) := by
  have x0 : Ext w (w.alloc (.cells #[.slice none 0 0, .bool false] 36)) := (Below.refl _ _).alloc (Nat.le_refl _) _
  have co := one_any l _ (hm.ext x0) hl
  have hol := one_len l
  have hml := meta_len (oneL l)
  obtain ⟨D, hD⟩ : ∃ D, oneL l = D := ⟨_, rfl⟩
  rw [hD] at co hol hml ⊢
  have cd := fun v w1 (H : OwnD (w.alloc (.cells #[.slice none 0 0, .bool false] 36)).heap.size v D w1) (x : Ext (w.alloc (.cells #[.slice none 0 0, .bool false] 36)) w1) => delete_any v D w1 H x.size (by omega) x (Nat.le_refl _)
  obtain ⟨M, hM⟩ : ∃ M, metaL D = M := ⟨_, rfl⟩
  rw [hM] at cd hml ⊢
  have CD := Lib.hid cd
  have X0 := Lib.hid x0
  have z0 : (w.alloc (.cells #[.slice none 0 0, .bool false] 36)).cell? ⟨w.heap.size, 0, none⟩ = some (.slice none 0 0) := cells_of_lit (heap_alloc_new w _) 0
  have z1 : (w.alloc (.cells #[.slice none 0 0, .bool false] 36)).cell? ⟨w.heap.size, 1, none⟩ = some (.bool false) := cells_of_lit (heap_alloc_new w _) 1
  have zf : ∀ i, (w.alloc (.cells #[.slice none 0 0, .bool false] 36)).frozen? ⟨w.heap.size, i, none⟩ = false := fun i => frz_of_lit (heap_alloc_new w _) i
  have ZZ := Lib.hid (And.intro z0 (And.intro z1 (And.intro (zf 0) (zf 1))))
  clear hD hM cd x0 z0 z1 zf
  go_enter Tryd.func9, Tryd.ntmps9
  go_wp2_with fail
  refine co.mono ?_
  rintro e w1 ⟨v, rfl, hown, x1⟩
  go_wp2_with fail
  refine (CD.out _ _ hown x1).mono ?_
  rintro e w2 ⟨a, cap, rfl, hda, x2⟩
  obtain ⟨z0, z1, z2, z3⟩ := ZZ.out
  have hlt : w.heap.size < (w.alloc (.cells #[.slice none 0 0, .bool false] 36)).heap.size := by simp
  have y0 := (x2.cell (p := ⟨w.heap.size, 0, none⟩) hlt).trans z0
  have y1 := (x2.cell (p := ⟨w.heap.size, 1, none⟩) hlt).trans z1
  have y2 := (x2.frozen (p := ⟨w.heap.size, 0, none⟩) hlt).trans z2
  have y3 := (x2.frozen (p := ⟨w.heap.size, 1, none⟩) hlt).trans z3
  have hblk := (x2.block w.heap.size hlt).trans (heap_alloc_new w _)
  have hlt2 : w.heap.size < w2.heap.size := Nat.lt_of_lt_of_le hlt x2.size
  have hw2 := Ext.trans X0.out x2
  clear z0 z1 z2 z3
  by_cases hM : M = []
  · subst hM
    have e0 : (((0 : Nat) : Int) == 0) = true := rfl
    go_wp2_with fail
    refine bodyPost_ret (v := .tuple #[.agg #[.slice none 0 0, .bool false], .bool false]) (by simp [results, Tryd.results9, go_sem, y0, y1]) rfl ?_
    exact ⟨none, 0, rfl, DirsAt.nil _, (hw2.setCell (Nat.le_refl _) _).setCell (Nat.le_refl _) _⟩
  · have hpos : 0 < M.length := List.length_pos_iff.2 hM
    have hE : M.isEmpty = false := by simpa using hM
    have e0 : ((M.length : Int) == 0) = false := beq_eq_false_iff_ne.2 (by omega)
    have HE := Lib.hid hE
    have HDA := Lib.hid hda
    clear hM hE hda
    go_wp2_with fail
    refine bodyPost_ret (v := .tuple #[.agg #[.slice a M.length cap, .bool false], .bool true]) (by simp [results, Tryd.results9, go_sem, y0, y1]) rfl ?_
    exact ⟨a, cap, by rw [HE.out]; rfl, HDA.out.apart (((KeepG.refl _ _).set _ _).set _ _) (NoStr.pol hblk), (hw2.setCell (Nat.le_refl _) _).setCell (Nat.le_refl _) _⟩
end Go.Proofs.YtfaomejdoljfnaaDoor
