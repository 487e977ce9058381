/-
  What is proved: general facts of policies in memory. No condition.
-/
import Derived.Test.YtfaomejdoljfnaaDoorFnd
import Derived.Test.YtfaomejdoljfnaaDoorSpl
import Derived.Test.YtfaomejdoljfnaaDoorOne
namespace Go.Proofs.YtfaomejdoljfnaaDoor
open Go.RowKit

theorem alloc_two (w : World) (A B : Obj) : ((w.alloc A).alloc B).heap[w.heap.size]? = some A ∧ ((w.alloc A).alloc B).heap[w.heap.size + 1]? = some B := by
  refine ⟨?_, ?_⟩
  · rw [Below.heap_alloc _ _ _ (by simp)]
    exact heap_alloc_new w _
  · have := heap_alloc_new (w.alloc A) B
    rwa [World.size_alloc] at this
theorem cells_of_lit {w : World} {t : TypeId} {cs : Array Value} {b : Nat} (h : w.heap[b]? = some (.cells cs t)) (i : Nat) : w.cell? ⟨b, i, none⟩ = cs[i]? := by
  simp [World.cell?, h]
theorem frz_of_lit {w : World} {t : TypeId} {cs : Array Value} {b : Nat} (h : w.heap[b]? = some (.cells cs t)) (i : Nat) : w.frozen? ⟨b, i, none⟩ = false := by
  simp only [World.frozen?, h]
  simp
structure SmallD (ds : List Dir) : Prop where
  len : ds.length ≤ 1000000
  each : ∀ d ∈ ds, d.vals.length ≤ 1000000
theorem SmallD.found {ds : List Dir} (h : SmallD ds) {n : List UInt8} {d : Dir} (hf : findD ds n = some d) : d.vals.length ≤ 1000000 := h.each d (List.mem_of_find?_eq_some hf)
/-- A policy in two cells. -/
structure PolCell (w : World) (b : Nat) (a : Option Addr) (n cap : Nat) (rep : Bool) (ds : List Dir) : Prop where
  lst : w.cell? ⟨b, 0, none⟩ = some (.slice a n cap)
  rep : w.cell? ⟨b, 1, none⟩ = some (.bool rep)
  dirs : DirsAt w (.slice a n cap) ds
theorem PolCell.ext {w w' : World} {b : Nat} {a : Option Addr} {n cap : Nat} {rep : Bool} {ds : List Dir} (h : PolCell w b a n cap rep ds) (k : Below w.heap.size w w') : PolCell w' b a n cap rep ds :=
  ⟨(k.cell (p := ⟨b, 0, none⟩) (cell_lt h.lst)).trans h.lst, (k.cell (p := ⟨b, 1, none⟩) (cell_lt h.rep)).trans h.rep, h.dirs.ext k⟩
theorem StrsAt.cells {w : World} {v : Value} {l : List (List UInt8)} (h : StrsAt w v l) : ∃ a cap, v = .slice a l.length cap ∧ ∀ k (hk : k < l.length), ∃ b off, a = some ⟨b, off, none⟩ ∧ b < w.heap.size ∧ w.cell? ⟨b, off + k, none⟩ = some (.string ⟨⟨l[k]⟩⟩) := by
  obtain ⟨a, cap, e1, _, _, e4⟩ := h
  refine ⟨a, cap, e1, fun k hk => ?_⟩
  rcases e4 with rfl | ⟨b, off, e, hb, hc⟩
  · simp at hk
  · exact ⟨b, off, e, hb, hc k hk⟩
theorem DirsAt.vals {w : World} {v : Value} {ds : List Dir} (h : DirsAt w v ds) {d : Dir} (hd : d ∈ ds) : d.vals.length ≤ maxLen ∧ ∀ s ∈ d.vals, s.length ≤ maxLen := by
  obtain ⟨a, cap, us, _, _, h3, _, _⟩ := h
  obtain ⟨i, hi, rfl⟩ := List.getElem_of_mem hd
  obtain ⟨_, _, _, h1, h2, _⟩ := h3 i hi
  exact ⟨h1, h2⟩
theorem each_max {L : List (List UInt8)} (h : ∀ x ∈ L, x.length ≤ 1000) : ∀ x ∈ L, x.length ≤ maxLen := fun x hx => by
  have := h x hx
  unfold maxLen
  omega
/-- A directive that is handed back, or none. -/
def DirV (w : World) (x : Value) : Option Dir → Prop
  | none => x = .agg #[.string ⟨⟨[]⟩⟩, .slice none 0 0]
  | some d => ∃ a cap, x = .agg #[.string ⟨⟨d.name⟩⟩, .slice a d.vals.length cap] ∧ StrsAt w (.slice a d.vals.length cap) d.vals
theorem OwnS.lit (w : World) (l : List (List UInt8)) (n : Nat) (hn : l.length = n) (hl : n ≤ maxLen) : OwnS w.heap.size (.slice (some ⟨w.heap.size, 0, none⟩) n n) l (w.alloc (.cells (Array.mk (strCells l)) 9)) := by
  subst hn
  refine ⟨by simp [strCells], .inr ⟨w.heap.size, l.length, _, rfl, Nat.le_refl _, heap_alloc_new w _, Nat.le_refl _, hl, by simp [strCells], List.take_of_length_le (by simp [strCells])⟩⟩
theorem StrsAt.nil (w : World) : StrsAt w (.slice none 0 0) [] := ⟨none, 0, rfl, Nat.zero_le _, by simp, .inl rfl⟩
end Go.Proofs.YtfaomejdoljfnaaDoor
