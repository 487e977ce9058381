/-
  What is proved: which directive a policy has of a name, a copy of its values: policy.Find, by slices.Clone: contracts. Condition: lists of at most a million.
-/
import Derived.Test.YtfaomejdoljfnaaDoorNam
import Derived.Shelf.Slices.Clone
import Derived.Deep.RegionHeld3
namespace Go.Proofs
open Go.Shelf
end Go.Proofs
namespace Go.Proofs.YtfaomejdoljfnaaDoor
open Go.RowKit

theorem own_form {B e size n : Nat} {v : Value} {xs : List Value} {w : World} (h : w.ownsRow B e size v n xs) : ∃ a cap, v = .slice a n cap := by
  rcases h.2 with ⟨rfl, rfl⟩ | ⟨g, cap, cur, rfl, _⟩
  · exact ⟨none, 0, rfl⟩
  · exact ⟨_, _, rfl⟩
theorem OwnS.mono {B B' : Nat} {v : Value} {l : List (List UInt8)} {w : World} (h : OwnS B' v l w) (hB : B ≤ B') : OwnS B v l w := by
  obtain ⟨h2, h3⟩ := h
  refine ⟨h2, ?_⟩
  rcases h3 with h3 | ⟨g, cap, cur, e, hg, r⟩
  · exact .inl h3
  · exact .inr ⟨g, cap, cur, e, by omega, r⟩
theorem DirsAt.cells {w : World} {v : Value} {l : List Dir} (h : DirsAt w v l) : ∃ a cap, v = .slice a l.length cap ∧ ∀ k (hk : k < l.length), ∃ b off u, a = some ⟨b, off, none⟩ ∧ b < w.heap.size ∧ w.cell? ⟨b, off + k * 2, none⟩ = some (.string ⟨⟨l[k].name⟩⟩) ∧ w.cell? ⟨b, off + k * 2 + 1, none⟩ = some u ∧ StrsAt w u l[k].vals := by
  obtain ⟨a, cap, us, e1, _, h3, _, e4⟩ := h
  refine ⟨a, cap, e1, fun k hk => ?_⟩
  rcases e4 with rfl | ⟨b, off, e, hb, hc⟩
  · simp at hk
  · exact ⟨b, off, us k, e, hb, (hc k hk).1, (hc k hk).2, h3 k hk⟩
theorem bcell {W w1 : World} (hb : Below W.heap.size W w1) : (∀ b o, b < W.heap.size → w1.cell? ⟨b, o, none⟩ = W.cell? ⟨b, o, none⟩) ∧ (∀ b o, b < W.heap.size → w1.frozen? ⟨b, o, none⟩ = W.frozen? ⟨b, o, none⟩) :=
  ⟨fun b o h => hb.cell (p := ⟨b, o, none⟩) h, fun b o h => hb.frozen (p := ⟨b, o, none⟩) h⟩
theorem held_at (w : World) (t : TypeId) (cs : Array Value) (i : Nat) (v : Value) (h : cs[i]? = some v) : ((w.alloc (.cells cs t)).drew).cell? ⟨w.heap.size, i, none⟩ = some v := by
  have e : ((w.alloc (.cells cs t)).drew).heap[w.heap.size]? = some (.cells cs t) := heap_alloc_new w _
  simp only [World.cell?, e]
  simpa using h
theorem held_old (w : World) (o : Obj) (b : Nat) (h : b < w.heap.size) (i : Nat) : ((w.alloc o).drew).cell? ⟨b, i, none⟩ = w.cell? ⟨b, i, none⟩ :=
  ((Below.refl w.heap.size w).alloc (Nat.le_refl _) o).cell (p := ⟨b, i, none⟩) h
theorem held_oldf (w : World) (o : Obj) (b : Nat) (h : b < w.heap.size) (i : Nat) : ((w.alloc o).drew).frozen? ⟨b, i, none⟩ = w.frozen? ⟨b, i, none⟩ :=
  ((Below.refl w.heap.size w).alloc (Nat.le_refl _) o).frozen (p := ⟨b, i, none⟩) h
end Go.Proofs.YtfaomejdoljfnaaDoor
