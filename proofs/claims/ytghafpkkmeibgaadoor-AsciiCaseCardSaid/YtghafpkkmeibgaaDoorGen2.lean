/-
  What is proved: what a list of texts is, cell by cell. No condition.
-/
import Derived.Test.YtghafpkkmeibgaaDoorStr
namespace Go.Proofs.YtghafpkkmeibgaaDoor
open Go.RowKit

theorem StrsAt.cells {w : World} {v : Value} {l : List (List UInt8)} (h : StrsAt w v l) : ∃ a cap, v = .slice a l.length cap ∧ ∀ k (hk : k < l.length), ∃ b off, a = some ⟨b, off, none⟩ ∧ b < w.heap.size ∧ w.cell? ⟨b, off + k, none⟩ = some (.string ⟨⟨l[k]⟩⟩) := by
  obtain ⟨a, cap, e1, _, _, e4⟩ := h
  refine ⟨a, cap, e1, fun k hk => ?_⟩
  rcases e4 with rfl | ⟨b, off, e, hb, hc⟩
  · simp at hk
  · exact ⟨b, off, e, hb, hc k hk⟩
theorem OwnS.lit (w : World) (l : List (List UInt8)) (n : Nat) (hn : l.length = n) (hl : n ≤ maxLen) : OwnS w.heap.size (.slice (some ⟨w.heap.size, 0, none⟩) n n) l (w.alloc (.cells (Array.mk (strCells l)) 9)) := by
  subst hn
  refine ⟨by simp [strCells], .inr ⟨w.heap.size, l.length, _, rfl, Nat.le_refl _, heap_alloc_new w _, Nat.le_refl _, hl, by simp [strCells], List.take_of_length_le (by simp [strCells])⟩⟩
theorem StrsAt.nil (w : World) : StrsAt w (.slice none 0 0) [] := ⟨none, 0, rfl, Nat.zero_le _, by simp, .inl rfl⟩
end Go.Proofs.YtghafpkkmeibgaaDoor
