/-
  What is proved: arguments that are lists of bools. No condition.
-/
import Derived.Test.YtkgieaokckidmaaFrm
import Derived.Deep.Grids
namespace Go.Proofs.Ytkgieaokckidmaa
open Go.RowKit Go.ChangeShapes Go.WideShapes Go.Deep Go.ChangeAt

/-- A slice that reads as these bools. -/
def BoolsAt (w : World) (v : Value) (l : List Bool) : Prop :=
  ∃ (a : Option Addr) (cap : Nat), v = .slice a l.length cap ∧ l.length ≤ maxLen ∧ (l = [] ∨ ∃ b off, a = some ⟨b, off, none⟩ ∧ b < w.heap.size ∧ ∀ i (h : i < l.length), w.cell? ⟨b, off + i, none⟩ = some (.bool l[i]))
theorem BoolsAt.ext {w w' : World} {v : Value} {l : List Bool} (h : BoolsAt w v l) (k : Below w.heap.size w w') : BoolsAt w' v l := by
  obtain ⟨a, cap, h1, h2, h4⟩ := h
  refine ⟨a, cap, h1, h2, ?_⟩
  rcases h4 with h4 | ⟨b, off, e, hb, hc⟩
  · exact .inl h4
  · exact .inr ⟨b, off, e, Nat.lt_of_lt_of_le hb k.size, fun i hi => (k.cell (p := ⟨b, off + i, none⟩) hb).trans (hc i hi)⟩
theorem BoolsAt.cells {w : World} {v : Value} {l : List Bool} (h : BoolsAt w v l) : ∃ a cap, v = .slice a l.length cap ∧ l.length ≤ maxLen ∧ ∀ k (hk : k < l.length), ∃ b off, a = some ⟨b, off, none⟩ ∧ b < w.heap.size ∧ w.cell? ⟨b, off + k, none⟩ = some (.bool l[k]) := by
  obtain ⟨a, cap, e1, hm, e4⟩ := h
  refine ⟨a, cap, e1, hm, fun k hk => ?_⟩
  rcases e4 with rfl | ⟨b, off, e, hb, hc⟩
  · simp at hk
  · exact ⟨b, off, e, hb, hc k hk⟩
set_option maxRecDepth 100000 in
theorem open_boolsAt {H : Type} {enc : TypeId × Value → H} {w : World} {v : Value} {d : DataW H} {ps : List MemPlace} (hv : Value.okWide Try.prog w .any 0 28 v) (h : DataW.Trod enc Try.prog w 0 (fun _ => true) true 28 v d ps) : ∃ l, BoolsAt w v l := by
  obtain ⟨n, hn⟩ := h
  obtain ⟨a0, len, cap, rfl⟩ := okWide_slice Try.underlying28 hv
  rcases open_bools Try.underlying28 Try.underlying4 (by kernel_rfl) hn with ⟨hcs, hx⟩ | ⟨a, len', cap', B, hcs, _, hl, hm, hx, hcell⟩
  · simp only [Value.cells, List.cons.injEq, Value.slice.injEq, and_true] at hcs
    obtain ⟨rfl, rfl, rfl⟩ := hcs
    exact ⟨[], none, 0, rfl, Nat.zero_le _, .inl rfl⟩
  · simp only [Value.cells, List.cons.injEq, Value.slice.injEq, and_true] at hcs
    obtain ⟨rfl, rfl, rfl⟩ := hcs
    have hlen : ((List.range len).map B).length = len := by simp
    refine ⟨(List.range len).map B, some a, cap, by rw [hlen], by rw [hlen]; omega, ?_⟩
    by_cases h0 : len = 0
    · exact .inl (List.eq_nil_of_length_eq_zero (by rw [hlen]; exact h0))
    · obtain ⟨b, off, spot⟩ := a
      have hc0 := hcell 0 (by omega)
      have hsp : spot = none := cell_spot (a := ⟨b, off + 0, spot⟩) hc0
      subst hsp
      refine .inr ⟨b, off, rfl, cell_lt (a := ⟨b, off + 0, none⟩) hc0, fun i hi => ?_⟩
      rw [hlen] at hi
      have hci := hcell i (by omega)
      rw [add_plain] at hci
      simp only [List.getElem_map, List.getElem_range]
      exact hci
end Go.Proofs.Ytkgieaokckidmaa
