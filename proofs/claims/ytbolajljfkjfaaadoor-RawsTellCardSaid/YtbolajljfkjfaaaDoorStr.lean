/-
  What is proved: lists of strings that a call has made itself: append of one, what it reads as. Condition: lengths that fit.
-/
import Derived.Test.YtbolajljfkjfaaaDoorOwn
import Derived.Test.YtbolajljfkjfaaaDoorFrm
namespace Go.Proofs
theorem Tryd.infoStr : (Tryd.prog.info? 9).map (fun i => (i.zero, i.size, i.bytes)) = some (some (.string ByteArray.empty), 1, 16) := by kernel_rfl
end Go.Proofs
namespace Go.Proofs.YtbolajljfkjfaaaDoor
open Go.RowKit

def strCells (l : List (List UInt8)) : List Value := l.map fun s => Value.string ⟨⟨s⟩⟩
theorem strCells_app (l m : List (List UInt8)) : strCells (l ++ m) = strCells l ++ strCells m := by simp [strCells]
/-- A []string of the call's own, from block B on, that holds these strings. -/
def OwnS (B : Nat) (v : Value) (l : List (List UInt8)) (w : World) : Prop := w.ownsRow B 9 1 v l.length (strCells l)
theorem OwnS.nil (B : Nat) (w : World) : OwnS B (.slice none 0 0) [] w := World.ownsRow_nil _ _ _ _
theorem OwnS.drewN {B : Nat} {v : Value} {l : List (List UInt8)} {w : World} (h : OwnS B v l w) (n : Nat) : OwnS B v l (w.drewN n) := h
theorem OwnS.below {B : Nat} {v : Value} {l : List (List UInt8)} {w w' : World} (h : OwnS B v l w) (k : Below w.heap.size w w') : OwnS B v l w' := by
  refine World.ownsRow.kept h (row := none) ⟨k.os, k.tape, k.output, k.size, fun i hi _ => k.block i hi⟩ ?_
  cases v.ownBlock with
  | none => exact .inl rfl
  | some g => exact .inr (by simp)
/-- What the call has made reads as these strings. -/
theorem OwnS.strs {B : Nat} {v : Value} {l : List (List UInt8)} {w : World} (h : OwnS B v l w) (hl : l.length ≤ maxLen) (hm : ∀ s ∈ l, s.length ≤ maxLen) : StrsAt w v l := by
  obtain ⟨_, h⟩ := h
  rcases h with ⟨rfl, h0⟩ | ⟨g, cap, cur, rfl, _, hg, hn, _, hc, htk⟩
  · have : l = [] := List.eq_nil_of_length_eq_zero (by omega)
    subst this
    exact ⟨none, 0, rfl, Nat.zero_le _, by simp, .inl rfl⟩
  · refine ⟨some ⟨g, 0, none⟩, cap, rfl, hl, hm, .inr ⟨g, 0, rfl, (Array.getElem?_eq_some_iff.1 hg).1, fun i hi => ?_⟩⟩
    simp only [World.cell?, hg, Nat.zero_add]
    have h1 : (cur.toList.take (l.length * 1))[i]? = (strCells l)[i]? := by rw [htk]
    rw [List.getElem?_take, if_pos (by omega)] at h1
    simp [strCells, hi] at h1
    simpa using h1
end Go.Proofs.YtbolajljfkjfaaaDoor
