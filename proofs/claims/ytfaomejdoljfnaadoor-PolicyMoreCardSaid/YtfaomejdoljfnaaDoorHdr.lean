/-
  What is proved: the policies of headers, the program's and the reference's: contracts. Condition: at most 1000 headers, of names of at most 99999 bytes and values of at most 9999.
-/
import Derived.Test.YtfaomejdoljfnaaDoorApp
import Derived.Test.YtfaomejdoljfnaaDoorLstR
namespace Go.Proofs.YtfaomejdoljfnaaDoor
open Go.RowKit

structure Hdr where
  name : List UInt8
  val : List UInt8
def enfL : List UInt8 := [99, 111, 110, 116, 101, 110, 116, 45, 115, 101, 99, 117, 114, 105, 116, 121, 45, 112, 111, 108, 105, 99, 121]
def repL : List UInt8 := [99, 111, 110, 116, 101, 110, 116, 45, 115, 101, 99, 117, 114, 105, 116, 121, 45, 112, 111, 108, 105, 99, 121, 45, 114, 101, 112, 111, 114, 116, 45, 111, 110, 108, 121]
def hdrPols (h : Hdr) : List Pol := if lowL h.name = enfL then polsL h.val false else if lowL h.name = repL then polsL h.val true else []
def hdrsAll (l : List Hdr) : List Pol := l.flatMap hdrPols
def hdrsL (l : List Hdr) : Option (List Pol) := if 16 < l.length then none else if l.any (fun h => decide (4000 < h.val.length)) then none else if 16 < (hdrsAll l).length then none else some (hdrsAll l)
theorem polsL_len (s : List UInt8) (rep : Bool) : (polsL s rep).length ≤ s.length + 1 := by
  unfold polsL
  rw [List.length_map]
  exact list_count s
theorem hdrPols_len (h : Hdr) : (hdrPols h).length ≤ h.val.length + 1 := by
  unfold hdrPols
  split
  · exact polsL_len _ _
  · split
    · exact polsL_len _ _
    · simp
theorem hdrsAll_take {l : List Hdr} {k : Nat} (h : k < l.length) : hdrsAll (l.take (k + 1)) = hdrsAll (l.take k) ++ hdrPols l[k] := by
  unfold hdrsAll
  rw [List.take_succ_eq_append_getElem h, List.flatMap_append]
  simp
/-- A slice that reads as these headers. -/
def HdrsAt (w : World) (v : Value) (l : List Hdr) : Prop :=
  ∃ (a : Option Addr) (cap : Nat), v = .slice a l.length cap ∧ l.length ≤ maxLen ∧ (∀ h ∈ l, h.name.length ≤ maxLen ∧ h.val.length ≤ maxLen) ∧
    (l = [] ∨ ∃ b off, a = some ⟨b, off, none⟩ ∧ b < w.heap.size ∧ ∀ i (h : i < l.length), w.cell? ⟨b, off + i * 2, none⟩ = some (.string ⟨⟨l[i].name⟩⟩) ∧ w.cell? ⟨b, off + i * 2 + 1, none⟩ = some (.string ⟨⟨l[i].val⟩⟩))
theorem HdrsAt.ext {w w' : World} {v : Value} {l : List Hdr} (h : HdrsAt w v l) (k : Below w.heap.size w w') : HdrsAt w' v l := by
  obtain ⟨a, cap, h1, h2, h3, h4⟩ := h
  refine ⟨a, cap, h1, h2, h3, ?_⟩
  rcases h4 with h4 | ⟨b, off, e, hb, hc⟩
  · exact .inl h4
  · exact .inr ⟨b, off, e, Nat.lt_of_lt_of_le hb k.size, fun i hi => ⟨(k.cell (p := ⟨b, off + i * 2, none⟩) hb).trans (hc i hi).1, (k.cell (p := ⟨b, off + i * 2 + 1, none⟩) hb).trans (hc i hi).2⟩⟩
theorem HdrsAt.cells {w : World} {v : Value} {l : List Hdr} (h : HdrsAt w v l) : ∃ a cap, v = .slice a l.length cap ∧ ∀ k (hk : k < l.length), ∃ b off, a = some ⟨b, off, none⟩ ∧ b < w.heap.size ∧ w.cell? ⟨b, off + k * 2, none⟩ = some (.string ⟨⟨l[k].name⟩⟩) ∧ w.cell? ⟨b, off + k * 2 + 1, none⟩ = some (.string ⟨⟨l[k].val⟩⟩) := by
  obtain ⟨a, cap, e1, _, _, e4⟩ := h
  refine ⟨a, cap, e1, fun k hk => ?_⟩
  rcases e4 with rfl | ⟨b, off, e, hb, hc⟩
  · simp at hk
  · exact ⟨b, off, e, hb, (hc k hk).1, (hc k hk).2⟩
/-- What Headers gives. -/
def HdrRes (o : Option (List Pol)) (w : World) (e : Ending) (w' : World) : Prop := match o with
  | none => e = .returned (.tuple #[.slice none 0 0, .int .i64 3]) ∧ Ext w w'
  | some L => ∃ x, e = .returned (.tuple #[x, .int .i64 0]) ∧ PolsAt w' x L ∧ Ext w w'
theorem old_cell2 {w w' : World} {b i : Nat} {v : Value} (x : Ext w w') (h : w.cell? ⟨b, i, none⟩ = some v) : w'.cell? ⟨b, i, none⟩ = some v := (x.cell (p := ⟨b, i, none⟩) (cell_lt h)).trans h
structure HdrOk (l : List Hdr) : Prop where
  len : l.length ≤ 1000
  each : ∀ h ∈ l, h.name.length < 100000 ∧ h.val.length < 10000
end Go.Proofs.YtfaomejdoljfnaaDoor
