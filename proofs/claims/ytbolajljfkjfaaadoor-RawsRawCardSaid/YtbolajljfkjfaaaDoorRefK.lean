/-
  What is proved: the reference of layer 9: its table of names, and what begins where: contracts. No condition.
-/
import Derived.Test.YtbolajljfkjfaaaDoorRefF
import Derived.Great.CaseRows
namespace Go.Proofs.YtbolajljfkjfaaaDoor
open Go.RowKit

def nmCells (l : List Nm) : List Value := l.flatMap fun x => [.string ⟨⟨x.name⟩⟩, .string ⟨⟨x.text⟩⟩, .bool x.loose]
/-- The table lies at a block's front. -/
def NamesAt (w : World) (b : Nat) : Prop :=
  ∀ i x, allN[i]? = some x → w.cell? ⟨b, 3 * i, none⟩ = some (.string ⟨⟨x.name⟩⟩) ∧ w.cell? ⟨b, 3 * i + 1, none⟩ = some (.string ⟨⟨x.text⟩⟩) ∧ w.cell? ⟨b, 3 * i + 2, none⟩ = some (.bool x.loose)
def NamesRes (w : World) (e : Ending) (w' : World) : Prop :=
  e = .returned (.slice (some ⟨w.heap.size, 0, none⟩) 52 52) ∧ NamesAt w' w.heap.size ∧ Ext w w' ∧ w.heap.size < w'.heap.size
theorem nmCells_at : ∀ (l : List Nm) (i : Nat) (x : Nm), l[i]? = some x → (nmCells l)[3 * i]? = some (.string ⟨⟨x.name⟩⟩) ∧ (nmCells l)[3 * i + 1]? = some (.string ⟨⟨x.text⟩⟩) ∧ (nmCells l)[3 * i + 2]? = some (.bool x.loose)
  | [], i, x, h => by simp at h
  | y :: l, 0, x, h => by
    simp only [List.getElem?_cons_zero, Option.some.injEq] at h
    subst h
    exact ⟨rfl, rfl, rfl⟩
  | y :: l, i + 1, x, h => by
    simp only [List.getElem?_cons_succ] at h
    have := nmCells_at l i x h
    have e : nmCells (y :: l) = [.string ⟨⟨y.name⟩⟩, .string ⟨⟨y.text⟩⟩, .bool y.loose] ++ nmCells l := by simp [nmCells]
    have e1 : 3 * (i + 1) = 3 * i + 3 := by omega
    rw [e, e1]
    refine ⟨?_, ?_, ?_⟩
    · rw [List.getElem?_append_right (by simp)]; simpa using this.1
    · rw [List.getElem?_append_right (by simp)]
      have e2 : 3 * i + 3 + 1 - [Value.string ⟨⟨y.name⟩⟩, .string ⟨⟨y.text⟩⟩, .bool y.loose].length = 3 * i + 1 := by simp
      rw [e2]; exact this.2.1
    · rw [List.getElem?_append_right (by simp)]
      have e2 : 3 * i + 3 + 2 - [Value.string ⟨⟨y.name⟩⟩, .string ⟨⟨y.text⟩⟩, .bool y.loose].length = 3 * i + 2 := by simp
      rw [e2]; exact this.2.2
theorem namesAt_alloc (w : World) (t : TypeId) : NamesAt (w.alloc (.cells ⟨nmCells allN⟩ t)) w.heap.size := by
  intro i x hx
  obtain ⟨h1, h2, h3⟩ := nmCells_at allN i x hx
  have hh : (w.alloc (.cells ⟨nmCells allN⟩ t)).heap[w.heap.size]? = some (.cells ⟨nmCells allN⟩ t) := heap_alloc_new w _
  refine ⟨?_, ?_, ?_⟩
  · unfold World.cell?; rw [hh]; simpa using h1
  · unfold World.cell?; rw [hh]; simpa using h2
  · unfold World.cell?; rw [hh]; simpa using h3
theorem rows_of {f : Nat → Value} {n : Nat} {vs : List Value} (h : (List.range n).map f = vs) (i : Nat) (hi : i < vs.length) : f i = vs[i] := by
  subst h
  simp
theorem wpList_buildRows' {P : Program} {ops : Array Oper} {rest : List Oper} {o : Oper} {a : Act} {w : World} {Q : Exit → Act → World → Prop} (t e : TypeId) (len : Nat) (parts : Array (Nat × Operand)) (ho : o.op = .buildSlice t len parts) (hg : o.guard = none) (s : Nat) (vs : List Value) (hlen : vs.length = len)
    (ix : Nat → Nat) (dst : Option Tmp) (hdst : o.dst = dst)
    (hu : P.underlying t = some (.slice e)) (hsz : (P.info? e).map (·.size) = some s) (hz : ((P.info? e).bind (·.zero)).isSome = true)
    (hs : 0 < s) (hpos : 0 < vs.length) (hsmall : vs.length * s ≤ 2 ^ 24)
    (hparts : parts.toList = (List.range len).map fun i => (i, Operand.tmp (ix i)))
    (h1 : ∀ v ∈ vs, v.cells.size = s) (hev : ((List.range len).map fun i => a.eval (.tmp (ix i))) = vs)
    (cells : List Value) (hc : (vs.flatMap fun v => v.cells.toList) = cells)
    (h : wpList P ops Q rest (a.put dst (.slice (some ⟨w.heap.size, 0, none⟩) len len)) (w.alloc (.cells ⟨cells⟩ e))) : wpList P ops Q (o :: rest) a w := by
  subst hlen hc
  exact Great.wpList_buildRows hg t e parts s vs ho ix w.heap.size rfl dst hdst hu hsz hz hs hpos hsmall hparts h1 (rows_of hev) h
def nmV (x : Nm) : Value := .agg #[.string ⟨⟨x.name⟩⟩, .string ⟨⟨x.text⟩⟩, .bool x.loose]
theorem nmV_cells : ((allN.map nmV).flatMap fun v => v.cells.toList) = nmCells allN := by
  simp [List.flatMap_map, nmCells, nmV, Value.cells]
set_option maxRecDepth 100000 in
set_option maxHeartbeats 1000000 in
theorem names_any (w : World) : Calls Tryd.prog 72 #[] w (NamesRes w) := by
  have hk : (allN.map nmV).length = 52 := by kernel_rfl
  go_enter Tryd.func72, Tryd.ntmps72
  go_wp2_with (refine wpList_buildRows' 91 94 52 _ rfl rfl 3 (allN.map nmV) hk (fun i => i + 1) _ rfl Tryd.underlying91 (by kernel_rfl) (by kernel_rfl) (by decide) (by rw [hk]; decide) (by rw [hk]; decide) (by kernel_rfl) (fun v hv => by obtain ⟨x, _, rfl⟩ := List.mem_map.1 hv; rfl) (by kernel_rfl) _ nmV_cells ?_)
  go_ret
  refine ⟨rfl, namesAt_alloc w 94, (Below.refl _ _).alloc (Nat.le_refl _) _, ?_⟩
  simp
end Go.Proofs.YtbolajljfkjfaaaDoor
