/-
  What is proved: a table of rows of integers that reads as listed holds these numbers, cell for cell; a list of listed variables, part by part. No condition.
-/
import Derived.Test.YtbolajljfkjfaaaDoorBase
import Derived.Lib.LaidTab
import Derived.OpenShut
namespace Go.Proofs.YtbolajljfkjfaaaDoor
open Go.RowKit Go.Lib

def rowsD {H : Type} (rows : List (List (IntKind × Int))) : DataW H := .agg (rows.map fun r => .agg (r.map fun x => .lit (.int x.1 x.2)))
theorem laid_tail {P : Program} {x : String × DataW Unit} {r : List (String × DataW Unit)} {w : World} (h : laidMet P (x :: r) w) : laidMet P r w := by
  obtain ⟨ps, hv, hnd, hrows⟩ := h
  obtain ⟨n, d⟩ := x
  obtain ⟨g, t, cs, fuel, p, q, _, _, _, _, hq, rfl⟩ := hv
  exact ⟨q, hq, List.Nodup.sublist (List.sublist_append_right _ _) hnd, fun b off hm => hrows b off (List.mem_append_right _ hm)⟩
theorem cells_of_rows {H : Type} {enc : TypeId × Value → H} {P : Program} {w : World} {base : Nat} {sp : Nat → Bool} {held : Bool} {fuel : Nat} {t e : TypeId} {n m : Nat} {fs : Array Field} {cs : List Value} {rows : List (List (IntKind × Int))} {p : List MemPlace}
    (ht : P.underlying t = some (.array n e)) (he : P.underlying e = some (.struct fs)) (hce : P.cellsOf e = m)
    (hf : ∀ (j : Nat) (f : Field), fs[j]? = some f → f.offset = j ∧ P.cellsOf f.type = 1 ∧ ∃ k, P.underlying f.type = some (.int k)) (hm : ∀ r ∈ rows, r.length = fs.size) (hfm : fs.size = m)
    (h : DataW.trod enc P w base sp held fuel t cs = some (rowsD rows, p)) (i j : Nat) (r : List (IntKind × Int)) (z : IntKind × Int) (hi : rows[i]? = some r) (hj : r[j]? = some z) : cs[i * m + j]? = some (.int z.1 z.2) := by
  obtain ⟨xs, f1, rfl, hx, _, hn, hel⟩ := DataW.trod_array ht h
  have hxs : xs.map (·.1) = rows.map fun r => (DataW.agg (r.map fun x => .lit (.int x.1 x.2)) : DataW H) := by
    have := congrArg Prod.fst hx
    simpa [rowsD] using this.symm
  have hlen : xs.length = rows.length := by simpa using congrArg List.length hxs
  have hil : i < rows.length := (List.getElem?_eq_some_iff.1 hi).1
  have hin : i < n := by omega
  have h1 := hel i hin
  obtain ⟨y, hy⟩ : ∃ y, xs[i]? = some y := ⟨_, List.getElem?_eq_getElem (by omega)⟩
  have hy1 : y.1 = .agg (r.map fun x => .lit (.int x.1 x.2)) := by
    have := congrArg (·[i]?) hxs
    simpa [hy, hi] using this
  rw [hy, hce] at h1
  obtain ⟨ys, f2, _, hy2, _, hyn, hfe⟩ := DataW.trod_struct he h1
  have hys : ys.map (·.1) = r.map fun x => (DataW.lit (.int x.1 x.2) : DataW H) := by
    rw [hy2] at hy1
    simpa using hy1
  have hrl := hm r (List.mem_of_getElem? hi)
  have hjl : j < r.length := (List.getElem?_eq_some_iff.1 hj).1
  obtain ⟨f, hff⟩ : ∃ f, fs[j]? = some f := ⟨_, Array.getElem?_eq_getElem (by omega)⟩
  obtain ⟨ho, hc1, k, hk⟩ := hf j f hff
  have h2 := hfe j f hff
  obtain ⟨q, hq⟩ : ∃ q, ys[j]? = some q := ⟨_, List.getElem?_eq_getElem (by omega)⟩
  have hq1 : q.1 = .lit (.int z.1 z.2) := by
    have := congrArg (·[j]?) hys
    simpa [hq, hj] using this
  rw [hq, ho, hc1] at h2
  obtain ⟨v, hv, rfl, _⟩ := DataW.trod_int hk h2
  simp only [DataW.lit.injEq, Lit.int.injEq] at hq1
  obtain ⟨rfl, rfl⟩ := hq1
  have h3 := congrArg (·[0]?) hv
  simp only [List.getElem?_take, List.getElem?_drop, List.getElem?_cons_zero] at h3
  rw [if_pos (by omega), if_pos (by omega)] at h3
  simpa using h3
theorem rows_cell {P : Program} {W : World} {name : String} {rows : List (List (IntKind × Int))} {rest : List (String × DataW Unit)} {g : Nat} {t e : TypeId} {n m : Nat} {fs : Array Field}
    (hg : P.globalNamed name = some g) (hty : (P.globals[g]?).map (·.type) = some t) (ht : P.underlying t = some (.array n e)) (he : P.underlying e = some (.struct fs)) (hce : P.cellsOf e = m)
    (hf : ∀ (j : Nat) (f : Field), fs[j]? = some f → f.offset = j ∧ P.cellsOf f.type = 1 ∧ ∃ k, P.underlying f.type = some (.int k)) (hm : ∀ r ∈ rows, r.length = fs.size) (hfm : fs.size = m)
    (h : laidMet P ((name, rowsD rows) :: rest) W) (i j : Nat) (r : List (IntKind × Int)) (z : IntKind × Int) (hi : rows[i]? = some r) (hj : r[j]? = some z) : W.cell? ⟨g, i * m + j, none⟩ = some (.int z.1 z.2) := by
  obtain ⟨ps, ⟨g', t', cs, fuel, p, q, hg', ht', hvar, hd, _, _⟩, _⟩ := h
  obtain rfl := Option.some.inj (hg.symm.trans hg')
  obtain rfl := Option.some.inj (hty.symm.trans ht')
  have h1 := cells_of_rows ht he hce hf hm hfm hd i j r z hi hj
  have := World.var?_cell hg hvar (i * m + j)
  rw [this]
  simpa using h1
end Go.Proofs.YtbolajljfkjfaaaDoor
