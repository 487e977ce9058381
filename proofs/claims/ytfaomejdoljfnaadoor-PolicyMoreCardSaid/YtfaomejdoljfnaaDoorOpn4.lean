/-
  What is proved: arguments that are policies: a list of directives and a bool. No condition.
-/
import Derived.Test.YtfaomejdoljfnaaDoorPlcG
import Derived.Deep.Slices
import Derived.Deep.Fields
import Derived.ChangeSame
import Derived.Lib.SmallJoins
namespace Go.Proofs.YtfaomejdoljfnaaDoor
open Go.RowKit Go.ChangeShapes Go.WideShapes Go.Deep Go.ChangeAt

section
variable {H : Type} {enc : TypeId × Value → H} {P : Program} {w : World} {base : Nat} {spare : Nat → Bool} {held : Bool}
theorem open_slice_fields {t e : TypeId} {fs : Array Field} {fuel : Nat} {cs : List Value} {x : DataW H × List MemPlace} (ht : P.underlying t = some (.slice e)) (he : P.underlying e = some (.struct fs))
    (hone : oneCellFields P fs = true) (hC : P.cellsOf e = fs.size) (h : DataW.trod enc P w base spare held fuel t cs = some x) :
    (cs = [.slice none 0 0] ∧ x = (.nil, [])) ∨
    ∃ (a : Addr) (len cap m : Nat) (D : Nat → DataW H) (Pl : Nat → List MemPlace), cs = [.slice (some a) len cap] ∧ base ≤ a.block ∧ len ≤ cap ∧ cap ≤ maxLen ∧ m = (if spare a.block then cap else len) ∧
      x = (.slice ((List.range len).map D) ((List.range (m - len)).map fun j => D (len + j)), MemPlace.row a (m * fs.size) ++ (List.range m).flatMap Pl) ∧
      ∀ i, i < m → ∃ (ys : List (DataW H × List MemPlace)) (n : Nat), D i = .agg (ys.map (·.1)) ∧ Pl i = ys.flatMap (·.2) ∧ ys.length = fs.size ∧
        ∀ (j : Nat) (f : Field), fs[j]? = some f → ∃ (v : Value) (y : DataW H × List MemPlace), w.cell? (a.add (i * fs.size + j)) = some v ∧ ys[j]? = some y ∧ DataW.trod enc P w base spare held n f.type [v] = some y := by
  rcases open_slice ht h with h0 | ⟨a, len, cap, m, n, D, Pl, hcs, hb, hl, hm, hmm, hx, hi⟩
  · exact .inl h0
  · refine .inr ⟨a, len, cap, m, D, Pl, hcs, hb, hl, hm, hmm, by rw [hC] at hx; exact hx, fun i him => ?_⟩
    obtain ⟨cs', hc, ht'⟩ := hi i him
    rw [hC] at hc
    obtain ⟨ys, n', hn', hy, hlen, hyl, hf⟩ := DataW.trod_struct he ht'
    obtain ⟨_, hcl, hat⟩ := World.cells?_some hc
    simp only [Prod.mk.injEq] at hy
    refine ⟨ys, n', hy.1, hy.2, hyl, fun j f hj => ?_⟩
    obtain ⟨ho, hk⟩ := hone_of hone j f hj
    have hjl : j < fs.size := (Array.getElem?_eq_some_iff.1 hj).1
    have hcell := hat j hjl
    have hv : cs'[j]? = some (cs'[j]'(by omega)) := List.getElem?_eq_getElem (by omega)
    have h1 := hf j f hj
    rw [ho, hk] at h1
    have hone' : (cs'.drop j).take 1 = [cs'[j]'(by omega)] := by
      rw [List.drop_eq_getElem_cons (by omega)]
      rfl
    rw [hone'] at h1
    have hys : ys[j]? = some (ys[j]'(by omega)) := List.getElem?_eq_getElem (by omega)
    refine ⟨_, _, ?_, hys, h1.trans hys⟩
    rw [← Go.Deep.add_add, hcell, hv]
end

theorem strs_of_trod {H : Type} {enc : TypeId × Value → H} {w : World} {sp : Nat → Bool} {fuel : Nat} {v : Value} {x : DataW H × List MemPlace} (h : DataW.trod enc Tryd.prog w 0 sp true fuel 40 [v] = some x) : ∃ l, StrsAt w v l := by
  rcases open_strings Tryd.underlying40 Tryd.underlying9 (by kernel_rfl) h with ⟨hcs, hx⟩ | ⟨a, len, cap, ss, hcs, _, hl, hm, hz, hx, hcell, hsz⟩
  · simp only [List.cons.injEq, and_true] at hcs
    subst hcs
    exact ⟨[], none, 0, rfl, Nat.zero_le _, by simp, .inl rfl⟩
  · simp only [List.cons.injEq, and_true] at hcs
    subst hcs
    have hle : len ≤ ss.length := by rw [hz]; split <;> omega
    have hlen : ((ss.take len).map fun s => s.data.toList).length = len := by simp; omega
    refine ⟨(ss.take len).map fun s => s.data.toList, some a, cap, by rw [hlen], by rw [hlen]; omega, fun s hs => ?_, ?_⟩
    · obtain ⟨x, hx, rfl⟩ := List.mem_map.1 hs
      exact hsz x (List.mem_of_mem_take hx)
    · by_cases h0 : len = 0
      · exact .inl (List.eq_nil_of_length_eq_zero (by rw [hlen]; exact h0))
      · obtain ⟨b, off, spot⟩ := a
        have hc0 := hcell 0 (by omega)
        have hsp : spot = none := cell_spot (a := ⟨b, off + 0, spot⟩) hc0
        subst hsp
        refine .inr ⟨b, off, rfl, cell_lt (a := ⟨b, off + 0, none⟩) hc0, fun i hi => ?_⟩
        rw [hlen] at hi
        have hci := hcell i (by omega)
        simp only [List.getElem_map, List.getElem_take]
        rw [List.getD_eq_getElem?_getD, List.getElem?_eq_getElem (by omega), add_plain] at hci
        exact hci
theorem dirs_of_trod {H : Type} {enc : TypeId × Value → H} {w : World} {sp : Nat → Bool} {fuel : Nat} {v : Value} {x : DataW H × List MemPlace} (h : DataW.trod enc Tryd.prog w 0 sp true fuel 32 [v] = some x) : ∃ ds, DirsAt w v ds := by
  rcases open_slice_fields Tryd.underlying32 Tryd.underlying42 (by kernel_rfl) (by kernel_rfl) h with ⟨hcs, hx⟩ | ⟨a, len, cap, m, D, Pl, hcs, _, hl, hm, hmm, hx, hi⟩
  · simp only [List.cons.injEq, and_true] at hcs
    subst hcs
    exact ⟨[], none, 0, fun _ => default, rfl, Nat.zero_le _, by simp, by simp, .inl rfl⟩
  · simp only [List.cons.injEq, and_true] at hcs
    subst hcs
    have hle : len ≤ m := by rw [hmm]; split <;> omega
    have key : ∀ i, i < len → ∃ (d : Dir) (u : Value), w.cell? (a.add (i * 2 + 0)) = some (.string ⟨⟨d.name⟩⟩) ∧ w.cell? (a.add (i * 2 + 1)) = some u ∧ StrsAt w u d.vals ∧ d.name.length ≤ maxLen := by
      intro i hlt
      obtain ⟨ys, n, _, _, _, hf⟩ := hi i (by omega)
      obtain ⟨v0, y0, c0, _, t0⟩ := hf 0 _ rfl
      obtain ⟨v1, y1, c1, _, t1⟩ := hf 1 _ rfl
      obtain ⟨s, hs, _, hsz⟩ := DataW.trod_string Tryd.underlying9 t0
      simp only [List.cons.injEq, and_true] at hs
      subst hs
      obtain ⟨l, hl⟩ := strs_of_trod t1
      exact ⟨⟨s.data.toList, l⟩, v1, c0, c1, hl, hsz⟩
    obtain ⟨D2, hD⟩ : ∃ D2 : Nat → Dir × Value, ∀ i, i < len → w.cell? (a.add (i * 2 + 0)) = some (.string ⟨⟨(D2 i).1.name⟩⟩) ∧ w.cell? (a.add (i * 2 + 1)) = some (D2 i).2 ∧ StrsAt w (D2 i).2 (D2 i).1.vals ∧ (D2 i).1.name.length ≤ maxLen := by
      refine ⟨fun i => if h : i < len then ((key i h).choose, (key i h).choose_spec.choose) else (⟨[], []⟩, default), fun i h => ?_⟩
      simp only [h, dif_pos]
      exact (key i h).choose_spec.choose_spec
    have hlen : ((List.range len).map fun i => (D2 i).1).length = len := by simp
    refine ⟨(List.range len).map fun i => (D2 i).1, some a, cap, fun i => (D2 i).2, by rw [hlen], by rw [hlen]; omega, fun i hi => ?_, fun d hd => ?_, ?_⟩
    · rw [hlen] at hi
      simp only [List.getElem_map, List.getElem_range]
      exact (hD i hi).2.2.1
    · obtain ⟨i, hi, rfl⟩ := List.mem_map.1 hd
      exact (hD i (List.mem_range.1 hi)).2.2.2
    · by_cases h0 : len = 0
      · exact .inl (List.eq_nil_of_length_eq_zero (by rw [hlen]; exact h0))
      · obtain ⟨b, off, spot⟩ := a
        have hc0 := (hD 0 (by omega)).1
        have hsp : spot = none := cell_spot (a := ⟨b, off + (0 * 2 + 0), spot⟩) hc0
        subst hsp
        refine .inr ⟨b, off, rfl, cell_lt (a := ⟨b, off + (0 * 2 + 0), none⟩) hc0, fun i hi => ?_⟩
        rw [hlen] at hi
        obtain ⟨e1, e2, _, _⟩ := hD i hi
        rw [add_plain] at e1 e2
        simp only [List.getElem_map, List.getElem_range]
        exact ⟨e1, e2⟩
/-- A policy that came in. -/
structure PolA where
  v : Value
  rep : Bool
  ds : List Dir
def PolAt (w : World) (x : Value) (p : PolA) : Prop := x = .agg #[p.v, .bool p.rep] ∧ DirsAt w p.v p.ds
set_option maxRecDepth 100000 in
theorem open_policy {H : Type} {enc : TypeId × Value → H} {w : World} {v : Value} {d : DataW H} {ps : List MemPlace} (hv : Value.okWide Tryd.prog w .any 0 36 v) (h : DataW.Trod enc Tryd.prog w 0 (fun _ => true) true 36 v d ps) : ∃ p, PolAt w v p := by
  obtain ⟨v0, v1, y0, y1, n, rfl, _, _, t0, t1⟩ := Go.Joins.open_agg2 Tryd.underlying36 (by kernel_rfl) (by kernel_rfl) hv h
  obtain ⟨ds, hd⟩ := dirs_of_trod t0
  obtain ⟨b, hb, _⟩ := DataW.trod_bool Tryd.underlying4 t1
  simp only [List.cons.injEq, and_true] at hb
  subst hb
  exact ⟨⟨v0, b, ds⟩, rfl, hd⟩
end Go.Proofs.YtfaomejdoljfnaaDoor
