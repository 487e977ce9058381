/-
  What is proved: the walk of the statement PolicyHeaders: it answers true; arguments that are headers. Conditions: headers that fit, what the package's variable holds.
-/
import Derived.Test.YtfaomejdoljfnaaDoorHdrP
import Derived.Test.YtfaomejdoljfnaaDoorSay
import Derived.Test.YtfaomejdoljfnaaDoorOpn4
namespace Go.Proofs.YtfaomejdoljfnaaDoor
open Go.RowKit Go.ChangeShapes Go.WideShapes Go.Deep Go.ChangeAt

theorem hdrs_of_trod {H : Type} {enc : TypeId × Value → H} {w : World} {sp : Nat → Bool} {fuel : Nat} {v : Value} {x : DataW H × List MemPlace} (h : DataW.trod enc Tryd.prog w 0 sp true fuel 22 [v] = some x) : ∃ l, HdrsAt w v l := by
  rcases open_slice_fields Tryd.underlying22 Tryd.underlying24 (by kernel_rfl) (by kernel_rfl) h with ⟨hcs, hx⟩ | ⟨a, len, cap, m, D, Pl, hcs, _, hl, hm, hmm, hx, hi⟩
  · simp only [List.cons.injEq, and_true] at hcs
    subst hcs
    exact ⟨[], none, 0, rfl, Nat.zero_le _, by simp, .inl rfl⟩
  · simp only [List.cons.injEq, and_true] at hcs
    subst hcs
    have hle : len ≤ m := by rw [hmm]; split <;> omega
    have key : ∀ i, i < len → ∃ (d : Hdr), w.cell? (a.add (i * 2 + 0)) = some (.string ⟨⟨d.name⟩⟩) ∧ w.cell? (a.add (i * 2 + 1)) = some (.string ⟨⟨d.val⟩⟩) ∧ d.name.length ≤ maxLen ∧ d.val.length ≤ maxLen := by
      intro i hlt
      obtain ⟨ys, n, _, _, _, hf⟩ := hi i (by omega)
      obtain ⟨v0, y0, c0, _, t0⟩ := hf 0 _ rfl
      obtain ⟨v1, y1, c1, _, t1⟩ := hf 1 _ rfl
      obtain ⟨s, hs, _, hsz⟩ := DataW.trod_string Tryd.underlying9 t0
      obtain ⟨t, ht, _, htz⟩ := DataW.trod_string Tryd.underlying9 t1
      simp only [List.cons.injEq, and_true] at hs ht
      subst hs ht
      exact ⟨⟨s.data.toList, t.data.toList⟩, c0, c1, hsz, htz⟩
    obtain ⟨D2, hD⟩ : ∃ D2 : Nat → Hdr, ∀ i, i < len → w.cell? (a.add (i * 2 + 0)) = some (.string ⟨⟨(D2 i).name⟩⟩) ∧ w.cell? (a.add (i * 2 + 1)) = some (.string ⟨⟨(D2 i).val⟩⟩) ∧ (D2 i).name.length ≤ maxLen ∧ (D2 i).val.length ≤ maxLen := by
      refine ⟨fun i => if h : i < len then (key i h).choose else ⟨[], []⟩, fun i h => ?_⟩
      simp only [h, dif_pos]
      exact (key i h).choose_spec
    have hlen : ((List.range len).map D2).length = len := by simp
    refine ⟨(List.range len).map D2, some a, cap, by rw [hlen], by rw [hlen]; omega, fun d hd => ?_, ?_⟩
    · obtain ⟨i, hi, rfl⟩ := List.mem_map.1 hd
      exact (hD i (List.mem_range.1 hi)).2.2
    · by_cases h0 : len = 0
      · exact .inl (List.eq_nil_of_length_eq_zero (by rw [hlen]; exact h0))
      · obtain ⟨b, off, spot⟩ := a
        have hc0 := (hD 0 (by omega)).1
        have hsp : spot = none := cell_spot (a := ⟨b, off + (0 * 2 + 0), spot⟩) hc0
        subst hsp
        refine .inr ⟨b, off, rfl, cell_lt (a := ⟨b, off + (0 * 2 + 0), none⟩) hc0, fun i hi => ?_⟩
        rw [hlen] at hi
        obtain ⟨e1, e2, _, _⟩ := hD i hi
        rw [add_plain] at e1 e2
        simp only [List.getElem_map, List.getElem_range]
        exact ⟨e1, e2⟩
set_option maxRecDepth 100000 in
theorem open_hdrs {H : Type} {enc : TypeId × Value → H} {w : World} {v : Value} {d : DataW H} {ps : List MemPlace} (hv : Value.okWide Tryd.prog w .any 0 22 v) (h : DataW.Trod enc Tryd.prog w 0 (fun _ => true) true 22 v d ps) : ∃ l, HdrsAt w v l := by
  obtain ⟨n, hn⟩ := h
  obtain ⟨a0, len, cap, rfl⟩ := okWide_slice Tryd.underlying22 hv
  exact hdrs_of_trod (by simpa [Value.cells] using hn)
end Go.Proofs.YtfaomejdoljfnaaDoor
