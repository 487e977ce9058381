/-
  What is proved: arguments that are two lists of bytes in an array. No condition.
-/
import Derived.Test.YtkofccabfkkgjaaDoorOpn
import Derived.Test.YtkofccabfkkgjaaDoorTruQ
namespace Go.Proofs.YtkofccabfkkgjaaDoor
open Go.RowKit Go.ChangeShapes Go.WideShapes Go.Deep Go.ChangeAt

theorem bytes_of_trod {H : Type} {enc : TypeId × Value → H} {w : World} {sp : Nat → Bool} {fuel : Nat} {v : Value} {x : DataW H × List MemPlace} (h : DataW.trod enc Tryd.prog w 0 sp true fuel 48 [v] = some x) : ∃ l, BytesAt w v l := by
  rcases open_ints Tryd.underlying48 Tryd.underlying5 (by kernel_rfl) h with ⟨hcs, hx⟩ | ⟨a, len, cap, zs, hcs, _, hl, hm, hz, hx, hcell, hwf⟩
  · simp only [List.cons.injEq, and_true] at hcs
    subst hcs
    exact ⟨[], none, 0, rfl, Nat.zero_le _, .inl rfl⟩
  · simp only [List.cons.injEq, and_true] at hcs
    subst hcs
    have hle : len ≤ zs.length := by rw [hz]; split <;> omega
    have hlen : ((zs.take len).map fun z => UInt8.ofNat z.toNat).length = len := by simp; omega
    refine ⟨(zs.take len).map fun z => UInt8.ofNat z.toNat, some a, cap, by rw [hlen], by rw [hlen]; omega, ?_⟩
    by_cases h0 : len = 0
    · exact .inl (List.eq_nil_of_length_eq_zero (by rw [hlen]; exact h0))
    · obtain ⟨b, off, spot⟩ := a
      have hc0 := hcell 0 (by omega)
      have hsp : spot = none := cell_spot (a := ⟨b, off + 0, spot⟩) hc0
      subst hsp
      refine .inr ⟨b, off, rfl, cell_lt (a := ⟨b, off + 0, none⟩) hc0, fun i hi => ?_⟩
      rw [hlen] at hi
      have hci := hcell i (by omega)
      have hiz : i < zs.length := by omega
      have hw := bounds_u8 (hwf zs[i] (List.getElem_mem _))
      simp only [List.getElem_map, List.getElem_take]
      rw [List.getD_eq_getElem?_getD, List.getElem?_eq_getElem hiz, add_plain] at hci
      have e1 : ((UInt8.ofNat zs[i].toNat).toNat : Int) = zs[i] := by
        rw [UInt8.toNat_ofNat', Nat.mod_eq_of_lt (by omega)]
        omega
      rw [e1]
      exact hci
structure TwoA where
  u0 : Value
  u1 : Value
  l0 : List UInt8
  l1 : List UInt8
def TwoAt (w : World) (x : Value) (p : TwoA) : Prop := x = .agg #[p.u0, p.u1] ∧ BytesAt w p.u0 p.l0 ∧ BytesAt w p.u1 p.l1
theorem open_two {H : Type} {enc : TypeId × Value → H} {w : World} {v : Value} {d : DataW H} {ps : List MemPlace} (hv : Value.okWide Tryd.prog w .any 0 49 v) (h : DataW.Trod enc Tryd.prog w 0 (fun _ => true) true 49 v d ps) : ∃ p, TwoAt w v p := by
  have hv2 : ∃ cs, v = .agg cs ∧ cs.size = Tryd.prog.cellsOf 49 := by
    simp only [Value.okWide, Tryd.underlying49] at hv
    obtain ⟨cs, h1, h2, _⟩ := hv
    exact ⟨cs, h1, h2⟩
  obtain ⟨cs, rfl, hsz⟩ := hv2
  have h2 : Tryd.prog.cellsOf 49 = 2 := by kernel_rfl
  have h1 : Tryd.prog.cellsOf 48 = 1 := by kernel_rfl
  rw [h2] at hsz
  obtain ⟨n, hn⟩ := h
  obtain ⟨xs, m, _, _, _, hl, he⟩ := DataW.trod_array Tryd.underlying49 hn
  rw [h1] at he
  obtain ⟨l⟩ := cs
  match l, hsz with
  | [c0, c1], _ =>
    have e0 := he 0 (by omega)
    have e1 := he 1 (by omega)
    rw [List.getElem?_eq_getElem (by omega)] at e0 e1
    obtain ⟨l0, k0⟩ := bytes_of_trod (v := c0) (by simpa [Value.cells] using e0)
    obtain ⟨l1, k1⟩ := bytes_of_trod (v := c1) (by simpa [Value.cells] using e1)
    exact ⟨⟨c0, c1, l0, l1⟩, rfl, k0, k1⟩
theorem names29_walkP (v : Value) (p : TwoA) (dup an : Bool) (w : World) (hm : MaxIs w) (H : TwoAt w v p) :
    Calls Tryd.prog 9 #[v, .bool dup, .bool an] w fun e w' => e = .returned (.bool true) ∧ Ext w w' := by
  obtain ⟨rfl, h0, h1⟩ := H
  exact names29_walk p.u0 p.u1 p.l0 p.l1 dup an w hm h0 h1
end Go.Proofs.YtkofccabfkkgjaaDoor
