/-
  What is proved: arguments that are two numbers of 16 bits in an array. No condition.
-/
import Derived.Test.YtghafpkkmeibgaaDoorAscV
import Derived.Deep.Slices
namespace Go.Proofs.YtghafpkkmeibgaaDoor
open Go.RowKit Go.ChangeShapes Go.WideShapes Go.Deep Go.ChangeAt

def U16At (x : Value) (p : Int × Int) : Prop := x = .agg #[.int .u16 p.1, .int .u16 p.2] ∧ 0 ≤ p.1 ∧ p.1 ≤ 65535 ∧ 0 ≤ p.2 ∧ p.2 ≤ 65535
theorem bounds_16 {n : Int} (h : (Lit.int .u16 n).wf = true) : 0 ≤ n ∧ n ≤ 65535 := by
  simp [Lit.wf, IntKind.min, IntKind.max, IntKind.signed, IntKind.bits] at h
  omega
set_option maxRecDepth 100000 in
theorem open_two16 {H : Type} {enc : TypeId × Value → H} {w : World} {v : Value} {d : DataW H} {ps : List MemPlace} (hv : Value.okWide Tryd.prog w .any 0 63 v) (h : DataW.Trod enc Tryd.prog w 0 (fun _ => true) true 63 v d ps) : ∃ p, U16At v p := by
  have hv2 : ∃ cs, v = .agg cs ∧ cs.size = Tryd.prog.cellsOf 63 := by
    simp only [Value.okWide, Tryd.underlying63] at hv
    obtain ⟨cs, h1, h2, _⟩ := hv
    exact ⟨cs, h1, h2⟩
  obtain ⟨cs, rfl, hsz⟩ := hv2
  have h2 : Tryd.prog.cellsOf 63 = 2 := by kernel_rfl
  have h1 : Tryd.prog.cellsOf 62 = 1 := by kernel_rfl
  rw [h2] at hsz
  obtain ⟨n, hn⟩ := h
  obtain ⟨xs, m, _, _, _, hl, he⟩ := DataW.trod_array Tryd.underlying63 hn
  rw [h1] at he
  obtain ⟨l⟩ := cs
  match l, hsz with
  | [c0, c1], _ =>
    have e0 := he 0 (by omega)
    have e1 := he 1 (by omega)
    rw [List.getElem?_eq_getElem (by omega)] at e0 e1
    obtain ⟨n0, k0, _, b0⟩ := DataW.trod_int Tryd.underlying62 (cs := [c0]) (by simpa [Value.cells] using e0)
    obtain ⟨n1, k1, _, b1⟩ := DataW.trod_int Tryd.underlying62 (cs := [c1]) (by simpa [Value.cells] using e1)
    simp only [List.cons.injEq, and_true] at k0 k1
    subst k0 k1
    have h0 := bounds_16 b0
    have h1 := bounds_16 b1
    exact ⟨(n0, n1), rfl, h0.1, h0.2, h1.1, h1.2⟩
theorem asciiCase_walkP (s : List UInt8) (tv : Value) (ts : List Bool) (v : Value) (p : Int × Int) (w : World) (hm : MaxIs w) (hs : s.length ≤ maxLen) (K : BoolsAt w tv ts) (U : U16At v p) :
    Calls Tryd.prog 14 #[.string ⟨⟨s⟩⟩, tv, v] w fun e w' => e = .returned (.bool true) ∧ Ext w w' := by
  obtain ⟨rfl, h0, h1, h2, h3⟩ := U
  exact asciiCase_walk s tv ts p.1 p.2 w hm hs K h0 h1 h2 h3
end Go.Proofs.YtghafpkkmeibgaaDoor
