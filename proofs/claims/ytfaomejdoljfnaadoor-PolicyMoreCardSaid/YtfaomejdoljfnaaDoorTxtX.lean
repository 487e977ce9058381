/-
  What is proved: a policy as text, the program's and the reference's: contracts. Condition: lists and texts of at most 5000.
-/
import Derived.Test.YtfaomejdoljfnaaDoorApp
import Derived.Test.YtfaomejdoljfnaaDoorJn
namespace Go.Proofs.YtfaomejdoljfnaaDoor
open Go.RowKit

structure TextOk (ds : List Dir) : Prop where
  len : ds.length ≤ 5000
  each : ∀ d ∈ ds, d.name.length ≤ 5000 ∧ d.vals.length ≤ 5000 ∧ ∀ s ∈ d.vals, s.length ≤ 5000
theorem flat_len {α : Type} (f : α → List UInt8) (n : Nat) : ∀ l : List α, (∀ x ∈ l, (f x).length ≤ n) → ((l.map f).flatten).length ≤ l.length * n
  | [], _ => by simp
  | x :: l, h => by
    have h1 := flat_len f n l (fun y hy => h y (by simp [hy]))
    have h2 := h x (by simp)
    simp only [List.map_cons, List.flatten_cons, List.length_append, List.length_cons]
    rw [Nat.add_mul]
    omega
theorem dirText_len {d : Dir} (h : d.name.length ≤ 5000 ∧ d.vals.length ≤ 5000 ∧ ∀ s ∈ d.vals, s.length ≤ 5000) : (dirText d).length ≤ 30000000 := by
  rw [dirText_eq, List.length_append]
  have h1 := flat_len (fun v : List UInt8 => 32 :: v) 5001 d.vals (fun x hx => by have := h.2.2 x hx; simp; omega)
  have h2 : d.vals.length * 5001 ≤ 5000 * 5001 := Nat.mul_le_mul_right _ h.2.1
  have h3 := h.1
  omega
theorem textL_len {ds : List Dir} (h : TextOk ds) : (textL ds).length ≤ 200000000000 := by
  cases ds with
  | nil => simp [textL, Lib.join_nil]
  | cons d ds =>
    rw [textL_cons, List.length_append]
    have h0 := dirText_len (h.each d (by simp))
    have h1 := flat_len (fun e : Dir => 59 :: 32 :: dirText e) 30000002 ds (fun x hx => by have := dirText_len (h.each x (by simp [hx])); simp; omega)
    have h4 := h.len
    have h2 : ds.length * 30000002 ≤ 5000 * 30000002 := Nat.mul_le_mul_right _ (by simp at h4; omega)
    omega
theorem textL_snoc (ds : List Dir) (d : Dir) : textL (ds ++ [d]) = (if ds = [] then [] else textL ds ++ [59, 32]) ++ dirText d := by
  cases ds with
  | nil =>
    rw [if_pos rfl, List.nil_append, textL_cons]
    simp
  | cons e es =>
    rw [if_neg (by simp), List.cons_append, textL_cons, textL_cons]
    simp
set_option maxHeartbeats 4000000 in
theorem text_any (v : Value) (rep : Bool) (ds : List Dir) (w : World) (H : DirsAt w v ds) (hs : TextOk ds) :
    Calls Tryd.prog 11 #[.agg #[v, .bool rep]] w fun e w' => e = .returned (.string ⟨⟨textL ds⟩⟩) ∧ Ext w w' := by
  have hlen := hs.len
  have htl := textL_len hs
  obtain ⟨a, cap, rfl, _⟩ := H.cells
  have x0 : Ext w (w.alloc (.cells #[.slice a ds.length cap, .bool rep] 36)) := (Below.refl _ _).alloc (Nat.le_refl _) _
  have P0 : PolCell (w.alloc (.cells #[.slice a ds.length cap, .bool rep] 36)) w.heap.size a ds.length cap rep ds := ⟨cells_of_lit (heap_alloc_new w _) 0, cells_of_lit (heap_alloc_new w _) 1, H.ext x0⟩
  go_enter Tryd.func11, Tryd.ntmps11
  go_wp2_with fail
  go_loopw [3, 9] (fun vs i wr => ∃ (k : Nat) (out : List (List UInt8)), i = .int .i64 k ∧ k ≤ ds.length ∧ out.length ≤ k ∧ OwnS w.heap.size vs out wr ∧ Hid (out = (ds.take k).map dirText) ∧ Ext w wr) (fun _ i _ => ds.length - (intOf i).toNat)
  case atStart => exact ⟨0, [], rfl, by omega, by simp, OwnS.nil _ _, Lib.hid rfl, x0⟩
  case round =>
    obtain ⟨k, out, rfl, hk, ho, hown, HO, hx⟩ := hrel
    have hws := hx.size
    by_cases hlt : k < ds.length
    · obtain ⟨a', c', e', hcl⟩ := (H.ext hx).cells
      obtain ⟨b, off, u, e2, hb, c1, c2, hu⟩ := hcl k hlt
      cases e'
      subst e2
      have HS : Hid ((ds.take (k + 1)).map dirText = out ++ [dirText ds[k]]) := Lib.hid (by rw [List.take_succ_eq_append_getElem hlt, List.map_append, HO.out]; rfl)
      have hdk := hs.each ds[k] (List.getElem_mem hlt)
      have hdt := dirText_len hdk
      obtain ⟨d, hd⟩ : ∃ d, ds[k] = d := ⟨_, rfl⟩
      rw [hd] at c1 hu hdk hdt HS
      obtain ⟨ua, uc, rfl, _⟩ := hu.cells
      obtain ⟨hd1, hd2, _⟩ := hdk
      have k0 : (0 : Int) ≤ (k : Int) := by omega
      have k1 : (k : Int) < (ds.length : Int) := by omega
      obtain ⟨J, hJ⟩ : ∃ J, dirText d = J := ⟨_, rfl⟩
      have HJ : Hid (Lib.join (d.name :: d.vals) [32] = J) := Lib.hid hJ
      rw [hJ] at hdt HS
      have xa : Ext wr (wr.alloc (.cells #[.string ⟨⟨d.name⟩⟩, .slice ua d.vals.length uc] 42)) := (Below.refl _ _).alloc (Nat.le_refl _) _
      have xb : Ext (wr.alloc (.cells #[.string ⟨⟨d.name⟩⟩, .slice ua d.vals.length uc] 42)) ((wr.alloc (.cells #[.string ⟨⟨d.name⟩⟩, .slice ua d.vals.length uc] 42)).alloc (.cells (Array.mk (strCells [d.name])) 9)) := (Below.refl _ _).alloc (Nat.le_refl _) _
      have hlit := OwnS.lit (wr.alloc (.cells #[.string ⟨⟨d.name⟩⟩, .slice ua d.vals.length uc] 42)) [d.name] 1 rfl (by decide)
      have hvs := (hu.ext xa).ext xb
      simp only [World.size_alloc] at hlit
      have XA := Lib.hid xa
      have XB := Lib.hid xb
      have hl1 : [d.name].length + d.vals.length ≤ 1000000000 := by simp; omega
      have hl2 : (d.name :: d.vals).length ≤ 1000000 := by simp; omega
      have hl3 : out.length + 1 ≤ 1000000000 := by omega
      clear hd hcl hu hJ xa xb
      go_wp2_with (first
        | (at_builtin; refine app_strs rfl (.tmp 16) (.tmp 18) rfl rfl rfl hlit hvs hl1 (by simp) ?_; intro v2 w2 hown2 y2; have xr2 : Ext wr w2 := Below.trans (Ext.trans XA.out XB.out) (y2.mono (Nat.le_succ _)); have cj := join_any [32] w2 hown2 hl2 (by show (Lib.join (d.name :: d.vals) [32]).length ≤ _; rw [HJ.out]; omega); rw [show [d.name] ++ d.vals = d.name :: d.vals from rfl, HJ.out] at cj)
        | (go_at_call 20; refine cj.mono ?_; rintro e w3 ⟨rfl, x3⟩; have xr3 := Ext.trans xr2 x3; have hownx := hown.below xr3; have hbx := Nat.le_trans hws xr3.size)
        | (at_builtin; refine app_str rfl (.tmp 13) (.tmp 21) rfl J _ w3 rfl rfl rfl hownx rfl hl3 hbx ?_; intro v5 w5 hown5 y5))
      go_roundw
      case rel => exact ⟨k + 1, out ++ [J], by go_num, by omega, by simp; omega, hown5, Lib.hid HS.out.symm, Below.trans (Ext.trans hx xr3) y5⟩
      case measure => simp [intOf]; omega
    · obtain rfl : k = ds.length := by omega
      have HO2 : Hid (Lib.join out [59, 32] = textL ds) := Lib.hid (by rw [HO.out, List.take_length]; rfl)
      have cj := join_any [59, 32] wr hown (by omega) (by rw [HO2.out]; omega)
      rw [HO2.out] at cj
      go_wp2_with fail
      refine cj.mono ?_
      rintro e w2 ⟨rfl, x2⟩
      go_wp2_with fail
      go_ret
      exact ⟨rfl, Ext.trans hx x2⟩
theorem dirText_take (d : Dir) (j : Nat) (h : j < d.vals.length) : d.name ++ ((d.vals.take (j + 1)).map fun v => 32 :: v).flatten = d.name ++ ((d.vals.take j).map fun v => 32 :: v).flatten ++ 32 :: d.vals[j] := by
  rw [List.take_succ_eq_append_getElem h, List.map_append, List.flatten_append]
  simp
end Go.Proofs.YtfaomejdoljfnaaDoor
