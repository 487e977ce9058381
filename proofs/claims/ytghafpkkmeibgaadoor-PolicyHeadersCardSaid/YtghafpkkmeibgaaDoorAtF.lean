/-
  What is proved: where a directive of a name is, and which: the reference's: contracts. Condition: lists of at most a million.
-/
import Derived.Test.YtghafpkkmeibgaaDoorPlcG
namespace Go.Proofs.YtghafpkkmeibgaaDoor
open Go.RowKit

set_option maxHeartbeats 2000000 in
theorem at_any (v : Value) (ds : List Dir) (n : List UInt8) (w : World) (H : DirsAt w v ds) (hl : ds.length ≤ 1000000) :
    Calls Tryd.prog 57 #[v, .string ⟨⟨n⟩⟩] w fun e w' => e = .returned (.int .i64 (namedI ds n)) ∧ w = w' := by
  obtain ⟨a, cap, rfl, hcells⟩ := H.cells
  have HC := Lib.hid hcells
  clear hcells H
  go_enter Tryd.func57, Tryd.ntmps57
  go_wp2
  go_loop [5] (fun i => ∃ k : Nat, i = .int .i64 k ∧ k ≤ ds.length ∧ Hid (∀ j (hj : j < ds.length), j < k → isD n ds[j] = false)) (fun i => ds.length - (intOf i).toNat)
  case atStart => exact ⟨0, rfl, by omega, Lib.hid (fun j _ hj => by omega)⟩
  case round =>
    obtain ⟨k, rfl, hk, HN⟩ := hrel
    by_cases hlt : k < ds.length
    · obtain ⟨b, off, u, rfl, hb, c1, c2, _⟩ := HC.out k hlt
      have k1 : (0 : Int) ≤ (k : Int) := by omega
      have k2 : (k : Int) < (ds.length : Int) := by omega
      clear c2 HC
      obtain ⟨x, hxx⟩ : ∃ x, ds[k].name = x := ⟨_, rfl⟩
      have HX := Lib.hid hxx
      rw [hxx] at c1
      clear hxx
      cases hq : (x == n)
      · have HQ : Hid (isD n ds[k] = false) := Lib.hid (by show (ds[k].name == n) = false; rw [HX.out]; exact hq)
        go_wp2
        go_round
        case rel =>
          refine ⟨k + 1, by go_num, by omega, Lib.hid (fun j h hj => ?_)⟩
          by_cases e : j = k
          · subst e
            exact HQ.out
          · exact HN.out j h (by omega)
        case measure => simp [intOf]; omega
      · have HQ : Hid (isD n ds[k] = true) := Lib.hid (by show (ds[k].name == n) = true; rw [HX.out]; exact hq)
        go_wp2
        go_ret
        refine ⟨ret_inj (int_eq ?_), rfl⟩
        unfold namedI
        rw [idxG_hit (isD n) ds k hlt 0 (fun j hj => HN.out j (by omega) hj) HQ.out]
        omega
    · have hkl : k = ds.length := by omega
      subst hkl
      go_wp2
      go_ret
      refine ⟨ret_inj (int_eq ?_), rfl⟩
      unfold namedI
      rw [idxG_miss (isD n) ds 0 (fun j hj => HN.out j hj hj)]
set_option maxHeartbeats 2000000 in
theorem findR_any (v : Value) (rep : Bool) (ds : List Dir) (n : List UInt8) (w0 w : World) (H : DirsAt w0 v ds) (hx0 : Ext w0 w) (hl : ds.length ≤ 1000000) :
    Calls Tryd.prog 28 #[.agg #[v, .bool rep], .string ⟨⟨n⟩⟩] w fun e w' => ∃ x, e = .returned (.tuple #[x, .bool (findD ds n).isSome]) ∧ DirV w0 x (findD ds n) ∧ Ext w w' := by
  have hext0 : Ext w ((w.alloc (.cells #[v, .bool rep] 25)).alloc (.cells #[.string ⟨⟨[]⟩⟩, .slice none 0 0] 38)) := ((Below.refl _ _).alloc (Nat.le_refl _) _).alloc (by simp) _
  have cn := at_any v ds n _ (H.ext (hx0.trans hext0)) hl
  obtain ⟨a, cap, rfl, hcells⟩ := H.cells
  rcases named_cases ds n with ⟨hI, hf⟩ | ⟨k, hk, hI, hf⟩
  · have HI := Lib.hid hI
    clear hI hcells
    rw [hf]
    go_enter Tryd.func28, Tryd.ntmps28
    go_wp2_with (go_at_call 57; refine cn.mono ?_; rintro e w1 ⟨rfl, rfl⟩; rw [HI.out])
    exact bodyPost_ret (v := .tuple #[.agg #[.string ⟨⟨[]⟩⟩, .slice none 0 0], .bool false]) (by simp [results, Tryd.results28, go_sem]) rfl ⟨_, rfl, rfl, hext0⟩
  · have HI := Lib.hid hI
    obtain ⟨b, off, u, rfl, hb, c1, c2, hu⟩ := hcells k hk
    obtain ⟨d, hd⟩ : ∃ d, ds[k] = d := ⟨_, rfl⟩
    rw [hd] at c1 hu hf
    obtain ⟨au, cu, rfl⟩ : ∃ au cu, u = .slice au d.vals.length cu := by
      obtain ⟨au, cu, e, _⟩ := hu
      exact ⟨au, cu, e⟩
    have k0 : decide ((k : Int) < 0) = false := by simp
    have k1 : (0 : Int) ≤ (k : Int) := by omega
    have k2 : (k : Int) < (ds.length : Int) := by omega
    have d1 := ((hx0.trans hext0).cell (p := ⟨b, off + k * 2, none⟩) hb).trans c1
    have d2 := ((hx0.trans hext0).cell (p := ⟨b, off + k * 2 + 1, none⟩) hb).trans c2
    clear hI hcells hd
    rw [hf]
    go_enter Tryd.func28, Tryd.ntmps28
    go_wp2_with (go_at_call 57; refine cn.mono ?_; rintro e w1 ⟨rfl, rfl⟩; rw [HI.out])
    have he : Ext w ((w.alloc (.cells #[.slice (some ⟨b, off, none⟩) ds.length cap, .bool rep] 25)).alloc (.cells #[.string ⟨⟨d.name⟩⟩, .slice au d.vals.length cu] 38)) := ((Below.refl _ _).alloc (Nat.le_refl _) _).alloc (by simp) _
    exact bodyPost_ret (v := .tuple #[.agg #[.string ⟨⟨d.name⟩⟩, .slice au d.vals.length cu], .bool true]) (by simp [results, Tryd.results28, go_sem]) rfl ⟨_, rfl, ⟨_, _, rfl, hu⟩, he⟩
end Go.Proofs.YtghafpkkmeibgaaDoor
