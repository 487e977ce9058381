/-
  What is proved: two policies, two lists of policies that are the same are found to be the same: contracts of the law's. No condition.
-/
import Derived.Test.YtfaomejdoljfnaaDoorPls
import Derived.Test.YtfaomejdoljfnaaDoorWrd4
import Derived.Deep.RegionHeld3
namespace Go.Proofs.YtfaomejdoljfnaaDoor
open Go.RowKit

theorem directive_same (d : Dir) (u v : Value) (w : World) (H : StrsAt w u d.vals) (K : StrsAt w v d.vals) :
    Calls Tryd.prog 10 #[.agg #[.string ⟨⟨d.name⟩⟩, u], .agg #[.string ⟨⟨d.name⟩⟩, v]] w fun e w' => e = .returned (.bool true) ∧ Ext w w' := by
  have c := directive_any d.name d.name u v d.vals d.vals w H K
  have e : (d.name == d.name && d.vals == d.vals) = true := by simp
  rwa [e] at c
set_option maxHeartbeats 4000000 in
theorem same_true (u v : Value) (r : Bool) (ds : List Dir) (w : World) (H : DirsAt w u ds) (K : DirsAt w v ds) :
    Calls Tryd.prog 13 #[.agg #[u, .bool r], .agg #[v, .bool r]] w fun e w' => e = .returned (.bool true) ∧ Ext w w' := by
  have hlm : ds.length ≤ 9223372036854775807 := by obtain ⟨_, _, _, _, h, _⟩ := H; exact h
  obtain ⟨a, cap, rfl, _⟩ := H.cells
  obtain ⟨b, cap2, rfl, _⟩ := K.cells
  have x0 : Ext w ((w.alloc (.cells #[.slice a ds.length cap, .bool r] 36)).alloc (.cells #[.slice b ds.length cap2, .bool r] 36)) := ((Below.refl _ _).alloc (Nat.le_refl _) _).alloc (by simp) _
  have P0 : PolCell ((w.alloc (.cells #[.slice a ds.length cap, .bool r] 36)).alloc (.cells #[.slice b ds.length cap2, .bool r] 36)) w.heap.size a ds.length cap r ds := ⟨cells_of_lit (alloc_two w _ _).1 0, cells_of_lit (alloc_two w _ _).1 1, H.ext x0⟩
  have P1 : PolCell ((w.alloc (.cells #[.slice a ds.length cap, .bool r] 36)).alloc (.cells #[.slice b ds.length cap2, .bool r] 36)) (w.heap.size + 1) b ds.length cap2 r ds := ⟨cells_of_lit (alloc_two w _ _).2 0, cells_of_lit (alloc_two w _ _).2 1, K.ext x0⟩
  have e1 : (r != r) = false := by simp
  have e2 : ((ds.length : Int) != (ds.length : Int)) = false := by simp
  go_enter Tryd.func13, Tryd.ntmps13
  go_wp2_with fail
  clear e1 e2
  go_loopw [5] (fun i wr => ∃ k : Nat, i = .int .i64 k ∧ k ≤ ds.length ∧ PolCell wr w.heap.size a ds.length cap r ds ∧ PolCell wr (w.heap.size + 1) b ds.length cap2 r ds ∧ Ext w wr) (fun i _ => ds.length - (intOf i).toNat)
  case atStart => exact ⟨0, rfl, by omega, P0, P1, x0⟩
  case round =>
    obtain ⟨k, rfl, hk, HP, HQ, hx⟩ := hrel
    have s1 := HP.lst
    have s2 := HQ.lst
    by_cases hlt : k < ds.length
    · obtain ⟨a', c', e', hcl⟩ := HP.dirs.cells
      obtain ⟨b1, o1, u1, e3, hb1, c1, c2, hu1⟩ := hcl k hlt
      cases e'
      subst e3
      obtain ⟨a', c', e', hcl2⟩ := HQ.dirs.cells
      obtain ⟨b2, o2, u2, e3, hb2, d1, d2, hu2⟩ := hcl2 k hlt
      cases e'
      subst e3
      obtain ⟨d, hd⟩ : ∃ d, ds[k] = d := ⟨_, rfl⟩
      rw [hd] at c1 d1 hu1 hu2
      obtain ⟨ua, uc, rfl, _⟩ := hu1.cells
      obtain ⟨va, vc, rfl, _⟩ := hu2.cells
      have cd := fun W (hW : Ext wr W) => directive_same d _ _ W (hu1.ext hW) (hu2.ext hW)
      have k0 : (0 : Int) ≤ (k : Int) := by omega
      have k1 : (k : Int) < (ds.length : Int) := by omega
      clear hd hcl hcl2 hu1 hu2
      go_wp2_with fail
      go_region_held3 (fun w' => w'.cell? ⟨w.heap.size, 0, none⟩ = some (.slice (some ⟨b1, o1, none⟩) ds.length cap) ∧ w'.cell? ⟨w.heap.size + 1, 0, none⟩ = some (.slice (some ⟨b2, o2, none⟩) ds.length cap2) ∧ w'.cell? ⟨b1, o1 + k * 2, none⟩ = some (.string ⟨⟨d.name⟩⟩) ∧ w'.cell? ⟨b1, o1 + k * 2 + 1, none⟩ = some (.slice ua d.vals.length uc) ∧ w'.cell? ⟨b2, o2 + k * 2, none⟩ = some (.string ⟨⟨d.name⟩⟩) ∧ w'.cell? ⟨b2, o2 + k * 2 + 1, none⟩ = some (.slice va d.vals.length vc)) (go_keep)
        (first | (go_at_call 10; refine (cd _ (by repeat (first | with_reducible exact Below.refl _ _ | with_reducible refine Below.drew ?_))).mono ?_; rintro e w2 ⟨rfl, x2⟩; have hw : Ext wr w2 := Ext.trans (by repeat (first | with_reducible exact Below.refl _ _ | with_reducible refine Below.drew ?_)) x2; have t1 := (HP.ext hw).lst; have t2 := (HQ.ext hw).lst; have t3 := (hw.cell (p := ⟨b1, o1 + k * 2, none⟩) hb1).trans c1; have t4 := (hw.cell (p := ⟨b1, o1 + k * 2 + 1, none⟩) hb1).trans c2; have t5 := (hw.cell (p := ⟨b2, o2 + k * 2, none⟩) hb2).trans d1; have t6 := (hw.cell (p := ⟨b2, o2 + k * 2 + 1, none⟩) hb2).trans d2))
      go_wp2_with fail
      go_roundw
      case rel => exact ⟨k + 1, by go_num, by omega, HP.ext hw, HQ.ext hw, Ext.trans hx hw⟩
      case measure => simp [intOf]; omega
    · obtain rfl : k = ds.length := by omega
      go_wp2_with fail
      go_ret
      exact ⟨rfl, hx⟩
set_option maxHeartbeats 4000000 in
theorem all_true (u v : Value) (l : List Pol) (w : World) (H : PolsAt w u l) (K : PolsAt w v l) :
    Calls Tryd.prog 6 #[u, v] w fun e w' => e = .returned (.bool true) ∧ Ext w w' := by
  have hlm : l.length ≤ 9223372036854775807 := by obtain ⟨_, _, _, _, h, _⟩ := H; exact h
  obtain ⟨a, cap, rfl, _⟩ := H.cells
  obtain ⟨b, cap2, rfl, _⟩ := K.cells
  have e2 : ((l.length : Int) != (l.length : Int)) = false := by simp
  go_enter Tryd.func6, Tryd.ntmps6
  go_wp2_with fail
  clear e2
  go_loopw [5] (fun i wr => ∃ k : Nat, i = .int .i64 k ∧ k ≤ l.length ∧ Ext w wr) (fun i _ => l.length - (intOf i).toNat)
  case atStart => exact ⟨0, rfl, by omega, Ext.refl _⟩
  case round =>
    obtain ⟨k, rfl, hk, hx⟩ := hrel
    by_cases hlt : k < l.length
    · have H2 := H.ext hx
      have K2 := K.ext hx
      obtain ⟨a', c', e', hcl⟩ := H2.cells
      obtain ⟨b1, o1, u1, e3, hb1, c1, c2, hu1⟩ := hcl k hlt
      cases e'
      subst e3
      obtain ⟨a', c', e', hcl2⟩ := K2.cells
      obtain ⟨b2, o2, u2, e3, hb2, d1, d2, hu2⟩ := hcl2 k hlt
      cases e'
      subst e3
      obtain ⟨p, hp⟩ : ∃ p, l[k] = p := ⟨_, rfl⟩
      rw [hp] at c2 d2 hu1 hu2
      obtain ⟨ua, uc, rfl, _⟩ := hu1.cells
      obtain ⟨va, vc, rfl, _⟩ := hu2.cells
      have cd := fun W (hW : Ext wr W) => same_true _ _ p.rep p.ds W (hu1.ext hW) (hu2.ext hW)
      have k0 : (0 : Int) ≤ (k : Int) := by omega
      have k1 : (k : Int) < (l.length : Int) := by omega
      clear hp hcl hcl2 hu1 hu2
      go_wp2_with fail
      go_region_held3 (fun w' => w'.cell? ⟨b1, o1 + k * 2, none⟩ = some (.slice ua p.ds.length uc) ∧ w'.cell? ⟨b1, o1 + k * 2 + 1, none⟩ = some (.bool p.rep) ∧ w'.cell? ⟨b2, o2 + k * 2, none⟩ = some (.slice va p.ds.length vc) ∧ w'.cell? ⟨b2, o2 + k * 2 + 1, none⟩ = some (.bool p.rep)) (go_keep)
        (first | (go_at_call 13; refine (cd _ (by repeat (first | with_reducible exact Below.refl _ _ | with_reducible refine Below.drew ?_))).mono ?_; rintro e w2 ⟨rfl, x2⟩; have hw : Ext wr w2 := Ext.trans (by repeat (first | with_reducible exact Below.refl _ _ | with_reducible refine Below.drew ?_)) x2; have t3 := (hw.cell (p := ⟨b1, o1 + k * 2, none⟩) hb1).trans c1; have t4 := (hw.cell (p := ⟨b1, o1 + k * 2 + 1, none⟩) hb1).trans c2; have t5 := (hw.cell (p := ⟨b2, o2 + k * 2, none⟩) hb2).trans d1; have t6 := (hw.cell (p := ⟨b2, o2 + k * 2 + 1, none⟩) hb2).trans d2))
      go_wp2_with fail
      go_roundw
      case rel => exact ⟨k + 1, by go_num, by omega, Ext.trans hx hw⟩
      case measure => simp [intOf]; omega
    · obtain rfl : k = l.length := by omega
      go_wp2_with fail
      go_ret
      exact ⟨rfl, hx⟩
end Go.Proofs.YtfaomejdoljfnaaDoor
