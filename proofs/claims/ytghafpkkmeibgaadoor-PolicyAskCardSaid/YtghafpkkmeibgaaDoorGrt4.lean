/-
  What is proved: whether a policy is too great for the law to go through: a contract. No condition.
-/
import Derived.Test.YtghafpkkmeibgaaDoorPlcG
namespace Go.Proofs.YtghafpkkmeibgaaDoor
open Go.RowKit

def FineV (d : Dir) : Prop := d.name.length ≤ 200 ∧ d.vals.length ≤ 20 ∧ ∀ s ∈ d.vals, s.length ≤ 200
/-- At most 20 of 20, of at most 200 bytes. -/
def FineD (ds : List Dir) : Prop := ds.length ≤ 20 ∧ ∀ d ∈ ds, FineV d
theorem FineD.small {ds : List Dir} (h : FineD ds) : SmallD ds := ⟨by have := h.1; omega, fun d hd => by have := (h.2 d hd).2.1; omega⟩
def GreatSays (ds : List Dir) (w : World) (e : Ending) (w' : World) : Prop := ∃ b, e = .returned (.bool b) ∧ (b = false → FineD ds) ∧ Ext w w'
theorem DirsAt.max {w : World} {v : Value} {ds : List Dir} (h : DirsAt w v ds) : ds.length ≤ maxLen ∧ ∀ d ∈ ds, d.name.length ≤ maxLen := by
  obtain ⟨_, _, _, _, h2, _, h4, _⟩ := h
  exact ⟨h2, h4⟩
set_option maxHeartbeats 8000000 in
theorem great_any (v : Value) (rep : Bool) (ds : List Dir) (w : World) (H : DirsAt w v ds) :
    Calls Tryd.prog 26 #[.agg #[v, .bool rep]] w (GreatSays ds w) := by
  obtain ⟨hm1, hm2⟩ := H.max
  obtain ⟨a, cap, rfl, _⟩ := H.cells
  have hext0 : Ext w (w.alloc (.cells #[.slice a ds.length cap, .bool rep] 25)) := (Below.refl _ _).alloc (Nat.le_refl _) _
  have HP0 : PolCell (w.alloc (.cells #[.slice a ds.length cap, .bool rep] 25)) w.heap.size a ds.length cap rep ds := ⟨cells_of_lit (heap_alloc_new w _) 0, cells_of_lit (heap_alloc_new w _) 1, H.ext hext0⟩
  unfold maxLen at hm1
  by_cases h20 : 20 < ds.length
  · go_enter Tryd.func26, Tryd.ntmps26
    go_wp2
    go_ret
    exact ⟨true, rfl, nofun, hext0⟩
  · go_enter Tryd.func26, Tryd.ntmps26
    go_wp2
    go_loopw [3] (fun i wr => ∃ k : Nat, i = .int .i64 k ∧ k ≤ ds.length ∧ PolCell wr w.heap.size a ds.length cap rep ds ∧ Ext w wr ∧ Hid (∀ j (h : j < ds.length), j < k → FineV ds[j])) (fun i _ => ds.length - (intOf i).toNat)
    case atStart => exact ⟨0, rfl, by omega, HP0, hext0, Lib.hid (fun j _ hj => by omega)⟩
    case round =>
      obtain ⟨k, rfl, hk, HP, hx, HN⟩ := hrel
      have s1 := HP.lst
      by_cases hlt : k < ds.length
      · obtain ⟨a', c', e', hcl⟩ := HP.dirs.cells
        obtain ⟨b, off, u, e2, hb, c1, c2, hu⟩ := hcl k hlt
        cases e'
        subst e2
        obtain ⟨d, hd⟩ : ∃ d, ds[k] = d := ⟨_, rfl⟩
        have hdm : d ∈ ds := by rw [← hd]; exact List.getElem_mem _
        rw [hd] at c1 hu
        have HD := Lib.hid hd
        obtain ⟨hv1, hv2⟩ := HP.dirs.vals hdm
        obtain ⟨au, cu, rfl, huc⟩ := hu.cells
        have hnl := hm2 d hdm
        have k1 : (0 : Int) ≤ (k : Int) := by omega
        have k2 : (k : Int) < (ds.length : Int) := by omega
        unfold maxLen at hv1 hnl
        have HU := Lib.hid huc
        have HV2 := Lib.hid hv2
        clear hd hcl huc hv2 hu
        by_cases hn : 200 < d.name.length
        · go_wp2
          go_ret
          exact ⟨true, rfl, nofun, hx⟩
        · by_cases hv : 20 < d.vals.length
          · go_wp2
            go_ret
            exact ⟨true, rfl, nofun, hx⟩
          · have hdv : d.vals.length ≤ 20 := by omega
            go_wp2
            go_loop [4] (fun i => ∃ q : Nat, i = .int .i64 q ∧ q ≤ d.vals.length ∧ Hid (∀ j (h : j < d.vals.length), j < q → d.vals[j].length ≤ 200)) (fun i => d.vals.length - (intOf i).toNat)
            case atStart => exact ⟨0, rfl, by omega, Lib.hid (fun j _ hj => by omega)⟩
            case round =>
              obtain ⟨q, rfl, hq, HQ⟩ := hrel
              by_cases hql : q < d.vals.length
              · obtain ⟨b3, o3, rfl, hb3, c3⟩ := HU.out q hql
                obtain ⟨s, hs⟩ : ∃ s, d.vals[q] = s := ⟨_, rfl⟩
                have hsl : s.length ≤ maxLen := HV2.out s (by rw [← hs]; exact List.getElem_mem _)
                rw [hs] at c3
                have HS := Lib.hid hs
                have q1 : (0 : Int) ≤ (q : Int) := by omega
                have q2 : (q : Int) < (d.vals.length : Int) := by omega
                unfold maxLen at hsl
                clear hs
                by_cases hs2 : 200 < s.length
                · go_wp2
                  go_ret
                  exact ⟨true, rfl, nofun, hx⟩
                · go_wp2
                  go_round
                  case rel =>
                    refine ⟨q + 1, by go_num, by omega, Lib.hid (fun j h hj => ?_)⟩
                    by_cases e : j = q
                    · subst e
                      rw [HS.out]
                      omega
                    · exact HQ.out j h (by omega)
                  case measure => simp [intOf]; omega
              · have hqe : q = d.vals.length := by omega
                have HF : Hid (FineV d) := Lib.hid ⟨by omega, hdv, fun s hs => by
                  obtain ⟨i, hi, rfl⟩ := List.getElem_of_mem hs
                  exact HQ.out i hi (by omega)⟩
                clear hqe
                go_wp2
                go_roundw
                case rel =>
                  refine ⟨k + 1, by go_num, by omega, HP, hx, Lib.hid (fun j h hj => ?_)⟩
                  by_cases e : j = k
                  · subst e
                    rw [HD.out]
                    exact HF.out
                  · exact HN.out j h (by omega)
                case measure => simp [intOf]; omega
      · have HF : Hid (FineD ds) := Lib.hid ⟨by omega, fun d hd => by
          obtain ⟨i, hi, rfl⟩ := List.getElem_of_mem hd
          exact HN.out i hi (by omega)⟩
        go_wp2
        go_ret
        exact ⟨false, rfl, fun _ => HF.out, hx⟩
end Go.Proofs.YtghafpkkmeibgaaDoor
