/-
  What is proved: the two maps of names, as the program makes them: contracts. No condition.
-/
import Derived.Test.YtbolajljfkjfaaaDoorRefP
import Derived.Test.YtbolajljfkjfaaaDoorMap
import Derived.Test.YtbolajljfkjfaaaDoorRows
namespace Go.Proofs.YtbolajljfkjfaaaDoor
open Go.RowKit

def pairs (l : List Nm) : List (List UInt8 × List UInt8) := l.map fun x => (x.name, x.text)
/-- A call that hands back a new map which reads as these names. -/
def MapRes (l : List Nm) (w : World) (e : Ending) (w' : World) : Prop :=
  e = .returned (.map (some w.heap.size)) ∧ w'.ownsMap (H := Unit) Tryd.prog 9 (plainElem Tryd.prog 9) w.heap.size l.length (mapData (.map []) (pairs l)) ∧ Ext w w'
theorem ext_new {w w' : World} {o : Obj} (h : (w.alloc o).grownBy w' (some w.heap.size)) : Ext w w' :=
  ⟨h.os, h.tape, h.output, Nat.le_trans (by simp) h.size, fun k hk => (h.block k (by simp; omega) (by simp; omega)).trans (Below.heap_alloc w o k hk)⟩
set_option maxHeartbeats 400000 in
theorem loose_any (w : World) : Calls Tryd.prog 97 #[] w (MapRes looseN w) := by
  have hmm := @run_makeMap Tryd.prog
  go_enter Tryd.func97, Tryd.ntmps97
  go_wp2_with (refine wpList_inserts_at (H := Unit) (b := w.heap.size) Tryd.underlying9 Tryd.underlying107 1 30 _ (pairs looseN) _ _ 0 (.map []) (by kernel_rfl) rfl (World.ownsMap_made _ _ _ _) (by decide) (by decide +kernel) ?_; intro w1 hown hgr; simp only [List.drop_succ_cons, List.drop_zero])
  go_ret
  exact ⟨rfl, hown, ext_new hgr⟩
set_option maxHeartbeats 400000 in
theorem strict_any (w : World) : Calls Tryd.prog 98 #[] w (MapRes strictN w) := by
  have hmm := @run_makeMap Tryd.prog
  go_enter Tryd.func98, Tryd.ntmps98
  go_wp2_with (refine wpList_inserts_at (H := Unit) (b := w.heap.size) Tryd.underlying9 Tryd.underlying107 1 22 _ (pairs strictN) _ _ 0 (.map []) (by kernel_rfl) rfl (World.ownsMap_made _ _ _ _) (by decide) (by decide +kernel) ?_; intro w1 hown hgr; simp only [List.drop_succ_cons, List.drop_zero])
  go_ret
  exact ⟨rfl, hown, ext_new hgr⟩
end Go.Proofs.YtbolajljfkjfaaaDoor
