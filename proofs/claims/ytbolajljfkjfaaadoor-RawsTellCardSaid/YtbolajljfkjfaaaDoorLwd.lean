/-
  What is proved: nothing; a world for a witness: the settled one, each listed variable holding what is listed. No condition.
-/
import Derived.Test.YtbolajljfkjfaaaDoorRows
import Derived.Test.YtbolajljfkjfaaaDoorBase
namespace Go.Proofs.YtbolajljfkjfaaaDoor

/-- The cells of a datum of plain parts. -/
def flatD : Nat → DataW Unit → List Value
  | 0, _ => []
  | _ + 1, .lit l => [l.value]
  | n + 1, .agg ds => ds.flatMap (flatD n)
  | _ + 1, _ => []
noncomputable def laidW (laid : List (String × DataW Unit)) (os : Os) : World :=
  laid.foldl (fun w x => match Tryd.prog.globalNamed x.1 with
    | some g => { w with heap := w.heap.modify g fun
        | .cells _ t frozen => .cells (flatD 9 x.2).toArray t frozen
        | o => o }
    | none => w) (World.holding Tryd.prog os ⟨#[], #[], []⟩)
end Go.Proofs.YtbolajljfkjfaaaDoor
