/-
  What is proved: calls that turn nothing, inside a region that draws its order. Over any program. No condition.
-/
import Derived.Test.YtbolajljfkjfaaaDoorBase
import Derived.Deep.QuietTactic
import Derived.BigQuiet
namespace Go.Proofs.YtbolajljfkjfaaaDoor
open Go.RowKit

/-- Behind one region that drew. -/
theorem still2 {P : Program} {f : FuncId} {args : Array Value} {w : World} {a n : Nat} {v : Value} (c : ∀ W : World, Calls P f args W fun e w' => e = .returned v ∧ W = w') :
    Calls P f args (w.drewN (a + n)) fun e w'' => e = .returned v ∧ ∃ m, w'' = w.drewN (a + m) := by
  refine (c _).mono fun e w' h => ⟨h.1, n, h.2.symm⟩
/-- In the first one. -/
theorem still1 {P : Program} {f : FuncId} {args : Array Value} {w : World} {n : Nat} {v : Value} (c : ∀ W : World, Calls P f args W fun e w' => e = .returned v ∧ W = w') :
    Calls P f args (w.drewN n) fun e w'' => e = .returned v ∧ ∃ m, w'' = w.drewN m := by
  refine (c _).mono fun e w' h => ⟨h.1, n, h.2.symm⟩
end Go.Proofs.YtbolajljfkjfaaaDoor
