/-
  What is proved: the library's variable is an integer in each world of a row; bounds of small integers. No condition.
-/
import Derived.Test.YtfaomejdoljfnaaDoorSpl
import Derived.Test.YtfaomejdoljfnaaDoorLwd
import Derived.Shelf.Vars
namespace Go.Proofs.YtfaomejdoljfnaaDoor
open Go.RowKit Go.Lib

theorem max_of {W : World} (hsh : W.ShapedOpen Tryd.prog) : MaxIs W :=
  cell_of_shapedOpen_int (t := 3) (zero := #[.int .i64 0]) hsh (by decide +kernel) (by kernel_rfl) (by kernel_rfl) (by kernel_rfl) (by kernel_rfl) Tryd.underlying3
end Go.Proofs.YtfaomejdoljfnaaDoor
