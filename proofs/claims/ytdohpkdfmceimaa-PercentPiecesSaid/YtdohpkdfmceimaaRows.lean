/-
  No cell of these rows narrows 'for every input' (looked for: loops, veiled, ifaces, maps, wideKeys, modest, calm, conditions, laid).
  DERIVED. THE GIVEN ROWS OF THIS SEAT. 4 by the template 'for every input the law returns true; each argument reads behind the call as it read before'; 0 by the template 'total and deterministic' (their statements: YtdohpkdfmceimaaTotals.lean).
  GIVEN WITH THE SEED: the statements are not yours to turn. If you find one false, say at which input.
  Laid BY PROGRAM, IN A SANDBOX (cutbox-rows.mjs): the forced cells as the released guide's own fill.sh prints them over the translation ea4a3c3eecb86bd4… (all of the seat's roots in one cut). By AI agents, Wed Nov 11 2026. No macro, syntax, notation, axiom, sorry.
-/
import Derived.Test.YtdohpkdfmceimaaChecked
import GoSem.Claim
import GoSem.ClaimJoined
import GoSem.ClaimMapViews
import Derived.JoinedTies
import Derived.KernelRfl
namespace Go.Proofs.Ytdohpkdfmceimaa
/- THE CELL 'sum', in the pinned program and in every row, IS THE sha256 OF THE DUMP (.gsa) THAT YtdohpkdfmceimaaProg.lean LOADS. Nothing in Lean hashes anything: it is a label: what it is worth is what the hold of that sum in a sandbox is worth. -/
noncomputable def Try.pinned : Pinned := { name := "ytdohpkdfmceimaa", sum := "ea4a3c3eecb86bd43160f58190d2b46f18b1716692f72173180b38cbb2027c9e", checked := Try.checked }
namespace Rows
def none {H : Type} : Left H := { results := [], args := [] }

/-- 'lazaretlaw06.PercentTell': WHATEVER THE INPUT: true; the input reads as it did. -/
def percentTellSpec : ChangeSpec := { name := "percentTell", fn := fun _ => fun
  | [d1, d2] => { results := [.lit (.bool true)], args := [d1, d2] }
  | _ => none }
def percentTellRow : OpenClaim := { program := "ytdohpkdfmceimaa", sum := "ea4a3c3eecb86bd43160f58190d2b46f18b1716692f72173180b38cbb2027c9e", func := "lazaret/lazaretlaw06.PercentTell", spec := "percentTell", inPlace := ["internal/abi.NoEscape", "internal/bytealg.IndexByteString"], recurses := true, apart := false }
def PercentTellSaid : Prop := percentTellRow.holds Try.pinned (OpenSpec.ofChange percentTellSpec)

/-- ITS FALSE NEIGHBOUR: 'it returns false'. Refute it at one input. -/
def percentTellWrong : ChangeSpec := { name := "percentTell", fn := fun _ => fun
  | [d1, d2] => { results := [.lit (.bool false)], args := [d1, d2] }
  | _ => none }
def PercentTellWrongFalsely : Prop := percentTellRow.holds Try.pinned (OpenSpec.ofChange percentTellWrong)

/-- 'lazaretlaw06.PercentTwice': WHATEVER THE INPUT: true; the input reads as it did. -/
def percentTwiceSpec : ChangeSpec := { name := "percentTwice", fn := fun _ => fun
  | [d1, d2] => { results := [.lit (.bool true)], args := [d1, d2] }
  | _ => none }
def percentTwiceRow : OpenClaim := { program := "ytdohpkdfmceimaa", sum := "ea4a3c3eecb86bd43160f58190d2b46f18b1716692f72173180b38cbb2027c9e", func := "lazaret/lazaretlaw06.PercentTwice", spec := "percentTwice", inPlace := ["internal/abi.NoEscape", "internal/bytealg.IndexByteString"], recurses := true, apart := false }
def PercentTwiceSaid : Prop := percentTwiceRow.holds Try.pinned (OpenSpec.ofChange percentTwiceSpec)

/-- ITS FALSE NEIGHBOUR: 'it returns false'. Refute it at one input. -/
def percentTwiceWrong : ChangeSpec := { name := "percentTwice", fn := fun _ => fun
  | [d1, d2] => { results := [.lit (.bool false)], args := [d1, d2] }
  | _ => none }
def PercentTwiceWrongFalsely : Prop := percentTwiceRow.holds Try.pinned (OpenSpec.ofChange percentTwiceWrong)

/-- 'lazaretlaw06.PercentClean': WHATEVER THE INPUT: true; the input reads as it did. -/
def percentCleanSpec : ChangeSpec := { name := "percentClean", fn := fun _ => fun
  | [d1, d2] => { results := [.lit (.bool true)], args := [d1, d2] }
  | _ => none }
def percentCleanRow : OpenClaim := { program := "ytdohpkdfmceimaa", sum := "ea4a3c3eecb86bd43160f58190d2b46f18b1716692f72173180b38cbb2027c9e", func := "lazaret/lazaretlaw06.PercentClean", spec := "percentClean", inPlace := ["internal/abi.NoEscape", "internal/bytealg.IndexByteString"], recurses := true, apart := false }
def PercentCleanSaid : Prop := percentCleanRow.holds Try.pinned (OpenSpec.ofChange percentCleanSpec)

/-- ITS FALSE NEIGHBOUR: 'it returns false'. Refute it at one input. -/
def percentCleanWrong : ChangeSpec := { name := "percentClean", fn := fun _ => fun
  | [d1, d2] => { results := [.lit (.bool false)], args := [d1, d2] }
  | _ => none }
def PercentCleanWrongFalsely : Prop := percentCleanRow.holds Try.pinned (OpenSpec.ofChange percentCleanWrong)

/-- 'lazaretlaw06.PercentPieces': WHATEVER THE INPUT: true; the input reads as it did. -/
def percentPiecesSpec : ChangeSpec := { name := "percentPieces", fn := fun _ => fun
  | [d1, d2, d3] => { results := [.lit (.bool true)], args := [d1, d2, d3] }
  | _ => none }
def percentPiecesRow : OpenClaim := { program := "ytdohpkdfmceimaa", sum := "ea4a3c3eecb86bd43160f58190d2b46f18b1716692f72173180b38cbb2027c9e", func := "lazaret/lazaretlaw06.PercentPieces", spec := "percentPieces", inPlace := ["internal/abi.NoEscape", "internal/bytealg.IndexByteString"], recurses := true, apart := false }
def PercentPiecesSaid : Prop := percentPiecesRow.holds Try.pinned (OpenSpec.ofChange percentPiecesSpec)

/-- ITS FALSE NEIGHBOUR: 'it returns false'. Refute it at one input. -/
def percentPiecesWrong : ChangeSpec := { name := "percentPieces", fn := fun _ => fun
  | [d1, d2, d3] => { results := [.lit (.bool false)], args := [d1, d2, d3] }
  | _ => none }
def PercentPiecesWrongFalsely : Prop := percentPiecesRow.holds Try.pinned (OpenSpec.ofChange percentPiecesWrong)

/- THE SECOND FORM. 'bulk': how many values and letters a reading holds, each counted each time it is reached (what is shared counts as often as it is met; a slice's spare places count too). A statement '..UptoSaid' is the law's where the arguments, and the package variables that the reading takes, are together of bulk at most 1048576: NARROWER than '..Said'. Prove '..Said' where nothing that the law and all that it calls make is longer than what came in: it says more and counts as full. Else prove '..UptoSaid'. A law counts once. -/
mutual
def uptoBulk {H : Type} : DataW H → Nat
  | .lit (.string bytes) => bytes.length + 1
  | .lit _ => 1
  | .nil => 1
  | .ptr d => uptoBulk d + 1
  | .slice elems spare => uptoBulkAll elems + uptoBulkAll spare + 1
  | .agg parts => uptoBulkAll parts + 1
  | .iface _ d => uptoBulk d + 1
  | .map entries => uptoBulkEntries entries + 1
  | .held _ => 1
def uptoBulkAll {H : Type} : List (DataW H) → Nat
  | [] => 0
  | d :: r => uptoBulk d + uptoBulkAll r
def uptoBulkEntries {H : Type} : List (Lit × DataW H) → Nat
  | [] => 0
  | x :: r => uptoBulkEntry x + uptoBulkEntries r
def uptoBulkEntry {H : Type} : Lit × DataW H → Nat
  | (.string bytes, d) => bytes.length + uptoBulk d + 1
  | (_, d) => uptoBulk d + 1
 end
def uptoSmall : (H : Type) → List (DataW H) → Bool := fun _ ds => decide (uptoBulkAll ds ≤ 1048576)
def OpenSpec.upto (s : _root_.Go.ChangeSpec) : _root_.Go.OpenSpec := { _root_.Go.OpenSpec.ofChange s with cond := some uptoSmall }

/-- 'lazaretlaw06.PercentTell', WHERE WHAT IT READS IS OF BULK AT MOST 1048576: true; the input reads as it did. -/
def percentTellUptoRow : OpenClaim := { program := "ytdohpkdfmceimaa", sum := "ea4a3c3eecb86bd43160f58190d2b46f18b1716692f72173180b38cbb2027c9e", func := "lazaret/lazaretlaw06.PercentTell", spec := "percentTell", inPlace := ["internal/abi.NoEscape", "internal/bytealg.IndexByteString"], recurses := true, apart := false, narrowed := true }
def PercentTellUptoSaid : Prop := percentTellUptoRow.holds Try.pinned (OpenSpec.upto percentTellSpec)

/-- 'lazaretlaw06.PercentTwice', WHERE WHAT IT READS IS OF BULK AT MOST 1048576: true; the input reads as it did. -/
def percentTwiceUptoRow : OpenClaim := { program := "ytdohpkdfmceimaa", sum := "ea4a3c3eecb86bd43160f58190d2b46f18b1716692f72173180b38cbb2027c9e", func := "lazaret/lazaretlaw06.PercentTwice", spec := "percentTwice", inPlace := ["internal/abi.NoEscape", "internal/bytealg.IndexByteString"], recurses := true, apart := false, narrowed := true }
def PercentTwiceUptoSaid : Prop := percentTwiceUptoRow.holds Try.pinned (OpenSpec.upto percentTwiceSpec)

/-- 'lazaretlaw06.PercentClean', WHERE WHAT IT READS IS OF BULK AT MOST 1048576: true; the input reads as it did. -/
def percentCleanUptoRow : OpenClaim := { program := "ytdohpkdfmceimaa", sum := "ea4a3c3eecb86bd43160f58190d2b46f18b1716692f72173180b38cbb2027c9e", func := "lazaret/lazaretlaw06.PercentClean", spec := "percentClean", inPlace := ["internal/abi.NoEscape", "internal/bytealg.IndexByteString"], recurses := true, apart := false, narrowed := true }
def PercentCleanUptoSaid : Prop := percentCleanUptoRow.holds Try.pinned (OpenSpec.upto percentCleanSpec)

/-- 'lazaretlaw06.PercentPieces', WHERE WHAT IT READS IS OF BULK AT MOST 1048576: true; the input reads as it did. -/
def percentPiecesUptoRow : OpenClaim := { program := "ytdohpkdfmceimaa", sum := "ea4a3c3eecb86bd43160f58190d2b46f18b1716692f72173180b38cbb2027c9e", func := "lazaret/lazaretlaw06.PercentPieces", spec := "percentPieces", inPlace := ["internal/abi.NoEscape", "internal/bytealg.IndexByteString"], recurses := true, apart := false, narrowed := true }
def PercentPiecesUptoSaid : Prop := percentPiecesUptoRow.holds Try.pinned (OpenSpec.upto percentPiecesSpec)

end Rows
end Go.Proofs.Ytdohpkdfmceimaa
