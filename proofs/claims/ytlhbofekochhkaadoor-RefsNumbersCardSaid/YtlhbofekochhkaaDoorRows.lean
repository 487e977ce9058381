/-
  NARROWER THAN 'FOR EVERY INPUT', by the rows' own cells (each row's printed sentence says how): RefsTell: laid · RefsNames: laid · RefsPlace: laid · RefsNumbers: laid.
  DERIVED. THE GIVEN ROWS OF THIS SEAT. 4 by the template 'for every input the law returns true; each argument reads behind the call as it read before'; 0 by the template 'total and deterministic' (their statements: YtlhbofekochhkaaDoorTotals.lean).
  GIVEN WITH THE SEED: the statements are not yours to turn. If you find one false, say at which input.
  Laid BY PROGRAM, IN A SANDBOX (cutbox-rows.mjs): the forced cells as the released guide's own fill.sh prints them over the translation 4431e796addec9c8… (all of the seat's roots in one cut). By AI agents, Wed Nov 11 2026. No macro, syntax, notation, axiom, sorry.
-/
import Derived.Test.YtlhbofekochhkaaDoorChecked
import GoSem.Claim
import GoSem.ClaimJoined
import GoSem.ClaimMapViews
import Derived.JoinedTies
import Derived.KernelRfl
namespace Go.Proofs.YtlhbofekochhkaaDoor
/- THE CELL 'sum', in the pinned program and in every row, IS THE sha256 OF THE DUMP (.gsa) THAT YtlhbofekochhkaaDoorProg.lean LOADS. Nothing in Lean hashes anything: it is a label: what it is worth is what the hold of that sum in a sandbox is worth. -/
noncomputable def Tryd.pinned : Pinned := { name := "ytlhbofekochhkaadoor", sum := "4431e796addec9c8cded5b3ab6d9ad7224ed7b529d5cc279c28cc242231fc9f7", checked := Tryd.checked }
namespace Rows
def none {H : Type} : Left H := { results := [], args := [] }

/- WHAT THE LISTED PACKAGE-LEVEL VARIABLES READ AS WHEN THE CALL BEGINS. Each datum BY PROGRAM (the guide's laid-datum.mjs) off the statement by which the dump's own 'gosem.cut.vars' lays the variable. In a bare row this is a premise. The card (YtlhbofekochhkaaDoorCards.lean) ties it to the program's text. -/
def laid_lazaret_refs_others {H : Type} : DataW H := .agg [.lit (.int .i32 8364), .lit (.int .i32 0), .lit (.int .i32 8218), .lit (.int .i32 402), .lit (.int .i32 8222), .lit (.int .i32 8230), .lit (.int .i32 8224), .lit (.int .i32 8225), .lit (.int .i32 710), .lit (.int .i32 8240), .lit (.int .i32 352), .lit (.int .i32 8249), .lit (.int .i32 338), .lit (.int .i32 0), .lit (.int .i32 381), .lit (.int .i32 0), .lit (.int .i32 0), .lit (.int .i32 8216), .lit (.int .i32 8217), .lit (.int .i32 8220), .lit (.int .i32 8221), .lit (.int .i32 8226), .lit (.int .i32 8211), .lit (.int .i32 8212), .lit (.int .i32 732), .lit (.int .i32 8482), .lit (.int .i32 353), .lit (.int .i32 8250), .lit (.int .i32 339), .lit (.int .i32 0), .lit (.int .i32 382), .lit (.int .i32 376)]
def laid_math_bits_deBruijn32tab {H : Type} : DataW H := .agg [.lit (.int .u8 0), .lit (.int .u8 1), .lit (.int .u8 28), .lit (.int .u8 2), .lit (.int .u8 29), .lit (.int .u8 14), .lit (.int .u8 24), .lit (.int .u8 3), .lit (.int .u8 30), .lit (.int .u8 22), .lit (.int .u8 20), .lit (.int .u8 15), .lit (.int .u8 25), .lit (.int .u8 17), .lit (.int .u8 4), .lit (.int .u8 8), .lit (.int .u8 31), .lit (.int .u8 27), .lit (.int .u8 13), .lit (.int .u8 23), .lit (.int .u8 21), .lit (.int .u8 19), .lit (.int .u8 16), .lit (.int .u8 7), .lit (.int .u8 26), .lit (.int .u8 12), .lit (.int .u8 18), .lit (.int .u8 6), .lit (.int .u8 11), .lit (.int .u8 5), .lit (.int .u8 10), .lit (.int .u8 9)]
def laid_math_bits_deBruijn64tab {H : Type} : DataW H := .agg [.lit (.int .u8 0), .lit (.int .u8 1), .lit (.int .u8 56), .lit (.int .u8 2), .lit (.int .u8 57), .lit (.int .u8 49), .lit (.int .u8 28), .lit (.int .u8 3), .lit (.int .u8 61), .lit (.int .u8 58), .lit (.int .u8 42), .lit (.int .u8 50), .lit (.int .u8 38), .lit (.int .u8 29), .lit (.int .u8 17), .lit (.int .u8 4), .lit (.int .u8 62), .lit (.int .u8 47), .lit (.int .u8 59), .lit (.int .u8 36), .lit (.int .u8 45), .lit (.int .u8 43), .lit (.int .u8 51), .lit (.int .u8 22), .lit (.int .u8 53), .lit (.int .u8 39), .lit (.int .u8 33), .lit (.int .u8 30), .lit (.int .u8 24), .lit (.int .u8 18), .lit (.int .u8 12), .lit (.int .u8 5), .lit (.int .u8 63), .lit (.int .u8 55), .lit (.int .u8 48), .lit (.int .u8 27), .lit (.int .u8 60), .lit (.int .u8 41), .lit (.int .u8 37), .lit (.int .u8 16), .lit (.int .u8 46), .lit (.int .u8 35), .lit (.int .u8 44), .lit (.int .u8 21), .lit (.int .u8 52), .lit (.int .u8 32), .lit (.int .u8 23), .lit (.int .u8 11), .lit (.int .u8 54), .lit (.int .u8 26), .lit (.int .u8 40), .lit (.int .u8 15), .lit (.int .u8 34), .lit (.int .u8 20), .lit (.int .u8 31), .lit (.int .u8 10), .lit (.int .u8 25), .lit (.int .u8 14), .lit (.int .u8 19), .lit (.int .u8 9), .lit (.int .u8 13), .lit (.int .u8 8), .lit (.int .u8 7), .lit (.int .u8 6)]
def laid_internal_strconv_uint64pow10 {H : Type} : DataW H := .agg [.lit (.int .u64 1), .lit (.int .u64 10), .lit (.int .u64 100), .lit (.int .u64 1000), .lit (.int .u64 10000), .lit (.int .u64 100000), .lit (.int .u64 1000000), .lit (.int .u64 10000000), .lit (.int .u64 100000000), .lit (.int .u64 1000000000), .lit (.int .u64 10000000000), .lit (.int .u64 100000000000), .lit (.int .u64 1000000000000), .lit (.int .u64 10000000000000), .lit (.int .u64 100000000000000), .lit (.int .u64 1000000000000000), .lit (.int .u64 10000000000000000), .lit (.int .u64 100000000000000000), .lit (.int .u64 1000000000000000000), .lit (.int .u64 10000000000000000000)]

/-- 'lazaretlaw09.RefsTell': WHATEVER THE INPUT: true; the input reads as it did. -/
def refsTellSpec : ChangeSpec := { name := "refsTell", fn := fun _ => fun
  | [d1, d2] => { results := [.lit (.bool true)], args := [d1, d2] }
  | _ => none }
def refsTellRow : OpenClaim := { program := "ytlhbofekochhkaadoor", sum := "4431e796addec9c8cded5b3ab6d9ad7224ed7b529d5cc279c28cc242231fc9f7", func := "lazaret/lazaretlaw09.RefsTell", spec := "refsTell", unfollowed := true, recurses := true, named := ["lazaret/refs.others"], apart := false, laid := [("lazaret/refs.others", laid_lazaret_refs_others)] }
def RefsTellSaid : Prop := refsTellRow.holds Tryd.pinned (OpenSpec.ofChange refsTellSpec)

/-- ITS FALSE NEIGHBOUR: 'it returns false'. Refute it at one input. -/
def refsTellWrong : ChangeSpec := { name := "refsTell", fn := fun _ => fun
  | [d1, d2] => { results := [.lit (.bool false)], args := [d1, d2] }
  | _ => none }
def RefsTellWrongFalsely : Prop := refsTellRow.holds Tryd.pinned (OpenSpec.ofChange refsTellWrong)

/-- 'lazaretlaw09.RefsNames': WHATEVER THE INPUT: true; the input reads as it did. -/
def refsNamesSpec : ChangeSpec := { name := "refsNames", fn := fun _ => fun
  | [d1, d2, d3] => { results := [.lit (.bool true)], args := [d1, d2, d3] }
  | _ => none }
def refsNamesRow : OpenClaim := { program := "ytlhbofekochhkaadoor", sum := "4431e796addec9c8cded5b3ab6d9ad7224ed7b529d5cc279c28cc242231fc9f7", func := "lazaret/lazaretlaw09.RefsNames", spec := "refsNames", unfollowed := true, recurses := true, named := ["lazaret/refs.others"], apart := false, laid := [("lazaret/refs.others", laid_lazaret_refs_others)] }
def RefsNamesSaid : Prop := refsNamesRow.holds Tryd.pinned (OpenSpec.ofChange refsNamesSpec)

/-- ITS FALSE NEIGHBOUR: 'it returns false'. Refute it at one input. -/
def refsNamesWrong : ChangeSpec := { name := "refsNames", fn := fun _ => fun
  | [d1, d2, d3] => { results := [.lit (.bool false)], args := [d1, d2, d3] }
  | _ => none }
def RefsNamesWrongFalsely : Prop := refsNamesRow.holds Tryd.pinned (OpenSpec.ofChange refsNamesWrong)

/-- 'lazaretlaw09.RefsPlace': WHATEVER THE INPUT: true; the input reads as it did. -/
def refsPlaceSpec : ChangeSpec := { name := "refsPlace", fn := fun _ => fun
  | [d1, d2, d3] => { results := [.lit (.bool true)], args := [d1, d2, d3] }
  | _ => none }
def refsPlaceRow : OpenClaim := { program := "ytlhbofekochhkaadoor", sum := "4431e796addec9c8cded5b3ab6d9ad7224ed7b529d5cc279c28cc242231fc9f7", func := "lazaret/lazaretlaw09.RefsPlace", spec := "refsPlace", unfollowed := true, recurses := true, named := ["lazaret/refs.others"], apart := false, laid := [("lazaret/refs.others", laid_lazaret_refs_others)] }
def RefsPlaceSaid : Prop := refsPlaceRow.holds Tryd.pinned (OpenSpec.ofChange refsPlaceSpec)

/-- ITS FALSE NEIGHBOUR: 'it returns false'. Refute it at one input. -/
def refsPlaceWrong : ChangeSpec := { name := "refsPlace", fn := fun _ => fun
  | [d1, d2, d3] => { results := [.lit (.bool false)], args := [d1, d2, d3] }
  | _ => none }
def RefsPlaceWrongFalsely : Prop := refsPlaceRow.holds Tryd.pinned (OpenSpec.ofChange refsPlaceWrong)

/-- 'lazaretlaw09.RefsNumbers': WHATEVER THE INPUT: true; the input reads as it did. -/
def refsNumbersSpec : ChangeSpec := { name := "refsNumbers", fn := fun _ => fun
  | [d1, d2, d3] => { results := [.lit (.bool true)], args := [d1, d2, d3] }
  | _ => none }
def refsNumbersRow : OpenClaim := { program := "ytlhbofekochhkaadoor", sum := "4431e796addec9c8cded5b3ab6d9ad7224ed7b529d5cc279c28cc242231fc9f7", func := "lazaret/lazaretlaw09.RefsNumbers", spec := "refsNumbers", unfollowed := true, recurses := true, named := ["lazaret/refs.others", "internal/strconv.uint64pow10", "math/bits.deBruijn32tab", "math/bits.deBruijn64tab"], apart := false, laid := [("math/bits.deBruijn32tab", laid_math_bits_deBruijn32tab), ("math/bits.deBruijn64tab", laid_math_bits_deBruijn64tab), ("internal/strconv.uint64pow10", laid_internal_strconv_uint64pow10), ("lazaret/refs.others", laid_lazaret_refs_others)] }
def RefsNumbersSaid : Prop := refsNumbersRow.holds Tryd.pinned (OpenSpec.ofChange refsNumbersSpec)

/-- ITS FALSE NEIGHBOUR: 'it returns false'. Refute it at one input. -/
def refsNumbersWrong : ChangeSpec := { name := "refsNumbers", fn := fun _ => fun
  | [d1, d2, d3] => { results := [.lit (.bool false)], args := [d1, d2, d3] }
  | _ => none }
def RefsNumbersWrongFalsely : Prop := refsNumbersRow.holds Tryd.pinned (OpenSpec.ofChange refsNumbersWrong)

/- THE SECOND FORM. 'bulk': how many values and letters a reading holds, each counted each time it is reached (what is shared counts as often as it is met; a slice's spare places count too). A statement '..UptoSaid' is the law's where the arguments, and the package variables that the reading takes, are together of bulk at most 1048576: NARROWER than '..Said'. Prove '..Said' where nothing that the law and all that it calls make is longer than what came in: it says more and counts as full. Else prove '..UptoSaid'. A law counts once. -/
mutual
def uptoBulk {H : Type} : DataW H → Nat
  | .lit (.string bytes) => bytes.length + 1
  | .lit _ => 1
  | .nil => 1
  | .ptr d => uptoBulk d + 1
  | .slice elems spare => uptoBulkAll elems + uptoBulkAll spare + 1
  | .agg parts => uptoBulkAll parts + 1
  | .iface _ d => uptoBulk d + 1
  | .map entries => uptoBulkEntries entries + 1
  | .held _ => 1
def uptoBulkAll {H : Type} : List (DataW H) → Nat
  | [] => 0
  | d :: r => uptoBulk d + uptoBulkAll r
def uptoBulkEntries {H : Type} : List (Lit × DataW H) → Nat
  | [] => 0
  | x :: r => uptoBulkEntry x + uptoBulkEntries r
def uptoBulkEntry {H : Type} : Lit × DataW H → Nat
  | (.string bytes, d) => bytes.length + uptoBulk d + 1
  | (_, d) => uptoBulk d + 1
 end
def uptoSmall : (H : Type) → List (DataW H) → Bool := fun _ ds => decide (uptoBulkAll ds ≤ 1048576)
def OpenSpec.upto (s : _root_.Go.ChangeSpec) : _root_.Go.OpenSpec := { _root_.Go.OpenSpec.ofChange s with cond := some uptoSmall }

/-- 'lazaretlaw09.RefsTell', WHERE WHAT IT READS IS OF BULK AT MOST 1048576: true; the input reads as it did. -/
def refsTellUptoRow : OpenClaim := { program := "ytlhbofekochhkaadoor", sum := "4431e796addec9c8cded5b3ab6d9ad7224ed7b529d5cc279c28cc242231fc9f7", func := "lazaret/lazaretlaw09.RefsTell", spec := "refsTell", unfollowed := true, recurses := true, named := ["lazaret/refs.others"], apart := false, laid := [("lazaret/refs.others", laid_lazaret_refs_others)], narrowed := true }
def RefsTellUptoSaid : Prop := refsTellUptoRow.holds Tryd.pinned (OpenSpec.upto refsTellSpec)

/-- 'lazaretlaw09.RefsNames', WHERE WHAT IT READS IS OF BULK AT MOST 1048576: true; the input reads as it did. -/
def refsNamesUptoRow : OpenClaim := { program := "ytlhbofekochhkaadoor", sum := "4431e796addec9c8cded5b3ab6d9ad7224ed7b529d5cc279c28cc242231fc9f7", func := "lazaret/lazaretlaw09.RefsNames", spec := "refsNames", unfollowed := true, recurses := true, named := ["lazaret/refs.others"], apart := false, laid := [("lazaret/refs.others", laid_lazaret_refs_others)], narrowed := true }
def RefsNamesUptoSaid : Prop := refsNamesUptoRow.holds Tryd.pinned (OpenSpec.upto refsNamesSpec)

/-- 'lazaretlaw09.RefsPlace', WHERE WHAT IT READS IS OF BULK AT MOST 1048576: true; the input reads as it did. -/
def refsPlaceUptoRow : OpenClaim := { program := "ytlhbofekochhkaadoor", sum := "4431e796addec9c8cded5b3ab6d9ad7224ed7b529d5cc279c28cc242231fc9f7", func := "lazaret/lazaretlaw09.RefsPlace", spec := "refsPlace", unfollowed := true, recurses := true, named := ["lazaret/refs.others"], apart := false, laid := [("lazaret/refs.others", laid_lazaret_refs_others)], narrowed := true }
def RefsPlaceUptoSaid : Prop := refsPlaceUptoRow.holds Tryd.pinned (OpenSpec.upto refsPlaceSpec)

/-- 'lazaretlaw09.RefsNumbers', WHERE WHAT IT READS IS OF BULK AT MOST 1048576: true; the input reads as it did. -/
def refsNumbersUptoRow : OpenClaim := { program := "ytlhbofekochhkaadoor", sum := "4431e796addec9c8cded5b3ab6d9ad7224ed7b529d5cc279c28cc242231fc9f7", func := "lazaret/lazaretlaw09.RefsNumbers", spec := "refsNumbers", unfollowed := true, recurses := true, named := ["lazaret/refs.others", "internal/strconv.uint64pow10", "math/bits.deBruijn32tab", "math/bits.deBruijn64tab"], apart := false, laid := [("math/bits.deBruijn32tab", laid_math_bits_deBruijn32tab), ("math/bits.deBruijn64tab", laid_math_bits_deBruijn64tab), ("internal/strconv.uint64pow10", laid_internal_strconv_uint64pow10), ("lazaret/refs.others", laid_lazaret_refs_others)], narrowed := true }
def RefsNumbersUptoSaid : Prop := refsNumbersUptoRow.holds Tryd.pinned (OpenSpec.upto refsNumbersSpec)

end Rows
end Go.Proofs.YtlhbofekochhkaaDoor
