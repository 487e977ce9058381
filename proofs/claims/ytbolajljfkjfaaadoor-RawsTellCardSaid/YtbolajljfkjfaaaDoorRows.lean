/-
  NARROWER THAN 'FOR EVERY INPUT', by the rows' own cells (each row's printed sentence says how): RawsTell: laid · RawsRaw: laid · RawsComment: laid · RawsBounds: laid · RawsWhole: laid · RawsTwice: laid.
  DERIVED. THE GIVEN ROWS OF THIS SEAT. 6 by the template 'for every input the law returns true; each argument reads behind the call as it read before'; 0 by the template 'total and deterministic' (their statements: YtbolajljfkjfaaaDoorTotals.lean).
  GIVEN WITH THE SEED: the statements are not yours to turn. If you find one false, say at which input.
  Laid BY PROGRAM, IN A SANDBOX (cutbox-rows.mjs): the forced cells as the released guide's own fill.sh prints them over the translation 92b820b15534417f… (all of the seat's roots in one cut). By AI agents, Wed Nov 11 2026. No macro, syntax, notation, axiom, sorry.
-/
import Derived.Test.YtbolajljfkjfaaaDoorChecked
import GoSem.PinnedTables
import GoSem.Claim
import GoSem.ClaimJoined
import GoSem.ClaimMapViews
import Derived.JoinedTies
import Derived.KernelRfl
namespace Go.Proofs.YtbolajljfkjfaaaDoor
/- THE CELL 'sum', in the pinned program and in every row, IS THE sha256 OF THE DUMP (.gsa) THAT YtbolajljfkjfaaaDoorProg.lean LOADS. Nothing in Lean hashes anything: it is a label: what it is worth is what the hold of that sum in a sandbox is worth. -/
noncomputable def Tryd.pinned : Pinned := { name := "ytbolajljfkjfaaadoor", sum := "92b820b15534417f823352598405fa8f49376614ee664203763ee7a01972f3e9", checked := Tryd.checked }
namespace Rows
def none {H : Type} : Left H := { results := [], args := [] }

/- WHAT THE LISTED PACKAGE-LEVEL VARIABLES READ AS WHEN THE CALL BEGINS. Each datum BY PROGRAM (the guide's laid-datum.mjs) off the statement by which the dump's own 'gosem.cut.vars' lays the variable. In a bare row this is a premise. The card (YtbolajljfkjfaaaDoorCards.lean) ties it to the program's text. -/
def laid_unicode_utf8_acceptRanges {H : Type} : DataW H := .agg [.agg [.lit (.int .u8 128), .lit (.int .u8 191)], .agg [.lit (.int .u8 160), .lit (.int .u8 191)], .agg [.lit (.int .u8 128), .lit (.int .u8 159)], .agg [.lit (.int .u8 144), .lit (.int .u8 191)], .agg [.lit (.int .u8 128), .lit (.int .u8 143)], .agg [.lit (.int .u8 0), .lit (.int .u8 0)], .agg [.lit (.int .u8 0), .lit (.int .u8 0)], .agg [.lit (.int .u8 0), .lit (.int .u8 0)], .agg [.lit (.int .u8 0), .lit (.int .u8 0)], .agg [.lit (.int .u8 0), .lit (.int .u8 0)], .agg [.lit (.int .u8 0), .lit (.int .u8 0)], .agg [.lit (.int .u8 0), .lit (.int .u8 0)], .agg [.lit (.int .u8 0), .lit (.int .u8 0)], .agg [.lit (.int .u8 0), .lit (.int .u8 0)], .agg [.lit (.int .u8 0), .lit (.int .u8 0)], .agg [.lit (.int .u8 0), .lit (.int .u8 0)]]
def laid_lazaret_refs_others {H : Type} : DataW H := .agg [.lit (.int .i32 8364), .lit (.int .i32 0), .lit (.int .i32 8218), .lit (.int .i32 402), .lit (.int .i32 8222), .lit (.int .i32 8230), .lit (.int .i32 8224), .lit (.int .i32 8225), .lit (.int .i32 710), .lit (.int .i32 8240), .lit (.int .i32 352), .lit (.int .i32 8249), .lit (.int .i32 338), .lit (.int .i32 0), .lit (.int .i32 381), .lit (.int .i32 0), .lit (.int .i32 0), .lit (.int .i32 8216), .lit (.int .i32 8217), .lit (.int .i32 8220), .lit (.int .i32 8221), .lit (.int .i32 8226), .lit (.int .i32 8211), .lit (.int .i32 8212), .lit (.int .i32 732), .lit (.int .i32 8482), .lit (.int .i32 353), .lit (.int .i32 8250), .lit (.int .i32 339), .lit (.int .i32 0), .lit (.int .i32 382), .lit (.int .i32 376)]
/-- One of Go's own tables, pinned by name: the form's constant. -/
def laid_unicode_utf8_first : DataW Unit := Go.Pinned.utf8First

/-- 'lazaretlaw11.RawsTell': WHATEVER THE INPUT: true; the input reads as it did. -/
def rawsTellSpec : ChangeSpec := { name := "rawsTell", fn := fun _ => fun
  | [d1, d2] => { results := [.lit (.bool true)], args := [d1, d2] }
  | _ => none }
def rawsTellRow : OpenClaim := { program := "ytbolajljfkjfaaadoor", sum := "92b820b15534417f823352598405fa8f49376614ee664203763ee7a01972f3e9", func := "lazaret/lazaretlaw11.RawsTell", spec := "rawsTell", inPlace := ["internal/bytealg.IndexByteString", "internal/bytealg.IndexString", "internal/abi.NoEscape", "internal/bytealg.CountString", "internal/bytealg.MakeNoZero"], unfollowed := true, recurses := true, named := ["internal/bytealg.MaxLen", "unicode/utf8.first", "unicode/utf8.acceptRanges", "lazaret/refs.others"], apart := false, laid := [("unicode/utf8.acceptRanges", laid_unicode_utf8_acceptRanges), ("lazaret/refs.others", laid_lazaret_refs_others), ("unicode/utf8.first", laid_unicode_utf8_first)] }
def RawsTellSaid : Prop := rawsTellRow.holds Tryd.pinned (OpenSpec.ofChange rawsTellSpec)

/-- ITS FALSE NEIGHBOUR: 'it returns false'. Refute it at one input. -/
def rawsTellWrong : ChangeSpec := { name := "rawsTell", fn := fun _ => fun
  | [d1, d2] => { results := [.lit (.bool false)], args := [d1, d2] }
  | _ => none }
def RawsTellWrongFalsely : Prop := rawsTellRow.holds Tryd.pinned (OpenSpec.ofChange rawsTellWrong)

/-- 'lazaretlaw11.RawsRaw': WHATEVER THE INPUT: true; the input reads as it did. -/
def rawsRawSpec : ChangeSpec := { name := "rawsRaw", fn := fun _ => fun
  | [d1, d2, d3] => { results := [.lit (.bool true)], args := [d1, d2, d3] }
  | _ => none }
def rawsRawRow : OpenClaim := { program := "ytbolajljfkjfaaadoor", sum := "92b820b15534417f823352598405fa8f49376614ee664203763ee7a01972f3e9", func := "lazaret/lazaretlaw11.RawsRaw", spec := "rawsRaw", inPlace := ["internal/bytealg.IndexByteString", "internal/bytealg.IndexString", "internal/abi.NoEscape", "internal/bytealg.CountString", "internal/bytealg.MakeNoZero"], unfollowed := true, recurses := true, named := ["internal/bytealg.MaxLen", "unicode/utf8.first", "unicode/utf8.acceptRanges", "lazaret/refs.others"], apart := false, laid := [("unicode/utf8.acceptRanges", laid_unicode_utf8_acceptRanges), ("lazaret/refs.others", laid_lazaret_refs_others), ("unicode/utf8.first", laid_unicode_utf8_first)] }
def RawsRawSaid : Prop := rawsRawRow.holds Tryd.pinned (OpenSpec.ofChange rawsRawSpec)

/-- ITS FALSE NEIGHBOUR: 'it returns false'. Refute it at one input. -/
def rawsRawWrong : ChangeSpec := { name := "rawsRaw", fn := fun _ => fun
  | [d1, d2, d3] => { results := [.lit (.bool false)], args := [d1, d2, d3] }
  | _ => none }
def RawsRawWrongFalsely : Prop := rawsRawRow.holds Tryd.pinned (OpenSpec.ofChange rawsRawWrong)

/-- 'lazaretlaw11.RawsComment': WHATEVER THE INPUT: true; the input reads as it did. -/
def rawsCommentSpec : ChangeSpec := { name := "rawsComment", fn := fun _ => fun
  | [d1, d2, d3] => { results := [.lit (.bool true)], args := [d1, d2, d3] }
  | _ => none }
def rawsCommentRow : OpenClaim := { program := "ytbolajljfkjfaaadoor", sum := "92b820b15534417f823352598405fa8f49376614ee664203763ee7a01972f3e9", func := "lazaret/lazaretlaw11.RawsComment", spec := "rawsComment", inPlace := ["internal/bytealg.IndexByteString", "internal/bytealg.IndexString", "internal/abi.NoEscape", "internal/bytealg.CountString", "internal/bytealg.MakeNoZero"], unfollowed := true, recurses := true, named := ["internal/bytealg.MaxLen", "unicode/utf8.first", "unicode/utf8.acceptRanges", "lazaret/refs.others"], apart := false, laid := [("unicode/utf8.acceptRanges", laid_unicode_utf8_acceptRanges), ("lazaret/refs.others", laid_lazaret_refs_others), ("unicode/utf8.first", laid_unicode_utf8_first)] }
def RawsCommentSaid : Prop := rawsCommentRow.holds Tryd.pinned (OpenSpec.ofChange rawsCommentSpec)

/-- ITS FALSE NEIGHBOUR: 'it returns false'. Refute it at one input. -/
def rawsCommentWrong : ChangeSpec := { name := "rawsComment", fn := fun _ => fun
  | [d1, d2, d3] => { results := [.lit (.bool false)], args := [d1, d2, d3] }
  | _ => none }
def RawsCommentWrongFalsely : Prop := rawsCommentRow.holds Tryd.pinned (OpenSpec.ofChange rawsCommentWrong)

/-- 'lazaretlaw11.RawsBounds': WHATEVER THE INPUT: true; the input reads as it did. -/
def rawsBoundsSpec : ChangeSpec := { name := "rawsBounds", fn := fun _ => fun
  | [d1, d2, d3] => { results := [.lit (.bool true)], args := [d1, d2, d3] }
  | _ => none }
def rawsBoundsRow : OpenClaim := { program := "ytbolajljfkjfaaadoor", sum := "92b820b15534417f823352598405fa8f49376614ee664203763ee7a01972f3e9", func := "lazaret/lazaretlaw11.RawsBounds", spec := "rawsBounds", inPlace := ["internal/bytealg.IndexByteString", "internal/bytealg.IndexString", "internal/abi.NoEscape", "internal/bytealg.CountString", "internal/bytealg.MakeNoZero"], unfollowed := true, recurses := true, named := ["internal/bytealg.MaxLen", "unicode/utf8.first", "unicode/utf8.acceptRanges", "lazaret/refs.others"], apart := false, laid := [("unicode/utf8.acceptRanges", laid_unicode_utf8_acceptRanges), ("lazaret/refs.others", laid_lazaret_refs_others), ("unicode/utf8.first", laid_unicode_utf8_first)] }
def RawsBoundsSaid : Prop := rawsBoundsRow.holds Tryd.pinned (OpenSpec.ofChange rawsBoundsSpec)

/-- ITS FALSE NEIGHBOUR: 'it returns false'. Refute it at one input. -/
def rawsBoundsWrong : ChangeSpec := { name := "rawsBounds", fn := fun _ => fun
  | [d1, d2, d3] => { results := [.lit (.bool false)], args := [d1, d2, d3] }
  | _ => none }
def RawsBoundsWrongFalsely : Prop := rawsBoundsRow.holds Tryd.pinned (OpenSpec.ofChange rawsBoundsWrong)

/-- 'lazaretlaw11.RawsWhole': WHATEVER THE INPUT: true; the input reads as it did. -/
def rawsWholeSpec : ChangeSpec := { name := "rawsWhole", fn := fun _ => fun
  | [d1, d2, d3] => { results := [.lit (.bool true)], args := [d1, d2, d3] }
  | _ => none }
def rawsWholeRow : OpenClaim := { program := "ytbolajljfkjfaaadoor", sum := "92b820b15534417f823352598405fa8f49376614ee664203763ee7a01972f3e9", func := "lazaret/lazaretlaw11.RawsWhole", spec := "rawsWhole", inPlace := ["internal/bytealg.IndexByteString", "internal/bytealg.IndexString", "internal/abi.NoEscape", "internal/bytealg.CountString", "internal/bytealg.MakeNoZero"], unfollowed := true, recurses := true, named := ["internal/bytealg.MaxLen", "unicode/utf8.first", "unicode/utf8.acceptRanges", "lazaret/refs.others"], apart := false, laid := [("unicode/utf8.acceptRanges", laid_unicode_utf8_acceptRanges), ("lazaret/refs.others", laid_lazaret_refs_others), ("unicode/utf8.first", laid_unicode_utf8_first)] }
def RawsWholeSaid : Prop := rawsWholeRow.holds Tryd.pinned (OpenSpec.ofChange rawsWholeSpec)

/-- ITS FALSE NEIGHBOUR: 'it returns false'. Refute it at one input. -/
def rawsWholeWrong : ChangeSpec := { name := "rawsWhole", fn := fun _ => fun
  | [d1, d2, d3] => { results := [.lit (.bool false)], args := [d1, d2, d3] }
  | _ => none }
def RawsWholeWrongFalsely : Prop := rawsWholeRow.holds Tryd.pinned (OpenSpec.ofChange rawsWholeWrong)

/-- 'lazaretlaw11.RawsTwice': WHATEVER THE INPUT: true; the input reads as it did. -/
def rawsTwiceSpec : ChangeSpec := { name := "rawsTwice", fn := fun _ => fun
  | [d1, d2] => { results := [.lit (.bool true)], args := [d1, d2] }
  | _ => none }
def rawsTwiceRow : OpenClaim := { program := "ytbolajljfkjfaaadoor", sum := "92b820b15534417f823352598405fa8f49376614ee664203763ee7a01972f3e9", func := "lazaret/lazaretlaw11.RawsTwice", spec := "rawsTwice", inPlace := ["internal/bytealg.IndexByteString", "internal/bytealg.IndexString", "internal/abi.NoEscape", "internal/bytealg.CountString", "internal/bytealg.MakeNoZero"], unfollowed := true, recurses := true, named := ["internal/bytealg.MaxLen", "unicode/utf8.first", "unicode/utf8.acceptRanges", "lazaret/refs.others"], apart := false, laid := [("unicode/utf8.acceptRanges", laid_unicode_utf8_acceptRanges), ("lazaret/refs.others", laid_lazaret_refs_others), ("unicode/utf8.first", laid_unicode_utf8_first)] }
def RawsTwiceSaid : Prop := rawsTwiceRow.holds Tryd.pinned (OpenSpec.ofChange rawsTwiceSpec)

/-- ITS FALSE NEIGHBOUR: 'it returns false'. Refute it at one input. -/
def rawsTwiceWrong : ChangeSpec := { name := "rawsTwice", fn := fun _ => fun
  | [d1, d2] => { results := [.lit (.bool false)], args := [d1, d2] }
  | _ => none }
def RawsTwiceWrongFalsely : Prop := rawsTwiceRow.holds Tryd.pinned (OpenSpec.ofChange rawsTwiceWrong)

/- THE SECOND FORM. 'bulk': how many values and letters a reading holds, each counted each time it is reached (what is shared counts as often as it is met; a slice's spare places count too). A statement '..UptoSaid' is the law's where the arguments, and the package variables that the reading takes, are together of bulk at most 1048576: NARROWER than '..Said'. Prove '..Said' where nothing that the law and all that it calls make is longer than what came in: it says more and counts as full. Else prove '..UptoSaid'. A law counts once. -/
mutual
def uptoBulk {H : Type} : DataW H → Nat
  | .lit (.string bytes) => bytes.length + 1
  | .lit _ => 1
  | .nil => 1
  | .ptr d => uptoBulk d + 1
  | .slice elems spare => uptoBulkAll elems + uptoBulkAll spare + 1
  | .agg parts => uptoBulkAll parts + 1
  | .iface _ d => uptoBulk d + 1
  | .map entries => uptoBulkEntries entries + 1
  | .held _ => 1
def uptoBulkAll {H : Type} : List (DataW H) → Nat
  | [] => 0
  | d :: r => uptoBulk d + uptoBulkAll r
def uptoBulkEntries {H : Type} : List (Lit × DataW H) → Nat
  | [] => 0
  | x :: r => uptoBulkEntry x + uptoBulkEntries r
def uptoBulkEntry {H : Type} : Lit × DataW H → Nat
  | (.string bytes, d) => bytes.length + uptoBulk d + 1
  | (_, d) => uptoBulk d + 1
 end
def uptoSmall : (H : Type) → List (DataW H) → Bool := fun _ ds => decide (uptoBulkAll ds ≤ 1048576)
def OpenSpec.upto (s : _root_.Go.ChangeSpec) : _root_.Go.OpenSpec := { _root_.Go.OpenSpec.ofChange s with cond := some uptoSmall }

/-- 'lazaretlaw11.RawsTell', WHERE WHAT IT READS IS OF BULK AT MOST 1048576: true; the input reads as it did. -/
def rawsTellUptoRow : OpenClaim := { program := "ytbolajljfkjfaaadoor", sum := "92b820b15534417f823352598405fa8f49376614ee664203763ee7a01972f3e9", func := "lazaret/lazaretlaw11.RawsTell", spec := "rawsTell", inPlace := ["internal/bytealg.IndexByteString", "internal/bytealg.IndexString", "internal/abi.NoEscape", "internal/bytealg.CountString", "internal/bytealg.MakeNoZero"], unfollowed := true, recurses := true, named := ["internal/bytealg.MaxLen", "unicode/utf8.first", "unicode/utf8.acceptRanges", "lazaret/refs.others"], apart := false, laid := [("unicode/utf8.acceptRanges", laid_unicode_utf8_acceptRanges), ("lazaret/refs.others", laid_lazaret_refs_others), ("unicode/utf8.first", laid_unicode_utf8_first)], narrowed := true }
def RawsTellUptoSaid : Prop := rawsTellUptoRow.holds Tryd.pinned (OpenSpec.upto rawsTellSpec)

/-- 'lazaretlaw11.RawsRaw', WHERE WHAT IT READS IS OF BULK AT MOST 1048576: true; the input reads as it did. -/
def rawsRawUptoRow : OpenClaim := { program := "ytbolajljfkjfaaadoor", sum := "92b820b15534417f823352598405fa8f49376614ee664203763ee7a01972f3e9", func := "lazaret/lazaretlaw11.RawsRaw", spec := "rawsRaw", inPlace := ["internal/bytealg.IndexByteString", "internal/bytealg.IndexString", "internal/abi.NoEscape", "internal/bytealg.CountString", "internal/bytealg.MakeNoZero"], unfollowed := true, recurses := true, named := ["internal/bytealg.MaxLen", "unicode/utf8.first", "unicode/utf8.acceptRanges", "lazaret/refs.others"], apart := false, laid := [("unicode/utf8.acceptRanges", laid_unicode_utf8_acceptRanges), ("lazaret/refs.others", laid_lazaret_refs_others), ("unicode/utf8.first", laid_unicode_utf8_first)], narrowed := true }
def RawsRawUptoSaid : Prop := rawsRawUptoRow.holds Tryd.pinned (OpenSpec.upto rawsRawSpec)

/-- 'lazaretlaw11.RawsComment', WHERE WHAT IT READS IS OF BULK AT MOST 1048576: true; the input reads as it did. -/
def rawsCommentUptoRow : OpenClaim := { program := "ytbolajljfkjfaaadoor", sum := "92b820b15534417f823352598405fa8f49376614ee664203763ee7a01972f3e9", func := "lazaret/lazaretlaw11.RawsComment", spec := "rawsComment", inPlace := ["internal/bytealg.IndexByteString", "internal/bytealg.IndexString", "internal/abi.NoEscape", "internal/bytealg.CountString", "internal/bytealg.MakeNoZero"], unfollowed := true, recurses := true, named := ["internal/bytealg.MaxLen", "unicode/utf8.first", "unicode/utf8.acceptRanges", "lazaret/refs.others"], apart := false, laid := [("unicode/utf8.acceptRanges", laid_unicode_utf8_acceptRanges), ("lazaret/refs.others", laid_lazaret_refs_others), ("unicode/utf8.first", laid_unicode_utf8_first)], narrowed := true }
def RawsCommentUptoSaid : Prop := rawsCommentUptoRow.holds Tryd.pinned (OpenSpec.upto rawsCommentSpec)

/-- 'lazaretlaw11.RawsBounds', WHERE WHAT IT READS IS OF BULK AT MOST 1048576: true; the input reads as it did. -/
def rawsBoundsUptoRow : OpenClaim := { program := "ytbolajljfkjfaaadoor", sum := "92b820b15534417f823352598405fa8f49376614ee664203763ee7a01972f3e9", func := "lazaret/lazaretlaw11.RawsBounds", spec := "rawsBounds", inPlace := ["internal/bytealg.IndexByteString", "internal/bytealg.IndexString", "internal/abi.NoEscape", "internal/bytealg.CountString", "internal/bytealg.MakeNoZero"], unfollowed := true, recurses := true, named := ["internal/bytealg.MaxLen", "unicode/utf8.first", "unicode/utf8.acceptRanges", "lazaret/refs.others"], apart := false, laid := [("unicode/utf8.acceptRanges", laid_unicode_utf8_acceptRanges), ("lazaret/refs.others", laid_lazaret_refs_others), ("unicode/utf8.first", laid_unicode_utf8_first)], narrowed := true }
def RawsBoundsUptoSaid : Prop := rawsBoundsUptoRow.holds Tryd.pinned (OpenSpec.upto rawsBoundsSpec)

/-- 'lazaretlaw11.RawsWhole', WHERE WHAT IT READS IS OF BULK AT MOST 1048576: true; the input reads as it did. -/
def rawsWholeUptoRow : OpenClaim := { program := "ytbolajljfkjfaaadoor", sum := "92b820b15534417f823352598405fa8f49376614ee664203763ee7a01972f3e9", func := "lazaret/lazaretlaw11.RawsWhole", spec := "rawsWhole", inPlace := ["internal/bytealg.IndexByteString", "internal/bytealg.IndexString", "internal/abi.NoEscape", "internal/bytealg.CountString", "internal/bytealg.MakeNoZero"], unfollowed := true, recurses := true, named := ["internal/bytealg.MaxLen", "unicode/utf8.first", "unicode/utf8.acceptRanges", "lazaret/refs.others"], apart := false, laid := [("unicode/utf8.acceptRanges", laid_unicode_utf8_acceptRanges), ("lazaret/refs.others", laid_lazaret_refs_others), ("unicode/utf8.first", laid_unicode_utf8_first)], narrowed := true }
def RawsWholeUptoSaid : Prop := rawsWholeUptoRow.holds Tryd.pinned (OpenSpec.upto rawsWholeSpec)

/-- 'lazaretlaw11.RawsTwice', WHERE WHAT IT READS IS OF BULK AT MOST 1048576: true; the input reads as it did. -/
def rawsTwiceUptoRow : OpenClaim := { program := "ytbolajljfkjfaaadoor", sum := "92b820b15534417f823352598405fa8f49376614ee664203763ee7a01972f3e9", func := "lazaret/lazaretlaw11.RawsTwice", spec := "rawsTwice", inPlace := ["internal/bytealg.IndexByteString", "internal/bytealg.IndexString", "internal/abi.NoEscape", "internal/bytealg.CountString", "internal/bytealg.MakeNoZero"], unfollowed := true, recurses := true, named := ["internal/bytealg.MaxLen", "unicode/utf8.first", "unicode/utf8.acceptRanges", "lazaret/refs.others"], apart := false, laid := [("unicode/utf8.acceptRanges", laid_unicode_utf8_acceptRanges), ("lazaret/refs.others", laid_lazaret_refs_others), ("unicode/utf8.first", laid_unicode_utf8_first)], narrowed := true }
def RawsTwiceUptoSaid : Prop := rawsTwiceUptoRow.holds Tryd.pinned (OpenSpec.upto rawsTwiceSpec)

end Rows
end Go.Proofs.YtbolajljfkjfaaaDoor
