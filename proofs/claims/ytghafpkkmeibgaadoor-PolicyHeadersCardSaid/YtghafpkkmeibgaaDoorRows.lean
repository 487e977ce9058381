/-
  NARROWER THAN 'FOR EVERY INPUT', by the rows' own cells (each row's printed sentence says how): PolicyText: laid · PolicyBack: laid · PolicyOnce: laid · PolicyMeta: laid · PolicyAsk: laid · PolicyHeaders: laid · PolicyMore: laid · AsciiTexts: laid · AsciiFields: laid · AsciiCommas: laid · AsciiBytes: laid · AsciiCase: laid.
  DERIVED. THE GIVEN ROWS OF THIS SEAT. 12 by the template 'for every input the law returns true; each argument reads behind the call as it read before'; 0 by the template 'total and deterministic' (their statements: YtghafpkkmeibgaaDoorTotals.lean).
  GIVEN WITH THE SEED: the statements are not yours to turn. If you find one false, say at which input.
  Laid BY PROGRAM, IN A SANDBOX (cutbox-rows.mjs): the forced cells as the released guide's own fill.sh prints them over the translation 4cdbdedc3012fff5… (all of the seat's roots in one cut). By AI agents, Wed Nov 11 2026. No macro, syntax, notation, axiom, sorry.
-/
import Derived.Test.YtghafpkkmeibgaaDoorChecked
import GoSem.PinnedTables
import GoSem.Claim
import GoSem.ClaimJoined
import GoSem.ClaimMapViews
import Derived.JoinedTies
import Derived.KernelRfl
namespace Go.Proofs.YtghafpkkmeibgaaDoor
/- THE CELL 'sum', in the pinned program and in every row, IS THE sha256 OF THE DUMP (.gsa) THAT YtghafpkkmeibgaaDoorProg.lean LOADS. Nothing in Lean hashes anything: it is a label: what it is worth is what the hold of that sum in a sandbox is worth. -/
noncomputable def Tryd.pinned : Pinned := { name := "ytghafpkkmeibgaadoor", sum := "4cdbdedc3012fff5519988fe3d14eb4dad1e6cb2fc46b2e7b6a871d20b4b9804", checked := Tryd.checked }
namespace Rows
def none {H : Type} : Left H := { results := [], args := [] }

/- WHAT THE LISTED PACKAGE-LEVEL VARIABLES READ AS WHEN THE CALL BEGINS. Each datum BY PROGRAM (the guide's laid-datum.mjs) off the statement by which the dump's own 'gosem.cut.vars' lays the variable. In a bare row this is a premise. The card (YtghafpkkmeibgaaDoorCards.lean) ties it to the program's text. -/
def laid_unicode_utf8_acceptRanges {H : Type} : DataW H := .agg [.agg [.lit (.int .u8 128), .lit (.int .u8 191)], .agg [.lit (.int .u8 160), .lit (.int .u8 191)], .agg [.lit (.int .u8 128), .lit (.int .u8 159)], .agg [.lit (.int .u8 144), .lit (.int .u8 191)], .agg [.lit (.int .u8 128), .lit (.int .u8 143)], .agg [.lit (.int .u8 0), .lit (.int .u8 0)], .agg [.lit (.int .u8 0), .lit (.int .u8 0)], .agg [.lit (.int .u8 0), .lit (.int .u8 0)], .agg [.lit (.int .u8 0), .lit (.int .u8 0)], .agg [.lit (.int .u8 0), .lit (.int .u8 0)], .agg [.lit (.int .u8 0), .lit (.int .u8 0)], .agg [.lit (.int .u8 0), .lit (.int .u8 0)], .agg [.lit (.int .u8 0), .lit (.int .u8 0)], .agg [.lit (.int .u8 0), .lit (.int .u8 0)], .agg [.lit (.int .u8 0), .lit (.int .u8 0)], .agg [.lit (.int .u8 0), .lit (.int .u8 0)]]
/-- One of Go's own tables, pinned by name: the form's constant. -/
def laid_unicode_utf8_first : DataW Unit := Go.Pinned.utf8First

/-- 'lazaretlaw24.PolicyText': WHATEVER THE INPUT: true; the input reads as it did. -/
def policyTextSpec : ChangeSpec := { name := "policyText", fn := fun _ => fun
  | [d1, d2] => { results := [.lit (.bool true)], args := [d1, d2] }
  | _ => none }
def policyTextRow : OpenClaim := { program := "ytghafpkkmeibgaadoor", sum := "4cdbdedc3012fff5519988fe3d14eb4dad1e6cb2fc46b2e7b6a871d20b4b9804", func := "lazaret/lazaretlaw24.PolicyText", spec := "policyText", inPlace := ["internal/bytealg.CountString", "internal/bytealg.IndexByteString", "internal/bytealg.IndexString", "internal/abi.NoEscape", "internal/bytealg.MakeNoZero"], unfollowed := true, recurses := true, named := ["unicode/utf8.first", "unicode/utf8.acceptRanges", "internal/bytealg.MaxLen"], apart := false, laid := [("unicode/utf8.acceptRanges", laid_unicode_utf8_acceptRanges), ("unicode/utf8.first", laid_unicode_utf8_first)] }
def PolicyTextSaid : Prop := policyTextRow.holds Tryd.pinned (OpenSpec.ofChange policyTextSpec)

/-- ITS FALSE NEIGHBOUR: 'it returns false'. Refute it at one input. -/
def policyTextWrong : ChangeSpec := { name := "policyText", fn := fun _ => fun
  | [d1, d2] => { results := [.lit (.bool false)], args := [d1, d2] }
  | _ => none }
def PolicyTextWrongFalsely : Prop := policyTextRow.holds Tryd.pinned (OpenSpec.ofChange policyTextWrong)

/-- 'lazaretlaw24.PolicyBack': WHATEVER THE INPUT: true; the input reads as it did. -/
def policyBackSpec : ChangeSpec := { name := "policyBack", fn := fun _ => fun
  | [d] => { results := [.lit (.bool true)], args := [d] }
  | _ => none }
def policyBackRow : OpenClaim := { program := "ytghafpkkmeibgaadoor", sum := "4cdbdedc3012fff5519988fe3d14eb4dad1e6cb2fc46b2e7b6a871d20b4b9804", func := "lazaret/lazaretlaw24.PolicyBack", spec := "policyBack", inPlace := ["internal/bytealg.CountString", "internal/bytealg.IndexByteString", "internal/bytealg.IndexString", "internal/abi.NoEscape", "internal/bytealg.MakeNoZero"], unfollowed := true, recurses := true, named := ["unicode/utf8.first", "unicode/utf8.acceptRanges", "internal/bytealg.MaxLen"], apart := false, laid := [("unicode/utf8.acceptRanges", laid_unicode_utf8_acceptRanges), ("unicode/utf8.first", laid_unicode_utf8_first)] }
def PolicyBackSaid : Prop := policyBackRow.holds Tryd.pinned (OpenSpec.ofChange policyBackSpec)

/-- ITS FALSE NEIGHBOUR: 'it returns false'. Refute it at one input. -/
def policyBackWrong : ChangeSpec := { name := "policyBack", fn := fun _ => fun
  | [d] => { results := [.lit (.bool false)], args := [d] }
  | _ => none }
def PolicyBackWrongFalsely : Prop := policyBackRow.holds Tryd.pinned (OpenSpec.ofChange policyBackWrong)

/-- 'lazaretlaw24.PolicyOnce': WHATEVER THE INPUT: true; the input reads as it did. -/
def policyOnceSpec : ChangeSpec := { name := "policyOnce", fn := fun _ => fun
  | [d1, d2] => { results := [.lit (.bool true)], args := [d1, d2] }
  | _ => none }
def policyOnceRow : OpenClaim := { program := "ytghafpkkmeibgaadoor", sum := "4cdbdedc3012fff5519988fe3d14eb4dad1e6cb2fc46b2e7b6a871d20b4b9804", func := "lazaret/lazaretlaw24.PolicyOnce", spec := "policyOnce", inPlace := ["internal/bytealg.CountString", "internal/bytealg.IndexByteString", "internal/bytealg.IndexString", "internal/abi.NoEscape", "internal/bytealg.MakeNoZero"], unfollowed := true, recurses := true, named := ["unicode/utf8.first", "unicode/utf8.acceptRanges", "internal/bytealg.MaxLen"], apart := false, laid := [("unicode/utf8.acceptRanges", laid_unicode_utf8_acceptRanges), ("unicode/utf8.first", laid_unicode_utf8_first)] }
def PolicyOnceSaid : Prop := policyOnceRow.holds Tryd.pinned (OpenSpec.ofChange policyOnceSpec)

/-- ITS FALSE NEIGHBOUR: 'it returns false'. Refute it at one input. -/
def policyOnceWrong : ChangeSpec := { name := "policyOnce", fn := fun _ => fun
  | [d1, d2] => { results := [.lit (.bool false)], args := [d1, d2] }
  | _ => none }
def PolicyOnceWrongFalsely : Prop := policyOnceRow.holds Tryd.pinned (OpenSpec.ofChange policyOnceWrong)

/-- 'lazaretlaw24.PolicyMeta': WHATEVER THE INPUT: true; the input reads as it did. -/
def policyMetaSpec : ChangeSpec := { name := "policyMeta", fn := fun _ => fun
  | [d] => { results := [.lit (.bool true)], args := [d] }
  | _ => none }
def policyMetaRow : OpenClaim := { program := "ytghafpkkmeibgaadoor", sum := "4cdbdedc3012fff5519988fe3d14eb4dad1e6cb2fc46b2e7b6a871d20b4b9804", func := "lazaret/lazaretlaw24.PolicyMeta", spec := "policyMeta", inPlace := ["internal/bytealg.CountString", "internal/bytealg.IndexByteString", "internal/bytealg.IndexString", "internal/abi.NoEscape", "internal/bytealg.MakeNoZero"], unfollowed := true, recurses := true, named := ["unicode/utf8.first", "unicode/utf8.acceptRanges", "internal/bytealg.MaxLen"], apart := false, laid := [("unicode/utf8.acceptRanges", laid_unicode_utf8_acceptRanges), ("unicode/utf8.first", laid_unicode_utf8_first)] }
def PolicyMetaSaid : Prop := policyMetaRow.holds Tryd.pinned (OpenSpec.ofChange policyMetaSpec)

/-- ITS FALSE NEIGHBOUR: 'it returns false'. Refute it at one input. -/
def policyMetaWrong : ChangeSpec := { name := "policyMeta", fn := fun _ => fun
  | [d] => { results := [.lit (.bool false)], args := [d] }
  | _ => none }
def PolicyMetaWrongFalsely : Prop := policyMetaRow.holds Tryd.pinned (OpenSpec.ofChange policyMetaWrong)

/-- 'lazaretlaw24.PolicyAsk': WHATEVER THE INPUT: true; the input reads as it did. -/
def policyAskSpec : ChangeSpec := { name := "policyAsk", fn := fun _ => fun
  | [d1, d2] => { results := [.lit (.bool true)], args := [d1, d2] }
  | _ => none }
def policyAskRow : OpenClaim := { program := "ytghafpkkmeibgaadoor", sum := "4cdbdedc3012fff5519988fe3d14eb4dad1e6cb2fc46b2e7b6a871d20b4b9804", func := "lazaret/lazaretlaw24.PolicyAsk", spec := "policyAsk", inPlace := ["internal/bytealg.CountString", "internal/bytealg.IndexByteString", "internal/bytealg.IndexString", "internal/abi.NoEscape", "internal/bytealg.MakeNoZero"], unfollowed := true, recurses := true, named := ["unicode/utf8.first", "unicode/utf8.acceptRanges", "internal/bytealg.MaxLen"], apart := false, laid := [("unicode/utf8.acceptRanges", laid_unicode_utf8_acceptRanges), ("unicode/utf8.first", laid_unicode_utf8_first)] }
def PolicyAskSaid : Prop := policyAskRow.holds Tryd.pinned (OpenSpec.ofChange policyAskSpec)

/-- ITS FALSE NEIGHBOUR: 'it returns false'. Refute it at one input. -/
def policyAskWrong : ChangeSpec := { name := "policyAsk", fn := fun _ => fun
  | [d1, d2] => { results := [.lit (.bool false)], args := [d1, d2] }
  | _ => none }
def PolicyAskWrongFalsely : Prop := policyAskRow.holds Tryd.pinned (OpenSpec.ofChange policyAskWrong)

/-- 'lazaretlaw24.PolicyHeaders': WHATEVER THE INPUT: true; the input reads as it did. -/
def policyHeadersSpec : ChangeSpec := { name := "policyHeaders", fn := fun _ => fun
  | [d] => { results := [.lit (.bool true)], args := [d] }
  | _ => none }
def policyHeadersRow : OpenClaim := { program := "ytghafpkkmeibgaadoor", sum := "4cdbdedc3012fff5519988fe3d14eb4dad1e6cb2fc46b2e7b6a871d20b4b9804", func := "lazaret/lazaretlaw24.PolicyHeaders", spec := "policyHeaders", inPlace := ["internal/bytealg.CountString", "internal/bytealg.IndexByteString", "internal/bytealg.IndexString", "internal/abi.NoEscape", "internal/bytealg.MakeNoZero"], unfollowed := true, recurses := true, named := ["unicode/utf8.first", "unicode/utf8.acceptRanges", "internal/bytealg.MaxLen"], apart := false, laid := [("unicode/utf8.acceptRanges", laid_unicode_utf8_acceptRanges), ("unicode/utf8.first", laid_unicode_utf8_first)] }
def PolicyHeadersSaid : Prop := policyHeadersRow.holds Tryd.pinned (OpenSpec.ofChange policyHeadersSpec)

/-- ITS FALSE NEIGHBOUR: 'it returns false'. Refute it at one input. -/
def policyHeadersWrong : ChangeSpec := { name := "policyHeaders", fn := fun _ => fun
  | [d] => { results := [.lit (.bool false)], args := [d] }
  | _ => none }
def PolicyHeadersWrongFalsely : Prop := policyHeadersRow.holds Tryd.pinned (OpenSpec.ofChange policyHeadersWrong)

/-- 'lazaretlaw24.PolicyMore': WHATEVER THE INPUT: true; the input reads as it did. -/
def policyMoreSpec : ChangeSpec := { name := "policyMore", fn := fun _ => fun
  | [d1, d2] => { results := [.lit (.bool true)], args := [d1, d2] }
  | _ => none }
def policyMoreRow : OpenClaim := { program := "ytghafpkkmeibgaadoor", sum := "4cdbdedc3012fff5519988fe3d14eb4dad1e6cb2fc46b2e7b6a871d20b4b9804", func := "lazaret/lazaretlaw24.PolicyMore", spec := "policyMore", inPlace := ["internal/bytealg.CountString", "internal/bytealg.IndexByteString", "internal/bytealg.IndexString", "internal/abi.NoEscape", "internal/bytealg.MakeNoZero"], unfollowed := true, recurses := true, named := ["unicode/utf8.first", "unicode/utf8.acceptRanges", "internal/bytealg.MaxLen"], apart := false, laid := [("unicode/utf8.acceptRanges", laid_unicode_utf8_acceptRanges), ("unicode/utf8.first", laid_unicode_utf8_first)] }
def PolicyMoreSaid : Prop := policyMoreRow.holds Tryd.pinned (OpenSpec.ofChange policyMoreSpec)

/-- ITS FALSE NEIGHBOUR: 'it returns false'. Refute it at one input. -/
def policyMoreWrong : ChangeSpec := { name := "policyMore", fn := fun _ => fun
  | [d1, d2] => { results := [.lit (.bool false)], args := [d1, d2] }
  | _ => none }
def PolicyMoreWrongFalsely : Prop := policyMoreRow.holds Tryd.pinned (OpenSpec.ofChange policyMoreWrong)

/-- 'lazaretlaw02.AsciiTexts': WHATEVER THE INPUT: true; the input reads as it did. -/
def asciiTextsSpec : ChangeSpec := { name := "asciiTexts", fn := fun _ => fun
  | [d1, d2] => { results := [.lit (.bool true)], args := [d1, d2] }
  | _ => none }
def asciiTextsRow : OpenClaim := { program := "ytghafpkkmeibgaadoor", sum := "4cdbdedc3012fff5519988fe3d14eb4dad1e6cb2fc46b2e7b6a871d20b4b9804", func := "lazaret/lazaretlaw02.AsciiTexts", spec := "asciiTexts", inPlace := ["internal/bytealg.IndexByteString", "internal/bytealg.IndexString", "internal/bytealg.CountString"], unfollowed := true, recurses := true, named := ["unicode/utf8.first", "unicode/utf8.acceptRanges", "internal/bytealg.MaxLen"], apart := false, laid := [("unicode/utf8.acceptRanges", laid_unicode_utf8_acceptRanges), ("unicode/utf8.first", laid_unicode_utf8_first)] }
def AsciiTextsSaid : Prop := asciiTextsRow.holds Tryd.pinned (OpenSpec.ofChange asciiTextsSpec)

/-- ITS FALSE NEIGHBOUR: 'it returns false'. Refute it at one input. -/
def asciiTextsWrong : ChangeSpec := { name := "asciiTexts", fn := fun _ => fun
  | [d1, d2] => { results := [.lit (.bool false)], args := [d1, d2] }
  | _ => none }
def AsciiTextsWrongFalsely : Prop := asciiTextsRow.holds Tryd.pinned (OpenSpec.ofChange asciiTextsWrong)

/-- 'lazaretlaw02.AsciiFields': WHATEVER THE INPUT: true; the input reads as it did. -/
def asciiFieldsSpec : ChangeSpec := { name := "asciiFields", fn := fun _ => fun
  | [d1, d2] => { results := [.lit (.bool true)], args := [d1, d2] }
  | _ => none }
def asciiFieldsRow : OpenClaim := { program := "ytghafpkkmeibgaadoor", sum := "4cdbdedc3012fff5519988fe3d14eb4dad1e6cb2fc46b2e7b6a871d20b4b9804", func := "lazaret/lazaretlaw02.AsciiFields", spec := "asciiFields", inPlace := ["internal/bytealg.IndexByteString", "internal/bytealg.IndexString", "internal/bytealg.CountString"], unfollowed := true, recurses := true, named := ["unicode/utf8.first", "unicode/utf8.acceptRanges", "internal/bytealg.MaxLen"], apart := false, laid := [("unicode/utf8.acceptRanges", laid_unicode_utf8_acceptRanges), ("unicode/utf8.first", laid_unicode_utf8_first)] }
def AsciiFieldsSaid : Prop := asciiFieldsRow.holds Tryd.pinned (OpenSpec.ofChange asciiFieldsSpec)

/-- ITS FALSE NEIGHBOUR: 'it returns false'. Refute it at one input. -/
def asciiFieldsWrong : ChangeSpec := { name := "asciiFields", fn := fun _ => fun
  | [d1, d2] => { results := [.lit (.bool false)], args := [d1, d2] }
  | _ => none }
def AsciiFieldsWrongFalsely : Prop := asciiFieldsRow.holds Tryd.pinned (OpenSpec.ofChange asciiFieldsWrong)

/-- 'lazaretlaw02.AsciiCommas': WHATEVER THE INPUT: true; the input reads as it did. -/
def asciiCommasSpec : ChangeSpec := { name := "asciiCommas", fn := fun _ => fun
  | [d1, d2] => { results := [.lit (.bool true)], args := [d1, d2] }
  | _ => none }
def asciiCommasRow : OpenClaim := { program := "ytghafpkkmeibgaadoor", sum := "4cdbdedc3012fff5519988fe3d14eb4dad1e6cb2fc46b2e7b6a871d20b4b9804", func := "lazaret/lazaretlaw02.AsciiCommas", spec := "asciiCommas", inPlace := ["internal/bytealg.IndexByteString", "internal/bytealg.IndexString", "internal/bytealg.CountString"], unfollowed := true, recurses := true, named := ["unicode/utf8.first", "unicode/utf8.acceptRanges", "internal/bytealg.MaxLen"], apart := false, laid := [("unicode/utf8.acceptRanges", laid_unicode_utf8_acceptRanges), ("unicode/utf8.first", laid_unicode_utf8_first)] }
def AsciiCommasSaid : Prop := asciiCommasRow.holds Tryd.pinned (OpenSpec.ofChange asciiCommasSpec)

/-- ITS FALSE NEIGHBOUR: 'it returns false'. Refute it at one input. -/
def asciiCommasWrong : ChangeSpec := { name := "asciiCommas", fn := fun _ => fun
  | [d1, d2] => { results := [.lit (.bool false)], args := [d1, d2] }
  | _ => none }
def AsciiCommasWrongFalsely : Prop := asciiCommasRow.holds Tryd.pinned (OpenSpec.ofChange asciiCommasWrong)

/-- 'lazaretlaw02.AsciiBytes': WHATEVER THE INPUT: true; the input reads as it did. -/
def asciiBytesSpec : ChangeSpec := { name := "asciiBytes", fn := fun _ => fun
  | [d] => { results := [.lit (.bool true)], args := [d] }
  | _ => none }
def asciiBytesRow : OpenClaim := { program := "ytghafpkkmeibgaadoor", sum := "4cdbdedc3012fff5519988fe3d14eb4dad1e6cb2fc46b2e7b6a871d20b4b9804", func := "lazaret/lazaretlaw02.AsciiBytes", spec := "asciiBytes", inPlace := ["internal/bytealg.IndexByteString", "internal/bytealg.IndexString", "internal/bytealg.CountString"], unfollowed := true, recurses := true, named := ["unicode/utf8.first", "unicode/utf8.acceptRanges", "internal/bytealg.MaxLen"], apart := false, laid := [("unicode/utf8.acceptRanges", laid_unicode_utf8_acceptRanges), ("unicode/utf8.first", laid_unicode_utf8_first)] }
def AsciiBytesSaid : Prop := asciiBytesRow.holds Tryd.pinned (OpenSpec.ofChange asciiBytesSpec)

/-- ITS FALSE NEIGHBOUR: 'it returns false'. Refute it at one input. -/
def asciiBytesWrong : ChangeSpec := { name := "asciiBytes", fn := fun _ => fun
  | [d] => { results := [.lit (.bool false)], args := [d] }
  | _ => none }
def AsciiBytesWrongFalsely : Prop := asciiBytesRow.holds Tryd.pinned (OpenSpec.ofChange asciiBytesWrong)

/-- 'lazaretlaw02.AsciiCase': WHATEVER THE INPUT: true; the input reads as it did. -/
def asciiCaseSpec : ChangeSpec := { name := "asciiCase", fn := fun _ => fun
  | [d1, d2, d3] => { results := [.lit (.bool true)], args := [d1, d2, d3] }
  | _ => none }
def asciiCaseRow : OpenClaim := { program := "ytghafpkkmeibgaadoor", sum := "4cdbdedc3012fff5519988fe3d14eb4dad1e6cb2fc46b2e7b6a871d20b4b9804", func := "lazaret/lazaretlaw02.AsciiCase", spec := "asciiCase", inPlace := ["internal/bytealg.IndexByteString", "internal/bytealg.IndexString", "internal/bytealg.CountString"], unfollowed := true, recurses := true, named := ["unicode/utf8.first", "unicode/utf8.acceptRanges", "internal/bytealg.MaxLen"], apart := false, laid := [("unicode/utf8.acceptRanges", laid_unicode_utf8_acceptRanges), ("unicode/utf8.first", laid_unicode_utf8_first)] }
def AsciiCaseSaid : Prop := asciiCaseRow.holds Tryd.pinned (OpenSpec.ofChange asciiCaseSpec)

/-- ITS FALSE NEIGHBOUR: 'it returns false'. Refute it at one input. -/
def asciiCaseWrong : ChangeSpec := { name := "asciiCase", fn := fun _ => fun
  | [d1, d2, d3] => { results := [.lit (.bool false)], args := [d1, d2, d3] }
  | _ => none }
def AsciiCaseWrongFalsely : Prop := asciiCaseRow.holds Tryd.pinned (OpenSpec.ofChange asciiCaseWrong)

/- THE SECOND FORM. 'bulk': how many values and letters a reading holds, each counted each time it is reached (what is shared counts as often as it is met; a slice's spare places count too). A statement '..UptoSaid' is the law's where the arguments, and the package variables that the reading takes, are together of bulk at most 1048576: NARROWER than '..Said'. Prove '..Said' where nothing that the law and all that it calls make is longer than what came in: it says more and counts as full. Else prove '..UptoSaid'. A law counts once. -/
mutual
def uptoBulk {H : Type} : DataW H → Nat
  | .lit (.string bytes) => bytes.length + 1
  | .lit _ => 1
  | .nil => 1
  | .ptr d => uptoBulk d + 1
  | .slice elems spare => uptoBulkAll elems + uptoBulkAll spare + 1
  | .agg parts => uptoBulkAll parts + 1
  | .iface _ d => uptoBulk d + 1
  | .map entries => uptoBulkEntries entries + 1
  | .held _ => 1
def uptoBulkAll {H : Type} : List (DataW H) → Nat
  | [] => 0
  | d :: r => uptoBulk d + uptoBulkAll r
def uptoBulkEntries {H : Type} : List (Lit × DataW H) → Nat
  | [] => 0
  | x :: r => uptoBulkEntry x + uptoBulkEntries r
def uptoBulkEntry {H : Type} : Lit × DataW H → Nat
  | (.string bytes, d) => bytes.length + uptoBulk d + 1
  | (_, d) => uptoBulk d + 1
 end
def uptoSmall : (H : Type) → List (DataW H) → Bool := fun _ ds => decide (uptoBulkAll ds ≤ 1048576)
def OpenSpec.upto (s : _root_.Go.ChangeSpec) : _root_.Go.OpenSpec := { _root_.Go.OpenSpec.ofChange s with cond := some uptoSmall }

/-- 'lazaretlaw24.PolicyText', WHERE WHAT IT READS IS OF BULK AT MOST 1048576: true; the input reads as it did. -/
def policyTextUptoRow : OpenClaim := { program := "ytghafpkkmeibgaadoor", sum := "4cdbdedc3012fff5519988fe3d14eb4dad1e6cb2fc46b2e7b6a871d20b4b9804", func := "lazaret/lazaretlaw24.PolicyText", spec := "policyText", inPlace := ["internal/bytealg.CountString", "internal/bytealg.IndexByteString", "internal/bytealg.IndexString", "internal/abi.NoEscape", "internal/bytealg.MakeNoZero"], unfollowed := true, recurses := true, named := ["unicode/utf8.first", "unicode/utf8.acceptRanges", "internal/bytealg.MaxLen"], apart := false, laid := [("unicode/utf8.acceptRanges", laid_unicode_utf8_acceptRanges), ("unicode/utf8.first", laid_unicode_utf8_first)], narrowed := true }
def PolicyTextUptoSaid : Prop := policyTextUptoRow.holds Tryd.pinned (OpenSpec.upto policyTextSpec)

/-- 'lazaretlaw24.PolicyBack', WHERE WHAT IT READS IS OF BULK AT MOST 1048576: true; the input reads as it did. -/
def policyBackUptoRow : OpenClaim := { program := "ytghafpkkmeibgaadoor", sum := "4cdbdedc3012fff5519988fe3d14eb4dad1e6cb2fc46b2e7b6a871d20b4b9804", func := "lazaret/lazaretlaw24.PolicyBack", spec := "policyBack", inPlace := ["internal/bytealg.CountString", "internal/bytealg.IndexByteString", "internal/bytealg.IndexString", "internal/abi.NoEscape", "internal/bytealg.MakeNoZero"], unfollowed := true, recurses := true, named := ["unicode/utf8.first", "unicode/utf8.acceptRanges", "internal/bytealg.MaxLen"], apart := false, laid := [("unicode/utf8.acceptRanges", laid_unicode_utf8_acceptRanges), ("unicode/utf8.first", laid_unicode_utf8_first)], narrowed := true }
def PolicyBackUptoSaid : Prop := policyBackUptoRow.holds Tryd.pinned (OpenSpec.upto policyBackSpec)

/-- 'lazaretlaw24.PolicyOnce', WHERE WHAT IT READS IS OF BULK AT MOST 1048576: true; the input reads as it did. -/
def policyOnceUptoRow : OpenClaim := { program := "ytghafpkkmeibgaadoor", sum := "4cdbdedc3012fff5519988fe3d14eb4dad1e6cb2fc46b2e7b6a871d20b4b9804", func := "lazaret/lazaretlaw24.PolicyOnce", spec := "policyOnce", inPlace := ["internal/bytealg.CountString", "internal/bytealg.IndexByteString", "internal/bytealg.IndexString", "internal/abi.NoEscape", "internal/bytealg.MakeNoZero"], unfollowed := true, recurses := true, named := ["unicode/utf8.first", "unicode/utf8.acceptRanges", "internal/bytealg.MaxLen"], apart := false, laid := [("unicode/utf8.acceptRanges", laid_unicode_utf8_acceptRanges), ("unicode/utf8.first", laid_unicode_utf8_first)], narrowed := true }
def PolicyOnceUptoSaid : Prop := policyOnceUptoRow.holds Tryd.pinned (OpenSpec.upto policyOnceSpec)

/-- 'lazaretlaw24.PolicyMeta', WHERE WHAT IT READS IS OF BULK AT MOST 1048576: true; the input reads as it did. -/
def policyMetaUptoRow : OpenClaim := { program := "ytghafpkkmeibgaadoor", sum := "4cdbdedc3012fff5519988fe3d14eb4dad1e6cb2fc46b2e7b6a871d20b4b9804", func := "lazaret/lazaretlaw24.PolicyMeta", spec := "policyMeta", inPlace := ["internal/bytealg.CountString", "internal/bytealg.IndexByteString", "internal/bytealg.IndexString", "internal/abi.NoEscape", "internal/bytealg.MakeNoZero"], unfollowed := true, recurses := true, named := ["unicode/utf8.first", "unicode/utf8.acceptRanges", "internal/bytealg.MaxLen"], apart := false, laid := [("unicode/utf8.acceptRanges", laid_unicode_utf8_acceptRanges), ("unicode/utf8.first", laid_unicode_utf8_first)], narrowed := true }
def PolicyMetaUptoSaid : Prop := policyMetaUptoRow.holds Tryd.pinned (OpenSpec.upto policyMetaSpec)

/-- 'lazaretlaw24.PolicyAsk', WHERE WHAT IT READS IS OF BULK AT MOST 1048576: true; the input reads as it did. -/
def policyAskUptoRow : OpenClaim := { program := "ytghafpkkmeibgaadoor", sum := "4cdbdedc3012fff5519988fe3d14eb4dad1e6cb2fc46b2e7b6a871d20b4b9804", func := "lazaret/lazaretlaw24.PolicyAsk", spec := "policyAsk", inPlace := ["internal/bytealg.CountString", "internal/bytealg.IndexByteString", "internal/bytealg.IndexString", "internal/abi.NoEscape", "internal/bytealg.MakeNoZero"], unfollowed := true, recurses := true, named := ["unicode/utf8.first", "unicode/utf8.acceptRanges", "internal/bytealg.MaxLen"], apart := false, laid := [("unicode/utf8.acceptRanges", laid_unicode_utf8_acceptRanges), ("unicode/utf8.first", laid_unicode_utf8_first)], narrowed := true }
def PolicyAskUptoSaid : Prop := policyAskUptoRow.holds Tryd.pinned (OpenSpec.upto policyAskSpec)

/-- 'lazaretlaw24.PolicyHeaders', WHERE WHAT IT READS IS OF BULK AT MOST 1048576: true; the input reads as it did. -/
def policyHeadersUptoRow : OpenClaim := { program := "ytghafpkkmeibgaadoor", sum := "4cdbdedc3012fff5519988fe3d14eb4dad1e6cb2fc46b2e7b6a871d20b4b9804", func := "lazaret/lazaretlaw24.PolicyHeaders", spec := "policyHeaders", inPlace := ["internal/bytealg.CountString", "internal/bytealg.IndexByteString", "internal/bytealg.IndexString", "internal/abi.NoEscape", "internal/bytealg.MakeNoZero"], unfollowed := true, recurses := true, named := ["unicode/utf8.first", "unicode/utf8.acceptRanges", "internal/bytealg.MaxLen"], apart := false, laid := [("unicode/utf8.acceptRanges", laid_unicode_utf8_acceptRanges), ("unicode/utf8.first", laid_unicode_utf8_first)], narrowed := true }
def PolicyHeadersUptoSaid : Prop := policyHeadersUptoRow.holds Tryd.pinned (OpenSpec.upto policyHeadersSpec)

/-- 'lazaretlaw24.PolicyMore', WHERE WHAT IT READS IS OF BULK AT MOST 1048576: true; the input reads as it did. -/
def policyMoreUptoRow : OpenClaim := { program := "ytghafpkkmeibgaadoor", sum := "4cdbdedc3012fff5519988fe3d14eb4dad1e6cb2fc46b2e7b6a871d20b4b9804", func := "lazaret/lazaretlaw24.PolicyMore", spec := "policyMore", inPlace := ["internal/bytealg.CountString", "internal/bytealg.IndexByteString", "internal/bytealg.IndexString", "internal/abi.NoEscape", "internal/bytealg.MakeNoZero"], unfollowed := true, recurses := true, named := ["unicode/utf8.first", "unicode/utf8.acceptRanges", "internal/bytealg.MaxLen"], apart := false, laid := [("unicode/utf8.acceptRanges", laid_unicode_utf8_acceptRanges), ("unicode/utf8.first", laid_unicode_utf8_first)], narrowed := true }
def PolicyMoreUptoSaid : Prop := policyMoreUptoRow.holds Tryd.pinned (OpenSpec.upto policyMoreSpec)

/-- 'lazaretlaw02.AsciiTexts', WHERE WHAT IT READS IS OF BULK AT MOST 1048576: true; the input reads as it did. -/
def asciiTextsUptoRow : OpenClaim := { program := "ytghafpkkmeibgaadoor", sum := "4cdbdedc3012fff5519988fe3d14eb4dad1e6cb2fc46b2e7b6a871d20b4b9804", func := "lazaret/lazaretlaw02.AsciiTexts", spec := "asciiTexts", inPlace := ["internal/bytealg.IndexByteString", "internal/bytealg.IndexString", "internal/bytealg.CountString"], unfollowed := true, recurses := true, named := ["unicode/utf8.first", "unicode/utf8.acceptRanges", "internal/bytealg.MaxLen"], apart := false, laid := [("unicode/utf8.acceptRanges", laid_unicode_utf8_acceptRanges), ("unicode/utf8.first", laid_unicode_utf8_first)], narrowed := true }
def AsciiTextsUptoSaid : Prop := asciiTextsUptoRow.holds Tryd.pinned (OpenSpec.upto asciiTextsSpec)

/-- 'lazaretlaw02.AsciiFields', WHERE WHAT IT READS IS OF BULK AT MOST 1048576: true; the input reads as it did. -/
def asciiFieldsUptoRow : OpenClaim := { program := "ytghafpkkmeibgaadoor", sum := "4cdbdedc3012fff5519988fe3d14eb4dad1e6cb2fc46b2e7b6a871d20b4b9804", func := "lazaret/lazaretlaw02.AsciiFields", spec := "asciiFields", inPlace := ["internal/bytealg.IndexByteString", "internal/bytealg.IndexString", "internal/bytealg.CountString"], unfollowed := true, recurses := true, named := ["unicode/utf8.first", "unicode/utf8.acceptRanges", "internal/bytealg.MaxLen"], apart := false, laid := [("unicode/utf8.acceptRanges", laid_unicode_utf8_acceptRanges), ("unicode/utf8.first", laid_unicode_utf8_first)], narrowed := true }
def AsciiFieldsUptoSaid : Prop := asciiFieldsUptoRow.holds Tryd.pinned (OpenSpec.upto asciiFieldsSpec)

/-- 'lazaretlaw02.AsciiCommas', WHERE WHAT IT READS IS OF BULK AT MOST 1048576: true; the input reads as it did. -/
def asciiCommasUptoRow : OpenClaim := { program := "ytghafpkkmeibgaadoor", sum := "4cdbdedc3012fff5519988fe3d14eb4dad1e6cb2fc46b2e7b6a871d20b4b9804", func := "lazaret/lazaretlaw02.AsciiCommas", spec := "asciiCommas", inPlace := ["internal/bytealg.IndexByteString", "internal/bytealg.IndexString", "internal/bytealg.CountString"], unfollowed := true, recurses := true, named := ["unicode/utf8.first", "unicode/utf8.acceptRanges", "internal/bytealg.MaxLen"], apart := false, laid := [("unicode/utf8.acceptRanges", laid_unicode_utf8_acceptRanges), ("unicode/utf8.first", laid_unicode_utf8_first)], narrowed := true }
def AsciiCommasUptoSaid : Prop := asciiCommasUptoRow.holds Tryd.pinned (OpenSpec.upto asciiCommasSpec)

/-- 'lazaretlaw02.AsciiBytes', WHERE WHAT IT READS IS OF BULK AT MOST 1048576: true; the input reads as it did. -/
def asciiBytesUptoRow : OpenClaim := { program := "ytghafpkkmeibgaadoor", sum := "4cdbdedc3012fff5519988fe3d14eb4dad1e6cb2fc46b2e7b6a871d20b4b9804", func := "lazaret/lazaretlaw02.AsciiBytes", spec := "asciiBytes", inPlace := ["internal/bytealg.IndexByteString", "internal/bytealg.IndexString", "internal/bytealg.CountString"], unfollowed := true, recurses := true, named := ["unicode/utf8.first", "unicode/utf8.acceptRanges", "internal/bytealg.MaxLen"], apart := false, laid := [("unicode/utf8.acceptRanges", laid_unicode_utf8_acceptRanges), ("unicode/utf8.first", laid_unicode_utf8_first)], narrowed := true }
def AsciiBytesUptoSaid : Prop := asciiBytesUptoRow.holds Tryd.pinned (OpenSpec.upto asciiBytesSpec)

/-- 'lazaretlaw02.AsciiCase', WHERE WHAT IT READS IS OF BULK AT MOST 1048576: true; the input reads as it did. -/
def asciiCaseUptoRow : OpenClaim := { program := "ytghafpkkmeibgaadoor", sum := "4cdbdedc3012fff5519988fe3d14eb4dad1e6cb2fc46b2e7b6a871d20b4b9804", func := "lazaret/lazaretlaw02.AsciiCase", spec := "asciiCase", inPlace := ["internal/bytealg.IndexByteString", "internal/bytealg.IndexString", "internal/bytealg.CountString"], unfollowed := true, recurses := true, named := ["unicode/utf8.first", "unicode/utf8.acceptRanges", "internal/bytealg.MaxLen"], apart := false, laid := [("unicode/utf8.acceptRanges", laid_unicode_utf8_acceptRanges), ("unicode/utf8.first", laid_unicode_utf8_first)], narrowed := true }
def AsciiCaseUptoSaid : Prop := asciiCaseUptoRow.holds Tryd.pinned (OpenSpec.upto asciiCaseSpec)

end Rows
end Go.Proofs.YtghafpkkmeibgaaDoor
