/-
  NARROWER THAN 'FOR EVERY INPUT', by the rows' own cells (each row's printed sentence says how): TextsTell: laid · TextsWhole: laid · TextsPieces: laid · TextsLines: laid.
  DERIVED. THE GIVEN ROWS OF THIS SEAT. 4 by the template 'for every input the law returns true; each argument reads behind the call as it read before'; 0 by the template 'total and deterministic' (their statements: YthcbkgiphfgbcaaDoorTotals.lean).
  GIVEN WITH THE SEED: the statements are not yours to turn. If you find one false, say at which input.
  Laid BY PROGRAM, IN A SANDBOX (cutbox-rows.mjs): the forced cells as the released guide's own fill.sh prints them over the translation 6957588838e13bdb… (all of the seat's roots in one cut). By AI agents, Wed Nov 11 2026. No macro, syntax, notation, axiom, sorry.
-/
import Derived.Test.YthcbkgiphfgbcaaDoorChecked
import GoSem.PinnedTables
import GoSem.Claim
import GoSem.ClaimJoined
import GoSem.ClaimMapViews
import Derived.JoinedTies
import Derived.KernelRfl
namespace Go.Proofs.YthcbkgiphfgbcaaDoor
/- THE CELL 'sum', in the pinned program and in every row, IS THE sha256 OF THE DUMP (.gsa) THAT YthcbkgiphfgbcaaDoorProg.lean LOADS. Nothing in Lean hashes anything: it is a label: what it is worth is what the hold of that sum in a sandbox is worth. -/
noncomputable def Tryd.pinned : Pinned := { name := "ythcbkgiphfgbcaadoor", sum := "6957588838e13bdbb189323f82d3f3bd6802238fa153514be2669e7cb321b915", checked := Tryd.checked }
namespace Rows
def none {H : Type} : Left H := { results := [], args := [] }

/- WHAT THE LISTED PACKAGE-LEVEL VARIABLES READ AS WHEN THE CALL BEGINS. Each datum BY PROGRAM (the guide's laid-datum.mjs) off the statement by which the dump's own 'gosem.cut.vars' lays the variable. In a bare row this is a premise. The card (YthcbkgiphfgbcaaDoorCards.lean) ties it to the program's text. -/
def laid_unicode_utf8_acceptRanges {H : Type} : DataW H := .agg [.agg [.lit (.int .u8 128), .lit (.int .u8 191)], .agg [.lit (.int .u8 160), .lit (.int .u8 191)], .agg [.lit (.int .u8 128), .lit (.int .u8 159)], .agg [.lit (.int .u8 144), .lit (.int .u8 191)], .agg [.lit (.int .u8 128), .lit (.int .u8 143)], .agg [.lit (.int .u8 0), .lit (.int .u8 0)], .agg [.lit (.int .u8 0), .lit (.int .u8 0)], .agg [.lit (.int .u8 0), .lit (.int .u8 0)], .agg [.lit (.int .u8 0), .lit (.int .u8 0)], .agg [.lit (.int .u8 0), .lit (.int .u8 0)], .agg [.lit (.int .u8 0), .lit (.int .u8 0)], .agg [.lit (.int .u8 0), .lit (.int .u8 0)], .agg [.lit (.int .u8 0), .lit (.int .u8 0)], .agg [.lit (.int .u8 0), .lit (.int .u8 0)], .agg [.lit (.int .u8 0), .lit (.int .u8 0)], .agg [.lit (.int .u8 0), .lit (.int .u8 0)]]
def laid_lazaret_texts_leads {H : Type} : DataW H := .agg [.agg [.lit (.int .u8 194), .lit (.int .u8 223), .lit (.int .i64 1), .lit (.int .u8 128), .lit (.int .u8 191)], .agg [.lit (.int .u8 224), .lit (.int .u8 224), .lit (.int .i64 2), .lit (.int .u8 160), .lit (.int .u8 191)], .agg [.lit (.int .u8 225), .lit (.int .u8 236), .lit (.int .i64 2), .lit (.int .u8 128), .lit (.int .u8 191)], .agg [.lit (.int .u8 237), .lit (.int .u8 237), .lit (.int .i64 2), .lit (.int .u8 128), .lit (.int .u8 159)], .agg [.lit (.int .u8 238), .lit (.int .u8 239), .lit (.int .i64 2), .lit (.int .u8 128), .lit (.int .u8 191)], .agg [.lit (.int .u8 240), .lit (.int .u8 240), .lit (.int .i64 3), .lit (.int .u8 144), .lit (.int .u8 191)], .agg [.lit (.int .u8 241), .lit (.int .u8 243), .lit (.int .i64 3), .lit (.int .u8 128), .lit (.int .u8 191)], .agg [.lit (.int .u8 244), .lit (.int .u8 244), .lit (.int .i64 3), .lit (.int .u8 128), .lit (.int .u8 143)]]
/-- One of Go's own tables, pinned by name: the form's constant. -/
def laid_unicode_utf8_first : DataW Unit := Go.Pinned.utf8First

/-- 'lazaretlaw01.TextsTell': WHATEVER THE INPUT: true; the input reads as it did. -/
def textsTellSpec : ChangeSpec := { name := "textsTell", fn := fun _ => fun
  | [d] => { results := [.lit (.bool true)], args := [d] }
  | _ => none }
def textsTellRow : OpenClaim := { program := "ythcbkgiphfgbcaadoor", sum := "6957588838e13bdbb189323f82d3f3bd6802238fa153514be2669e7cb321b915", func := "lazaret/lazaretlaw01.TextsTell", spec := "textsTell", inPlace := ["internal/abi.NoEscape", "internal/bytealg.CountString", "internal/bytealg.IndexByteString", "internal/bytealg.IndexString", "internal/bytealg.MakeNoZero"], named := ["lazaret/texts.leads", "internal/bytealg.MaxLen", "unicode/utf8.first", "unicode/utf8.acceptRanges"], apart := false, laid := [("unicode/utf8.acceptRanges", laid_unicode_utf8_acceptRanges), ("lazaret/texts.leads", laid_lazaret_texts_leads), ("unicode/utf8.first", laid_unicode_utf8_first)] }
def TextsTellSaid : Prop := textsTellRow.holds Tryd.pinned (OpenSpec.ofChange textsTellSpec)

/-- ITS FALSE NEIGHBOUR: 'it returns false'. Refute it at one input. -/
def textsTellWrong : ChangeSpec := { name := "textsTell", fn := fun _ => fun
  | [d] => { results := [.lit (.bool false)], args := [d] }
  | _ => none }
def TextsTellWrongFalsely : Prop := textsTellRow.holds Tryd.pinned (OpenSpec.ofChange textsTellWrong)

/-- 'lazaretlaw01.TextsWhole': WHATEVER THE INPUT: true; the input reads as it did. -/
def textsWholeSpec : ChangeSpec := { name := "textsWhole", fn := fun _ => fun
  | [d] => { results := [.lit (.bool true)], args := [d] }
  | _ => none }
def textsWholeRow : OpenClaim := { program := "ythcbkgiphfgbcaadoor", sum := "6957588838e13bdbb189323f82d3f3bd6802238fa153514be2669e7cb321b915", func := "lazaret/lazaretlaw01.TextsWhole", spec := "textsWhole", inPlace := ["internal/abi.NoEscape", "internal/bytealg.CountString", "internal/bytealg.IndexByteString", "internal/bytealg.IndexString", "internal/bytealg.MakeNoZero"], named := ["lazaret/texts.leads", "internal/bytealg.MaxLen", "unicode/utf8.first", "unicode/utf8.acceptRanges"], apart := false, laid := [("unicode/utf8.acceptRanges", laid_unicode_utf8_acceptRanges), ("lazaret/texts.leads", laid_lazaret_texts_leads), ("unicode/utf8.first", laid_unicode_utf8_first)] }
def TextsWholeSaid : Prop := textsWholeRow.holds Tryd.pinned (OpenSpec.ofChange textsWholeSpec)

/-- ITS FALSE NEIGHBOUR: 'it returns false'. Refute it at one input. -/
def textsWholeWrong : ChangeSpec := { name := "textsWhole", fn := fun _ => fun
  | [d] => { results := [.lit (.bool false)], args := [d] }
  | _ => none }
def TextsWholeWrongFalsely : Prop := textsWholeRow.holds Tryd.pinned (OpenSpec.ofChange textsWholeWrong)

/-- 'lazaretlaw01.TextsPieces': WHATEVER THE INPUT: true; the input reads as it did. -/
def textsPiecesSpec : ChangeSpec := { name := "textsPieces", fn := fun _ => fun
  | [d] => { results := [.lit (.bool true)], args := [d] }
  | _ => none }
def textsPiecesRow : OpenClaim := { program := "ythcbkgiphfgbcaadoor", sum := "6957588838e13bdbb189323f82d3f3bd6802238fa153514be2669e7cb321b915", func := "lazaret/lazaretlaw01.TextsPieces", spec := "textsPieces", inPlace := ["internal/abi.NoEscape", "internal/bytealg.CountString", "internal/bytealg.IndexByteString", "internal/bytealg.IndexString", "internal/bytealg.MakeNoZero"], named := ["lazaret/texts.leads", "internal/bytealg.MaxLen", "unicode/utf8.first", "unicode/utf8.acceptRanges"], apart := false, laid := [("unicode/utf8.acceptRanges", laid_unicode_utf8_acceptRanges), ("lazaret/texts.leads", laid_lazaret_texts_leads), ("unicode/utf8.first", laid_unicode_utf8_first)] }
def TextsPiecesSaid : Prop := textsPiecesRow.holds Tryd.pinned (OpenSpec.ofChange textsPiecesSpec)

/-- ITS FALSE NEIGHBOUR: 'it returns false'. Refute it at one input. -/
def textsPiecesWrong : ChangeSpec := { name := "textsPieces", fn := fun _ => fun
  | [d] => { results := [.lit (.bool false)], args := [d] }
  | _ => none }
def TextsPiecesWrongFalsely : Prop := textsPiecesRow.holds Tryd.pinned (OpenSpec.ofChange textsPiecesWrong)

/-- 'lazaretlaw01.TextsLines': WHATEVER THE INPUT: true; the input reads as it did. -/
def textsLinesSpec : ChangeSpec := { name := "textsLines", fn := fun _ => fun
  | [d1, d2] => { results := [.lit (.bool true)], args := [d1, d2] }
  | _ => none }
def textsLinesRow : OpenClaim := { program := "ythcbkgiphfgbcaadoor", sum := "6957588838e13bdbb189323f82d3f3bd6802238fa153514be2669e7cb321b915", func := "lazaret/lazaretlaw01.TextsLines", spec := "textsLines", inPlace := ["internal/abi.NoEscape", "internal/bytealg.CountString", "internal/bytealg.IndexByteString", "internal/bytealg.IndexString", "internal/bytealg.MakeNoZero"], named := ["lazaret/texts.leads", "internal/bytealg.MaxLen", "unicode/utf8.first", "unicode/utf8.acceptRanges"], apart := false, laid := [("unicode/utf8.acceptRanges", laid_unicode_utf8_acceptRanges), ("lazaret/texts.leads", laid_lazaret_texts_leads), ("unicode/utf8.first", laid_unicode_utf8_first)] }
def TextsLinesSaid : Prop := textsLinesRow.holds Tryd.pinned (OpenSpec.ofChange textsLinesSpec)

/-- ITS FALSE NEIGHBOUR: 'it returns false'. Refute it at one input. -/
def textsLinesWrong : ChangeSpec := { name := "textsLines", fn := fun _ => fun
  | [d1, d2] => { results := [.lit (.bool false)], args := [d1, d2] }
  | _ => none }
def TextsLinesWrongFalsely : Prop := textsLinesRow.holds Tryd.pinned (OpenSpec.ofChange textsLinesWrong)

/- THE SECOND FORM. 'bulk': how many values and letters a reading holds, each counted each time it is reached (what is shared counts as often as it is met; a slice's spare places count too). A statement '..UptoSaid' is the law's where the arguments, and the package variables that the reading takes, are together of bulk at most 1048576: NARROWER than '..Said'. Prove '..Said' where nothing that the law and all that it calls make is longer than what came in: it says more and counts as full. Else prove '..UptoSaid'. A law counts once. -/
mutual
def uptoBulk {H : Type} : DataW H → Nat
  | .lit (.string bytes) => bytes.length + 1
  | .lit _ => 1
  | .nil => 1
  | .ptr d => uptoBulk d + 1
  | .slice elems spare => uptoBulkAll elems + uptoBulkAll spare + 1
  | .agg parts => uptoBulkAll parts + 1
  | .iface _ d => uptoBulk d + 1
  | .map entries => uptoBulkEntries entries + 1
  | .held _ => 1
def uptoBulkAll {H : Type} : List (DataW H) → Nat
  | [] => 0
  | d :: r => uptoBulk d + uptoBulkAll r
def uptoBulkEntries {H : Type} : List (Lit × DataW H) → Nat
  | [] => 0
  | x :: r => uptoBulkEntry x + uptoBulkEntries r
def uptoBulkEntry {H : Type} : Lit × DataW H → Nat
  | (.string bytes, d) => bytes.length + uptoBulk d + 1
  | (_, d) => uptoBulk d + 1
 end
def uptoSmall : (H : Type) → List (DataW H) → Bool := fun _ ds => decide (uptoBulkAll ds ≤ 1048576)
def OpenSpec.upto (s : _root_.Go.ChangeSpec) : _root_.Go.OpenSpec := { _root_.Go.OpenSpec.ofChange s with cond := some uptoSmall }

/-- 'lazaretlaw01.TextsTell', WHERE WHAT IT READS IS OF BULK AT MOST 1048576: true; the input reads as it did. -/
def textsTellUptoRow : OpenClaim := { program := "ythcbkgiphfgbcaadoor", sum := "6957588838e13bdbb189323f82d3f3bd6802238fa153514be2669e7cb321b915", func := "lazaret/lazaretlaw01.TextsTell", spec := "textsTell", inPlace := ["internal/abi.NoEscape", "internal/bytealg.CountString", "internal/bytealg.IndexByteString", "internal/bytealg.IndexString", "internal/bytealg.MakeNoZero"], named := ["lazaret/texts.leads", "internal/bytealg.MaxLen", "unicode/utf8.first", "unicode/utf8.acceptRanges"], apart := false, laid := [("unicode/utf8.acceptRanges", laid_unicode_utf8_acceptRanges), ("lazaret/texts.leads", laid_lazaret_texts_leads), ("unicode/utf8.first", laid_unicode_utf8_first)], narrowed := true }
def TextsTellUptoSaid : Prop := textsTellUptoRow.holds Tryd.pinned (OpenSpec.upto textsTellSpec)

/-- 'lazaretlaw01.TextsWhole', WHERE WHAT IT READS IS OF BULK AT MOST 1048576: true; the input reads as it did. -/
def textsWholeUptoRow : OpenClaim := { program := "ythcbkgiphfgbcaadoor", sum := "6957588838e13bdbb189323f82d3f3bd6802238fa153514be2669e7cb321b915", func := "lazaret/lazaretlaw01.TextsWhole", spec := "textsWhole", inPlace := ["internal/abi.NoEscape", "internal/bytealg.CountString", "internal/bytealg.IndexByteString", "internal/bytealg.IndexString", "internal/bytealg.MakeNoZero"], named := ["lazaret/texts.leads", "internal/bytealg.MaxLen", "unicode/utf8.first", "unicode/utf8.acceptRanges"], apart := false, laid := [("unicode/utf8.acceptRanges", laid_unicode_utf8_acceptRanges), ("lazaret/texts.leads", laid_lazaret_texts_leads), ("unicode/utf8.first", laid_unicode_utf8_first)], narrowed := true }
def TextsWholeUptoSaid : Prop := textsWholeUptoRow.holds Tryd.pinned (OpenSpec.upto textsWholeSpec)

/-- 'lazaretlaw01.TextsPieces', WHERE WHAT IT READS IS OF BULK AT MOST 1048576: true; the input reads as it did. -/
def textsPiecesUptoRow : OpenClaim := { program := "ythcbkgiphfgbcaadoor", sum := "6957588838e13bdbb189323f82d3f3bd6802238fa153514be2669e7cb321b915", func := "lazaret/lazaretlaw01.TextsPieces", spec := "textsPieces", inPlace := ["internal/abi.NoEscape", "internal/bytealg.CountString", "internal/bytealg.IndexByteString", "internal/bytealg.IndexString", "internal/bytealg.MakeNoZero"], named := ["lazaret/texts.leads", "internal/bytealg.MaxLen", "unicode/utf8.first", "unicode/utf8.acceptRanges"], apart := false, laid := [("unicode/utf8.acceptRanges", laid_unicode_utf8_acceptRanges), ("lazaret/texts.leads", laid_lazaret_texts_leads), ("unicode/utf8.first", laid_unicode_utf8_first)], narrowed := true }
def TextsPiecesUptoSaid : Prop := textsPiecesUptoRow.holds Tryd.pinned (OpenSpec.upto textsPiecesSpec)

/-- 'lazaretlaw01.TextsLines', WHERE WHAT IT READS IS OF BULK AT MOST 1048576: true; the input reads as it did. -/
def textsLinesUptoRow : OpenClaim := { program := "ythcbkgiphfgbcaadoor", sum := "6957588838e13bdbb189323f82d3f3bd6802238fa153514be2669e7cb321b915", func := "lazaret/lazaretlaw01.TextsLines", spec := "textsLines", inPlace := ["internal/abi.NoEscape", "internal/bytealg.CountString", "internal/bytealg.IndexByteString", "internal/bytealg.IndexString", "internal/bytealg.MakeNoZero"], named := ["lazaret/texts.leads", "internal/bytealg.MaxLen", "unicode/utf8.first", "unicode/utf8.acceptRanges"], apart := false, laid := [("unicode/utf8.acceptRanges", laid_unicode_utf8_acceptRanges), ("lazaret/texts.leads", laid_lazaret_texts_leads), ("unicode/utf8.first", laid_unicode_utf8_first)], narrowed := true }
def TextsLinesUptoSaid : Prop := textsLinesUptoRow.holds Tryd.pinned (OpenSpec.upto textsLinesSpec)

end Rows
end Go.Proofs.YthcbkgiphfgbcaaDoor
