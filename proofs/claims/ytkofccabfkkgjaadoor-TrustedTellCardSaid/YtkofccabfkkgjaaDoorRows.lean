/-
  NARROWER THAN 'FOR EVERY INPUT', by the rows' own cells (each row's printed sentence says how): ChainsNames: laid · ChainsFind: laid · ChainsFirst: laid · ChainsOrder: laid · ChainsMore: laid · TrustedTell: laid · TrustedNames: laid · TrustedMore: laid.
  DERIVED. THE GIVEN ROWS OF THIS SEAT. 8 by the template 'for every input the law returns true; each argument reads behind the call as it read before'; 0 by the template 'total and deterministic' (their statements: YtkofccabfkkgjaaDoorTotals.lean).
  GIVEN WITH THE SEED: the statements are not yours to turn. If you find one false, say at which input.
  Laid BY PROGRAM, IN A SANDBOX (cutbox-rows.mjs): the forced cells as the released guide's own fill.sh prints them over the translation dac4e97dda7eb78e… (all of the seat's roots in one cut). By AI agents, Wed Nov 11 2026. No macro, syntax, notation, axiom, sorry.
-/
import Derived.Test.YtkofccabfkkgjaaDoorChecked
import GoSem.PinnedTables
import GoSem.Claim
import GoSem.ClaimJoined
import GoSem.ClaimMapViews
import Derived.JoinedTies
import Derived.KernelRfl
namespace Go.Proofs.YtkofccabfkkgjaaDoor
/- THE CELL 'sum', in the pinned program and in every row, IS THE sha256 OF THE DUMP (.gsa) THAT YtkofccabfkkgjaaDoorProg.lean LOADS. Nothing in Lean hashes anything: it is a label: what it is worth is what the hold of that sum in a sandbox is worth. -/
noncomputable def Tryd.pinned : Pinned := { name := "ytkofccabfkkgjaadoor", sum := "dac4e97dda7eb78e10b58aad37c9c3790d50957ca53e2c770b10ffccf84ab39d", checked := Tryd.checked }
namespace Rows
def none {H : Type} : Left H := { results := [], args := [] }

/- WHAT THE LISTED PACKAGE-LEVEL VARIABLES READ AS WHEN THE CALL BEGINS. Each datum BY PROGRAM (the guide's laid-datum.mjs) off the statement by which the dump's own 'gosem.cut.vars' lays the variable. In a bare row this is a premise. The card (YtkofccabfkkgjaaDoorCards.lean) ties it to the program's text. -/
def laid_unicode_utf8_acceptRanges {H : Type} : DataW H := .agg [.agg [.lit (.int .u8 128), .lit (.int .u8 191)], .agg [.lit (.int .u8 160), .lit (.int .u8 191)], .agg [.lit (.int .u8 128), .lit (.int .u8 159)], .agg [.lit (.int .u8 144), .lit (.int .u8 191)], .agg [.lit (.int .u8 128), .lit (.int .u8 143)], .agg [.lit (.int .u8 0), .lit (.int .u8 0)], .agg [.lit (.int .u8 0), .lit (.int .u8 0)], .agg [.lit (.int .u8 0), .lit (.int .u8 0)], .agg [.lit (.int .u8 0), .lit (.int .u8 0)], .agg [.lit (.int .u8 0), .lit (.int .u8 0)], .agg [.lit (.int .u8 0), .lit (.int .u8 0)], .agg [.lit (.int .u8 0), .lit (.int .u8 0)], .agg [.lit (.int .u8 0), .lit (.int .u8 0)], .agg [.lit (.int .u8 0), .lit (.int .u8 0)], .agg [.lit (.int .u8 0), .lit (.int .u8 0)], .agg [.lit (.int .u8 0), .lit (.int .u8 0)]]
def laid_lazaret_chains_effective {H : Type} : DataW H := .agg [.lit (.string []), .lit (.string [115, 99, 114, 105, 112, 116, 45, 115, 114, 99, 45, 101, 108, 101, 109]), .lit (.string [115, 99, 114, 105, 112, 116, 45, 115, 114, 99, 45, 101, 108, 101, 109]), .lit (.string [115, 99, 114, 105, 112, 116, 45, 115, 114, 99, 45, 97, 116, 116, 114]), .lit (.string [115, 99, 114, 105, 112, 116, 45, 115, 114, 99, 45, 101, 108, 101, 109]), .lit (.string [115, 116, 121, 108, 101, 45, 115, 114, 99, 45, 101, 108, 101, 109]), .lit (.string [115, 116, 121, 108, 101, 45, 115, 114, 99, 45, 101, 108, 101, 109]), .lit (.string [115, 116, 121, 108, 101, 45, 115, 114, 99, 45, 97, 116, 116, 114]), .lit (.string [105, 109, 103, 45, 115, 114, 99]), .lit (.string [102, 111, 110, 116, 45, 115, 114, 99]), .lit (.string [109, 101, 100, 105, 97, 45, 115, 114, 99]), .lit (.string [102, 114, 97, 109, 101, 45, 115, 114, 99]), .lit (.string [111, 98, 106, 101, 99, 116, 45, 115, 114, 99]), .lit (.string [109, 97, 110, 105, 102, 101, 115, 116, 45, 115, 114, 99]), .lit (.string [99, 111, 110, 110, 101, 99, 116, 45, 115, 114, 99]), .lit (.string [98, 97, 115, 101, 45, 117, 114, 105]), .lit (.string [102, 111, 114, 109, 45, 97, 99, 116, 105, 111, 110])]
/-- One of Go's own tables, pinned by name: the form's constant. -/
def laid_unicode_utf8_first : DataW Unit := Go.Pinned.utf8First

/-- 'lazaretlaw28.ChainsNames': WHATEVER THE INPUT: true; the input reads as it did. -/
def chainsNamesSpec : ChangeSpec := { name := "chainsNames", fn := fun _ => fun
  | [d1, d2] => { results := [.lit (.bool true)], args := [d1, d2] }
  | _ => none }
def chainsNamesRow : OpenClaim := { program := "ytkofccabfkkgjaadoor", sum := "dac4e97dda7eb78e10b58aad37c9c3790d50957ca53e2c770b10ffccf84ab39d", func := "lazaret/lazaretlaw28.ChainsNames", spec := "chainsNames", inPlace := ["internal/bytealg.CountString", "internal/bytealg.IndexByteString", "internal/bytealg.IndexString"], unfollowed := true, recurses := true, named := ["unicode/utf8.first", "unicode/utf8.acceptRanges", "internal/bytealg.MaxLen", "lazaret/chains.effective"], apart := false, laid := [("unicode/utf8.acceptRanges", laid_unicode_utf8_acceptRanges), ("lazaret/chains.effective", laid_lazaret_chains_effective), ("unicode/utf8.first", laid_unicode_utf8_first)] }
def ChainsNamesSaid : Prop := chainsNamesRow.holds Tryd.pinned (OpenSpec.ofChange chainsNamesSpec)

/-- ITS FALSE NEIGHBOUR: 'it returns false'. Refute it at one input. -/
def chainsNamesWrong : ChangeSpec := { name := "chainsNames", fn := fun _ => fun
  | [d1, d2] => { results := [.lit (.bool false)], args := [d1, d2] }
  | _ => none }
def ChainsNamesWrongFalsely : Prop := chainsNamesRow.holds Tryd.pinned (OpenSpec.ofChange chainsNamesWrong)

/-- 'lazaretlaw28.ChainsFind': WHATEVER THE INPUT: true; the input reads as it did. -/
def chainsFindSpec : ChangeSpec := { name := "chainsFind", fn := fun _ => fun
  | [d1, d2] => { results := [.lit (.bool true)], args := [d1, d2] }
  | _ => none }
def chainsFindRow : OpenClaim := { program := "ytkofccabfkkgjaadoor", sum := "dac4e97dda7eb78e10b58aad37c9c3790d50957ca53e2c770b10ffccf84ab39d", func := "lazaret/lazaretlaw28.ChainsFind", spec := "chainsFind", inPlace := ["internal/bytealg.CountString", "internal/bytealg.IndexByteString", "internal/bytealg.IndexString"], unfollowed := true, recurses := true, named := ["unicode/utf8.first", "unicode/utf8.acceptRanges", "internal/bytealg.MaxLen", "lazaret/chains.effective"], apart := false, laid := [("unicode/utf8.acceptRanges", laid_unicode_utf8_acceptRanges), ("lazaret/chains.effective", laid_lazaret_chains_effective), ("unicode/utf8.first", laid_unicode_utf8_first)] }
def ChainsFindSaid : Prop := chainsFindRow.holds Tryd.pinned (OpenSpec.ofChange chainsFindSpec)

/-- ITS FALSE NEIGHBOUR: 'it returns false'. Refute it at one input. -/
def chainsFindWrong : ChangeSpec := { name := "chainsFind", fn := fun _ => fun
  | [d1, d2] => { results := [.lit (.bool false)], args := [d1, d2] }
  | _ => none }
def ChainsFindWrongFalsely : Prop := chainsFindRow.holds Tryd.pinned (OpenSpec.ofChange chainsFindWrong)

/-- 'lazaretlaw28.ChainsFirst': WHATEVER THE INPUT: true; the input reads as it did. -/
def chainsFirstSpec : ChangeSpec := { name := "chainsFirst", fn := fun _ => fun
  | [d1, d2] => { results := [.lit (.bool true)], args := [d1, d2] }
  | _ => none }
def chainsFirstRow : OpenClaim := { program := "ytkofccabfkkgjaadoor", sum := "dac4e97dda7eb78e10b58aad37c9c3790d50957ca53e2c770b10ffccf84ab39d", func := "lazaret/lazaretlaw28.ChainsFirst", spec := "chainsFirst", inPlace := ["internal/bytealg.CountString", "internal/bytealg.IndexByteString", "internal/bytealg.IndexString"], unfollowed := true, recurses := true, named := ["unicode/utf8.first", "unicode/utf8.acceptRanges", "internal/bytealg.MaxLen", "lazaret/chains.effective"], apart := false, laid := [("unicode/utf8.acceptRanges", laid_unicode_utf8_acceptRanges), ("lazaret/chains.effective", laid_lazaret_chains_effective), ("unicode/utf8.first", laid_unicode_utf8_first)] }
def ChainsFirstSaid : Prop := chainsFirstRow.holds Tryd.pinned (OpenSpec.ofChange chainsFirstSpec)

/-- ITS FALSE NEIGHBOUR: 'it returns false'. Refute it at one input. -/
def chainsFirstWrong : ChangeSpec := { name := "chainsFirst", fn := fun _ => fun
  | [d1, d2] => { results := [.lit (.bool false)], args := [d1, d2] }
  | _ => none }
def ChainsFirstWrongFalsely : Prop := chainsFirstRow.holds Tryd.pinned (OpenSpec.ofChange chainsFirstWrong)

/-- 'lazaretlaw28.ChainsOrder': WHATEVER THE INPUT: true; the input reads as it did. -/
def chainsOrderSpec : ChangeSpec := { name := "chainsOrder", fn := fun _ => fun
  | [d] => { results := [.lit (.bool true)], args := [d] }
  | _ => none }
def chainsOrderRow : OpenClaim := { program := "ytkofccabfkkgjaadoor", sum := "dac4e97dda7eb78e10b58aad37c9c3790d50957ca53e2c770b10ffccf84ab39d", func := "lazaret/lazaretlaw28.ChainsOrder", spec := "chainsOrder", inPlace := ["internal/bytealg.CountString", "internal/bytealg.IndexByteString", "internal/bytealg.IndexString"], unfollowed := true, recurses := true, named := ["unicode/utf8.first", "unicode/utf8.acceptRanges", "internal/bytealg.MaxLen", "lazaret/chains.effective"], apart := false, laid := [("unicode/utf8.acceptRanges", laid_unicode_utf8_acceptRanges), ("lazaret/chains.effective", laid_lazaret_chains_effective), ("unicode/utf8.first", laid_unicode_utf8_first)] }
def ChainsOrderSaid : Prop := chainsOrderRow.holds Tryd.pinned (OpenSpec.ofChange chainsOrderSpec)

/-- ITS FALSE NEIGHBOUR: 'it returns false'. Refute it at one input. -/
def chainsOrderWrong : ChangeSpec := { name := "chainsOrder", fn := fun _ => fun
  | [d] => { results := [.lit (.bool false)], args := [d] }
  | _ => none }
def ChainsOrderWrongFalsely : Prop := chainsOrderRow.holds Tryd.pinned (OpenSpec.ofChange chainsOrderWrong)

/-- 'lazaretlaw28.ChainsMore': WHATEVER THE INPUT: true; the input reads as it did. -/
def chainsMoreSpec : ChangeSpec := { name := "chainsMore", fn := fun _ => fun
  | [d1, d2, d3] => { results := [.lit (.bool true)], args := [d1, d2, d3] }
  | _ => none }
def chainsMoreRow : OpenClaim := { program := "ytkofccabfkkgjaadoor", sum := "dac4e97dda7eb78e10b58aad37c9c3790d50957ca53e2c770b10ffccf84ab39d", func := "lazaret/lazaretlaw28.ChainsMore", spec := "chainsMore", inPlace := ["internal/bytealg.CountString", "internal/bytealg.IndexByteString", "internal/bytealg.IndexString"], unfollowed := true, recurses := true, named := ["unicode/utf8.first", "unicode/utf8.acceptRanges", "internal/bytealg.MaxLen", "lazaret/chains.effective"], apart := false, laid := [("unicode/utf8.acceptRanges", laid_unicode_utf8_acceptRanges), ("lazaret/chains.effective", laid_lazaret_chains_effective), ("unicode/utf8.first", laid_unicode_utf8_first)] }
def ChainsMoreSaid : Prop := chainsMoreRow.holds Tryd.pinned (OpenSpec.ofChange chainsMoreSpec)

/-- ITS FALSE NEIGHBOUR: 'it returns false'. Refute it at one input. -/
def chainsMoreWrong : ChangeSpec := { name := "chainsMore", fn := fun _ => fun
  | [d1, d2, d3] => { results := [.lit (.bool false)], args := [d1, d2, d3] }
  | _ => none }
def ChainsMoreWrongFalsely : Prop := chainsMoreRow.holds Tryd.pinned (OpenSpec.ofChange chainsMoreWrong)

/-- 'lazaretlaw29.TrustedTell': WHATEVER THE INPUT: true; the input reads as it did. -/
def trustedTellSpec : ChangeSpec := { name := "trustedTell", fn := fun _ => fun
  | [d1, d2, d3] => { results := [.lit (.bool true)], args := [d1, d2, d3] }
  | _ => none }
def trustedTellRow : OpenClaim := { program := "ytkofccabfkkgjaadoor", sum := "dac4e97dda7eb78e10b58aad37c9c3790d50957ca53e2c770b10ffccf84ab39d", func := "lazaret/lazaretlaw29.TrustedTell", spec := "trustedTell", inPlace := ["internal/bytealg.CountString", "internal/bytealg.IndexByteString", "internal/bytealg.IndexString"], unfollowed := true, recurses := true, named := ["unicode/utf8.first", "unicode/utf8.acceptRanges", "internal/bytealg.MaxLen"], apart := false, laid := [("unicode/utf8.acceptRanges", laid_unicode_utf8_acceptRanges), ("unicode/utf8.first", laid_unicode_utf8_first)] }
def TrustedTellSaid : Prop := trustedTellRow.holds Tryd.pinned (OpenSpec.ofChange trustedTellSpec)

/-- ITS FALSE NEIGHBOUR: 'it returns false'. Refute it at one input. -/
def trustedTellWrong : ChangeSpec := { name := "trustedTell", fn := fun _ => fun
  | [d1, d2, d3] => { results := [.lit (.bool false)], args := [d1, d2, d3] }
  | _ => none }
def TrustedTellWrongFalsely : Prop := trustedTellRow.holds Tryd.pinned (OpenSpec.ofChange trustedTellWrong)

/-- 'lazaretlaw29.TrustedNames': WHATEVER THE INPUT: true; the input reads as it did. -/
def trustedNamesSpec : ChangeSpec := { name := "trustedNames", fn := fun _ => fun
  | [d1, d2, d3] => { results := [.lit (.bool true)], args := [d1, d2, d3] }
  | _ => none }
def trustedNamesRow : OpenClaim := { program := "ytkofccabfkkgjaadoor", sum := "dac4e97dda7eb78e10b58aad37c9c3790d50957ca53e2c770b10ffccf84ab39d", func := "lazaret/lazaretlaw29.TrustedNames", spec := "trustedNames", inPlace := ["internal/bytealg.CountString", "internal/bytealg.IndexByteString", "internal/bytealg.IndexString"], unfollowed := true, recurses := true, named := ["unicode/utf8.first", "unicode/utf8.acceptRanges", "internal/bytealg.MaxLen"], apart := false, laid := [("unicode/utf8.acceptRanges", laid_unicode_utf8_acceptRanges), ("unicode/utf8.first", laid_unicode_utf8_first)] }
def TrustedNamesSaid : Prop := trustedNamesRow.holds Tryd.pinned (OpenSpec.ofChange trustedNamesSpec)

/-- ITS FALSE NEIGHBOUR: 'it returns false'. Refute it at one input. -/
def trustedNamesWrong : ChangeSpec := { name := "trustedNames", fn := fun _ => fun
  | [d1, d2, d3] => { results := [.lit (.bool false)], args := [d1, d2, d3] }
  | _ => none }
def TrustedNamesWrongFalsely : Prop := trustedNamesRow.holds Tryd.pinned (OpenSpec.ofChange trustedNamesWrong)

/-- 'lazaretlaw29.TrustedMore': WHATEVER THE INPUT: true; the input reads as it did. -/
def trustedMoreSpec : ChangeSpec := { name := "trustedMore", fn := fun _ => fun
  | [d1, d2, d3] => { results := [.lit (.bool true)], args := [d1, d2, d3] }
  | _ => none }
def trustedMoreRow : OpenClaim := { program := "ytkofccabfkkgjaadoor", sum := "dac4e97dda7eb78e10b58aad37c9c3790d50957ca53e2c770b10ffccf84ab39d", func := "lazaret/lazaretlaw29.TrustedMore", spec := "trustedMore", inPlace := ["internal/bytealg.CountString", "internal/bytealg.IndexByteString", "internal/bytealg.IndexString"], unfollowed := true, recurses := true, named := ["unicode/utf8.first", "unicode/utf8.acceptRanges", "internal/bytealg.MaxLen"], apart := false, laid := [("unicode/utf8.acceptRanges", laid_unicode_utf8_acceptRanges), ("unicode/utf8.first", laid_unicode_utf8_first)] }
def TrustedMoreSaid : Prop := trustedMoreRow.holds Tryd.pinned (OpenSpec.ofChange trustedMoreSpec)

/-- ITS FALSE NEIGHBOUR: 'it returns false'. Refute it at one input. -/
def trustedMoreWrong : ChangeSpec := { name := "trustedMore", fn := fun _ => fun
  | [d1, d2, d3] => { results := [.lit (.bool false)], args := [d1, d2, d3] }
  | _ => none }
def TrustedMoreWrongFalsely : Prop := trustedMoreRow.holds Tryd.pinned (OpenSpec.ofChange trustedMoreWrong)

/- THE SECOND FORM. 'bulk': how many values and letters a reading holds, each counted each time it is reached (what is shared counts as often as it is met; a slice's spare places count too). A statement '..UptoSaid' is the law's where the arguments, and the package variables that the reading takes, are together of bulk at most 1048576: NARROWER than '..Said'. Prove '..Said' where nothing that the law and all that it calls make is longer than what came in: it says more and counts as full. Else prove '..UptoSaid'. A law counts once. -/
mutual
def uptoBulk {H : Type} : DataW H → Nat
  | .lit (.string bytes) => bytes.length + 1
  | .lit _ => 1
  | .nil => 1
  | .ptr d => uptoBulk d + 1
  | .slice elems spare => uptoBulkAll elems + uptoBulkAll spare + 1
  | .agg parts => uptoBulkAll parts + 1
  | .iface _ d => uptoBulk d + 1
  | .map entries => uptoBulkEntries entries + 1
  | .held _ => 1
def uptoBulkAll {H : Type} : List (DataW H) → Nat
  | [] => 0
  | d :: r => uptoBulk d + uptoBulkAll r
def uptoBulkEntries {H : Type} : List (Lit × DataW H) → Nat
  | [] => 0
  | x :: r => uptoBulkEntry x + uptoBulkEntries r
def uptoBulkEntry {H : Type} : Lit × DataW H → Nat
  | (.string bytes, d) => bytes.length + uptoBulk d + 1
  | (_, d) => uptoBulk d + 1
 end
def uptoSmall : (H : Type) → List (DataW H) → Bool := fun _ ds => decide (uptoBulkAll ds ≤ 1048576)
def OpenSpec.upto (s : _root_.Go.ChangeSpec) : _root_.Go.OpenSpec := { _root_.Go.OpenSpec.ofChange s with cond := some uptoSmall }

/-- 'lazaretlaw28.ChainsNames', WHERE WHAT IT READS IS OF BULK AT MOST 1048576: true; the input reads as it did. -/
def chainsNamesUptoRow : OpenClaim := { program := "ytkofccabfkkgjaadoor", sum := "dac4e97dda7eb78e10b58aad37c9c3790d50957ca53e2c770b10ffccf84ab39d", func := "lazaret/lazaretlaw28.ChainsNames", spec := "chainsNames", inPlace := ["internal/bytealg.CountString", "internal/bytealg.IndexByteString", "internal/bytealg.IndexString"], unfollowed := true, recurses := true, named := ["unicode/utf8.first", "unicode/utf8.acceptRanges", "internal/bytealg.MaxLen", "lazaret/chains.effective"], apart := false, laid := [("unicode/utf8.acceptRanges", laid_unicode_utf8_acceptRanges), ("lazaret/chains.effective", laid_lazaret_chains_effective), ("unicode/utf8.first", laid_unicode_utf8_first)], narrowed := true }
def ChainsNamesUptoSaid : Prop := chainsNamesUptoRow.holds Tryd.pinned (OpenSpec.upto chainsNamesSpec)

/-- 'lazaretlaw28.ChainsFind', WHERE WHAT IT READS IS OF BULK AT MOST 1048576: true; the input reads as it did. -/
def chainsFindUptoRow : OpenClaim := { program := "ytkofccabfkkgjaadoor", sum := "dac4e97dda7eb78e10b58aad37c9c3790d50957ca53e2c770b10ffccf84ab39d", func := "lazaret/lazaretlaw28.ChainsFind", spec := "chainsFind", inPlace := ["internal/bytealg.CountString", "internal/bytealg.IndexByteString", "internal/bytealg.IndexString"], unfollowed := true, recurses := true, named := ["unicode/utf8.first", "unicode/utf8.acceptRanges", "internal/bytealg.MaxLen", "lazaret/chains.effective"], apart := false, laid := [("unicode/utf8.acceptRanges", laid_unicode_utf8_acceptRanges), ("lazaret/chains.effective", laid_lazaret_chains_effective), ("unicode/utf8.first", laid_unicode_utf8_first)], narrowed := true }
def ChainsFindUptoSaid : Prop := chainsFindUptoRow.holds Tryd.pinned (OpenSpec.upto chainsFindSpec)

/-- 'lazaretlaw28.ChainsFirst', WHERE WHAT IT READS IS OF BULK AT MOST 1048576: true; the input reads as it did. -/
def chainsFirstUptoRow : OpenClaim := { program := "ytkofccabfkkgjaadoor", sum := "dac4e97dda7eb78e10b58aad37c9c3790d50957ca53e2c770b10ffccf84ab39d", func := "lazaret/lazaretlaw28.ChainsFirst", spec := "chainsFirst", inPlace := ["internal/bytealg.CountString", "internal/bytealg.IndexByteString", "internal/bytealg.IndexString"], unfollowed := true, recurses := true, named := ["unicode/utf8.first", "unicode/utf8.acceptRanges", "internal/bytealg.MaxLen", "lazaret/chains.effective"], apart := false, laid := [("unicode/utf8.acceptRanges", laid_unicode_utf8_acceptRanges), ("lazaret/chains.effective", laid_lazaret_chains_effective), ("unicode/utf8.first", laid_unicode_utf8_first)], narrowed := true }
def ChainsFirstUptoSaid : Prop := chainsFirstUptoRow.holds Tryd.pinned (OpenSpec.upto chainsFirstSpec)

/-- 'lazaretlaw28.ChainsOrder', WHERE WHAT IT READS IS OF BULK AT MOST 1048576: true; the input reads as it did. -/
def chainsOrderUptoRow : OpenClaim := { program := "ytkofccabfkkgjaadoor", sum := "dac4e97dda7eb78e10b58aad37c9c3790d50957ca53e2c770b10ffccf84ab39d", func := "lazaret/lazaretlaw28.ChainsOrder", spec := "chainsOrder", inPlace := ["internal/bytealg.CountString", "internal/bytealg.IndexByteString", "internal/bytealg.IndexString"], unfollowed := true, recurses := true, named := ["unicode/utf8.first", "unicode/utf8.acceptRanges", "internal/bytealg.MaxLen", "lazaret/chains.effective"], apart := false, laid := [("unicode/utf8.acceptRanges", laid_unicode_utf8_acceptRanges), ("lazaret/chains.effective", laid_lazaret_chains_effective), ("unicode/utf8.first", laid_unicode_utf8_first)], narrowed := true }
def ChainsOrderUptoSaid : Prop := chainsOrderUptoRow.holds Tryd.pinned (OpenSpec.upto chainsOrderSpec)

/-- 'lazaretlaw28.ChainsMore', WHERE WHAT IT READS IS OF BULK AT MOST 1048576: true; the input reads as it did. -/
def chainsMoreUptoRow : OpenClaim := { program := "ytkofccabfkkgjaadoor", sum := "dac4e97dda7eb78e10b58aad37c9c3790d50957ca53e2c770b10ffccf84ab39d", func := "lazaret/lazaretlaw28.ChainsMore", spec := "chainsMore", inPlace := ["internal/bytealg.CountString", "internal/bytealg.IndexByteString", "internal/bytealg.IndexString"], unfollowed := true, recurses := true, named := ["unicode/utf8.first", "unicode/utf8.acceptRanges", "internal/bytealg.MaxLen", "lazaret/chains.effective"], apart := false, laid := [("unicode/utf8.acceptRanges", laid_unicode_utf8_acceptRanges), ("lazaret/chains.effective", laid_lazaret_chains_effective), ("unicode/utf8.first", laid_unicode_utf8_first)], narrowed := true }
def ChainsMoreUptoSaid : Prop := chainsMoreUptoRow.holds Tryd.pinned (OpenSpec.upto chainsMoreSpec)

/-- 'lazaretlaw29.TrustedTell', WHERE WHAT IT READS IS OF BULK AT MOST 1048576: true; the input reads as it did. -/
def trustedTellUptoRow : OpenClaim := { program := "ytkofccabfkkgjaadoor", sum := "dac4e97dda7eb78e10b58aad37c9c3790d50957ca53e2c770b10ffccf84ab39d", func := "lazaret/lazaretlaw29.TrustedTell", spec := "trustedTell", inPlace := ["internal/bytealg.CountString", "internal/bytealg.IndexByteString", "internal/bytealg.IndexString"], unfollowed := true, recurses := true, named := ["unicode/utf8.first", "unicode/utf8.acceptRanges", "internal/bytealg.MaxLen"], apart := false, laid := [("unicode/utf8.acceptRanges", laid_unicode_utf8_acceptRanges), ("unicode/utf8.first", laid_unicode_utf8_first)], narrowed := true }
def TrustedTellUptoSaid : Prop := trustedTellUptoRow.holds Tryd.pinned (OpenSpec.upto trustedTellSpec)

/-- 'lazaretlaw29.TrustedNames', WHERE WHAT IT READS IS OF BULK AT MOST 1048576: true; the input reads as it did. -/
def trustedNamesUptoRow : OpenClaim := { program := "ytkofccabfkkgjaadoor", sum := "dac4e97dda7eb78e10b58aad37c9c3790d50957ca53e2c770b10ffccf84ab39d", func := "lazaret/lazaretlaw29.TrustedNames", spec := "trustedNames", inPlace := ["internal/bytealg.CountString", "internal/bytealg.IndexByteString", "internal/bytealg.IndexString"], unfollowed := true, recurses := true, named := ["unicode/utf8.first", "unicode/utf8.acceptRanges", "internal/bytealg.MaxLen"], apart := false, laid := [("unicode/utf8.acceptRanges", laid_unicode_utf8_acceptRanges), ("unicode/utf8.first", laid_unicode_utf8_first)], narrowed := true }
def TrustedNamesUptoSaid : Prop := trustedNamesUptoRow.holds Tryd.pinned (OpenSpec.upto trustedNamesSpec)

/-- 'lazaretlaw29.TrustedMore', WHERE WHAT IT READS IS OF BULK AT MOST 1048576: true; the input reads as it did. -/
def trustedMoreUptoRow : OpenClaim := { program := "ytkofccabfkkgjaadoor", sum := "dac4e97dda7eb78e10b58aad37c9c3790d50957ca53e2c770b10ffccf84ab39d", func := "lazaret/lazaretlaw29.TrustedMore", spec := "trustedMore", inPlace := ["internal/bytealg.CountString", "internal/bytealg.IndexByteString", "internal/bytealg.IndexString"], unfollowed := true, recurses := true, named := ["unicode/utf8.first", "unicode/utf8.acceptRanges", "internal/bytealg.MaxLen"], apart := false, laid := [("unicode/utf8.acceptRanges", laid_unicode_utf8_acceptRanges), ("unicode/utf8.first", laid_unicode_utf8_first)], narrowed := true }
def TrustedMoreUptoSaid : Prop := trustedMoreUptoRow.holds Tryd.pinned (OpenSpec.upto trustedMoreSpec)

end Rows
end Go.Proofs.YtkofccabfkkgjaaDoor
