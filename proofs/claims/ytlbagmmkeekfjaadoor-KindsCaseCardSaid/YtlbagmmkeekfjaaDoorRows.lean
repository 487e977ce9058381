/-
  NARROWER THAN 'FOR EVERY INPUT', by the rows' own cells (each row's printed sentence says how): KindsTell: laid · KindsWithin: laid · KindsCase: laid.
  DERIVED. THE GIVEN ROWS OF THIS SEAT. 3 by the template 'for every input the law returns true; each argument reads behind the call as it read before'; 0 by the template 'total and deterministic' (their statements: YtlbagmmkeekfjaaDoorTotals.lean).
  GIVEN WITH THE SEED: the statements are not yours to turn. If you find one false, say at which input.
  Laid BY PROGRAM, IN A SANDBOX (cutbox-rows.mjs): the forced cells as the released guide's own fill.sh prints them over the translation 8c27a976aa14bea0… (all of the seat's roots in one cut). By AI agents, Wed Nov 11 2026. No macro, syntax, notation, axiom, sorry.
-/
import Derived.Test.YtlbagmmkeekfjaaDoorChecked
import GoSem.Claim
import GoSem.ClaimJoined
import GoSem.ClaimMapViews
import Derived.JoinedTies
import Derived.KernelRfl
namespace Go.Proofs.YtlbagmmkeekfjaaDoor
/- THE CELL 'sum', in the pinned program and in every row, IS THE sha256 OF THE DUMP (.gsa) THAT YtlbagmmkeekfjaaDoorProg.lean LOADS. Nothing in Lean hashes anything: it is a label: what it is worth is what the hold of that sum in a sandbox is worth. -/
noncomputable def Tryd.pinned : Pinned := { name := "ytlbagmmkeekfjaadoor", sum := "8c27a976aa14bea01580c0b6005adcc4e599faafb3892ab4c210cb05da548054", checked := Tryd.checked }
namespace Rows
def none {H : Type} : Left H := { results := [], args := [] }

/- WHAT THE LISTED PACKAGE-LEVEL VARIABLES READ AS WHEN THE CALL BEGINS. Each datum BY PROGRAM (the guide's laid-datum.mjs) off the statement by which the dump's own 'gosem.cut.vars' lays the variable. In a bare row this is a premise. The card (YtlbagmmkeekfjaaDoorCards.lean) ties it to the program's text. -/
def laid_lazaret_kinds_scopes {H : Type} : DataW H := .agg [.lit (.string [32, 97, 112, 112, 108, 101, 116, 32, 99, 97, 112, 116, 105, 111, 110, 32, 104, 116, 109, 108, 32, 109, 97, 114, 113, 117, 101, 101, 32, 111, 98, 106, 101, 99, 116, 32, 116, 97, 98, 108, 101, 32, 116, 100, 32, 116, 101, 109, 112, 108, 97, 116, 101, 32, 116, 104, 32]), .lit (.string [32, 97, 112, 112, 108, 101, 116, 32, 99, 97, 112, 116, 105, 111, 110, 32, 104, 116, 109, 108, 32, 109, 97, 114, 113, 117, 101, 101, 32, 111, 98, 106, 101, 99, 116, 32, 116, 97, 98, 108, 101, 32, 116, 100, 32, 116, 101, 109, 112, 108, 97, 116, 101, 32, 116, 104, 32, 111, 108, 32, 117, 108, 32]), .lit (.string [32, 97, 112, 112, 108, 101, 116, 32, 99, 97, 112, 116, 105, 111, 110, 32, 104, 116, 109, 108, 32, 109, 97, 114, 113, 117, 101, 101, 32, 111, 98, 106, 101, 99, 116, 32, 116, 97, 98, 108, 101, 32, 116, 100, 32, 116, 101, 109, 112, 108, 97, 116, 101, 32, 116, 104, 32, 98, 117, 116, 116, 111, 110, 32]), .lit (.string [32, 104, 116, 109, 108, 32, 116, 97, 98, 108, 101, 32, 116, 101, 109, 112, 108, 97, 116, 101, 32])]

/-- 'lazaretlaw13.KindsTell': WHATEVER THE INPUT: true; the input reads as it did. -/
def kindsTellSpec : ChangeSpec := { name := "kindsTell", fn := fun _ => fun
  | [d1, d2, d3] => { results := [.lit (.bool true)], args := [d1, d2, d3] }
  | _ => none }
def kindsTellRow : OpenClaim := { program := "ytlbagmmkeekfjaadoor", sum := "8c27a976aa14bea01580c0b6005adcc4e599faafb3892ab4c210cb05da548054", func := "lazaret/lazaretlaw13.KindsTell", spec := "kindsTell", inPlace := ["internal/bytealg.IndexByteString", "internal/bytealg.IndexString"], named := ["internal/bytealg.MaxLen", "lazaret/kinds.scopes"], apart := false, laid := [("lazaret/kinds.scopes", laid_lazaret_kinds_scopes)] }
def KindsTellSaid : Prop := kindsTellRow.holds Tryd.pinned (OpenSpec.ofChange kindsTellSpec)

/-- ITS FALSE NEIGHBOUR: 'it returns false'. Refute it at one input. -/
def kindsTellWrong : ChangeSpec := { name := "kindsTell", fn := fun _ => fun
  | [d1, d2, d3] => { results := [.lit (.bool false)], args := [d1, d2, d3] }
  | _ => none }
def KindsTellWrongFalsely : Prop := kindsTellRow.holds Tryd.pinned (OpenSpec.ofChange kindsTellWrong)

/-- 'lazaretlaw13.KindsWithin': WHATEVER THE INPUT: true; the input reads as it did. -/
def kindsWithinSpec : ChangeSpec := { name := "kindsWithin", fn := fun _ => fun
  | [d1, d2] => { results := [.lit (.bool true)], args := [d1, d2] }
  | _ => none }
def kindsWithinRow : OpenClaim := { program := "ytlbagmmkeekfjaadoor", sum := "8c27a976aa14bea01580c0b6005adcc4e599faafb3892ab4c210cb05da548054", func := "lazaret/lazaretlaw13.KindsWithin", spec := "kindsWithin", inPlace := ["internal/bytealg.IndexByteString", "internal/bytealg.IndexString"], named := ["internal/bytealg.MaxLen", "lazaret/kinds.scopes"], apart := false, laid := [("lazaret/kinds.scopes", laid_lazaret_kinds_scopes)] }
def KindsWithinSaid : Prop := kindsWithinRow.holds Tryd.pinned (OpenSpec.ofChange kindsWithinSpec)

/-- ITS FALSE NEIGHBOUR: 'it returns false'. Refute it at one input. -/
def kindsWithinWrong : ChangeSpec := { name := "kindsWithin", fn := fun _ => fun
  | [d1, d2] => { results := [.lit (.bool false)], args := [d1, d2] }
  | _ => none }
def KindsWithinWrongFalsely : Prop := kindsWithinRow.holds Tryd.pinned (OpenSpec.ofChange kindsWithinWrong)

/-- 'lazaretlaw13.KindsCase': WHATEVER THE INPUT: true; the input reads as it did. -/
def kindsCaseSpec : ChangeSpec := { name := "kindsCase", fn := fun _ => fun
  | [d1, d2] => { results := [.lit (.bool true)], args := [d1, d2] }
  | _ => none }
def kindsCaseRow : OpenClaim := { program := "ytlbagmmkeekfjaadoor", sum := "8c27a976aa14bea01580c0b6005adcc4e599faafb3892ab4c210cb05da548054", func := "lazaret/lazaretlaw13.KindsCase", spec := "kindsCase", inPlace := ["internal/bytealg.IndexByteString", "internal/bytealg.IndexString"], named := ["internal/bytealg.MaxLen", "lazaret/kinds.scopes"], apart := false, laid := [("lazaret/kinds.scopes", laid_lazaret_kinds_scopes)] }
def KindsCaseSaid : Prop := kindsCaseRow.holds Tryd.pinned (OpenSpec.ofChange kindsCaseSpec)

/-- ITS FALSE NEIGHBOUR: 'it returns false'. Refute it at one input. -/
def kindsCaseWrong : ChangeSpec := { name := "kindsCase", fn := fun _ => fun
  | [d1, d2] => { results := [.lit (.bool false)], args := [d1, d2] }
  | _ => none }
def KindsCaseWrongFalsely : Prop := kindsCaseRow.holds Tryd.pinned (OpenSpec.ofChange kindsCaseWrong)

/- THE SECOND FORM. 'bulk': how many values and letters a reading holds, each counted each time it is reached (what is shared counts as often as it is met; a slice's spare places count too). A statement '..UptoSaid' is the law's where the arguments, and the package variables that the reading takes, are together of bulk at most 1048576: NARROWER than '..Said'. Prove '..Said' where nothing that the law and all that it calls make is longer than what came in: it says more and counts as full. Else prove '..UptoSaid'. A law counts once. -/
mutual
def uptoBulk {H : Type} : DataW H → Nat
  | .lit (.string bytes) => bytes.length + 1
  | .lit _ => 1
  | .nil => 1
  | .ptr d => uptoBulk d + 1
  | .slice elems spare => uptoBulkAll elems + uptoBulkAll spare + 1
  | .agg parts => uptoBulkAll parts + 1
  | .iface _ d => uptoBulk d + 1
  | .map entries => uptoBulkEntries entries + 1
  | .held _ => 1
def uptoBulkAll {H : Type} : List (DataW H) → Nat
  | [] => 0
  | d :: r => uptoBulk d + uptoBulkAll r
def uptoBulkEntries {H : Type} : List (Lit × DataW H) → Nat
  | [] => 0
  | x :: r => uptoBulkEntry x + uptoBulkEntries r
def uptoBulkEntry {H : Type} : Lit × DataW H → Nat
  | (.string bytes, d) => bytes.length + uptoBulk d + 1
  | (_, d) => uptoBulk d + 1
 end
def uptoSmall : (H : Type) → List (DataW H) → Bool := fun _ ds => decide (uptoBulkAll ds ≤ 1048576)
def OpenSpec.upto (s : _root_.Go.ChangeSpec) : _root_.Go.OpenSpec := { _root_.Go.OpenSpec.ofChange s with cond := some uptoSmall }

/-- 'lazaretlaw13.KindsTell', WHERE WHAT IT READS IS OF BULK AT MOST 1048576: true; the input reads as it did. -/
def kindsTellUptoRow : OpenClaim := { program := "ytlbagmmkeekfjaadoor", sum := "8c27a976aa14bea01580c0b6005adcc4e599faafb3892ab4c210cb05da548054", func := "lazaret/lazaretlaw13.KindsTell", spec := "kindsTell", inPlace := ["internal/bytealg.IndexByteString", "internal/bytealg.IndexString"], named := ["internal/bytealg.MaxLen", "lazaret/kinds.scopes"], apart := false, laid := [("lazaret/kinds.scopes", laid_lazaret_kinds_scopes)], narrowed := true }
def KindsTellUptoSaid : Prop := kindsTellUptoRow.holds Tryd.pinned (OpenSpec.upto kindsTellSpec)

/-- 'lazaretlaw13.KindsWithin', WHERE WHAT IT READS IS OF BULK AT MOST 1048576: true; the input reads as it did. -/
def kindsWithinUptoRow : OpenClaim := { program := "ytlbagmmkeekfjaadoor", sum := "8c27a976aa14bea01580c0b6005adcc4e599faafb3892ab4c210cb05da548054", func := "lazaret/lazaretlaw13.KindsWithin", spec := "kindsWithin", inPlace := ["internal/bytealg.IndexByteString", "internal/bytealg.IndexString"], named := ["internal/bytealg.MaxLen", "lazaret/kinds.scopes"], apart := false, laid := [("lazaret/kinds.scopes", laid_lazaret_kinds_scopes)], narrowed := true }
def KindsWithinUptoSaid : Prop := kindsWithinUptoRow.holds Tryd.pinned (OpenSpec.upto kindsWithinSpec)

/-- 'lazaretlaw13.KindsCase', WHERE WHAT IT READS IS OF BULK AT MOST 1048576: true; the input reads as it did. -/
def kindsCaseUptoRow : OpenClaim := { program := "ytlbagmmkeekfjaadoor", sum := "8c27a976aa14bea01580c0b6005adcc4e599faafb3892ab4c210cb05da548054", func := "lazaret/lazaretlaw13.KindsCase", spec := "kindsCase", inPlace := ["internal/bytealg.IndexByteString", "internal/bytealg.IndexString"], named := ["internal/bytealg.MaxLen", "lazaret/kinds.scopes"], apart := false, laid := [("lazaret/kinds.scopes", laid_lazaret_kinds_scopes)], narrowed := true }
def KindsCaseUptoSaid : Prop := kindsCaseUptoRow.holds Tryd.pinned (OpenSpec.upto kindsCaseSpec)

end Rows
end Go.Proofs.YtlbagmmkeekfjaaDoor
