/-
  DERIVED. GIVEN WITH THE SEED: THE CARDS: each row of YthcbkgiphfgbcaaDoorRows.lean that lists a variable, with what it lists TIED to the program's text (the seventh form; the later family's looks); each row that meets fmt, with fmt's text TOLD by the authors' own Lean function (tested against real Go, not proved from fmt's source: count such statements apart). THE CARD IS WHAT COUNTS. Prove the row's statement (the work); the ties are given (YthcbkgiphfgbcaaDoorTie.lean); close each card by the builder's one call (the guide's Derived/Test/ToyasCard.lean, 'card_holds'). Laid BY PROGRAM, IN A SANDBOX (cutbox-door.mjs). By AI agents, Wed Nov 11 2026. No macro, syntax, notation, axiom, sorry.
-/
import Derived.Test.YthcbkgiphfgbcaaDoorRows
import GoSem.ClaimSeven
namespace Go.Proofs.YthcbkgiphfgbcaaDoor
namespace Rows

/-- THE TIED CARD OF 'lazaretlaw01.TextsTell'. -/
def textsTellCard : Claim7 := { stood := { row := textsTellRow, standIns := [], harness := (true, "0def540b5a9bfae476cc8794660502941d13db23a9fec4433ef55c313296e099"), looks := false }, kinds := [], alts := [], laidByText := true, laidKinds := [.data, .data, .pinned], laidTests := true, laidLooks := .later }
def TextsTellCardSaid : Prop := Claim7.holds Tryd.pinned (.plain (OpenSpec.ofChange textsTellSpec)) textsTellCard

/-- THE TIED CARD OF 'lazaretlaw01.TextsWhole'. -/
def textsWholeCard : Claim7 := { stood := { row := textsWholeRow, standIns := [], harness := (true, "0def540b5a9bfae476cc8794660502941d13db23a9fec4433ef55c313296e099"), looks := false }, kinds := [], alts := [], laidByText := true, laidKinds := [.data, .data, .pinned], laidTests := true, laidLooks := .later }
def TextsWholeCardSaid : Prop := Claim7.holds Tryd.pinned (.plain (OpenSpec.ofChange textsWholeSpec)) textsWholeCard

/-- THE TIED CARD OF 'lazaretlaw01.TextsPieces'. -/
def textsPiecesCard : Claim7 := { stood := { row := textsPiecesRow, standIns := [], harness := (true, "0def540b5a9bfae476cc8794660502941d13db23a9fec4433ef55c313296e099"), looks := false }, kinds := [], alts := [], laidByText := true, laidKinds := [.data, .data, .pinned], laidTests := true, laidLooks := .later }
def TextsPiecesCardSaid : Prop := Claim7.holds Tryd.pinned (.plain (OpenSpec.ofChange textsPiecesSpec)) textsPiecesCard

/-- THE TIED CARD OF 'lazaretlaw01.TextsLines'. -/
def textsLinesCard : Claim7 := { stood := { row := textsLinesRow, standIns := [], harness := (true, "0def540b5a9bfae476cc8794660502941d13db23a9fec4433ef55c313296e099"), looks := false }, kinds := [], alts := [], laidByText := true, laidKinds := [.data, .data, .pinned], laidTests := true, laidLooks := .later }
def TextsLinesCardSaid : Prop := Claim7.holds Tryd.pinned (.plain (OpenSpec.ofChange textsLinesSpec)) textsLinesCard

/-- THE SECOND FORM's CARD OF 'lazaretlaw01.TextsTell'. -/
def textsTellUptoCard : Claim7 := { stood := { row := textsTellUptoRow, standIns := [], harness := (true, "0def540b5a9bfae476cc8794660502941d13db23a9fec4433ef55c313296e099"), looks := false }, kinds := [], alts := [], laidByText := true, laidKinds := [.data, .data, .pinned], laidTests := true, laidLooks := .later }
def TextsTellUptoCardSaid : Prop := Claim7.holds Tryd.pinned (.plain (OpenSpec.upto textsTellSpec)) textsTellUptoCard

/-- THE SECOND FORM's CARD OF 'lazaretlaw01.TextsWhole'. -/
def textsWholeUptoCard : Claim7 := { stood := { row := textsWholeUptoRow, standIns := [], harness := (true, "0def540b5a9bfae476cc8794660502941d13db23a9fec4433ef55c313296e099"), looks := false }, kinds := [], alts := [], laidByText := true, laidKinds := [.data, .data, .pinned], laidTests := true, laidLooks := .later }
def TextsWholeUptoCardSaid : Prop := Claim7.holds Tryd.pinned (.plain (OpenSpec.upto textsWholeSpec)) textsWholeUptoCard

/-- THE SECOND FORM's CARD OF 'lazaretlaw01.TextsPieces'. -/
def textsPiecesUptoCard : Claim7 := { stood := { row := textsPiecesUptoRow, standIns := [], harness := (true, "0def540b5a9bfae476cc8794660502941d13db23a9fec4433ef55c313296e099"), looks := false }, kinds := [], alts := [], laidByText := true, laidKinds := [.data, .data, .pinned], laidTests := true, laidLooks := .later }
def TextsPiecesUptoCardSaid : Prop := Claim7.holds Tryd.pinned (.plain (OpenSpec.upto textsPiecesSpec)) textsPiecesUptoCard

/-- THE SECOND FORM's CARD OF 'lazaretlaw01.TextsLines'. -/
def textsLinesUptoCard : Claim7 := { stood := { row := textsLinesUptoRow, standIns := [], harness := (true, "0def540b5a9bfae476cc8794660502941d13db23a9fec4433ef55c313296e099"), looks := false }, kinds := [], alts := [], laidByText := true, laidKinds := [.data, .data, .pinned], laidTests := true, laidLooks := .later }
def TextsLinesUptoCardSaid : Prop := Claim7.holds Tryd.pinned (.plain (OpenSpec.upto textsLinesSpec)) textsLinesUptoCard
end Rows
end Go.Proofs.YthcbkgiphfgbcaaDoor
