/-
  DERIVED. GIVEN WITH THE SEED: THE CARDS: each row of YtlbagmmkeekfjaaDoorRows.lean that lists a variable, with what it lists TIED to the program's text (the seventh form; the later family's looks); each row that meets fmt, with fmt's text TOLD by the authors' own Lean function (tested against real Go, not proved from fmt's source: count such statements apart). THE CARD IS WHAT COUNTS. Prove the row's statement (the work); the ties are given (YtlbagmmkeekfjaaDoorTie.lean); close each card by the builder's one call (the guide's Derived/Test/ToyasCard.lean, 'card_holds'). Laid BY PROGRAM, IN A SANDBOX (cutbox-door.mjs). By AI agents, Wed Nov 11 2026. No macro, syntax, notation, axiom, sorry.
-/
import Derived.Test.YtlbagmmkeekfjaaDoorRows
import GoSem.ClaimSeven
namespace Go.Proofs.YtlbagmmkeekfjaaDoor
namespace Rows

/-- THE TIED CARD OF 'lazaretlaw13.KindsTell'. -/
def kindsTellCard : Claim7 := { stood := { row := kindsTellRow, standIns := [], harness := (true, "0fe71dd3d949e76841d053483846cfa576b11e10feda74ec5da240ad2d6c30cc"), looks := false }, kinds := [], alts := [], laidByText := true, laidKinds := [.data], laidTests := true, laidLooks := .later }
def KindsTellCardSaid : Prop := Claim7.holds Tryd.pinned (.plain (OpenSpec.ofChange kindsTellSpec)) kindsTellCard

/-- THE TIED CARD OF 'lazaretlaw13.KindsWithin'. -/
def kindsWithinCard : Claim7 := { stood := { row := kindsWithinRow, standIns := [], harness := (true, "0fe71dd3d949e76841d053483846cfa576b11e10feda74ec5da240ad2d6c30cc"), looks := false }, kinds := [], alts := [], laidByText := true, laidKinds := [.data], laidTests := true, laidLooks := .later }
def KindsWithinCardSaid : Prop := Claim7.holds Tryd.pinned (.plain (OpenSpec.ofChange kindsWithinSpec)) kindsWithinCard

/-- THE TIED CARD OF 'lazaretlaw13.KindsCase'. -/
def kindsCaseCard : Claim7 := { stood := { row := kindsCaseRow, standIns := [], harness := (true, "0fe71dd3d949e76841d053483846cfa576b11e10feda74ec5da240ad2d6c30cc"), looks := false }, kinds := [], alts := [], laidByText := true, laidKinds := [.data], laidTests := true, laidLooks := .later }
def KindsCaseCardSaid : Prop := Claim7.holds Tryd.pinned (.plain (OpenSpec.ofChange kindsCaseSpec)) kindsCaseCard

/-- THE SECOND FORM's CARD OF 'lazaretlaw13.KindsTell'. -/
def kindsTellUptoCard : Claim7 := { stood := { row := kindsTellUptoRow, standIns := [], harness := (true, "0fe71dd3d949e76841d053483846cfa576b11e10feda74ec5da240ad2d6c30cc"), looks := false }, kinds := [], alts := [], laidByText := true, laidKinds := [.data], laidTests := true, laidLooks := .later }
def KindsTellUptoCardSaid : Prop := Claim7.holds Tryd.pinned (.plain (OpenSpec.upto kindsTellSpec)) kindsTellUptoCard

/-- THE SECOND FORM's CARD OF 'lazaretlaw13.KindsWithin'. -/
def kindsWithinUptoCard : Claim7 := { stood := { row := kindsWithinUptoRow, standIns := [], harness := (true, "0fe71dd3d949e76841d053483846cfa576b11e10feda74ec5da240ad2d6c30cc"), looks := false }, kinds := [], alts := [], laidByText := true, laidKinds := [.data], laidTests := true, laidLooks := .later }
def KindsWithinUptoCardSaid : Prop := Claim7.holds Tryd.pinned (.plain (OpenSpec.upto kindsWithinSpec)) kindsWithinUptoCard

/-- THE SECOND FORM's CARD OF 'lazaretlaw13.KindsCase'. -/
def kindsCaseUptoCard : Claim7 := { stood := { row := kindsCaseUptoRow, standIns := [], harness := (true, "0fe71dd3d949e76841d053483846cfa576b11e10feda74ec5da240ad2d6c30cc"), looks := false }, kinds := [], alts := [], laidByText := true, laidKinds := [.data], laidTests := true, laidLooks := .later }
def KindsCaseUptoCardSaid : Prop := Claim7.holds Tryd.pinned (.plain (OpenSpec.upto kindsCaseSpec)) kindsCaseUptoCard
end Rows
end Go.Proofs.YtlbagmmkeekfjaaDoor
