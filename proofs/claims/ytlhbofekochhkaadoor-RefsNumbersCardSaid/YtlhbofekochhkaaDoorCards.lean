/-
  DERIVED. GIVEN WITH THE SEED: THE CARDS: each row of YtlhbofekochhkaaDoorRows.lean that lists a variable, with what it lists TIED to the program's text (the seventh form; the later family's looks); each row that meets fmt, with fmt's text TOLD by the authors' own Lean function (tested against real Go, not proved from fmt's source: count such statements apart). THE CARD IS WHAT COUNTS. Prove the row's statement (the work); the ties are given (YtlhbofekochhkaaDoorTie.lean); close each card by the builder's one call (the guide's Derived/Test/ToyasCard.lean, 'card_holds'). Laid BY PROGRAM, IN A SANDBOX (cutbox-door.mjs). By AI agents, Wed Nov 11 2026. No macro, syntax, notation, axiom, sorry.
-/
import Derived.Test.YtlhbofekochhkaaDoorRows
import GoSem.ClaimSeven
namespace Go.Proofs.YtlhbofekochhkaaDoor
namespace Rows

/-- THE TIED CARD OF 'lazaretlaw09.RefsTell'. -/
def refsTellCard : Claim7 := { stood := { row := refsTellRow, standIns := [], harness := (true, "34113cb94978300f08fe298eee0d8637adffe134e4996f072dd15afc3852d47c"), looks := false }, kinds := [], alts := [], laidByText := true, laidKinds := [.data], laidTests := true, laidLooks := .later }
def RefsTellCardSaid : Prop := Claim7.holds Tryd.pinned (.plain (OpenSpec.ofChange refsTellSpec)) refsTellCard

/-- THE TIED CARD OF 'lazaretlaw09.RefsNames'. -/
def refsNamesCard : Claim7 := { stood := { row := refsNamesRow, standIns := [], harness := (true, "34113cb94978300f08fe298eee0d8637adffe134e4996f072dd15afc3852d47c"), looks := false }, kinds := [], alts := [], laidByText := true, laidKinds := [.data], laidTests := true, laidLooks := .later }
def RefsNamesCardSaid : Prop := Claim7.holds Tryd.pinned (.plain (OpenSpec.ofChange refsNamesSpec)) refsNamesCard

/-- THE TIED CARD OF 'lazaretlaw09.RefsPlace'. -/
def refsPlaceCard : Claim7 := { stood := { row := refsPlaceRow, standIns := [], harness := (true, "34113cb94978300f08fe298eee0d8637adffe134e4996f072dd15afc3852d47c"), looks := false }, kinds := [], alts := [], laidByText := true, laidKinds := [.data], laidTests := true, laidLooks := .later }
def RefsPlaceCardSaid : Prop := Claim7.holds Tryd.pinned (.plain (OpenSpec.ofChange refsPlaceSpec)) refsPlaceCard

/-- THE TIED CARD OF 'lazaretlaw09.RefsNumbers'. -/
def refsNumbersCard : Claim7 := { stood := { row := refsNumbersRow, standIns := [], harness := (true, "34113cb94978300f08fe298eee0d8637adffe134e4996f072dd15afc3852d47c"), looks := false }, kinds := [], alts := [], laidByText := true, laidKinds := [.data, .data, .data, .data], laidTests := true, laidLooks := .later }
def RefsNumbersCardSaid : Prop := Claim7.holds Tryd.pinned (.plain (OpenSpec.ofChange refsNumbersSpec)) refsNumbersCard

/-- THE SECOND FORM's CARD OF 'lazaretlaw09.RefsTell'. -/
def refsTellUptoCard : Claim7 := { stood := { row := refsTellUptoRow, standIns := [], harness := (true, "34113cb94978300f08fe298eee0d8637adffe134e4996f072dd15afc3852d47c"), looks := false }, kinds := [], alts := [], laidByText := true, laidKinds := [.data], laidTests := true, laidLooks := .later }
def RefsTellUptoCardSaid : Prop := Claim7.holds Tryd.pinned (.plain (OpenSpec.upto refsTellSpec)) refsTellUptoCard

/-- THE SECOND FORM's CARD OF 'lazaretlaw09.RefsNames'. -/
def refsNamesUptoCard : Claim7 := { stood := { row := refsNamesUptoRow, standIns := [], harness := (true, "34113cb94978300f08fe298eee0d8637adffe134e4996f072dd15afc3852d47c"), looks := false }, kinds := [], alts := [], laidByText := true, laidKinds := [.data], laidTests := true, laidLooks := .later }
def RefsNamesUptoCardSaid : Prop := Claim7.holds Tryd.pinned (.plain (OpenSpec.upto refsNamesSpec)) refsNamesUptoCard

/-- THE SECOND FORM's CARD OF 'lazaretlaw09.RefsPlace'. -/
def refsPlaceUptoCard : Claim7 := { stood := { row := refsPlaceUptoRow, standIns := [], harness := (true, "34113cb94978300f08fe298eee0d8637adffe134e4996f072dd15afc3852d47c"), looks := false }, kinds := [], alts := [], laidByText := true, laidKinds := [.data], laidTests := true, laidLooks := .later }
def RefsPlaceUptoCardSaid : Prop := Claim7.holds Tryd.pinned (.plain (OpenSpec.upto refsPlaceSpec)) refsPlaceUptoCard

/-- THE SECOND FORM's CARD OF 'lazaretlaw09.RefsNumbers'. -/
def refsNumbersUptoCard : Claim7 := { stood := { row := refsNumbersUptoRow, standIns := [], harness := (true, "34113cb94978300f08fe298eee0d8637adffe134e4996f072dd15afc3852d47c"), looks := false }, kinds := [], alts := [], laidByText := true, laidKinds := [.data, .data, .data, .data], laidTests := true, laidLooks := .later }
def RefsNumbersUptoCardSaid : Prop := Claim7.holds Tryd.pinned (.plain (OpenSpec.upto refsNumbersSpec)) refsNumbersUptoCard
end Rows
end Go.Proofs.YtlhbofekochhkaaDoor
