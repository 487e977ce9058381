/-
  DERIVED. GIVEN WITH THE SEED: THE CARDS: each row of YtkofccabfkkgjaaDoorRows.lean that lists a variable, with what it lists TIED to the program's text (the seventh form; the later family's looks); each row that meets fmt, with fmt's text TOLD by the authors' own Lean function (tested against real Go, not proved from fmt's source: count such statements apart). THE CARD IS WHAT COUNTS. Prove the row's statement (the work); the ties are given (YtkofccabfkkgjaaDoorTie.lean); close each card by the builder's one call (the guide's Derived/Test/ToyasCard.lean, 'card_holds'). Laid BY PROGRAM, IN A SANDBOX (cutbox-door.mjs). By AI agents, Wed Nov 11 2026. No macro, syntax, notation, axiom, sorry.
-/
import Derived.Test.YtkofccabfkkgjaaDoorRows
import GoSem.ClaimSeven
namespace Go.Proofs.YtkofccabfkkgjaaDoor
namespace Rows

/-- THE TIED CARD OF 'lazaretlaw28.ChainsNames'. -/
def chainsNamesCard : Claim7 := { stood := { row := chainsNamesRow, standIns := [], harness := (true, "6bb4113eedc4a3fd21952b06405093f870e2f08ec63e9a39f321f6ede40bfae5"), looks := false }, kinds := [], alts := [], laidByText := true, laidKinds := [.data, .data, .pinned], laidTests := true, laidLooks := .later }
def ChainsNamesCardSaid : Prop := Claim7.holds Tryd.pinned (.plain (OpenSpec.ofChange chainsNamesSpec)) chainsNamesCard

/-- THE TIED CARD OF 'lazaretlaw28.ChainsFind'. -/
def chainsFindCard : Claim7 := { stood := { row := chainsFindRow, standIns := [], harness := (true, "6bb4113eedc4a3fd21952b06405093f870e2f08ec63e9a39f321f6ede40bfae5"), looks := false }, kinds := [], alts := [], laidByText := true, laidKinds := [.data, .data, .pinned], laidTests := true, laidLooks := .later }
def ChainsFindCardSaid : Prop := Claim7.holds Tryd.pinned (.plain (OpenSpec.ofChange chainsFindSpec)) chainsFindCard

/-- THE TIED CARD OF 'lazaretlaw28.ChainsFirst'. -/
def chainsFirstCard : Claim7 := { stood := { row := chainsFirstRow, standIns := [], harness := (true, "6bb4113eedc4a3fd21952b06405093f870e2f08ec63e9a39f321f6ede40bfae5"), looks := false }, kinds := [], alts := [], laidByText := true, laidKinds := [.data, .data, .pinned], laidTests := true, laidLooks := .later }
def ChainsFirstCardSaid : Prop := Claim7.holds Tryd.pinned (.plain (OpenSpec.ofChange chainsFirstSpec)) chainsFirstCard

/-- THE TIED CARD OF 'lazaretlaw28.ChainsOrder'. -/
def chainsOrderCard : Claim7 := { stood := { row := chainsOrderRow, standIns := [], harness := (true, "6bb4113eedc4a3fd21952b06405093f870e2f08ec63e9a39f321f6ede40bfae5"), looks := false }, kinds := [], alts := [], laidByText := true, laidKinds := [.data, .data, .pinned], laidTests := true, laidLooks := .later }
def ChainsOrderCardSaid : Prop := Claim7.holds Tryd.pinned (.plain (OpenSpec.ofChange chainsOrderSpec)) chainsOrderCard

/-- THE TIED CARD OF 'lazaretlaw28.ChainsMore'. -/
def chainsMoreCard : Claim7 := { stood := { row := chainsMoreRow, standIns := [], harness := (true, "6bb4113eedc4a3fd21952b06405093f870e2f08ec63e9a39f321f6ede40bfae5"), looks := false }, kinds := [], alts := [], laidByText := true, laidKinds := [.data, .data, .pinned], laidTests := true, laidLooks := .later }
def ChainsMoreCardSaid : Prop := Claim7.holds Tryd.pinned (.plain (OpenSpec.ofChange chainsMoreSpec)) chainsMoreCard

/-- THE TIED CARD OF 'lazaretlaw29.TrustedTell'. -/
def trustedTellCard : Claim7 := { stood := { row := trustedTellRow, standIns := [], harness := (true, "6bb4113eedc4a3fd21952b06405093f870e2f08ec63e9a39f321f6ede40bfae5"), looks := false }, kinds := [], alts := [], laidByText := true, laidKinds := [.data, .pinned], laidTests := true, laidLooks := .later }
def TrustedTellCardSaid : Prop := Claim7.holds Tryd.pinned (.plain (OpenSpec.ofChange trustedTellSpec)) trustedTellCard

/-- THE TIED CARD OF 'lazaretlaw29.TrustedNames'. -/
def trustedNamesCard : Claim7 := { stood := { row := trustedNamesRow, standIns := [], harness := (true, "6bb4113eedc4a3fd21952b06405093f870e2f08ec63e9a39f321f6ede40bfae5"), looks := false }, kinds := [], alts := [], laidByText := true, laidKinds := [.data, .pinned], laidTests := true, laidLooks := .later }
def TrustedNamesCardSaid : Prop := Claim7.holds Tryd.pinned (.plain (OpenSpec.ofChange trustedNamesSpec)) trustedNamesCard

/-- THE TIED CARD OF 'lazaretlaw29.TrustedMore'. -/
def trustedMoreCard : Claim7 := { stood := { row := trustedMoreRow, standIns := [], harness := (true, "6bb4113eedc4a3fd21952b06405093f870e2f08ec63e9a39f321f6ede40bfae5"), looks := false }, kinds := [], alts := [], laidByText := true, laidKinds := [.data, .pinned], laidTests := true, laidLooks := .later }
def TrustedMoreCardSaid : Prop := Claim7.holds Tryd.pinned (.plain (OpenSpec.ofChange trustedMoreSpec)) trustedMoreCard

/-- THE SECOND FORM's CARD OF 'lazaretlaw28.ChainsNames'. -/
def chainsNamesUptoCard : Claim7 := { stood := { row := chainsNamesUptoRow, standIns := [], harness := (true, "6bb4113eedc4a3fd21952b06405093f870e2f08ec63e9a39f321f6ede40bfae5"), looks := false }, kinds := [], alts := [], laidByText := true, laidKinds := [.data, .data, .pinned], laidTests := true, laidLooks := .later }
def ChainsNamesUptoCardSaid : Prop := Claim7.holds Tryd.pinned (.plain (OpenSpec.upto chainsNamesSpec)) chainsNamesUptoCard

/-- THE SECOND FORM's CARD OF 'lazaretlaw28.ChainsFind'. -/
def chainsFindUptoCard : Claim7 := { stood := { row := chainsFindUptoRow, standIns := [], harness := (true, "6bb4113eedc4a3fd21952b06405093f870e2f08ec63e9a39f321f6ede40bfae5"), looks := false }, kinds := [], alts := [], laidByText := true, laidKinds := [.data, .data, .pinned], laidTests := true, laidLooks := .later }
def ChainsFindUptoCardSaid : Prop := Claim7.holds Tryd.pinned (.plain (OpenSpec.upto chainsFindSpec)) chainsFindUptoCard

/-- THE SECOND FORM's CARD OF 'lazaretlaw28.ChainsFirst'. -/
def chainsFirstUptoCard : Claim7 := { stood := { row := chainsFirstUptoRow, standIns := [], harness := (true, "6bb4113eedc4a3fd21952b06405093f870e2f08ec63e9a39f321f6ede40bfae5"), looks := false }, kinds := [], alts := [], laidByText := true, laidKinds := [.data, .data, .pinned], laidTests := true, laidLooks := .later }
def ChainsFirstUptoCardSaid : Prop := Claim7.holds Tryd.pinned (.plain (OpenSpec.upto chainsFirstSpec)) chainsFirstUptoCard

/-- THE SECOND FORM's CARD OF 'lazaretlaw28.ChainsOrder'. -/
def chainsOrderUptoCard : Claim7 := { stood := { row := chainsOrderUptoRow, standIns := [], harness := (true, "6bb4113eedc4a3fd21952b06405093f870e2f08ec63e9a39f321f6ede40bfae5"), looks := false }, kinds := [], alts := [], laidByText := true, laidKinds := [.data, .data, .pinned], laidTests := true, laidLooks := .later }
def ChainsOrderUptoCardSaid : Prop := Claim7.holds Tryd.pinned (.plain (OpenSpec.upto chainsOrderSpec)) chainsOrderUptoCard

/-- THE SECOND FORM's CARD OF 'lazaretlaw28.ChainsMore'. -/
def chainsMoreUptoCard : Claim7 := { stood := { row := chainsMoreUptoRow, standIns := [], harness := (true, "6bb4113eedc4a3fd21952b06405093f870e2f08ec63e9a39f321f6ede40bfae5"), looks := false }, kinds := [], alts := [], laidByText := true, laidKinds := [.data, .data, .pinned], laidTests := true, laidLooks := .later }
def ChainsMoreUptoCardSaid : Prop := Claim7.holds Tryd.pinned (.plain (OpenSpec.upto chainsMoreSpec)) chainsMoreUptoCard

/-- THE SECOND FORM's CARD OF 'lazaretlaw29.TrustedTell'. -/
def trustedTellUptoCard : Claim7 := { stood := { row := trustedTellUptoRow, standIns := [], harness := (true, "6bb4113eedc4a3fd21952b06405093f870e2f08ec63e9a39f321f6ede40bfae5"), looks := false }, kinds := [], alts := [], laidByText := true, laidKinds := [.data, .pinned], laidTests := true, laidLooks := .later }
def TrustedTellUptoCardSaid : Prop := Claim7.holds Tryd.pinned (.plain (OpenSpec.upto trustedTellSpec)) trustedTellUptoCard

/-- THE SECOND FORM's CARD OF 'lazaretlaw29.TrustedNames'. -/
def trustedNamesUptoCard : Claim7 := { stood := { row := trustedNamesUptoRow, standIns := [], harness := (true, "6bb4113eedc4a3fd21952b06405093f870e2f08ec63e9a39f321f6ede40bfae5"), looks := false }, kinds := [], alts := [], laidByText := true, laidKinds := [.data, .pinned], laidTests := true, laidLooks := .later }
def TrustedNamesUptoCardSaid : Prop := Claim7.holds Tryd.pinned (.plain (OpenSpec.upto trustedNamesSpec)) trustedNamesUptoCard

/-- THE SECOND FORM's CARD OF 'lazaretlaw29.TrustedMore'. -/
def trustedMoreUptoCard : Claim7 := { stood := { row := trustedMoreUptoRow, standIns := [], harness := (true, "6bb4113eedc4a3fd21952b06405093f870e2f08ec63e9a39f321f6ede40bfae5"), looks := false }, kinds := [], alts := [], laidByText := true, laidKinds := [.data, .pinned], laidTests := true, laidLooks := .later }
def TrustedMoreUptoCardSaid : Prop := Claim7.holds Tryd.pinned (.plain (OpenSpec.upto trustedMoreSpec)) trustedMoreUptoCard
end Rows
end Go.Proofs.YtkofccabfkkgjaaDoor
