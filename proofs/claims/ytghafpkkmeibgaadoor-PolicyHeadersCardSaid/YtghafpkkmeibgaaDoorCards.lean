/-
  DERIVED. GIVEN WITH THE SEED: THE CARDS: each row of YtghafpkkmeibgaaDoorRows.lean that lists a variable, with what it lists TIED to the program's text (the seventh form; the later family's looks); each row that meets fmt, with fmt's text TOLD by the authors' own Lean function (tested against real Go, not proved from fmt's source: count such statements apart). THE CARD IS WHAT COUNTS. Prove the row's statement (the work); the ties are given (YtghafpkkmeibgaaDoorTie.lean); close each card by the builder's one call (the guide's Derived/Test/ToyasCard.lean, 'card_holds'). Laid BY PROGRAM, IN A SANDBOX (cutbox-door.mjs). By AI agents, Wed Nov 11 2026. No macro, syntax, notation, axiom, sorry.
-/
import Derived.Test.YtghafpkkmeibgaaDoorRows
import GoSem.ClaimSeven
namespace Go.Proofs.YtghafpkkmeibgaaDoor
namespace Rows

/-- THE TIED CARD OF 'lazaretlaw24.PolicyText'. -/
def policyTextCard : Claim7 := { stood := { row := policyTextRow, standIns := [], harness := (true, "4b0029049574c9c1f2f76f2237442c95befcda60a7178c2790aee66c57cacaac"), looks := false }, kinds := [], alts := [], laidByText := true, laidKinds := [.data, .pinned], laidTests := true, laidLooks := .later }
def PolicyTextCardSaid : Prop := Claim7.holds Tryd.pinned (.plain (OpenSpec.ofChange policyTextSpec)) policyTextCard

/-- THE TIED CARD OF 'lazaretlaw24.PolicyBack'. -/
def policyBackCard : Claim7 := { stood := { row := policyBackRow, standIns := [], harness := (true, "4b0029049574c9c1f2f76f2237442c95befcda60a7178c2790aee66c57cacaac"), looks := false }, kinds := [], alts := [], laidByText := true, laidKinds := [.data, .pinned], laidTests := true, laidLooks := .later }
def PolicyBackCardSaid : Prop := Claim7.holds Tryd.pinned (.plain (OpenSpec.ofChange policyBackSpec)) policyBackCard

/-- THE TIED CARD OF 'lazaretlaw24.PolicyOnce'. -/
def policyOnceCard : Claim7 := { stood := { row := policyOnceRow, standIns := [], harness := (true, "4b0029049574c9c1f2f76f2237442c95befcda60a7178c2790aee66c57cacaac"), looks := false }, kinds := [], alts := [], laidByText := true, laidKinds := [.data, .pinned], laidTests := true, laidLooks := .later }
def PolicyOnceCardSaid : Prop := Claim7.holds Tryd.pinned (.plain (OpenSpec.ofChange policyOnceSpec)) policyOnceCard

/-- THE TIED CARD OF 'lazaretlaw24.PolicyMeta'. -/
def policyMetaCard : Claim7 := { stood := { row := policyMetaRow, standIns := [], harness := (true, "4b0029049574c9c1f2f76f2237442c95befcda60a7178c2790aee66c57cacaac"), looks := false }, kinds := [], alts := [], laidByText := true, laidKinds := [.data, .pinned], laidTests := true, laidLooks := .later }
def PolicyMetaCardSaid : Prop := Claim7.holds Tryd.pinned (.plain (OpenSpec.ofChange policyMetaSpec)) policyMetaCard

/-- THE TIED CARD OF 'lazaretlaw24.PolicyAsk'. -/
def policyAskCard : Claim7 := { stood := { row := policyAskRow, standIns := [], harness := (true, "4b0029049574c9c1f2f76f2237442c95befcda60a7178c2790aee66c57cacaac"), looks := false }, kinds := [], alts := [], laidByText := true, laidKinds := [.data, .pinned], laidTests := true, laidLooks := .later }
def PolicyAskCardSaid : Prop := Claim7.holds Tryd.pinned (.plain (OpenSpec.ofChange policyAskSpec)) policyAskCard

/-- THE TIED CARD OF 'lazaretlaw24.PolicyHeaders'. -/
def policyHeadersCard : Claim7 := { stood := { row := policyHeadersRow, standIns := [], harness := (true, "4b0029049574c9c1f2f76f2237442c95befcda60a7178c2790aee66c57cacaac"), looks := false }, kinds := [], alts := [], laidByText := true, laidKinds := [.data, .pinned], laidTests := true, laidLooks := .later }
def PolicyHeadersCardSaid : Prop := Claim7.holds Tryd.pinned (.plain (OpenSpec.ofChange policyHeadersSpec)) policyHeadersCard

/-- THE TIED CARD OF 'lazaretlaw24.PolicyMore'. -/
def policyMoreCard : Claim7 := { stood := { row := policyMoreRow, standIns := [], harness := (true, "4b0029049574c9c1f2f76f2237442c95befcda60a7178c2790aee66c57cacaac"), looks := false }, kinds := [], alts := [], laidByText := true, laidKinds := [.data, .pinned], laidTests := true, laidLooks := .later }
def PolicyMoreCardSaid : Prop := Claim7.holds Tryd.pinned (.plain (OpenSpec.ofChange policyMoreSpec)) policyMoreCard

/-- THE TIED CARD OF 'lazaretlaw02.AsciiTexts'. -/
def asciiTextsCard : Claim7 := { stood := { row := asciiTextsRow, standIns := [], harness := (true, "4b0029049574c9c1f2f76f2237442c95befcda60a7178c2790aee66c57cacaac"), looks := false }, kinds := [], alts := [], laidByText := true, laidKinds := [.data, .pinned], laidTests := true, laidLooks := .later }
def AsciiTextsCardSaid : Prop := Claim7.holds Tryd.pinned (.plain (OpenSpec.ofChange asciiTextsSpec)) asciiTextsCard

/-- THE TIED CARD OF 'lazaretlaw02.AsciiFields'. -/
def asciiFieldsCard : Claim7 := { stood := { row := asciiFieldsRow, standIns := [], harness := (true, "4b0029049574c9c1f2f76f2237442c95befcda60a7178c2790aee66c57cacaac"), looks := false }, kinds := [], alts := [], laidByText := true, laidKinds := [.data, .pinned], laidTests := true, laidLooks := .later }
def AsciiFieldsCardSaid : Prop := Claim7.holds Tryd.pinned (.plain (OpenSpec.ofChange asciiFieldsSpec)) asciiFieldsCard

/-- THE TIED CARD OF 'lazaretlaw02.AsciiCommas'. -/
def asciiCommasCard : Claim7 := { stood := { row := asciiCommasRow, standIns := [], harness := (true, "4b0029049574c9c1f2f76f2237442c95befcda60a7178c2790aee66c57cacaac"), looks := false }, kinds := [], alts := [], laidByText := true, laidKinds := [.data, .pinned], laidTests := true, laidLooks := .later }
def AsciiCommasCardSaid : Prop := Claim7.holds Tryd.pinned (.plain (OpenSpec.ofChange asciiCommasSpec)) asciiCommasCard

/-- THE TIED CARD OF 'lazaretlaw02.AsciiBytes'. -/
def asciiBytesCard : Claim7 := { stood := { row := asciiBytesRow, standIns := [], harness := (true, "4b0029049574c9c1f2f76f2237442c95befcda60a7178c2790aee66c57cacaac"), looks := false }, kinds := [], alts := [], laidByText := true, laidKinds := [.data, .pinned], laidTests := true, laidLooks := .later }
def AsciiBytesCardSaid : Prop := Claim7.holds Tryd.pinned (.plain (OpenSpec.ofChange asciiBytesSpec)) asciiBytesCard

/-- THE TIED CARD OF 'lazaretlaw02.AsciiCase'. -/
def asciiCaseCard : Claim7 := { stood := { row := asciiCaseRow, standIns := [], harness := (true, "4b0029049574c9c1f2f76f2237442c95befcda60a7178c2790aee66c57cacaac"), looks := false }, kinds := [], alts := [], laidByText := true, laidKinds := [.data, .pinned], laidTests := true, laidLooks := .later }
def AsciiCaseCardSaid : Prop := Claim7.holds Tryd.pinned (.plain (OpenSpec.ofChange asciiCaseSpec)) asciiCaseCard

/-- THE SECOND FORM's CARD OF 'lazaretlaw24.PolicyText'. -/
def policyTextUptoCard : Claim7 := { stood := { row := policyTextUptoRow, standIns := [], harness := (true, "4b0029049574c9c1f2f76f2237442c95befcda60a7178c2790aee66c57cacaac"), looks := false }, kinds := [], alts := [], laidByText := true, laidKinds := [.data, .pinned], laidTests := true, laidLooks := .later }
def PolicyTextUptoCardSaid : Prop := Claim7.holds Tryd.pinned (.plain (OpenSpec.upto policyTextSpec)) policyTextUptoCard

/-- THE SECOND FORM's CARD OF 'lazaretlaw24.PolicyBack'. -/
def policyBackUptoCard : Claim7 := { stood := { row := policyBackUptoRow, standIns := [], harness := (true, "4b0029049574c9c1f2f76f2237442c95befcda60a7178c2790aee66c57cacaac"), looks := false }, kinds := [], alts := [], laidByText := true, laidKinds := [.data, .pinned], laidTests := true, laidLooks := .later }
def PolicyBackUptoCardSaid : Prop := Claim7.holds Tryd.pinned (.plain (OpenSpec.upto policyBackSpec)) policyBackUptoCard

/-- THE SECOND FORM's CARD OF 'lazaretlaw24.PolicyOnce'. -/
def policyOnceUptoCard : Claim7 := { stood := { row := policyOnceUptoRow, standIns := [], harness := (true, "4b0029049574c9c1f2f76f2237442c95befcda60a7178c2790aee66c57cacaac"), looks := false }, kinds := [], alts := [], laidByText := true, laidKinds := [.data, .pinned], laidTests := true, laidLooks := .later }
def PolicyOnceUptoCardSaid : Prop := Claim7.holds Tryd.pinned (.plain (OpenSpec.upto policyOnceSpec)) policyOnceUptoCard

/-- THE SECOND FORM's CARD OF 'lazaretlaw24.PolicyMeta'. -/
def policyMetaUptoCard : Claim7 := { stood := { row := policyMetaUptoRow, standIns := [], harness := (true, "4b0029049574c9c1f2f76f2237442c95befcda60a7178c2790aee66c57cacaac"), looks := false }, kinds := [], alts := [], laidByText := true, laidKinds := [.data, .pinned], laidTests := true, laidLooks := .later }
def PolicyMetaUptoCardSaid : Prop := Claim7.holds Tryd.pinned (.plain (OpenSpec.upto policyMetaSpec)) policyMetaUptoCard

/-- THE SECOND FORM's CARD OF 'lazaretlaw24.PolicyAsk'. -/
def policyAskUptoCard : Claim7 := { stood := { row := policyAskUptoRow, standIns := [], harness := (true, "4b0029049574c9c1f2f76f2237442c95befcda60a7178c2790aee66c57cacaac"), looks := false }, kinds := [], alts := [], laidByText := true, laidKinds := [.data, .pinned], laidTests := true, laidLooks := .later }
def PolicyAskUptoCardSaid : Prop := Claim7.holds Tryd.pinned (.plain (OpenSpec.upto policyAskSpec)) policyAskUptoCard

/-- THE SECOND FORM's CARD OF 'lazaretlaw24.PolicyHeaders'. -/
def policyHeadersUptoCard : Claim7 := { stood := { row := policyHeadersUptoRow, standIns := [], harness := (true, "4b0029049574c9c1f2f76f2237442c95befcda60a7178c2790aee66c57cacaac"), looks := false }, kinds := [], alts := [], laidByText := true, laidKinds := [.data, .pinned], laidTests := true, laidLooks := .later }
def PolicyHeadersUptoCardSaid : Prop := Claim7.holds Tryd.pinned (.plain (OpenSpec.upto policyHeadersSpec)) policyHeadersUptoCard

/-- THE SECOND FORM's CARD OF 'lazaretlaw24.PolicyMore'. -/
def policyMoreUptoCard : Claim7 := { stood := { row := policyMoreUptoRow, standIns := [], harness := (true, "4b0029049574c9c1f2f76f2237442c95befcda60a7178c2790aee66c57cacaac"), looks := false }, kinds := [], alts := [], laidByText := true, laidKinds := [.data, .pinned], laidTests := true, laidLooks := .later }
def PolicyMoreUptoCardSaid : Prop := Claim7.holds Tryd.pinned (.plain (OpenSpec.upto policyMoreSpec)) policyMoreUptoCard

/-- THE SECOND FORM's CARD OF 'lazaretlaw02.AsciiTexts'. -/
def asciiTextsUptoCard : Claim7 := { stood := { row := asciiTextsUptoRow, standIns := [], harness := (true, "4b0029049574c9c1f2f76f2237442c95befcda60a7178c2790aee66c57cacaac"), looks := false }, kinds := [], alts := [], laidByText := true, laidKinds := [.data, .pinned], laidTests := true, laidLooks := .later }
def AsciiTextsUptoCardSaid : Prop := Claim7.holds Tryd.pinned (.plain (OpenSpec.upto asciiTextsSpec)) asciiTextsUptoCard

/-- THE SECOND FORM's CARD OF 'lazaretlaw02.AsciiFields'. -/
def asciiFieldsUptoCard : Claim7 := { stood := { row := asciiFieldsUptoRow, standIns := [], harness := (true, "4b0029049574c9c1f2f76f2237442c95befcda60a7178c2790aee66c57cacaac"), looks := false }, kinds := [], alts := [], laidByText := true, laidKinds := [.data, .pinned], laidTests := true, laidLooks := .later }
def AsciiFieldsUptoCardSaid : Prop := Claim7.holds Tryd.pinned (.plain (OpenSpec.upto asciiFieldsSpec)) asciiFieldsUptoCard

/-- THE SECOND FORM's CARD OF 'lazaretlaw02.AsciiCommas'. -/
def asciiCommasUptoCard : Claim7 := { stood := { row := asciiCommasUptoRow, standIns := [], harness := (true, "4b0029049574c9c1f2f76f2237442c95befcda60a7178c2790aee66c57cacaac"), looks := false }, kinds := [], alts := [], laidByText := true, laidKinds := [.data, .pinned], laidTests := true, laidLooks := .later }
def AsciiCommasUptoCardSaid : Prop := Claim7.holds Tryd.pinned (.plain (OpenSpec.upto asciiCommasSpec)) asciiCommasUptoCard

/-- THE SECOND FORM's CARD OF 'lazaretlaw02.AsciiBytes'. -/
def asciiBytesUptoCard : Claim7 := { stood := { row := asciiBytesUptoRow, standIns := [], harness := (true, "4b0029049574c9c1f2f76f2237442c95befcda60a7178c2790aee66c57cacaac"), looks := false }, kinds := [], alts := [], laidByText := true, laidKinds := [.data, .pinned], laidTests := true, laidLooks := .later }
def AsciiBytesUptoCardSaid : Prop := Claim7.holds Tryd.pinned (.plain (OpenSpec.upto asciiBytesSpec)) asciiBytesUptoCard

/-- THE SECOND FORM's CARD OF 'lazaretlaw02.AsciiCase'. -/
def asciiCaseUptoCard : Claim7 := { stood := { row := asciiCaseUptoRow, standIns := [], harness := (true, "4b0029049574c9c1f2f76f2237442c95befcda60a7178c2790aee66c57cacaac"), looks := false }, kinds := [], alts := [], laidByText := true, laidKinds := [.data, .pinned], laidTests := true, laidLooks := .later }
def AsciiCaseUptoCardSaid : Prop := Claim7.holds Tryd.pinned (.plain (OpenSpec.upto asciiCaseSpec)) asciiCaseUptoCard
end Rows
end Go.Proofs.YtghafpkkmeibgaaDoor
