/-
  DERIVED. GIVEN WITH THE SEED: THE CARDS: each row of YtfaomejdoljfnaaDoorRows.lean that lists a variable, with what it lists TIED to the program's text (the seventh form; the later family's looks); each row that meets fmt, with fmt's text TOLD by the authors' own Lean function (tested against real Go, not proved from fmt's source: count such statements apart). THE CARD IS WHAT COUNTS. Prove the row's statement (the work); the ties are given (YtfaomejdoljfnaaDoorTie.lean); close each card by the builder's one call (the guide's Derived/Test/ToyasCard.lean, 'card_holds'). Laid BY PROGRAM, IN A SANDBOX (cutbox-door.mjs). By AI agents, Wed Nov 11 2026. No macro, syntax, notation, axiom, sorry.
-/
import Derived.Test.YtfaomejdoljfnaaDoorRows
import GoSem.ClaimSeven
namespace Go.Proofs.YtfaomejdoljfnaaDoor
namespace Rows

/-- THE TIED CARD OF 'lazaretlaw24.PolicyMore'. -/
def policyMoreCard : Claim7 := { stood := { row := policyMoreRow, standIns := [], harness := (true, "657690e37c42300e6ef7d79245b9f677d2ab90158009677b05a58b1477420933"), looks := false }, kinds := [], alts := [], laidByText := true, laidKinds := [.data, .pinned], laidTests := true, laidLooks := .later }
def PolicyMoreCardSaid : Prop := Claim7.holds Tryd.pinned (.plain (OpenSpec.ofChange policyMoreSpec)) policyMoreCard

/-- THE SECOND FORM's CARD OF 'lazaretlaw24.PolicyMore'. -/
def policyMoreUptoCard : Claim7 := { stood := { row := policyMoreUptoRow, standIns := [], harness := (true, "657690e37c42300e6ef7d79245b9f677d2ab90158009677b05a58b1477420933"), looks := false }, kinds := [], alts := [], laidByText := true, laidKinds := [.data, .pinned], laidTests := true, laidLooks := .later }
def PolicyMoreUptoCardSaid : Prop := Claim7.holds Tryd.pinned (.plain (OpenSpec.upto policyMoreSpec)) policyMoreUptoCard
end Rows
end Go.Proofs.YtfaomejdoljfnaaDoor
