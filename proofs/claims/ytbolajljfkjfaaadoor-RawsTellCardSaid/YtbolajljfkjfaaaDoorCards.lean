/-
  DERIVED. GIVEN WITH THE SEED: THE CARDS: each row of YtbolajljfkjfaaaDoorRows.lean that lists a variable, with what it lists TIED to the program's text (the seventh form; the later family's looks); each row that meets fmt, with fmt's text TOLD by the authors' own Lean function (tested against real Go, not proved from fmt's source: count such statements apart). THE CARD IS WHAT COUNTS. Prove the row's statement (the work); the ties are given (YtbolajljfkjfaaaDoorTie.lean); close each card by the builder's one call (the guide's Derived/Test/ToyasCard.lean, 'card_holds'). Laid BY PROGRAM, IN A SANDBOX (cutbox-door.mjs). By AI agents, Wed Nov 11 2026. No macro, syntax, notation, axiom, sorry.
-/
import Derived.Test.YtbolajljfkjfaaaDoorRows
import GoSem.ClaimSeven
namespace Go.Proofs.YtbolajljfkjfaaaDoor
namespace Rows

/-- THE TIED CARD OF 'lazaretlaw11.RawsTell'. -/
def rawsTellCard : Claim7 := { stood := { row := rawsTellRow, standIns := [], harness := (true, "f0a5dd7199f0f91865655abed762cd640a8d7dced583f2c571a60f3f1f1cf412"), looks := false }, kinds := [], alts := [], laidByText := true, laidKinds := [.data, .data, .pinned], laidTests := true, laidLooks := .later }
def RawsTellCardSaid : Prop := Claim7.holds Tryd.pinned (.plain (OpenSpec.ofChange rawsTellSpec)) rawsTellCard

/-- THE TIED CARD OF 'lazaretlaw11.RawsRaw'. -/
def rawsRawCard : Claim7 := { stood := { row := rawsRawRow, standIns := [], harness := (true, "f0a5dd7199f0f91865655abed762cd640a8d7dced583f2c571a60f3f1f1cf412"), looks := false }, kinds := [], alts := [], laidByText := true, laidKinds := [.data, .data, .pinned], laidTests := true, laidLooks := .later }
def RawsRawCardSaid : Prop := Claim7.holds Tryd.pinned (.plain (OpenSpec.ofChange rawsRawSpec)) rawsRawCard

/-- THE TIED CARD OF 'lazaretlaw11.RawsComment'. -/
def rawsCommentCard : Claim7 := { stood := { row := rawsCommentRow, standIns := [], harness := (true, "f0a5dd7199f0f91865655abed762cd640a8d7dced583f2c571a60f3f1f1cf412"), looks := false }, kinds := [], alts := [], laidByText := true, laidKinds := [.data, .data, .pinned], laidTests := true, laidLooks := .later }
def RawsCommentCardSaid : Prop := Claim7.holds Tryd.pinned (.plain (OpenSpec.ofChange rawsCommentSpec)) rawsCommentCard

/-- THE TIED CARD OF 'lazaretlaw11.RawsBounds'. -/
def rawsBoundsCard : Claim7 := { stood := { row := rawsBoundsRow, standIns := [], harness := (true, "f0a5dd7199f0f91865655abed762cd640a8d7dced583f2c571a60f3f1f1cf412"), looks := false }, kinds := [], alts := [], laidByText := true, laidKinds := [.data, .data, .pinned], laidTests := true, laidLooks := .later }
def RawsBoundsCardSaid : Prop := Claim7.holds Tryd.pinned (.plain (OpenSpec.ofChange rawsBoundsSpec)) rawsBoundsCard

/-- THE TIED CARD OF 'lazaretlaw11.RawsWhole'. -/
def rawsWholeCard : Claim7 := { stood := { row := rawsWholeRow, standIns := [], harness := (true, "f0a5dd7199f0f91865655abed762cd640a8d7dced583f2c571a60f3f1f1cf412"), looks := false }, kinds := [], alts := [], laidByText := true, laidKinds := [.data, .data, .pinned], laidTests := true, laidLooks := .later }
def RawsWholeCardSaid : Prop := Claim7.holds Tryd.pinned (.plain (OpenSpec.ofChange rawsWholeSpec)) rawsWholeCard

/-- THE TIED CARD OF 'lazaretlaw11.RawsTwice'. -/
def rawsTwiceCard : Claim7 := { stood := { row := rawsTwiceRow, standIns := [], harness := (true, "f0a5dd7199f0f91865655abed762cd640a8d7dced583f2c571a60f3f1f1cf412"), looks := false }, kinds := [], alts := [], laidByText := true, laidKinds := [.data, .data, .pinned], laidTests := true, laidLooks := .later }
def RawsTwiceCardSaid : Prop := Claim7.holds Tryd.pinned (.plain (OpenSpec.ofChange rawsTwiceSpec)) rawsTwiceCard

/-- THE SECOND FORM's CARD OF 'lazaretlaw11.RawsTell'. -/
def rawsTellUptoCard : Claim7 := { stood := { row := rawsTellUptoRow, standIns := [], harness := (true, "f0a5dd7199f0f91865655abed762cd640a8d7dced583f2c571a60f3f1f1cf412"), looks := false }, kinds := [], alts := [], laidByText := true, laidKinds := [.data, .data, .pinned], laidTests := true, laidLooks := .later }
def RawsTellUptoCardSaid : Prop := Claim7.holds Tryd.pinned (.plain (OpenSpec.upto rawsTellSpec)) rawsTellUptoCard

/-- THE SECOND FORM's CARD OF 'lazaretlaw11.RawsRaw'. -/
def rawsRawUptoCard : Claim7 := { stood := { row := rawsRawUptoRow, standIns := [], harness := (true, "f0a5dd7199f0f91865655abed762cd640a8d7dced583f2c571a60f3f1f1cf412"), looks := false }, kinds := [], alts := [], laidByText := true, laidKinds := [.data, .data, .pinned], laidTests := true, laidLooks := .later }
def RawsRawUptoCardSaid : Prop := Claim7.holds Tryd.pinned (.plain (OpenSpec.upto rawsRawSpec)) rawsRawUptoCard

/-- THE SECOND FORM's CARD OF 'lazaretlaw11.RawsComment'. -/
def rawsCommentUptoCard : Claim7 := { stood := { row := rawsCommentUptoRow, standIns := [], harness := (true, "f0a5dd7199f0f91865655abed762cd640a8d7dced583f2c571a60f3f1f1cf412"), looks := false }, kinds := [], alts := [], laidByText := true, laidKinds := [.data, .data, .pinned], laidTests := true, laidLooks := .later }
def RawsCommentUptoCardSaid : Prop := Claim7.holds Tryd.pinned (.plain (OpenSpec.upto rawsCommentSpec)) rawsCommentUptoCard

/-- THE SECOND FORM's CARD OF 'lazaretlaw11.RawsBounds'. -/
def rawsBoundsUptoCard : Claim7 := { stood := { row := rawsBoundsUptoRow, standIns := [], harness := (true, "f0a5dd7199f0f91865655abed762cd640a8d7dced583f2c571a60f3f1f1cf412"), looks := false }, kinds := [], alts := [], laidByText := true, laidKinds := [.data, .data, .pinned], laidTests := true, laidLooks := .later }
def RawsBoundsUptoCardSaid : Prop := Claim7.holds Tryd.pinned (.plain (OpenSpec.upto rawsBoundsSpec)) rawsBoundsUptoCard

/-- THE SECOND FORM's CARD OF 'lazaretlaw11.RawsWhole'. -/
def rawsWholeUptoCard : Claim7 := { stood := { row := rawsWholeUptoRow, standIns := [], harness := (true, "f0a5dd7199f0f91865655abed762cd640a8d7dced583f2c571a60f3f1f1cf412"), looks := false }, kinds := [], alts := [], laidByText := true, laidKinds := [.data, .data, .pinned], laidTests := true, laidLooks := .later }
def RawsWholeUptoCardSaid : Prop := Claim7.holds Tryd.pinned (.plain (OpenSpec.upto rawsWholeSpec)) rawsWholeUptoCard

/-- THE SECOND FORM's CARD OF 'lazaretlaw11.RawsTwice'. -/
def rawsTwiceUptoCard : Claim7 := { stood := { row := rawsTwiceUptoRow, standIns := [], harness := (true, "f0a5dd7199f0f91865655abed762cd640a8d7dced583f2c571a60f3f1f1cf412"), looks := false }, kinds := [], alts := [], laidByText := true, laidKinds := [.data, .data, .pinned], laidTests := true, laidLooks := .later }
def RawsTwiceUptoCardSaid : Prop := Claim7.holds Tryd.pinned (.plain (OpenSpec.upto rawsTwiceSpec)) rawsTwiceUptoCard
end Rows
end Go.Proofs.YtbolajljfkjfaaaDoor
