/-
  DERIVED. GIVEN WITH THE SEED: THE CARDS: each row of YtobhhfbdelnhfaaDoorRows.lean that lists a variable, with what it lists TIED to the program's text (the seventh form; the later family's looks); each row that meets fmt, with fmt's text TOLD by the authors' own Lean function (tested against real Go, not proved from fmt's source: count such statements apart). THE CARD IS WHAT COUNTS. Prove the row's statement (the work); the ties are given (YtobhhfbdelnhfaaDoorTie.lean); close each card by the builder's one call (the guide's Derived/Test/ToyasCard.lean, 'card_holds'). Laid BY PROGRAM, IN A SANDBOX (cutbox-door.mjs). By AI agents, Wed Nov 11 2026. No macro, syntax, notation, axiom, sorry.
-/
import Derived.Test.YtobhhfbdelnhfaaDoorRows
import GoSem.ClaimSeven
namespace Go.Proofs.YtobhhfbdelnhfaaDoor
namespace Rows

/-- THE TIED CARD OF 'decompilerlaw04.TextRoundTrip'. -/
def textRoundTripCard : Claim7 := { stood := { row := textRoundTripRow, standIns := [], harness := (true, "f6e297181f68d4815f5906a4734b8d52ed426d4fc240e1b22149a845d48154cf"), looks := false }, kinds := [], alts := [], laidByText := true, laidKinds := [.data, .data, .data, .data, .pinned], laidTests := true, laidLooks := .later }
def TextRoundTripCardSaid : Prop := Claim7.holds Tryd.pinned (.plain (OpenSpec.ofChange textRoundTripSpec)) textRoundTripCard

/-- THE TIED CARD OF 'decompilerlaw04.TextAccepted'. -/
def textAcceptedCard : Claim7 := { stood := { row := textAcceptedRow, standIns := [], harness := (true, "f6e297181f68d4815f5906a4734b8d52ed426d4fc240e1b22149a845d48154cf"), looks := false }, kinds := [], alts := [], laidByText := true, laidKinds := [.data, .data, .data, .data, .pinned], laidTests := true, laidLooks := .later }
def TextAcceptedCardSaid : Prop := Claim7.holds Tryd.pinned (.plain (OpenSpec.ofChange textAcceptedSpec)) textAcceptedCard

/-- THE TIED CARD OF 'decompilerlaw04.TextNumbers'. -/
def textNumbersCard : Claim7 := { stood := { row := textNumbersRow, standIns := [], harness := (true, "f6e297181f68d4815f5906a4734b8d52ed426d4fc240e1b22149a845d48154cf"), looks := false }, kinds := [], alts := [], laidByText := true, laidKinds := [.data, .data, .data, .data, .pinned], laidTests := true, laidLooks := .later }
def TextNumbersCardSaid : Prop := Claim7.holds Tryd.pinned (.plain (OpenSpec.ofChange textNumbersSpec)) textNumbersCard

/-- THE SECOND FORM's CARD OF 'decompilerlaw04.TextRoundTrip'. -/
def textRoundTripUptoCard : Claim7 := { stood := { row := textRoundTripUptoRow, standIns := [], harness := (true, "f6e297181f68d4815f5906a4734b8d52ed426d4fc240e1b22149a845d48154cf"), looks := false }, kinds := [], alts := [], laidByText := true, laidKinds := [.data, .data, .data, .data, .pinned], laidTests := true, laidLooks := .later }
def TextRoundTripUptoCardSaid : Prop := Claim7.holds Tryd.pinned (.plain (OpenSpec.upto textRoundTripSpec)) textRoundTripUptoCard

/-- THE SECOND FORM's CARD OF 'decompilerlaw04.TextAccepted'. -/
def textAcceptedUptoCard : Claim7 := { stood := { row := textAcceptedUptoRow, standIns := [], harness := (true, "f6e297181f68d4815f5906a4734b8d52ed426d4fc240e1b22149a845d48154cf"), looks := false }, kinds := [], alts := [], laidByText := true, laidKinds := [.data, .data, .data, .data, .pinned], laidTests := true, laidLooks := .later }
def TextAcceptedUptoCardSaid : Prop := Claim7.holds Tryd.pinned (.plain (OpenSpec.upto textAcceptedSpec)) textAcceptedUptoCard

/-- THE SECOND FORM's CARD OF 'decompilerlaw04.TextNumbers'. -/
def textNumbersUptoCard : Claim7 := { stood := { row := textNumbersUptoRow, standIns := [], harness := (true, "f6e297181f68d4815f5906a4734b8d52ed426d4fc240e1b22149a845d48154cf"), looks := false }, kinds := [], alts := [], laidByText := true, laidKinds := [.data, .data, .data, .data, .pinned], laidTests := true, laidLooks := .later }
def TextNumbersUptoCardSaid : Prop := Claim7.holds Tryd.pinned (.plain (OpenSpec.upto textNumbersSpec)) textNumbersUptoCard
end Rows
end Go.Proofs.YtobhhfbdelnhfaaDoor
