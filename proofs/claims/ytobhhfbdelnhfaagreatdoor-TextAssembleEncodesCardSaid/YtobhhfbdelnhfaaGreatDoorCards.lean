/-
  DERIVED. GIVEN WITH THE SEED: THE CARDS: each row of YtobhhfbdelnhfaaGreatDoorRows.lean that lists a variable, with what it lists TIED to the program's text (the seventh form; the later family's looks); each row that meets fmt, with fmt's text TOLD by the authors' own Lean function (tested against real Go, not proved from fmt's source: count such statements apart). THE CARD IS WHAT COUNTS. Prove the row's statement (the work); the ties are given (YtobhhfbdelnhfaaGreatDoorTie.lean); close each card by the builder's one call (the guide's Derived/Test/ToyasCard.lean, 'card_holds'). Laid BY PROGRAM, IN A SANDBOX (cutbox-door.mjs). By AI agents, Wed Nov 11 2026. No macro, syntax, notation, axiom, sorry.
-/
import Derived.Test.YtobhhfbdelnhfaaGreatDoorRows
import GoSem.ClaimSeven
namespace Go.Proofs.YtobhhfbdelnhfaaGreatDoor
namespace Rows

/-- THE TIED CARD OF 'decompilerlaw04.TextPrint'. -/
def textPrintCard : Claim7 := { stood := { row := textPrintRow, standIns := [], harness := (true, "f8bfe6d44ef17deaf7bf9e09505917118bdb7df819193b8cc864679e3f9b3f23"), looks := false }, kinds := [], alts := [], laidByText := true, laidKinds := [.data, .data, .data, .data, .pinned], laidTests := true, laidLooks := .later }
def TextPrintCardSaid : Prop := Claim7.holds Tryz.pinned (.plain (OpenSpec.ofChange textPrintSpec)) textPrintCard

/-- THE TIED CARD OF 'decompilerlaw04.TextParse'. -/
def textParseCard : Claim7 := { stood := { row := textParseRow, standIns := [], harness := (true, "f8bfe6d44ef17deaf7bf9e09505917118bdb7df819193b8cc864679e3f9b3f23"), looks := false }, kinds := [], alts := [], laidByText := true, laidKinds := [.data, .data, .data, .data, .pinned], laidTests := true, laidLooks := .later }
def TextParseCardSaid : Prop := Claim7.holds Tryz.pinned (.plain (OpenSpec.ofChange textParseSpec)) textParseCard

/-- THE TIED CARD OF 'decompilerlaw04.TextAssemble'. -/
def textAssembleCard : Claim7 := { stood := { row := textAssembleRow, standIns := [], harness := (true, "f8bfe6d44ef17deaf7bf9e09505917118bdb7df819193b8cc864679e3f9b3f23"), looks := false }, kinds := [], alts := [], laidByText := true, laidKinds := [.data, .data, .data, .data, .pinned], laidTests := true, laidLooks := .later }
def TextAssembleCardSaid : Prop := Claim7.holds Tryz.pinned (.plain (OpenSpec.ofChange textAssembleSpec)) textAssembleCard

/-- THE TIED CARD OF 'decompilerlaw04.TextAssembleEncodes'. -/
def textAssembleEncodesCard : Claim7 := { stood := { row := textAssembleEncodesRow, standIns := [], harness := (true, "f8bfe6d44ef17deaf7bf9e09505917118bdb7df819193b8cc864679e3f9b3f23"), looks := false }, kinds := [], alts := [], laidByText := true, laidKinds := [.data, .data, .data, .data, .pinned], laidTests := true, laidLooks := .later }
def TextAssembleEncodesCardSaid : Prop := Claim7.holds Tryz.pinned (.plain (OpenSpec.ofChange textAssembleEncodesSpec)) textAssembleEncodesCard

/-- THE TIED CARD OF 'decompilerlaw04.TextListing'. -/
def textListingCard : Claim7 := { stood := { row := textListingRow, standIns := [], harness := (true, "f8bfe6d44ef17deaf7bf9e09505917118bdb7df819193b8cc864679e3f9b3f23"), looks := false }, kinds := [], alts := [], laidByText := true, laidKinds := [.data, .data, .data, .data, .pinned], laidTests := true, laidLooks := .later }
def TextListingCardSaid : Prop := Claim7.holds Tryz.pinned (.plain (OpenSpec.ofChange textListingSpec)) textListingCard

/-- THE SECOND FORM's CARD OF 'decompilerlaw04.TextPrint'. -/
def textPrintUptoCard : Claim7 := { stood := { row := textPrintUptoRow, standIns := [], harness := (true, "f8bfe6d44ef17deaf7bf9e09505917118bdb7df819193b8cc864679e3f9b3f23"), looks := false }, kinds := [], alts := [], laidByText := true, laidKinds := [.data, .data, .data, .data, .pinned], laidTests := true, laidLooks := .later }
def TextPrintUptoCardSaid : Prop := Claim7.holds Tryz.pinned (.plain (OpenSpec.upto textPrintSpec)) textPrintUptoCard

/-- THE SECOND FORM's CARD OF 'decompilerlaw04.TextParse'. -/
def textParseUptoCard : Claim7 := { stood := { row := textParseUptoRow, standIns := [], harness := (true, "f8bfe6d44ef17deaf7bf9e09505917118bdb7df819193b8cc864679e3f9b3f23"), looks := false }, kinds := [], alts := [], laidByText := true, laidKinds := [.data, .data, .data, .data, .pinned], laidTests := true, laidLooks := .later }
def TextParseUptoCardSaid : Prop := Claim7.holds Tryz.pinned (.plain (OpenSpec.upto textParseSpec)) textParseUptoCard

/-- THE SECOND FORM's CARD OF 'decompilerlaw04.TextAssemble'. -/
def textAssembleUptoCard : Claim7 := { stood := { row := textAssembleUptoRow, standIns := [], harness := (true, "f8bfe6d44ef17deaf7bf9e09505917118bdb7df819193b8cc864679e3f9b3f23"), looks := false }, kinds := [], alts := [], laidByText := true, laidKinds := [.data, .data, .data, .data, .pinned], laidTests := true, laidLooks := .later }
def TextAssembleUptoCardSaid : Prop := Claim7.holds Tryz.pinned (.plain (OpenSpec.upto textAssembleSpec)) textAssembleUptoCard

/-- THE SECOND FORM's CARD OF 'decompilerlaw04.TextAssembleEncodes'. -/
def textAssembleEncodesUptoCard : Claim7 := { stood := { row := textAssembleEncodesUptoRow, standIns := [], harness := (true, "f8bfe6d44ef17deaf7bf9e09505917118bdb7df819193b8cc864679e3f9b3f23"), looks := false }, kinds := [], alts := [], laidByText := true, laidKinds := [.data, .data, .data, .data, .pinned], laidTests := true, laidLooks := .later }
def TextAssembleEncodesUptoCardSaid : Prop := Claim7.holds Tryz.pinned (.plain (OpenSpec.upto textAssembleEncodesSpec)) textAssembleEncodesUptoCard

/-- THE SECOND FORM's CARD OF 'decompilerlaw04.TextListing'. -/
def textListingUptoCard : Claim7 := { stood := { row := textListingUptoRow, standIns := [], harness := (true, "f8bfe6d44ef17deaf7bf9e09505917118bdb7df819193b8cc864679e3f9b3f23"), looks := false }, kinds := [], alts := [], laidByText := true, laidKinds := [.data, .data, .data, .data, .pinned], laidTests := true, laidLooks := .later }
def TextListingUptoCardSaid : Prop := Claim7.holds Tryz.pinned (.plain (OpenSpec.upto textListingSpec)) textListingUptoCard
end Rows
end Go.Proofs.YtobhhfbdelnhfaaGreatDoor
