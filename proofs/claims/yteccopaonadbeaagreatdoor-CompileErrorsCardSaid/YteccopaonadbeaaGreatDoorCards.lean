/-
  DERIVED. GIVEN WITH THE SEED: THE CARDS: each row of YteccopaonadbeaaGreatDoorRows.lean that lists a variable, with what it lists TIED to the program's text (the seventh form; the later family's looks); each row that meets fmt, with fmt's text TOLD by the authors' own Lean function (tested against real Go, not proved from fmt's source: count such statements apart). THE CARD IS WHAT COUNTS. Prove the row's statement (the work); the ties are given (YteccopaonadbeaaGreatDoorTie.lean); close each card by the builder's one call (the guide's Derived/Test/ToyasCard.lean, 'card_holds'). Laid BY PROGRAM, IN A SANDBOX (cutbox-door.mjs). By AI agents, Wed Nov 11 2026. No macro, syntax, notation, axiom, sorry.
-/
import Derived.Test.YteccopaonadbeaaGreatDoorRows
import GoSem.ClaimSeven
namespace Go.Proofs.YteccopaonadbeaaGreatDoor
namespace Rows

/-- THE TIED CARD OF 'decompilerlaw44.CompileStarts'. -/
def compileStartsCard : Claim7 := { stood := { row := compileStartsRow, standIns := [], harness := (true, "0fc27d0613747be9bff21eea012c17afdadaa6be3f6eb604456431c54b0ef080"), looks := false }, kinds := [], alts := [], laidByText := true, laidKinds := [.listed, .data], laidTests := true, laidLooks := .later }
def CompileStartsCardSaid : Prop := Claim7.holds Tryz.pinned (.plain (OpenSpec.ofChange compileStartsSpec)) compileStartsCard

/-- THE TIED CARD OF 'decompilerlaw44.CompileUnits'. -/
def compileUnitsCard : Claim7 := { stood := { row := compileUnitsRow, standIns := [], harness := (true, "0fc27d0613747be9bff21eea012c17afdadaa6be3f6eb604456431c54b0ef080"), looks := false }, kinds := [], alts := [], laidByText := true, laidKinds := [.listed, .data], laidTests := true, laidLooks := .later }
def CompileUnitsCardSaid : Prop := Claim7.holds Tryz.pinned (.plain (OpenSpec.ofChange compileUnitsSpec)) compileUnitsCard

/-- THE TIED CARD OF 'decompilerlaw44.CompileData'. -/
def compileDataCard : Claim7 := { stood := { row := compileDataRow, standIns := [], harness := (true, "0fc27d0613747be9bff21eea012c17afdadaa6be3f6eb604456431c54b0ef080"), looks := false }, kinds := [], alts := [], laidByText := true, laidKinds := [.listed, .data], laidTests := true, laidLooks := .later }
def CompileDataCardSaid : Prop := Claim7.holds Tryz.pinned (.plain (OpenSpec.ofChange compileDataSpec)) compileDataCard

/-- THE TIED CARD OF 'decompilerlaw44.CompilePlaces'. -/
def compilePlacesCard : Claim7 := { stood := { row := compilePlacesRow, standIns := [], harness := (true, "0fc27d0613747be9bff21eea012c17afdadaa6be3f6eb604456431c54b0ef080"), looks := false }, kinds := [], alts := [], laidByText := true, laidKinds := [.listed, .data], laidTests := true, laidLooks := .later }
def CompilePlacesCardSaid : Prop := Claim7.holds Tryz.pinned (.plain (OpenSpec.ofChange compilePlacesSpec)) compilePlacesCard

/-- THE TIED CARD OF 'decompilerlaw44.CompileErrors'. -/
def compileErrorsCard : Claim7 := { stood := { row := compileErrorsRow, standIns := [], harness := (true, "0fc27d0613747be9bff21eea012c17afdadaa6be3f6eb604456431c54b0ef080"), looks := false }, kinds := [], alts := [], laidByText := true, laidKinds := [.listed, .data], laidTests := true, laidLooks := .later }
def CompileErrorsCardSaid : Prop := Claim7.holds Tryz.pinned (.plain (OpenSpec.ofChange compileErrorsSpec)) compileErrorsCard

/-- THE SECOND FORM's CARD OF 'decompilerlaw44.CompileStarts'. -/
def compileStartsUptoCard : Claim7 := { stood := { row := compileStartsUptoRow, standIns := [], harness := (true, "0fc27d0613747be9bff21eea012c17afdadaa6be3f6eb604456431c54b0ef080"), looks := false }, kinds := [], alts := [], laidByText := true, laidKinds := [.listed, .data], laidTests := true, laidLooks := .later }
def CompileStartsUptoCardSaid : Prop := Claim7.holds Tryz.pinned (.plain (OpenSpec.upto compileStartsSpec)) compileStartsUptoCard

/-- THE SECOND FORM's CARD OF 'decompilerlaw44.CompileUnits'. -/
def compileUnitsUptoCard : Claim7 := { stood := { row := compileUnitsUptoRow, standIns := [], harness := (true, "0fc27d0613747be9bff21eea012c17afdadaa6be3f6eb604456431c54b0ef080"), looks := false }, kinds := [], alts := [], laidByText := true, laidKinds := [.listed, .data], laidTests := true, laidLooks := .later }
def CompileUnitsUptoCardSaid : Prop := Claim7.holds Tryz.pinned (.plain (OpenSpec.upto compileUnitsSpec)) compileUnitsUptoCard

/-- THE SECOND FORM's CARD OF 'decompilerlaw44.CompileData'. -/
def compileDataUptoCard : Claim7 := { stood := { row := compileDataUptoRow, standIns := [], harness := (true, "0fc27d0613747be9bff21eea012c17afdadaa6be3f6eb604456431c54b0ef080"), looks := false }, kinds := [], alts := [], laidByText := true, laidKinds := [.listed, .data], laidTests := true, laidLooks := .later }
def CompileDataUptoCardSaid : Prop := Claim7.holds Tryz.pinned (.plain (OpenSpec.upto compileDataSpec)) compileDataUptoCard

/-- THE SECOND FORM's CARD OF 'decompilerlaw44.CompilePlaces'. -/
def compilePlacesUptoCard : Claim7 := { stood := { row := compilePlacesUptoRow, standIns := [], harness := (true, "0fc27d0613747be9bff21eea012c17afdadaa6be3f6eb604456431c54b0ef080"), looks := false }, kinds := [], alts := [], laidByText := true, laidKinds := [.listed, .data], laidTests := true, laidLooks := .later }
def CompilePlacesUptoCardSaid : Prop := Claim7.holds Tryz.pinned (.plain (OpenSpec.upto compilePlacesSpec)) compilePlacesUptoCard

/-- THE SECOND FORM's CARD OF 'decompilerlaw44.CompileErrors'. -/
def compileErrorsUptoCard : Claim7 := { stood := { row := compileErrorsUptoRow, standIns := [], harness := (true, "0fc27d0613747be9bff21eea012c17afdadaa6be3f6eb604456431c54b0ef080"), looks := false }, kinds := [], alts := [], laidByText := true, laidKinds := [.listed, .data], laidTests := true, laidLooks := .later }
def CompileErrorsUptoCardSaid : Prop := Claim7.holds Tryz.pinned (.plain (OpenSpec.upto compileErrorsSpec)) compileErrorsUptoCard
end Rows
end Go.Proofs.YteccopaonadbeaaGreatDoor
