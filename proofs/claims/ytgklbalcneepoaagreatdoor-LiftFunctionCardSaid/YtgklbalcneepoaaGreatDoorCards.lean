/-
  DERIVED. GIVEN WITH THE SEED: THE CARDS: each row of YtgklbalcneepoaaGreatDoorRows.lean that lists a variable, with what it lists TIED to the program's text (the seventh form; the later family's looks); each row that meets fmt, with fmt's text TOLD by the authors' own Lean function (tested against real Go, not proved from fmt's source: count such statements apart). THE CARD IS WHAT COUNTS. Prove the row's statement (the work); the ties are given (YtgklbalcneepoaaGreatDoorTie.lean); close each card by the builder's one call (the guide's Derived/Test/ToyasCard.lean, 'card_holds'). Laid BY PROGRAM, IN A SANDBOX (cutbox-door.mjs). By AI agents, Wed Nov 11 2026. No macro, syntax, notation, axiom, sorry.
-/
import Derived.Test.YtgklbalcneepoaaGreatDoorRows
import GoSem.ClaimSeven
namespace Go.Proofs.YtgklbalcneepoaaGreatDoor
namespace Rows

/-- THE TIED CARD OF 'decompilerlaw21.LiftIns'. -/
def liftInsCard : Claim7 := { stood := { row := liftInsRow, standIns := [], harness := (true, "f5f7fb41027a19a87c0430042847d62114aabf88ea6d3b8eb0ea30db8fcbc5a1"), looks := false }, kinds := [], alts := [], laidByText := true, laidKinds := [.data, .data, .data, .data, .data], laidTests := true, laidLooks := .later }
def LiftInsCardSaid : Prop := Claim7.holds Tryz.pinned (.plain (OpenSpec.ofChange liftInsSpec)) liftInsCard

/-- THE TIED CARD OF 'decompilerlaw21.LiftFlags'. -/
def liftFlagsCard : Claim7 := { stood := { row := liftFlagsRow, standIns := [], harness := (true, "f5f7fb41027a19a87c0430042847d62114aabf88ea6d3b8eb0ea30db8fcbc5a1"), looks := false }, kinds := [], alts := [], laidByText := true, laidKinds := [.data, .data, .data, .data, .data], laidTests := true, laidLooks := .later }
def LiftFlagsCardSaid : Prop := Claim7.holds Tryz.pinned (.plain (OpenSpec.ofChange liftFlagsSpec)) liftFlagsCard

/-- THE TIED CARD OF 'decompilerlaw21.LiftBlock'. -/
def liftBlockCard : Claim7 := { stood := { row := liftBlockRow, standIns := [], harness := (true, "f5f7fb41027a19a87c0430042847d62114aabf88ea6d3b8eb0ea30db8fcbc5a1"), looks := false }, kinds := [], alts := [], laidByText := true, laidKinds := [.data, .data, .data, .data, .data], laidTests := true, laidLooks := .later }
def LiftBlockCardSaid : Prop := Claim7.holds Tryz.pinned (.plain (OpenSpec.ofChange liftBlockSpec)) liftBlockCard

/-- THE TIED CARD OF 'decompilerlaw21.LiftFunction'. -/
def liftFunctionCard : Claim7 := { stood := { row := liftFunctionRow, standIns := [], harness := (true, "f5f7fb41027a19a87c0430042847d62114aabf88ea6d3b8eb0ea30db8fcbc5a1"), looks := false }, kinds := [], alts := [], laidByText := true, laidKinds := [.data, .data, .data, .data, .data], laidTests := true, laidLooks := .later }
def LiftFunctionCardSaid : Prop := Claim7.holds Tryz.pinned (.plain (OpenSpec.ofChange liftFunctionSpec)) liftFunctionCard

/-- THE SECOND FORM's CARD OF 'decompilerlaw21.LiftIns'. -/
def liftInsUptoCard : Claim7 := { stood := { row := liftInsUptoRow, standIns := [], harness := (true, "f5f7fb41027a19a87c0430042847d62114aabf88ea6d3b8eb0ea30db8fcbc5a1"), looks := false }, kinds := [], alts := [], laidByText := true, laidKinds := [.data, .data, .data, .data, .data], laidTests := true, laidLooks := .later }
def LiftInsUptoCardSaid : Prop := Claim7.holds Tryz.pinned (.plain (OpenSpec.upto liftInsSpec)) liftInsUptoCard

/-- THE SECOND FORM's CARD OF 'decompilerlaw21.LiftFlags'. -/
def liftFlagsUptoCard : Claim7 := { stood := { row := liftFlagsUptoRow, standIns := [], harness := (true, "f5f7fb41027a19a87c0430042847d62114aabf88ea6d3b8eb0ea30db8fcbc5a1"), looks := false }, kinds := [], alts := [], laidByText := true, laidKinds := [.data, .data, .data, .data, .data], laidTests := true, laidLooks := .later }
def LiftFlagsUptoCardSaid : Prop := Claim7.holds Tryz.pinned (.plain (OpenSpec.upto liftFlagsSpec)) liftFlagsUptoCard

/-- THE SECOND FORM's CARD OF 'decompilerlaw21.LiftBlock'. -/
def liftBlockUptoCard : Claim7 := { stood := { row := liftBlockUptoRow, standIns := [], harness := (true, "f5f7fb41027a19a87c0430042847d62114aabf88ea6d3b8eb0ea30db8fcbc5a1"), looks := false }, kinds := [], alts := [], laidByText := true, laidKinds := [.data, .data, .data, .data, .data], laidTests := true, laidLooks := .later }
def LiftBlockUptoCardSaid : Prop := Claim7.holds Tryz.pinned (.plain (OpenSpec.upto liftBlockSpec)) liftBlockUptoCard

/-- THE SECOND FORM's CARD OF 'decompilerlaw21.LiftFunction'. -/
def liftFunctionUptoCard : Claim7 := { stood := { row := liftFunctionUptoRow, standIns := [], harness := (true, "f5f7fb41027a19a87c0430042847d62114aabf88ea6d3b8eb0ea30db8fcbc5a1"), looks := false }, kinds := [], alts := [], laidByText := true, laidKinds := [.data, .data, .data, .data, .data], laidTests := true, laidLooks := .later }
def LiftFunctionUptoCardSaid : Prop := Claim7.holds Tryz.pinned (.plain (OpenSpec.upto liftFunctionSpec)) liftFunctionUptoCard
end Rows
end Go.Proofs.YtgklbalcneepoaaGreatDoor
