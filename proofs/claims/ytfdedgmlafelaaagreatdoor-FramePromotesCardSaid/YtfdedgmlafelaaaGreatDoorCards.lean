/-
  DERIVED. GIVEN WITH THE SEED: THE CARDS: each row of YtfdedgmlafelaaaGreatDoorRows.lean that lists a variable, with what it lists TIED to the program's text (the seventh form; the later family's looks); each row that meets fmt, with fmt's text TOLD by the authors' own Lean function (tested against real Go, not proved from fmt's source: count such statements apart). THE CARD IS WHAT COUNTS. Prove the row's statement (the work); the ties are given (YtfdedgmlafelaaaGreatDoorTie.lean); close each card by the builder's one call (the guide's Derived/Test/ToyasCard.lean, 'card_holds'). Laid BY PROGRAM, IN A SANDBOX (cutbox-door.mjs). By AI agents, Wed Nov 11 2026. No macro, syntax, notation, axiom, sorry.
-/
import Derived.Test.YtfdedgmlafelaaaGreatDoorRows
import GoSem.ClaimSeven
namespace Go.Proofs.YtfdedgmlafelaaaGreatDoor
namespace Rows

/-- THE TIED CARD OF 'decompilerlaw29.FrameRecovers'. -/
def frameRecoversCard : Claim7 := { stood := { row := frameRecoversRow, standIns := [], harness := (true, "fa48ef91f1cc6cead202f0731678a5b4e36b1543b86e99ff2682c1843f586444"), looks := false }, kinds := [], alts := [], laidByText := true, laidKinds := [.data, .data, .data], laidTests := true, laidLooks := .later }
def FrameRecoversCardSaid : Prop := Claim7.holds Tryz.pinned (.plain (OpenSpec.ofChange frameRecoversSpec)) frameRecoversCard

/-- THE TIED CARD OF 'decompilerlaw29.FramePromotes'. -/
def framePromotesCard : Claim7 := { stood := { row := framePromotesRow, standIns := [], harness := (true, "fa48ef91f1cc6cead202f0731678a5b4e36b1543b86e99ff2682c1843f586444"), looks := false }, kinds := [], alts := [], laidByText := true, laidKinds := [.data, .data, .data], laidTests := true, laidLooks := .later }
def FramePromotesCardSaid : Prop := Claim7.holds Tryz.pinned (.plain (OpenSpec.ofChange framePromotesSpec)) framePromotesCard

/-- THE TIED CARD OF 'decompilerlaw29.FrameDeltas'. -/
def frameDeltasCard : Claim7 := { stood := { row := frameDeltasRow, standIns := [], harness := (true, "fa48ef91f1cc6cead202f0731678a5b4e36b1543b86e99ff2682c1843f586444"), looks := false }, kinds := [], alts := [], laidByText := true, laidKinds := [.data, .data, .data], laidTests := true, laidLooks := .later }
def FrameDeltasCardSaid : Prop := Claim7.holds Tryz.pinned (.plain (OpenSpec.ofChange frameDeltasSpec)) frameDeltasCard

/-- THE TIED CARD OF 'decompilerlaw29.FrameEdges'. -/
def frameEdgesCard : Claim7 := { stood := { row := frameEdgesRow, standIns := [], harness := (true, "fa48ef91f1cc6cead202f0731678a5b4e36b1543b86e99ff2682c1843f586444"), looks := false }, kinds := [], alts := [], laidByText := true, laidKinds := [.data, .data, .data], laidTests := true, laidLooks := .later }
def FrameEdgesCardSaid : Prop := Claim7.holds Tryz.pinned (.plain (OpenSpec.ofChange frameEdgesSpec)) frameEdgesCard

/-- THE TIED CARD OF 'decompilerlaw29.FrameFinds'. -/
def frameFindsCard : Claim7 := { stood := { row := frameFindsRow, standIns := [], harness := (true, "fa48ef91f1cc6cead202f0731678a5b4e36b1543b86e99ff2682c1843f586444"), looks := false }, kinds := [], alts := [], laidByText := true, laidKinds := [.data, .data, .data], laidTests := true, laidLooks := .later }
def FrameFindsCardSaid : Prop := Claim7.holds Tryz.pinned (.plain (OpenSpec.ofChange frameFindsSpec)) frameFindsCard

/-- THE SECOND FORM's CARD OF 'decompilerlaw29.FrameRecovers'. -/
def frameRecoversUptoCard : Claim7 := { stood := { row := frameRecoversUptoRow, standIns := [], harness := (true, "fa48ef91f1cc6cead202f0731678a5b4e36b1543b86e99ff2682c1843f586444"), looks := false }, kinds := [], alts := [], laidByText := true, laidKinds := [.data, .data, .data], laidTests := true, laidLooks := .later }
def FrameRecoversUptoCardSaid : Prop := Claim7.holds Tryz.pinned (.plain (OpenSpec.upto frameRecoversSpec)) frameRecoversUptoCard

/-- THE SECOND FORM's CARD OF 'decompilerlaw29.FramePromotes'. -/
def framePromotesUptoCard : Claim7 := { stood := { row := framePromotesUptoRow, standIns := [], harness := (true, "fa48ef91f1cc6cead202f0731678a5b4e36b1543b86e99ff2682c1843f586444"), looks := false }, kinds := [], alts := [], laidByText := true, laidKinds := [.data, .data, .data], laidTests := true, laidLooks := .later }
def FramePromotesUptoCardSaid : Prop := Claim7.holds Tryz.pinned (.plain (OpenSpec.upto framePromotesSpec)) framePromotesUptoCard

/-- THE SECOND FORM's CARD OF 'decompilerlaw29.FrameDeltas'. -/
def frameDeltasUptoCard : Claim7 := { stood := { row := frameDeltasUptoRow, standIns := [], harness := (true, "fa48ef91f1cc6cead202f0731678a5b4e36b1543b86e99ff2682c1843f586444"), looks := false }, kinds := [], alts := [], laidByText := true, laidKinds := [.data, .data, .data], laidTests := true, laidLooks := .later }
def FrameDeltasUptoCardSaid : Prop := Claim7.holds Tryz.pinned (.plain (OpenSpec.upto frameDeltasSpec)) frameDeltasUptoCard

/-- THE SECOND FORM's CARD OF 'decompilerlaw29.FrameEdges'. -/
def frameEdgesUptoCard : Claim7 := { stood := { row := frameEdgesUptoRow, standIns := [], harness := (true, "fa48ef91f1cc6cead202f0731678a5b4e36b1543b86e99ff2682c1843f586444"), looks := false }, kinds := [], alts := [], laidByText := true, laidKinds := [.data, .data, .data], laidTests := true, laidLooks := .later }
def FrameEdgesUptoCardSaid : Prop := Claim7.holds Tryz.pinned (.plain (OpenSpec.upto frameEdgesSpec)) frameEdgesUptoCard

/-- THE SECOND FORM's CARD OF 'decompilerlaw29.FrameFinds'. -/
def frameFindsUptoCard : Claim7 := { stood := { row := frameFindsUptoRow, standIns := [], harness := (true, "fa48ef91f1cc6cead202f0731678a5b4e36b1543b86e99ff2682c1843f586444"), looks := false }, kinds := [], alts := [], laidByText := true, laidKinds := [.data, .data, .data], laidTests := true, laidLooks := .later }
def FrameFindsUptoCardSaid : Prop := Claim7.holds Tryz.pinned (.plain (OpenSpec.upto frameFindsSpec)) frameFindsUptoCard
end Rows
end Go.Proofs.YtfdedgmlafelaaaGreatDoor
