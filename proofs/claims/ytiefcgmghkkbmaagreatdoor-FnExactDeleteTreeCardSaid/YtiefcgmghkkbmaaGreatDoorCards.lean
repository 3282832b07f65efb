/-
  DERIVED. GIVEN WITH THE SEED: THE CARDS: each row of YtiefcgmghkkbmaaGreatDoorRows.lean that lists a variable, with what it lists TIED to the program's text (the seventh form; the later family's looks); each row that meets fmt, with fmt's text TOLD by the authors' own Lean function (tested against real Go, not proved from fmt's source: count such statements apart). THE CARD IS WHAT COUNTS. Prove the row's statement (the work); the ties are given (YtiefcgmghkkbmaaGreatDoorTie.lean); close each card by the builder's one call (the guide's Derived/Test/ToyasCard.lean, 'card_holds'). Laid BY PROGRAM, IN A SANDBOX (cutbox-door.mjs). By AI agents, Wed Nov 11 2026. No macro, syntax, notation, axiom, sorry.
-/
import Derived.Test.YtiefcgmghkkbmaaGreatDoorRows
import GoSem.ClaimSeven
namespace Go.Proofs.YtiefcgmghkkbmaaGreatDoor
namespace Rows

/-- THE TIED CARD OF 'laws.FnExactReadTree'. -/
def fnExactReadTreeCard : Claim7 := { stood := { row := fnExactReadTreeRow, standIns := [], harness := (true, "1b76330f5c5fb7b704dce2ed5fd254416fa2388c50670fe648a4ae3d7122087d"), looks := false }, kinds := [], alts := [], laidByText := true, laidKinds := [.data, .pinned], laidTests := true, laidLooks := .later }
def FnExactReadTreeCardSaid : Prop := Claim7.holds Tryz.pinned (.plain (OpenSpec.ofChange fnExactReadTreeSpec)) fnExactReadTreeCard

/-- THE TIED CARD OF 'laws.FnExactMendTree'. -/
def fnExactMendTreeCard : Claim7 := { stood := { row := fnExactMendTreeRow, standIns := [], harness := (true, "1b76330f5c5fb7b704dce2ed5fd254416fa2388c50670fe648a4ae3d7122087d"), looks := false }, kinds := [], alts := [], laidByText := true, laidKinds := [.data, .pinned], laidTests := true, laidLooks := .later }
def FnExactMendTreeCardSaid : Prop := Claim7.holds Tryz.pinned (.plain (OpenSpec.ofChange fnExactMendTreeSpec)) fnExactMendTreeCard

/-- THE TIED CARD OF 'laws.FnExactTreePaths'. -/
def fnExactTreePathsCard : Claim7 := { stood := { row := fnExactTreePathsRow, standIns := [], harness := (true, "1b76330f5c5fb7b704dce2ed5fd254416fa2388c50670fe648a4ae3d7122087d"), looks := false }, kinds := [], alts := [], laidByText := true, laidKinds := [.data, .pinned], laidTests := true, laidLooks := .later }
def FnExactTreePathsCardSaid : Prop := Claim7.holds Tryz.pinned (.plain (OpenSpec.ofChange fnExactTreePathsSpec)) fnExactTreePathsCard

/-- THE TIED CARD OF 'laws.FnExactDeleteTree'. -/
def fnExactDeleteTreeCard : Claim7 := { stood := { row := fnExactDeleteTreeRow, standIns := [], harness := (true, "1b76330f5c5fb7b704dce2ed5fd254416fa2388c50670fe648a4ae3d7122087d"), looks := false }, kinds := [], alts := [], laidByText := true, laidKinds := [.data, .pinned], laidTests := true, laidLooks := .later }
def FnExactDeleteTreeCardSaid : Prop := Claim7.holds Tryz.pinned (.plain (OpenSpec.ofChange fnExactDeleteTreeSpec)) fnExactDeleteTreeCard

/-- THE TIED CARD OF 'laws.FnExactWriteTree'. -/
def fnExactWriteTreeCard : Claim7 := { stood := { row := fnExactWriteTreeRow, standIns := [], harness := (true, "1b76330f5c5fb7b704dce2ed5fd254416fa2388c50670fe648a4ae3d7122087d"), looks := false }, kinds := [], alts := [], laidByText := true, laidKinds := [.data, .pinned], laidTests := true, laidLooks := .later }
def FnExactWriteTreeCardSaid : Prop := Claim7.holds Tryz.pinned (.plain (OpenSpec.ofChange fnExactWriteTreeSpec)) fnExactWriteTreeCard

/-- THE TIED CARD OF 'laws.FnExactListTree'. -/
def fnExactListTreeCard : Claim7 := { stood := { row := fnExactListTreeRow, standIns := [], harness := (true, "1b76330f5c5fb7b704dce2ed5fd254416fa2388c50670fe648a4ae3d7122087d"), looks := false }, kinds := [], alts := [], laidByText := true, laidKinds := [.data, .pinned], laidTests := true, laidLooks := .later }
def FnExactListTreeCardSaid : Prop := Claim7.holds Tryz.pinned (.plain (OpenSpec.ofChange fnExactListTreeSpec)) fnExactListTreeCard

/-- THE SECOND FORM's CARD OF 'laws.FnExactReadTree'. -/
def fnExactReadTreeUptoCard : Claim7 := { stood := { row := fnExactReadTreeUptoRow, standIns := [], harness := (true, "1b76330f5c5fb7b704dce2ed5fd254416fa2388c50670fe648a4ae3d7122087d"), looks := false }, kinds := [], alts := [], laidByText := true, laidKinds := [.data, .pinned], laidTests := true, laidLooks := .later }
def FnExactReadTreeUptoCardSaid : Prop := Claim7.holds Tryz.pinned (.plain (OpenSpec.upto fnExactReadTreeSpec)) fnExactReadTreeUptoCard

/-- THE SECOND FORM's CARD OF 'laws.FnExactMendTree'. -/
def fnExactMendTreeUptoCard : Claim7 := { stood := { row := fnExactMendTreeUptoRow, standIns := [], harness := (true, "1b76330f5c5fb7b704dce2ed5fd254416fa2388c50670fe648a4ae3d7122087d"), looks := false }, kinds := [], alts := [], laidByText := true, laidKinds := [.data, .pinned], laidTests := true, laidLooks := .later }
def FnExactMendTreeUptoCardSaid : Prop := Claim7.holds Tryz.pinned (.plain (OpenSpec.upto fnExactMendTreeSpec)) fnExactMendTreeUptoCard

/-- THE SECOND FORM's CARD OF 'laws.FnExactTreePaths'. -/
def fnExactTreePathsUptoCard : Claim7 := { stood := { row := fnExactTreePathsUptoRow, standIns := [], harness := (true, "1b76330f5c5fb7b704dce2ed5fd254416fa2388c50670fe648a4ae3d7122087d"), looks := false }, kinds := [], alts := [], laidByText := true, laidKinds := [.data, .pinned], laidTests := true, laidLooks := .later }
def FnExactTreePathsUptoCardSaid : Prop := Claim7.holds Tryz.pinned (.plain (OpenSpec.upto fnExactTreePathsSpec)) fnExactTreePathsUptoCard

/-- THE SECOND FORM's CARD OF 'laws.FnExactDeleteTree'. -/
def fnExactDeleteTreeUptoCard : Claim7 := { stood := { row := fnExactDeleteTreeUptoRow, standIns := [], harness := (true, "1b76330f5c5fb7b704dce2ed5fd254416fa2388c50670fe648a4ae3d7122087d"), looks := false }, kinds := [], alts := [], laidByText := true, laidKinds := [.data, .pinned], laidTests := true, laidLooks := .later }
def FnExactDeleteTreeUptoCardSaid : Prop := Claim7.holds Tryz.pinned (.plain (OpenSpec.upto fnExactDeleteTreeSpec)) fnExactDeleteTreeUptoCard

/-- THE SECOND FORM's CARD OF 'laws.FnExactWriteTree'. -/
def fnExactWriteTreeUptoCard : Claim7 := { stood := { row := fnExactWriteTreeUptoRow, standIns := [], harness := (true, "1b76330f5c5fb7b704dce2ed5fd254416fa2388c50670fe648a4ae3d7122087d"), looks := false }, kinds := [], alts := [], laidByText := true, laidKinds := [.data, .pinned], laidTests := true, laidLooks := .later }
def FnExactWriteTreeUptoCardSaid : Prop := Claim7.holds Tryz.pinned (.plain (OpenSpec.upto fnExactWriteTreeSpec)) fnExactWriteTreeUptoCard

/-- THE SECOND FORM's CARD OF 'laws.FnExactListTree'. -/
def fnExactListTreeUptoCard : Claim7 := { stood := { row := fnExactListTreeUptoRow, standIns := [], harness := (true, "1b76330f5c5fb7b704dce2ed5fd254416fa2388c50670fe648a4ae3d7122087d"), looks := false }, kinds := [], alts := [], laidByText := true, laidKinds := [.data, .pinned], laidTests := true, laidLooks := .later }
def FnExactListTreeUptoCardSaid : Prop := Claim7.holds Tryz.pinned (.plain (OpenSpec.upto fnExactListTreeSpec)) fnExactListTreeUptoCard
end Rows
end Go.Proofs.YtiefcgmghkkbmaaGreatDoor
