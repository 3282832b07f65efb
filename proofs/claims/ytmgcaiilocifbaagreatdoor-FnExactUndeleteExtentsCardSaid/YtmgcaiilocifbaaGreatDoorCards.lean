/-
  DERIVED. GIVEN WITH THE SEED: THE CARDS: each row of YtmgcaiilocifbaaGreatDoorRows.lean that lists a variable, with what it lists TIED to the program's text (the seventh form; the later family's looks); each row that meets fmt, with fmt's text TOLD by the authors' own Lean function (tested against real Go, not proved from fmt's source: count such statements apart). THE CARD IS WHAT COUNTS. Prove the row's statement (the work); the ties are given (YtmgcaiilocifbaaGreatDoorTie.lean); close each card by the builder's one call (the guide's Derived/Test/ToyasCard.lean, 'card_holds'). Laid BY PROGRAM, IN A SANDBOX (cutbox-door.mjs). By AI agents, Wed Nov 11 2026. No macro, syntax, notation, axiom, sorry.
-/
import Derived.Test.YtmgcaiilocifbaaGreatDoorRows
import GoSem.ClaimSeven
namespace Go.Proofs.YtmgcaiilocifbaaGreatDoor
namespace Rows

/-- THE TIED CARD OF 'laws.FnExactUndeleteExtents'. -/
def fnExactUndeleteExtentsCard : Claim7 := { stood := { row := fnExactUndeleteExtentsRow, standIns := [], harness := (true, "38636d72f44756671acd9a868246aa8b2cccf4dd0b31a4af7bed4aff8516f27f"), looks := false }, kinds := [], alts := [], laidByText := true, laidKinds := [.data, .pinned], laidTests := true, laidLooks := .later }
def FnExactUndeleteExtentsCardSaid : Prop := Claim7.holds Tryz.pinned (.plain (OpenSpec.ofChange fnExactUndeleteExtentsSpec)) fnExactUndeleteExtentsCard

/-- THE SECOND FORM's CARD OF 'laws.FnExactUndeleteExtents'. -/
def fnExactUndeleteExtentsUptoCard : Claim7 := { stood := { row := fnExactUndeleteExtentsUptoRow, standIns := [], harness := (true, "38636d72f44756671acd9a868246aa8b2cccf4dd0b31a4af7bed4aff8516f27f"), looks := false }, kinds := [], alts := [], laidByText := true, laidKinds := [.data, .pinned], laidTests := true, laidLooks := .later }
def FnExactUndeleteExtentsUptoCardSaid : Prop := Claim7.holds Tryz.pinned (.plain (OpenSpec.upto fnExactUndeleteExtentsSpec)) fnExactUndeleteExtentsUptoCard
end Rows
end Go.Proofs.YtmgcaiilocifbaaGreatDoor
