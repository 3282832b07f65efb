/-
  DERIVED. GIVEN WITH THE SEED: THE CARDS: each row of YtjbpibapbonkpaaGreatDoorRows.lean that lists a variable, with what it lists TIED to the program's text (the seventh form; the later family's looks); each row that meets fmt, with fmt's text TOLD by the authors' own Lean function (tested against real Go, not proved from fmt's source: count such statements apart). THE CARD IS WHAT COUNTS. Prove the row's statement (the work); the ties are given (YtjbpibapbonkpaaGreatDoorTie.lean); close each card by the builder's one call (the guide's Derived/Test/ToyasCard.lean, 'card_holds'). Laid BY PROGRAM, IN A SANDBOX (cutbox-door.mjs). By AI agents, Wed Nov 11 2026. No macro, syntax, notation, axiom, sorry.
-/
import Derived.Test.YtjbpibapbonkpaaGreatDoorRows
import GoSem.ClaimSeven
namespace Go.Proofs.YtjbpibapbonkpaaGreatDoor
namespace Rows

/-- THE TIED CARD OF 'laws.FnExactGuessSystem'. -/
def fnExactGuessSystemCard : Claim7 := { stood := { row := fnExactGuessSystemRow, standIns := [], harness := (true, "d9bfceaa0fc53a42c8ed691c4b65568c90b457f956ace988e73c60e3e1c3a720"), looks := false }, kinds := [], alts := [], laidByText := true, laidKinds := [.data, .pinned], laidTests := true, laidLooks := .later }
def FnExactGuessSystemCardSaid : Prop := Claim7.holds Tryz.pinned (.plain (OpenSpec.ofChange fnExactGuessSystemSpec)) fnExactGuessSystemCard

/-- THE SECOND FORM's CARD OF 'laws.FnExactGuessSystem'. -/
def fnExactGuessSystemUptoCard : Claim7 := { stood := { row := fnExactGuessSystemUptoRow, standIns := [], harness := (true, "d9bfceaa0fc53a42c8ed691c4b65568c90b457f956ace988e73c60e3e1c3a720"), looks := false }, kinds := [], alts := [], laidByText := true, laidKinds := [.data, .pinned], laidTests := true, laidLooks := .later }
def FnExactGuessSystemUptoCardSaid : Prop := Claim7.holds Tryz.pinned (.plain (OpenSpec.upto fnExactGuessSystemSpec)) fnExactGuessSystemUptoCard
end Rows
end Go.Proofs.YtjbpibapbonkpaaGreatDoor
