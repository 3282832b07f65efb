/-
  DERIVED. GIVEN WITH THE SEED: THE CARDS: each row of YtcbiaeniagacfaaDoorRows.lean that lists a variable, with what it lists TIED to the program's text (the seventh form; the later family's looks); each row that meets fmt, with fmt's text TOLD by the authors' own Lean function (tested against real Go, not proved from fmt's source: count such statements apart). THE CARD IS WHAT COUNTS. Prove the row's statement (the work); the ties are given (YtcbiaeniagacfaaDoorTie.lean); close each card by the builder's one call (the guide's Derived/Test/ToyasCard.lean, 'card_holds'). Laid BY PROGRAM, IN A SANDBOX (cutbox-door.mjs). By AI agents, Wed Nov 11 2026. No macro, syntax, notation, axiom, sorry.
-/
import Derived.Test.YtcbiaeniagacfaaDoorRows
import GoSem.ClaimSeven
namespace Go.Proofs.YtcbiaeniagacfaaDoor
namespace Rows

/-- THE TIED CARD OF 'laws.FnExactReadProblem'. -/
def fnExactReadProblemCard : Claim7 := { stood := { row := fnExactReadProblemRow, standIns := [], harness := (true, "761e7bb457bd00cc3f656861eda596c92b06ae0afc7c5dd5a586b09d3d1b0c43"), looks := true }, kinds := [], alts := [], laidByText := true, laidKinds := [.data, .data, .data, .data, .sentinel, .sentinel, .widerDeep, .pinned], laidTests := true, laidLooks := .later }
def FnExactReadProblemCardSaid : Prop := Claim7.holds Tryd.pinned (.plain (OpenSpec.ofChange fnExactReadProblemSpec)) fnExactReadProblemCard

/-- THE SECOND FORM's CARD OF 'laws.FnExactReadProblem'. -/
def fnExactReadProblemUptoCard : Claim7 := { stood := { row := fnExactReadProblemUptoRow, standIns := [], harness := (true, "761e7bb457bd00cc3f656861eda596c92b06ae0afc7c5dd5a586b09d3d1b0c43"), looks := true }, kinds := [], alts := [], laidByText := true, laidKinds := [.data, .data, .data, .data, .sentinel, .sentinel, .widerDeep, .pinned], laidTests := true, laidLooks := .later }
def FnExactReadProblemUptoCardSaid : Prop := Claim7.holds Tryd.pinned (.plain (OpenSpec.upto fnExactReadProblemSpec)) fnExactReadProblemUptoCard
end Rows
end Go.Proofs.YtcbiaeniagacfaaDoor
