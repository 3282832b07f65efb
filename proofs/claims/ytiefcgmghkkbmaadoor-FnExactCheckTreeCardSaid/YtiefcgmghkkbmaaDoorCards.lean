/-
  DERIVED. GIVEN WITH THE SEED: THE CARDS: each row of YtiefcgmghkkbmaaDoorRows.lean that lists a variable, with what it lists TIED to the program's text (the seventh form; the later family's looks); each row that meets fmt, with fmt's text TOLD by the authors' own Lean function (tested against real Go, not proved from fmt's source: count such statements apart). THE CARD IS WHAT COUNTS. Prove the row's statement (the work); the ties are given (YtiefcgmghkkbmaaDoorTie.lean); close each card by the builder's one call (the guide's Derived/Test/ToyasCard.lean, 'card_holds'). Laid BY PROGRAM, IN A SANDBOX (cutbox-door.mjs). By AI agents, Wed Nov 11 2026. No macro, syntax, notation, axiom, sorry.
-/
import Derived.Test.YtiefcgmghkkbmaaDoorRows
import GoSem.ClaimSeven
namespace Go.Proofs.YtiefcgmghkkbmaaDoor
namespace Rows

/-- THE TIED CARD OF 'laws.FnExactFreeTree'. -/
def fnExactFreeTreeCard : Claim7 := { stood := { row := fnExactFreeTreeRow, standIns := [], harness := (true, "985243f884f0b5f701f659e407ac076c4f7fdf4b44d66e68b30789228571f046"), looks := false }, kinds := [], alts := [], laidByText := true, laidKinds := [.data, .pinned], laidTests := true, laidLooks := .later }
def FnExactFreeTreeCardSaid : Prop := Claim7.holds Tryd.pinned (.plain (OpenSpec.ofChange fnExactFreeTreeSpec)) fnExactFreeTreeCard

/-- THE TIED CARD OF 'laws.FnExactCheckTree'. -/
def fnExactCheckTreeCard : Claim7 := { stood := { row := fnExactCheckTreeRow, standIns := [], harness := (true, "985243f884f0b5f701f659e407ac076c4f7fdf4b44d66e68b30789228571f046"), looks := false }, kinds := [], alts := [], laidByText := true, laidKinds := [.data, .pinned], laidTests := true, laidLooks := .later }
def FnExactCheckTreeCardSaid : Prop := Claim7.holds Tryd.pinned (.plain (OpenSpec.ofChange fnExactCheckTreeSpec)) fnExactCheckTreeCard

/-- THE SECOND FORM's CARD OF 'laws.FnExactFreeTree'. -/
def fnExactFreeTreeUptoCard : Claim7 := { stood := { row := fnExactFreeTreeUptoRow, standIns := [], harness := (true, "985243f884f0b5f701f659e407ac076c4f7fdf4b44d66e68b30789228571f046"), looks := false }, kinds := [], alts := [], laidByText := true, laidKinds := [.data, .pinned], laidTests := true, laidLooks := .later }
def FnExactFreeTreeUptoCardSaid : Prop := Claim7.holds Tryd.pinned (.plain (OpenSpec.upto fnExactFreeTreeSpec)) fnExactFreeTreeUptoCard

/-- THE SECOND FORM's CARD OF 'laws.FnExactCheckTree'. -/
def fnExactCheckTreeUptoCard : Claim7 := { stood := { row := fnExactCheckTreeUptoRow, standIns := [], harness := (true, "985243f884f0b5f701f659e407ac076c4f7fdf4b44d66e68b30789228571f046"), looks := false }, kinds := [], alts := [], laidByText := true, laidKinds := [.data, .pinned], laidTests := true, laidLooks := .later }
def FnExactCheckTreeUptoCardSaid : Prop := Claim7.holds Tryd.pinned (.plain (OpenSpec.upto fnExactCheckTreeSpec)) fnExactCheckTreeUptoCard
end Rows
end Go.Proofs.YtiefcgmghkkbmaaDoor
