/-
  Trees: FreeTree, the reference's side.
-/
import Derived.Test.YtjbpibapbonkpaaGreatDoorTreAf
namespace Go.Proofs.YtjbpibapbonkpaaGreatDoor
open Go Go.ChangeShapes Go.WideShapes Go.ChangeAt Go.RowKit lib
set_option linter.unusedVariables false
set_option linter.unusedSimpArgs false
set_option maxRecDepth 100000
end Go.Proofs.YtjbpibapbonkpaaGreatDoor
