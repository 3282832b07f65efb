/-
  The laws' own helpers on lists of problems.
-/
import Derived.Test.YtapkckpjeoedaaaGreatDoorBase
namespace Go.Proofs.YtapkckpjeoedaaaGreatDoor
open Go Go.ChangeShapes Go.WideShapes Go.ChangeAt Go.RowKit lib
set_option linter.unusedVariables false
set_option maxRecDepth 100000
end Go.Proofs.YtapkckpjeoedaaaGreatDoor
