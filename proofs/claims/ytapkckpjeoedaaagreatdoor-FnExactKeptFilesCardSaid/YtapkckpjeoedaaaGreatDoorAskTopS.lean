/-
  Disks of chains: a disk is opened with the entry of a name: the reference's side.
-/
import Derived.Test.YtapkckpjeoedaaaGreatDoorAskTop
namespace Go.Proofs.YtapkckpjeoedaaaGreatDoor
open Go Go.ChangeShapes Go.WideShapes Go.ChangeAt Go.RowKit lib
set_option linter.unusedVariables false
set_option maxRecDepth 100000
end Go.Proofs.YtapkckpjeoedaaaGreatDoor
