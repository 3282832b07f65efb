/-
  Disks of chains: opening a disk, the program's side.
-/
import Derived.Test.YtmgcaiilocifbaaChainOpen
namespace Go.Proofs.Ytmgcaiilocifbaa
open Go Go.ChangeShapes Go.WideShapes Go.ChangeAt Go.RowKit lib
set_option linter.unusedVariables false
set_option maxRecDepth 100000
end Go.Proofs.Ytmgcaiilocifbaa
