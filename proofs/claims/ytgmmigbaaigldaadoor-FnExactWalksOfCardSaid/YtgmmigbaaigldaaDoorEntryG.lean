/-
  Disks of chains: an entry is stored by the reference: what may turn.
-/
import Derived.Test.YtgmmigbaaigldaaDoorEntryC
namespace Go.Proofs.YtgmmigbaaigldaaDoor
open Go Go.ChangeShapes Go.WideShapes Go.ChangeAt Go.RowKit lib
set_option linter.unusedVariables false
set_option maxRecDepth 100000
end Go.Proofs.YtgmmigbaaigldaaDoor
