/-
  Disks of chains: rows of bytes compared, numbers looked for.
-/
import Derived.Test.YtmgcaiilocifbaaChF
import Derived.Test.YtmgcaiilocifbaaShelf
import Derived.Deep.DeepCutAuto
namespace Go.Proofs.Ytmgcaiilocifbaa
open Go Go.ChangeShapes Go.WideShapes Go.ChangeAt Go.RowKit lib
set_option linter.unusedVariables false
set_option maxRecDepth 100000
end Go.Proofs.Ytmgcaiilocifbaa
