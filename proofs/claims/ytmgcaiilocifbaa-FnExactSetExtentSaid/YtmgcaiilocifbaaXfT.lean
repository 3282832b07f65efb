/-
  Disks of extents: the extents of a file: the program's side.
-/
import Derived.Test.YtmgcaiilocifbaaXuT
import Derived.Test.YtmgcaiilocifbaaAppR
import Derived.Deep.DeepCutAuto
namespace Go.Proofs.Ytmgcaiilocifbaa
open Go Go.ChangeShapes Go.WideShapes Go.ChangeAt Go.RowKit lib
set_option linter.unusedVariables false
set_option linter.unusedSimpArgs false
set_option maxRecDepth 100000
end Go.Proofs.Ytmgcaiilocifbaa
