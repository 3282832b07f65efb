/-
  An empty tree: the root and blocks of zeros.
-/
import Derived.Test.YtgmmigbaaigldaaDoorMarks
import Derived.Test.YtgmmigbaaigldaaDoorGf
namespace Go.Proofs.YtgmmigbaaigldaaDoor
open Go Go.ChangeShapes Go.WideShapes Go.ChangeAt Go.RowKit lib
set_option linter.unusedVariables false
set_option maxRecDepth 100000
/-- byte 1 makes the sum of all bytes zero -/
def sealU (u : Nat → UInt8) : Nat → UInt8 := upd (upd u 1 0) 1 (0 - usum (upd u 1 0) 32)
def rootU (n : Nat) : Nat → UInt8 := upd (upd (upd (fun _ => 0) 0 1) 2 (UInt8.ofNat n)) 12 1
end Go.Proofs.YtgmmigbaaigldaaDoor
