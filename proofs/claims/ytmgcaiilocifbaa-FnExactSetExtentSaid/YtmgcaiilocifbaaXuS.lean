/-
  Disks of extents: the numbers of the used entries: the reference's side.
-/
import Derived.Test.YtmgcaiilocifbaaXnS
import Derived.Test.YtmgcaiilocifbaaXfT
import Derived.Deep.DeepCutAuto
namespace Go.Proofs.Ytmgcaiilocifbaa
open Go Go.ChangeShapes Go.WideShapes Go.ChangeAt Go.RowKit lib
set_option linter.unusedVariables false
set_option linter.unusedSimpArgs false
set_option maxRecDepth 100000
/-- used entries with a name, or of all names if it is empty -/
def usedAs (z : Nat) (U : Nat → UInt8) (nm : ByteArray) (k : Nat) : Prop := (xen z U k).st = 1 ∧ (nm = ⟨#[]⟩ ∨ (xen z U k).nm = nm)
end Go.Proofs.Ytmgcaiilocifbaa
