/-
  Trees: FreeTree, both sides.
-/
import Derived.Test.YtjbpibapbonkpaaGreatDoorTreA
import Derived.Test.YtjbpibapbonkpaaGreatDoorTreSl
import Derived.Test.YtjbpibapbonkpaaGreatDoorAppR
namespace Go.Proofs.YtjbpibapbonkpaaGreatDoor
open Go Go.ChangeShapes Go.WideShapes Go.ChangeAt Go.RowKit lib
set_option linter.unusedVariables false
set_option linter.unusedSimpArgs false
set_option maxRecDepth 100000
/-- the number of free blocks of a sound disk -/
noncomputable def tFreeN (n : Nat) (s : Nat → ByteArray) : Nat := if tCode n s = 0 then (tFreeL (byteAt (s 0)) n).length else 0
end Go.Proofs.YtjbpibapbonkpaaGreatDoor
