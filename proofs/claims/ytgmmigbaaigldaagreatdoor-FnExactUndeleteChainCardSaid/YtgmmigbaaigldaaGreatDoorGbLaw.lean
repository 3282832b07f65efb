/-
  Disks of chains: GoneBlocks, both sides.
-/
import Derived.Test.YtgmmigbaaigldaaGreatDoorGbTop
namespace Go.Proofs.YtgmmigbaaigldaaGreatDoor
open Go Go.ChangeShapes Go.WideShapes Go.ChangeAt Go.RowKit lib
set_option linter.unusedVariables false
set_option maxRecDepth 100000
noncomputable def frOf (n : Nat) (s : Nat → ByteArray) : List Nat := freeN (joinU (s 0).size s) (s 0).size (dataN n (s 0).size) (n - dataN n (s 0).size)
noncomputable def geOf (n : Nat) (s : Nat → ByteArray) (k : Nat) : Ent := entK n (s 0).size (joinU (s 0).size s) k
/-- the blocks that entry k's file probably had -/
noncomputable def gbOf (n : Nat) (s : Nat → ByteArray) (k : Nat) : List Nat := gbL (frOf n s) (geOf n s k).f (needN (s 0).size (geOf n s k).l)
def gbAll (n : Nat) (s : Nat → ByteArray) (k : Nat) : Prop := gbOk (frOf n s) (geOf n s k).f (needN (s 0).size (geOf n s k).l)
theorem gbOf_le (n : Nat) (s : Nat → ByteArray) (k : Nat) : (gbOf n s k).length ≤ n := by
  unfold gbOf gbL frOf
  have h1 := List.length_filter_le (fun a => decide ((geOf n s k).f ≤ a)) (freeN (joinU (s 0).size s) (s 0).size (dataN n (s 0).size) (n - dataN n (s 0).size))
  have h2 := freeN_le (joinU (s 0).size s) (s 0).size (dataN n (s 0).size) (n - dataN n (s 0).size)
  rw [List.length_take]
  omega
end Go.Proofs.YtgmmigbaaigldaaGreatDoor
