/-
  Disks of chains: free blocks, links.
-/
import Derived.Test.YtjbpibapbonkpaaGreatDoorChainOpen2
import Derived.Test.YtjbpibapbonkpaaGreatDoorChainOpenS
import Derived.Test.YtjbpibapbonkpaaGreatDoorBase
namespace Go.Proofs.YtjbpibapbonkpaaGreatDoor
open Go Go.ChangeShapes Go.WideShapes Go.ChangeAt Go.RowKit lib
set_option linter.unusedVariables false
set_option maxRecDepth 100000
/-- the free blocks among t, t + 1, .. -/
def freeN (U : Nat → UInt8) (z t : Nat) : Nat → List Nat
  | 0 => []
  | i + 1 => freeN U z t i ++ (if U (z + (t + i)) = 0 then [t + i] else [])
theorem freeN_hit {U : Nat → UInt8} {z t i : Nat} (h : U (z + (t + i)) = 0) : freeN U z t (i + 1) = freeN U z t i ++ [t + i] := by simp only [freeN, if_pos h]
theorem freeN_miss {U : Nat → UInt8} {z t i : Nat} (h : U (z + (t + i)) ≠ 0) : freeN U z t (i + 1) = freeN U z t i := by simp only [freeN, if_neg h, List.append_nil]
theorem freeN_le (U : Nat → UInt8) (z t : Nat) : ∀ i, (freeN U z t i).length ≤ i
  | 0 => Nat.le_refl _
  | i + 1 => by
    have := freeN_le U z t i
    simp only [freeN, List.length_append]
    split <;> simp <;> omega
theorem infoI64 : (Tryz.prog.info? 2).map (fun i => (i.zero, i.size, i.bytes)) = some (some (.int .i64 0), 1, 8) := by kernel_rfl
end Go.Proofs.YtjbpibapbonkpaaGreatDoor
