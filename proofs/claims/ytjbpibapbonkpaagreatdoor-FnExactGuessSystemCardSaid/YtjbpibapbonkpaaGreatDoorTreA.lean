/-
  Trees: the program's tops: access, free, FreeTree.
-/
import Derived.Test.YtjbpibapbonkpaaGreatDoorTreWk
import Derived.Test.YtjbpibapbonkpaaGreatDoorTreB5
import Derived.Test.YtjbpibapbonkpaaGreatDoorXmPush
namespace Go.Proofs.YtjbpibapbonkpaaGreatDoor
open Go Go.ChangeShapes Go.WideShapes Go.ChangeAt Go.RowKit lib
set_option linter.unusedVariables false
set_option linter.unusedSimpArgs false
set_option maxRecDepth 100000
/-- the free blocks -/
def tFreeL (u : Nat → UInt8) (k : Nat) : List Nat := (List.range k).filter (fun k => !tBit u k)
theorem tFreeL_yes {u : Nat → UInt8} {k : Nat} (h : tBit u k = false) : tFreeL u (k + 1) = tFreeL u k ++ [k] := by
  unfold tFreeL
  rw [List.range_succ, List.filter_append]
  simp [h]
theorem tFreeL_no {u : Nat → UInt8} {k : Nat} (h : tBit u k = true) : tFreeL u (k + 1) = tFreeL u k := by
  unfold tFreeL
  rw [List.range_succ, List.filter_append]
  simp [h]
theorem tFreeL_le (u : Nat → UInt8) (k : Nat) : (tFreeL u k).length ≤ k := by
  unfold tFreeL
  exact Nat.le_trans (List.length_filter_le _ _) (by simp)
theorem infoI64T : (Tryz.prog.info? 2).map (fun i => (i.zero, i.size, i.bytes)) = some (some (.int .i64 0), 1, 8) := by kernel_rfl
open Classical in
/-- the code of a disk -/
noncomputable def tCode (n : Nat) (s : Nat → ByteArray) : Nat := if 4 ≤ n ∧ n ≤ 128 ∧ ∀ i, i < n → (s i).size = 32 then (if (tWalk n (fun i => byteAt (s i))).pr.length = 0 then 0 else 10) else 1
theorem tCode_zero {n : Nat} {s : Nat → ByteArray} (h : tCode n s = 0) : (4 ≤ n ∧ n ≤ 128 ∧ ∀ i, i < n → (s i).size = 32) ∧ (tWalk n (fun i => byteAt (s i))).pr.length = 0 := by
  unfold tCode at h
  by_cases h1 : 4 ≤ n ∧ n ≤ 128 ∧ ∀ i, i < n → (s i).size = 32
  · rw [if_pos h1] at h
    by_cases h2 : (tWalk n (fun i => byteAt (s i))).pr.length = 0
    · exact ⟨h1, h2⟩
    · rw [if_neg h2] at h; cases h
  · rw [if_neg h1] at h; cases h
theorem tCode_le (n : Nat) (s : Nat → ByteArray) : tCode n s ≤ 10 := by
  unfold tCode
  split
  · split <;> omega
  · omega
end Go.Proofs.YtjbpibapbonkpaaGreatDoor
