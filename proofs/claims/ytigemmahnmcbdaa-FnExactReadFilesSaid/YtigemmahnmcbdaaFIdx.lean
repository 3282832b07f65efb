/-
  A file in a list of files: slices.Index, slices.Contains.
-/
import Derived.Test.YtigemmahnmcbdaaBase
import Derived.Deep.DeepCutAuto
import Derived.Deep.Draws
import Derived.BigQuiet
namespace Go.Proofs.Ytigemmahnmcbdaa
open Go Go.ChangeShapes Go.WideShapes Go.ChangeAt Go.RowKit lib
set_option linter.unusedVariables false
set_option maxRecDepth 100000
/-- a list of files: names and data -/
def filS (s : Nat → ByteArray) (n : Nat) : List (ByteArray × ByteArray) := (List.range n).map fun i => (s (i * 2), s (i * 2 + 1))
theorem filS_len (s : Nat → ByteArray) (n : Nat) : (filS s n).length = n := by simp [filS]
theorem filS_mem {s : Nat → ByteArray} {n : Nat} {f : ByteArray × ByteArray} : f ∈ filS s n ↔ ∃ i, i < n ∧ (s (i * 2), s (i * 2 + 1)) = f := by
  unfold filS
  simp only [List.mem_map, List.mem_range]
theorem filS_take {s : Nat → ByteArray} {n k : Nat} (h : k < n) : (filS s n).take (k + 1) = (filS s n).take k ++ [(s (k * 2), s (k * 2 + 1))] := by
  rw [List.take_add_one, List.getElem?_eq_getElem (by rw [filS_len]; exact h), Option.toList_some]
  simp [filS]
theorem filS_drop {s : Nat → ByteArray} {n k : Nat} (h : k < n) : (filS s n).drop k = (s (k * 2), s (k * 2 + 1)) :: (filS s n).drop (k + 1) := by
  rw [List.drop_eq_getElem_cons (by rw [filS_len]; exact h)]
  simp [filS]
end Go.Proofs.Ytigemmahnmcbdaa
