/-
  Disks of chains: a name is looked for: plain.
-/
import Derived.Test.YtgmmigbaaigldaaGreatDoorGoneTop
namespace Go.Proofs.YtgmmigbaaigldaaGreatDoor
open Go Go.ChangeShapes Go.WideShapes Go.ChangeAt Go.RowKit lib
set_option linter.unusedVariables false
set_option maxRecDepth 100000
/-- whether one of the first m entries is used and bears a name -/
def namedTo (n z : Nat) (U : Nat → UInt8) (nm : ByteArray) (m : Nat) : Prop := ∃ i, i < m ∧ (entK n z U i).us = true ∧ (entK n z U i).nm = nm
theorem namedTo_succ {n z : Nat} {U : Nat → UInt8} {nm : ByteArray} {m : Nat} (h : ¬ namedTo n z U nm m) (h2 : ¬ ((entK n z U m).us = true ∧ (entK n z U m).nm = nm)) : ¬ namedTo n z U nm (m + 1) := by
  rintro ⟨i, hi, h3⟩
  rcases Nat.lt_or_ge i m with h4 | h4
  · exact h ⟨i, h4, h3⟩
  · obtain rfl : i = m := by omega
    exact h2 h3
theorem named_same {n z : Nat} {U : Nat → UInt8} {nm : ByteArray} {m : Nat} (h : (entK n z U m).us = false) : namedTo n z U nm m ↔ namedTo n z U nm (m + 1) := by
  constructor
  · rintro ⟨i, hi, h3⟩
    exact ⟨i, by omega, h3⟩
  · rintro ⟨i, hi, h3⟩
    rcases Nat.lt_or_ge i m with h4 | h4
    · exact ⟨i, h4, h3⟩
    · obtain rfl : i = m := by omega
      rw [h] at h3
      cases h3.1
theorem named_more {n z : Nat} {U : Nat → UInt8} {nm : ByteArray} {m : Nat} (h : (entK n z U m).us = true) : namedTo n z U nm (m + 1) ↔ (namedTo n z U nm m ∨ nm = (entK n z U m).nm) := by
  constructor
  · rintro ⟨i, hi, h3⟩
    rcases Nat.lt_or_ge i m with h4 | h4
    · exact .inl ⟨i, h4, h3⟩
    · obtain rfl : i = m := by omega
      exact .inr h3.2.symm
  · rintro (⟨i, hi, h3⟩ | h1)
    · exact ⟨i, by omega, h3⟩
    · exact ⟨m, by omega, h, h1.symm⟩
end Go.Proofs.YtgmmigbaaigldaaGreatDoor
