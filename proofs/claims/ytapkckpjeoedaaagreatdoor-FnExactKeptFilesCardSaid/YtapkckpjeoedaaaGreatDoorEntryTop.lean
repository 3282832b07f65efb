/-
  Disks of chains: SetEntry, both sides.
-/
import Derived.Test.YtapkckpjeoedaaaGreatDoorEntC
namespace Go.Proofs.YtapkckpjeoedaaaGreatDoor
open Go Go.ChangeShapes Go.WideShapes Go.ChangeAt Go.RowKit lib
set_option linter.unusedVariables false
set_option maxRecDepth 100000
theorem validE_facts {nm : ByteArray} {f l : Int} {us de : Bool} (h : validE nm f l us de) : nm.size ≤ 8 ∧ (0 ≤ f ∧ f ≤ 255) ∧ (0 ≤ l ∧ l ≤ 512) := by
  rcases h with ⟨rfl, rfl, rfl, _, _⟩ | ⟨_, hn, hf, hl⟩
  · exact ⟨by decide, by omega, by omega⟩
  · exact ⟨hn.hi, hf, hl⟩
/-- a disk with an entry stored -/
def setE (n z : Nat) (U : Nat → UInt8) (k : Nat) (nm : ByteArray) (f l : Nat) (us de : Bool) : Nat → UInt8 := putE U (dirN n z * z + k * 12) nm f l us de
theorem fit_facts {n k : Nat} {s : Nat → ByteArray} (h : ShapeS 8 n s) (hk : k < entsN n) : dirN n (s 0).size * (s 0).size + k * 12 + 12 ≤ n * (s 0).size ∧ k ≤ 1024 ∧ n * (s 0).size ≤ 1048576 := by
  have hl : LayOk n (s 0).size := ⟨h.lo, h.hi, h.sz⟩
  have := shape_facts h
  refine ⟨dir_fits hl hk, ?_, by omega⟩
  unfold entsN at hk
  omega
end Go.Proofs.YtapkckpjeoedaaaGreatDoor
