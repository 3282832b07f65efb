/-
  Disks of chains: OwnersOf, LostBlocks, both sides.
-/
import Derived.Test.YtjoagdmlihdbjaaDoorWalksS
namespace Go.Proofs.YtjoagdmlihdbjaaDoor
open Go Go.ChangeShapes Go.WideShapes Go.ChangeAt Go.RowKit lib
set_option linter.unusedVariables false
set_option maxRecDepth 100000
noncomputable def ownersOf (n : Nat) (s : Nat → ByteArray) : Nat → Int := ownsN n (s 0).size (dataN n (s 0).size) (joinU (s 0).size s) (entsN n)
/-- the lost blocks among t, t + 1, .. -/
def lostN (own : Nat → Int) (U : Nat → UInt8) (z t : Nat) : Nat → List Nat
  | 0 => []
  | i + 1 => lostN own U z t i ++ (if own (t + i) < 0 ∧ U (z + (t + i)) ≠ 0 ∧ U (z + (t + i)) ≠ 254 then [t + i] else [])
theorem lostN_hit {own : Nat → Int} {U : Nat → UInt8} {z t i : Nat} (h : own (t + i) < 0 ∧ U (z + (t + i)) ≠ 0 ∧ U (z + (t + i)) ≠ 254) : lostN own U z t (i + 1) = lostN own U z t i ++ [t + i] := by simp only [lostN, if_pos h]
theorem lostN_miss {own : Nat → Int} {U : Nat → UInt8} {z t i : Nat} (h : ¬ (own (t + i) < 0 ∧ U (z + (t + i)) ≠ 0 ∧ U (z + (t + i)) ≠ 254)) : lostN own U z t (i + 1) = lostN own U z t i := by simp only [lostN, if_neg h, List.append_nil]
theorem lostN_le (own : Nat → Int) (U : Nat → UInt8) (z t : Nat) : ∀ i, (lostN own U z t i).length ≤ i
  | 0 => Nat.le_refl _
  | i + 1 => by
    have := lostN_le own U z t i
    simp only [lostN, List.length_append]
    split <;> simp <;> omega
noncomputable def lostOf (n : Nat) (s : Nat → ByteArray) : List Nat := lostN (ownersOf n s) (joinU (s 0).size s) (s 0).size (dataN n (s 0).size) (n - dataN n (s 0).size)
/-- what the walks ask of a disk -/
theorem walk_fit {n : Nat} {s : Nat → ByteArray} (h : ShapeS 8 n s) : n ≤ 128 ∧ (s 0).size + n ≤ n * (s 0).size ∧ n * (s 0).size ≤ 4096 ∧ entsN n ≤ 16 ∧ dataN n (s 0).size ≤ n ∧ ∀ k, k < entsN n → dirN n (s 0).size * (s 0).size + k * 12 + 12 ≤ n * (s 0).size := by
  have hf := shape_facts h
  refine ⟨hf.2.1, by have := hf.2.2.1; omega, by have := hf.2.2.2.1; omega, by unfold entsN; omega, hf.1, fun k hk => (fit_facts h hk).1⟩
end Go.Proofs.YtjoagdmlihdbjaaDoor
