/-
  Names: at most eight letters, digits and lines, a letter first.
-/
import Derived.Test.YtcbiaeniagacfaaDoorBase
namespace Go.Proofs.YtcbiaeniagacfaaDoor
open Go Go.ChangeShapes Go.WideShapes Go.ChangeAt Go.RowKit lib
set_option linter.unusedVariables false
set_option maxRecDepth 100000
def letterN (x : Nat) : Prop := 65 ≤ x ∧ x ≤ 90
def digitN (x : Nat) : Prop := 48 ≤ x ∧ x ≤ 57
def charN (x : Nat) : Prop := letterN x ∨ digitN x ∨ x = 95
/-- a name -/
structure NameS (s : ByteArray) : Prop where
  lo : 1 ≤ s.size
  hi : s.size ≤ 8
  first : letterN (byteAt s 0).toNat
  all : ∀ i, i < s.size → charN (byteAt s i).toNat
end Go.Proofs.YtcbiaeniagacfaaDoor
