/-
  Disks of extents: the used entries in a map: the program's side.
-/
import Derived.Test.YtmgcaiilocifbaaXmT
import Derived.Deep.DeepCutAuto
import Derived.Deep.CutBlock
import Derived.Carry
namespace Go.Proofs.Ytmgcaiilocifbaa
open Go Go.ChangeShapes Go.WideShapes Go.ChangeAt Go.RowKit lib
set_option linter.unusedVariables false
set_option linter.unusedSimpArgs false
set_option maxRecDepth 100000
theorem xEnt_good {r : Ending} {w w' : World} {z : Nat} {v : Nat → UInt8} (h : XEnt r w w' z v) (hg : xGood z v) : ∃ (A : Option Addr) (c : Nat), r = .returned (.tuple #[(xent z v).val A c, .bool true]) ∧ IntR w.heap.size w' A c (xent z v).bl ∧ Below w.heap.size w w' := by
  obtain ⟨b, A, c, h1, h2, h3, h4⟩ := h
  rw [h1.2 hg] at h2
  exact ⟨A, c, h2, h3, h4⟩
theorem xEnt_bad {r : Ending} {w w' : World} {z : Nat} {v : Nat → UInt8} (h : XEnt r w w' z v) (hg : ¬ xGood z v) : ∃ (A : Option Addr) (c : Nat), r = .returned (.tuple #[xe0.val A c, .bool false]) ∧ Below w.heap.size w w' := by
  obtain ⟨b, A, c, h1, h2, h3, h4⟩ := h
  have hb : b = false := by
    cases b with
    | false => rfl
    | true => exact absurd (h1.1 rfl) hg
  rw [hb, xent_bad hg] at h2
  exact ⟨A, c, h2, h4⟩
def isGone (z : Nat) (U : Nat → UInt8) (k : Nat) : Prop := (xen z U k).st = 229
end Go.Proofs.Ytmgcaiilocifbaa
