/-
  The library's builder of strings: writing a slice of bytes.
-/
import Derived.Test.YtmgcaiilocifbaaGreatDoorBld
import Derived.Test.YtmgcaiilocifbaaGreatDoorAppR
namespace Go.Proofs.YtmgcaiilocifbaaGreatDoor
open Go Go.ChangeShapes Go.WideShapes Go.ChangeAt Go.RowKit lib
set_option linter.unusedVariables false
set_option maxRecDepth 100000
theorem copyCheck_keep {B b : Nat} {bs : List Value} {w : World} (h : Lib.IsBuilder 90 5 B b bs w) :
    Calls Tryz.prog 74 #[.pointer (some ⟨b, 0, none⟩)] w fun e w' => e = .returned (.tuple #[]) ∧ Lib.BuilderAt 90 5 B b (.pointer (some ⟨b, 0, none⟩)) bs w' ∧ Below B w w' ∧ ∀ q, q ≠ b → w'.heap[q]? = w.heap[q]? := by
  rcases h with h | h
  · refine (copyCheck_fresh h.cell0 h.shape h.frozen0).mono ?_
    rintro e w' ⟨rfl, rfl⟩
    exact ⟨rfl, h.used _, (Below.refl B w).setCell (p := ⟨b, 0, none⟩) h.1 _, fun q hq => Below.heap_setCell w ⟨b, 0, none⟩ _ q hq⟩
  · refine (copyCheck_used h.cell0).mono ?_
    rintro e w' ⟨rfl, rfl⟩
    exact ⟨rfl, h, Below.refl B _, fun q hq => rfl⟩
end Go.Proofs.YtmgcaiilocifbaaGreatDoor
