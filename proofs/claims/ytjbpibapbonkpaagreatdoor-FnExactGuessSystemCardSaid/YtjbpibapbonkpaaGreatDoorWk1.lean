/-
  A drawn region walked by hand: a stronger word on the worlds from one place on.
-/
import Derived.Test.YtjbpibapbonkpaaGreatDoorBase
import Derived.Deep.RegionHeld3
namespace Go.Proofs.YtjbpibapbonkpaaGreatDoor
open Go Go.ChangeShapes Go.WideShapes Go.ChangeAt Go.RowKit lib
set_option linter.unusedVariables false
set_option linter.unusedSimpArgs false
set_option maxRecDepth 100000
theorem wpAnyH_weak {P : Program} {md : Region.Mode} {ops : Array Oper} {Q : Exit → Act → World → Prop} {S S2 : World → Prop} (h : ∀ w, S2 w → S w) :
    ∀ (fuel : Nat) (listed : Array Bool) (a : Act) (w : World), wpAnyH P md ops Q S2 fuel listed a w → wpAnyH P md ops Q S fuel listed a w
  | 0, _, _, _, x => x
  | fuel + 1, _, _, _, x => ⟨x.1, fun i hi => wpOp_mono (fun a' w' y => ⟨h _ y.1, wpAnyH_weak h fuel _ a' w' y.2⟩) (x.2 i hi)⟩
end Go.Proofs.YtjbpibapbonkpaaGreatDoor
