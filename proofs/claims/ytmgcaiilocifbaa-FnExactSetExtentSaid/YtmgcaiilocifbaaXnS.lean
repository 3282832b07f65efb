/-
  Disks of extents: an entry is read: the reference's side.
-/
import Derived.Test.YtmgcaiilocifbaaXnT
import Derived.Test.YtmgcaiilocifbaaXvS
import Derived.Test.YtmgcaiilocifbaaXoS
import Derived.Deep.DeepCutAuto
import Derived.Deep.CutBlock
namespace Go.Proofs.Ytmgcaiilocifbaa
open Go Go.ChangeShapes Go.WideShapes Go.ChangeAt Go.RowKit lib
set_option linter.unusedVariables false
set_option linter.unusedSimpArgs false
set_option maxRecDepth 100000
/-- the texts of sixteen bytes are one -/
theorem bstr_beqX (m : Nat) (x y : Nat → UInt8) (B : Bool) (h : B = true ↔ ∀ i, i < m → x i = y i) : ((bstr m x).toList == (bstr m y).toList) = B := by
  cases B with
  | true => exact str_eq_true (bsx_congr (h.1 rfl))
  | false =>
    refine str_eq_false fun he => ?_
    have : false = true := h.2 fun i hi => by
      have := congrArg (fun s => byteAt s i) he
      simpa only [bsx_at hi] using this
    cases this
end Go.Proofs.Ytmgcaiilocifbaa
