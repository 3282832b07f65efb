/-
  Hexadecimal digits read, the reference's side.
-/
import Derived.Test.YtdofpkdemmngeaaRfxH
namespace Go.Proofs.Ytdofpkdemmngeaa
open Go Go.ChangeShapes Go.WideShapes Go.ChangeAt Go.RowKit lib
set_option linter.unusedVariables false
set_option maxRecDepth 100000
def UnhOutS (s : ByteArray) (r : Ending) (w w' : World) : Prop :=
  ((∃ d, unhex s.data.toList = some d ∧ s.size ≤ 8192 ∧ r = .returned (.tuple #[.string ⟨d.toArray⟩, .bool true])) ∨ ((unhex s.data.toList = none ∨ 8192 < s.size) ∧ r = .returned (.tuple #[.string ⟨#[]⟩, .bool false]))) ∧ Below w.heap.size w w'
theorem UnhOutS.bad {s : ByteArray} {w w' : World} (h : unhex s.data.toList = none ∨ 8192 < s.size) (hb : Below w.heap.size w w') : UnhOutS s (.returned (.tuple #[.string ⟨#[]⟩, .bool false])) w w' := ⟨.inr ⟨h, rfl⟩, hb⟩
theorem UnhOutS.good {s : ByteArray} {k : Nat} {w w' : World} (hs : s.size ≤ 8192) (hk : s.size = 2 * k) (h : okD s (2 * k)) (hb : Below w.heap.size w w') : UnhOutS s (.returned (.tuple #[.string (bstr k (hvU s)), .bool true])) w w' := ⟨.inl ⟨_, unhex_good hk h, hs, rfl⟩, hb⟩
end Go.Proofs.Ytdofpkdemmngeaa
