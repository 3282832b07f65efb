/-
  A set of texts in a map of the call's own: looked up and stored into.
-/
import Derived.Test.YtiefcgmghkkbmaaGreatDoorBase
import Derived.Maps.Own
import Derived.Maps.Views
import Derived.StringKeys
import Derived.Carry
namespace Go.Proofs.YtiefcgmghkkbmaaGreatDoor
open Go Go.ChangeShapes Go.WideShapes Go.ChangeAt Go.RowKit lib
set_option linter.unusedVariables false
set_option maxRecDepth 100000
section
variable {P : Program} {k e t : TypeId} {w w' : World} {b cnt : Nat} {Q : ByteArray → Prop}
/-- the map at block b holds true at the texts of Q, and at no other -/
def NSet (P : Program) (k e : TypeId) (w : World) (b cnt : Nat) (Q : ByteArray → Prop) : Prop :=
  ∃ D : DataW Unit, w.ownsMap P k (plainElem P e) b cnt D ∧ Maps.IsMap D ∧ ∀ x : ByteArray, ∃ v, D.atKey (.string x.data.toList) (.lit (.bool false)) = .lit (.bool v) ∧ (v = true ↔ Q x)
theorem NSet.made (w : World) : NSet P k e (w.alloc (.map #[] 0)) w.heap.size 0 (fun _ => False) := ⟨.map [], World.ownsMap_made w P k _, Maps.isMap_empty, fun x => ⟨false, rfl, by simp⟩⟩
theorem NSet.lt (h : NSet P k e w b cnt Q) : b < w.heap.size := by obtain ⟨D, ho, _⟩ := h; exact ho.lt
theorem NSet.mono {cnt' : Nat} (h : NSet P k e w b cnt Q) (hn : cnt ≤ cnt') : NSet P k e w b cnt' Q := by obtain ⟨D, ho, hD⟩ := h; exact ⟨D, ho.mono hn, hD⟩
theorem NSet.congr {Q' : ByteArray → Prop} (h : NSet P k e w b cnt Q) (hq : ∀ x, Q x ↔ Q' x) : NSet P k e w b cnt Q' := by
  obtain ⟨D, ho, hD, hx⟩ := h
  exact ⟨D, ho, hD, fun x => by obtain ⟨v, h1, h2⟩ := hx x; exact ⟨v, h1, h2.trans (hq x)⟩⟩
theorem NSet.below (h : NSet P k e w b cnt Q) (hb : Below w.heap.size w w') : NSet P k e w' b cnt Q := by
  obtain ⟨D, ho, hD⟩ := h
  exact ⟨D, ho.kept (row := none) ⟨hb.os, hb.tape, hb.output, hb.size, fun i hi _ => hb.block i hi⟩ (by simp), hD⟩
theorem NSet.grown {row : Option Nat} (h : NSet P k e w b cnt Q) (hg : w.grownBy w' row) (hne : some b ≠ row) : NSet P k e w' b cnt Q := by
  obtain ⟨D, ho, hD⟩ := h
  exact ⟨D, ho.kept hg hne, hD⟩
theorem NSet.drew (h : NSet P k e w b cnt Q) : NSet P k e w.drew b cnt Q := h
theorem plain_bool {v : Value} {z : DataW Unit × List MemPlace} (he : P.underlying e = some .bool) (h : plainElem P e v = some z) : ∃ x, v = .bool x ∧ z.1 = .lit (.bool x) := by
  unfold plainElem at h
  rw [he] at h
  cases v <;> simp at h
  subst h
  exact ⟨_, rfl, rfl⟩
theorem NSet.look (h : NSet P k e w b cnt Q) (hk : P.underlying k = some .string) (ht : P.underlying t = some (.map k e)) (he : P.underlying e = some .bool) (hz : (zeroValue e).run P w = .ok (.bool false) w) (x : ByteArray) (hx : x.size ≤ maxLen) :
    ∃ v, (Instr.lookup t (.map (some b)) (.string x) false).run P w = .ok (.bool v) w ∧ (v = true ↔ Q x) := by
  obtain ⟨D, ho, hD, hq⟩ := h
  obtain ⟨v, ps, hrun, hv⟩ := ho.lookup (Maps.string_keyed hk) ht hz (plainElem_bool he false) (WideMaps.keyOf_string_mk hk hx)
  obtain ⟨v0, hv0, hv1⟩ := hq x
  rw [hv0] at hv
  obtain ⟨y, rfl, hy⟩ := plain_bool he hv
  simp only [DataW.lit.injEq, Lit.bool.injEq] at hy
  subst hy
  exact ⟨_, hrun, hv1⟩
theorem NSet.store (h : NSet P k e w b cnt Q) (hk : P.underlying k = some .string) (ht : P.underlying t = some (.map k e)) (he : P.underlying e = some .bool) (hc : cnt < maxLen) (x : ByteArray) (hx : x.size ≤ maxLen) :
    ∃ w', (Instr.mapUpdate t (.map (some b)) (.string x) (.bool true)).run P w = .ok () w' ∧ NSet P k e w' b (cnt + 1) (fun y => Q y ∨ y = x) ∧ w.grownBy w' (some b) := by
  obtain ⟨D, ho, hD, hq⟩ := h
  obtain ⟨w', hrun, ho', hg⟩ := ho.update (Maps.string_keyed hk) ht hc (WideMaps.keyOf_string_mk hk hx) (plainElem_bool he true)
  refine ⟨w', hrun, ⟨_, ho', hD.put _ _, fun y => ?_⟩, hg⟩
  by_cases hy : y = x
  · subst hy
    exact ⟨true, Maps.atKey_put_same hD (by trivial) _ _, by simp⟩
  · obtain ⟨v0, h0, h1⟩ := hq y
    refine ⟨v0, ?_, ?_⟩
    · rw [Maps.atKey_put_other (fun he => hy ?_), h0]
      injection he with he
      cases y; cases x
      simp only at he
      congr 1
      exact Array.toList_inj.1 he
    · rw [h1]; simp [hy]
end
end Go.Proofs.YtiefcgmghkkbmaaGreatDoor
