/-
  A map from integers to values of any kind, in a map of the call's own: looked up and stored into.
-/
import Derived.Test.YtmgcaiilocifbaaGreatDoorBase
import Derived.Maps.Own
import Derived.Maps.Views
import Derived.Maps.OwnSet
import Derived.Maps.Range
import Derived.Carry
namespace Go.Proofs.YtmgcaiilocifbaaGreatDoor
open Go Go.ChangeShapes Go.WideShapes Go.ChangeAt Go.RowKit lib
set_option linter.unusedVariables false
set_option linter.unusedSimpArgs false
set_option maxRecDepth 100000
/-- a value reads as itself -/
def asV (v : Value) : Option (DataW Value × List MemPlace) := some (.held v, [])
theorem asV_inv {v : Value} {d : DataW Value} {ps : List MemPlace} (h : asV v = some (d, ps)) : d = .held v := by
  unfold asV at h
  simp only [Option.some.injEq, Prod.mk.injEq] at h
  exact h.1.symm
def isI64 (x : Int) : Prop := (Lit.int .i64 x).wf = true
theorem isI64_of {x : Int} (h : -1099511627776 ≤ x) (h2 : x ≤ 1099511627776) : isI64 x := by
  have h1 : IntKind.i64.min = -9223372036854775808 := by decide
  have h2 : IntKind.i64.max = 9223372036854775807 := by decide
  simp only [isI64, Lit.wf, h1, h2, Bool.and_eq_true, decide_eq_true_eq]
  omega
section
variable {P : Program} {k e t : TypeId} {w w' : World} {b cnt : Nat} {F G : Int → Option Value}
/-- the map at block b holds what F says -/
def VMap (P : Program) (k : TypeId) (w : World) (b cnt : Nat) (F : Int → Option Value) : Prop :=
  ∃ D : DataW Value, w.ownsMap P k asV b cnt D ∧ Maps.IsMap D ∧ ∀ x, isI64 x → Maps.has D (.int .i64 x) = (F x).isSome ∧ ∀ z, D.atKey (.int .i64 x) (.held z) = .held ((F x).getD z)
theorem VMap.made (w : World) : VMap P k (w.alloc (.map #[] 0)) w.heap.size 0 (fun _ => none) := ⟨.map [], World.ownsMap_made w P k _, Maps.isMap_empty, fun x _ => ⟨rfl, fun z => rfl⟩⟩
theorem VMap.lt (h : VMap P k w b cnt F) : b < w.heap.size := by obtain ⟨D, ho, _⟩ := h; exact ho.lt
theorem VMap.mono {cnt' : Nat} (h : VMap P k w b cnt F) (hn : cnt ≤ cnt') : VMap P k w b cnt' F := by obtain ⟨D, ho, hD⟩ := h; exact ⟨D, ho.mono hn, hD⟩
theorem VMap.congr (h : VMap P k w b cnt F) (hq : ∀ x, isI64 x → F x = G x) : VMap P k w b cnt G := by
  obtain ⟨D, ho, hD, hx⟩ := h
  exact ⟨D, ho, hD, fun x hi => by rw [← hq x hi]; exact hx x hi⟩
theorem VMap.below (h : VMap P k w b cnt F) (hb : Below w.heap.size w w') : VMap P k w' b cnt F := by
  obtain ⟨D, ho, hD⟩ := h
  exact ⟨D, ho.kept (row := none) ⟨hb.os, hb.tape, hb.output, hb.size, fun i hi _ => hb.block i hi⟩ (by simp), hD⟩
theorem VMap.grown {row : Option Nat} (h : VMap P k w b cnt F) (hg : w.grownBy w' row) (hne : some b ≠ row) : VMap P k w' b cnt F := by
  obtain ⟨D, ho, hD⟩ := h
  exact ⟨D, ho.kept hg hne, hD⟩
theorem VMap.drew (h : VMap P k w b cnt F) : VMap P k w.drew b cnt F := h
theorem VMap.drewN (h : VMap P k w b cnt F) (n : Nat) : VMap P k (w.drewN n) b cnt F := h
theorem VMap.look (h : VMap P k w b cnt F) (hk : P.underlying k = some (.int .i64)) (ht : P.underlying t = some (.map k e)) {z : Value} (hz : (zeroValue e).run P w = .ok z w) (x : Int) (hx : isI64 x) :
    (Instr.lookup t (.map (some b)) (.int .i64 x) true).run P w = .ok (.tuple #[(F x).getD z, .bool (F x).isSome]) w := by
  obtain ⟨D, ho, hD, hq⟩ := h
  obtain ⟨v, ps, hrun, hv⟩ := ho.look_ok (Maps.int_keyed hk) ht hz (zd := .held z) (zp := []) rfl (Maps.keyOf_int_mk hk hx)
  obtain ⟨h1, h2⟩ := hq x hx
  rw [h2] at hv
  have := asV_inv hv
  injection this with hvv
  rw [hrun, h1, ← hvv]
theorem VMap.store (h : VMap P k w b cnt F) (hk : P.underlying k = some (.int .i64)) (ht : P.underlying t = some (.map k e)) (hc : cnt < maxLen) (x : Int) (hx : isI64 x) (v : Value) :
    ∃ w', (Instr.mapUpdate t (.map (some b)) (.int .i64 x) v).run P w = .ok () w' ∧ VMap P k w' b (cnt + 1) (fun y => if y = x then some v else F y) ∧ w.grownBy w' (some b) := by
  obtain ⟨D, ho, hD, hq⟩ := h
  obtain ⟨w', hrun, ho', hg⟩ := ho.update (Maps.int_keyed hk) ht hc (Maps.keyOf_int_mk hk hx) (show asV v = some (.held v, []) from rfl)
  refine ⟨w', hrun, ⟨_, ho', hD.put _ _, fun y hy => ?_⟩, hg⟩
  by_cases hyx : y = x
  · subst hyx
    exact ⟨by simp [Maps.has_put_same hD (show WideAt.IsKeyLit (.int .i64 y) from trivial)], fun z => by simp [Maps.atKey_put_same hD (show WideAt.IsKeyLit (.int .i64 y) from trivial)]⟩
  · have hne : (Lit.int .i64 y) ≠ (Lit.int .i64 x) := fun he => hyx (by injection he)
    obtain ⟨h1, h2⟩ := hq y hy
    exact ⟨by rw [Maps.has_put_other hne, h1]; simp [hyx], fun z => by rw [Maps.atKey_put_other hne, h2]; simp [hyx]⟩
theorem plain_boolI {v : Value} {z : DataW Unit × List MemPlace} (he : P.underlying e = some .bool) (h : plainElem P e v = some z) : ∃ x, v = .bool x ∧ z.1 = .lit (.bool x) := by
  unfold plainElem at h
  rw [he] at h
  cases v <;> simp at h
  subst h
  exact ⟨_, rfl, rfl⟩
end
end Go.Proofs.YtmgcaiilocifbaaGreatDoor
