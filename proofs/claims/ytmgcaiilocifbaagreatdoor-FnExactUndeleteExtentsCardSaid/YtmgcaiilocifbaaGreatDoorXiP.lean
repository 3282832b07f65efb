/-
  Disks of extents: a set of numbers in a map; the entries of a map, one after another: plain.
-/
import Derived.Test.YtmgcaiilocifbaaGreatDoorXmT
import Derived.Maps.RangeWalk
namespace Go.Proofs.YtmgcaiilocifbaaGreatDoor
open Go Go.ChangeShapes Go.WideShapes Go.ChangeAt Go.RowKit lib
set_option linter.unusedVariables false
set_option linter.unusedSimpArgs false
set_option maxRecDepth 100000
section
variable {P : Program} {k e t : TypeId} {w w' : World} {b cnt : Nat} {Q : Nat → Prop}
/-- the map at block b holds true at the numbers of Q -/
def BSet (P : Program) (k e : TypeId) (w : World) (b cnt : Nat) (Q : Nat → Prop) : Prop :=
  ∃ D : DataW Unit, w.ownsMap P k (plainElem P e) b cnt D ∧ Maps.IsMap D ∧ ∀ x : Nat, ∃ v, D.atKey (.int .i64 (x : Int)) (.lit (.bool false)) = .lit (.bool v) ∧ (v = true ↔ Q x)
theorem BSet.made (w : World) : BSet P k e (w.alloc (.map #[] 0)) w.heap.size 0 (fun _ => False) := ⟨.map [], World.ownsMap_made w P k _, Maps.isMap_empty, fun x => ⟨false, rfl, by simp⟩⟩
theorem BSet.lt (h : BSet P k e w b cnt Q) : b < w.heap.size := by obtain ⟨D, ho, _⟩ := h; exact ho.lt
theorem BSet.mono {cnt' : Nat} (h : BSet P k e w b cnt Q) (hn : cnt ≤ cnt') : BSet P k e w b cnt' Q := by obtain ⟨D, ho, hD⟩ := h; exact ⟨D, ho.mono hn, hD⟩
theorem BSet.congr {Q' : Nat → Prop} (h : BSet P k e w b cnt Q) (hq : ∀ x, Q x ↔ Q' x) : BSet P k e w b cnt Q' := by
  obtain ⟨D, ho, hD, hx⟩ := h
  exact ⟨D, ho, hD, fun x => by obtain ⟨v, h1, h2⟩ := hx x; exact ⟨v, h1, h2.trans (hq x)⟩⟩
theorem BSet.below (h : BSet P k e w b cnt Q) (hb : Below w.heap.size w w') : BSet P k e w' b cnt Q := by
  obtain ⟨D, ho, hD⟩ := h
  exact ⟨D, ho.kept (row := none) ⟨hb.os, hb.tape, hb.output, hb.size, fun i hi _ => hb.block i hi⟩ (by simp), hD⟩
theorem BSet.grown {row : Option Nat} (h : BSet P k e w b cnt Q) (hg : w.grownBy w' row) (hne : some b ≠ row) : BSet P k e w' b cnt Q := by
  obtain ⟨D, ho, hD⟩ := h
  exact ⟨D, ho.kept hg hne, hD⟩
theorem BSet.drew (h : BSet P k e w b cnt Q) : BSet P k e w.drew b cnt Q := h
theorem wfI {x : Nat} (hx : x < 1000) : (Lit.int .i64 (x : Int)).wf = true := by
  have h1 : IntKind.i64.min = -9223372036854775808 := by decide
  have h2 : IntKind.i64.max = 9223372036854775807 := by decide
  simp [Lit.wf]
  omega
theorem BSet.look (h : BSet P k e w b cnt Q) (hk : P.underlying k = some (.int .i64)) (ht : P.underlying t = some (.map k e)) (he : P.underlying e = some .bool) (hz : (zeroValue e).run P w = .ok (.bool false) w) (x : Nat) (hx : x < 1000) :
    ∃ v, (Instr.lookup t (.map (some b)) (.int .i64 (x : Int)) false).run P w = .ok (.bool v) w ∧ (v = true ↔ Q x) := by
  obtain ⟨D, ho, hD, hq⟩ := h
  obtain ⟨v, ps, hrun, hv⟩ := ho.lookup (Maps.int_keyed hk) ht hz (plainElem_bool he false) (Maps.keyOf_int_mk hk (wfI hx))
  obtain ⟨v0, hv0, hv1⟩ := hq x
  rw [hv0] at hv
  obtain ⟨y, rfl, hy⟩ := plain_boolI he hv
  simp only [DataW.lit.injEq, Lit.bool.injEq] at hy
  subst hy
  exact ⟨_, hrun, hv1⟩
theorem BSet.store (h : BSet P k e w b cnt Q) (hk : P.underlying k = some (.int .i64)) (ht : P.underlying t = some (.map k e)) (he : P.underlying e = some .bool) (hc : cnt < maxLen) (x : Nat) (hx : x < 1000) (v : Bool) :
    ∃ w', (Instr.mapUpdate t (.map (some b)) (.int .i64 (x : Int)) (.bool v)).run P w = .ok () w' ∧ BSet P k e w' b (cnt + 1) (fun y => if y = x then v = true else Q y) ∧ w.grownBy w' (some b) := by
  obtain ⟨D, ho, hD, hq⟩ := h
  obtain ⟨w', hrun, ho', hg⟩ := ho.update (Maps.int_keyed hk) ht hc (Maps.keyOf_int_mk hk (wfI hx)) (plainElem_bool he v)
  refine ⟨w', hrun, ⟨_, ho', hD.put _ _, fun y => ?_⟩, hg⟩
  by_cases hy : y = x
  · subst hy
    exact ⟨v, Maps.atKey_put_same hD (by trivial) _ _, by simp⟩
  · obtain ⟨v0, h0, h1⟩ := hq y
    refine ⟨v0, ?_, ?_⟩
    · rw [Maps.atKey_put_other (fun he => hy ?_), h0]
      injection he with _ he
      omega
    · rw [h1]; simp [hy]
end
section
variable {P : Program} {kt e t : TypeId} {lo m k : Nat} {w w' : World} {en : Nat → XE} {us : Nat → Prop} {a : Nat → Option Addr} {cc : Nat → Nat}
/-- the map's datum -/
theorem XMapA.data (h : XMapA P kt lo w m k en us a cc) : ∃ D : DataW Value, w.ownsMap P kt asV m k D ∧ ∀ x, isI64 x → Maps.has D (.int .i64 x) = (usedF en us a cc k x).isSome ∧ ∀ z, D.atKey (.int .i64 x) (.held z) = .held ((usedF en us a cc k x).getD z) := by
  obtain ⟨⟨cnt, h1, D, ho, hD, hx⟩, _⟩ := h
  exact ⟨D, ho.mono h1, hx⟩
open Classical in
/-- what an entry that comes out is -/
theorem entry_is {D : DataW Value} (hD : ∀ x, isI64 x → Maps.has D (.int .i64 x) = (usedF en us a cc k x).isSome ∧ ∀ z, D.atKey (.int .i64 x) (.held z) = .held ((usedF en us a cc k x).getD z))
    (hk : P.underlying kt = some (.int .i64)) {x : Int} {c : Value} {kl : Lit} {y : DataW Value × List MemPlace} (hkey : keyOf P kt (.int .i64 x) = some kl) (hR : asV c = some y) (hat : ∀ zd, D.atKey kl zd = y.1) :
    ∃ j : Nat, j < k ∧ us j ∧ x = (j : Int) ∧ kl = .int .i64 (j : Int) ∧ c = (en j).val (a j) (cc j) := by
  obtain ⟨x', e1, rfl, hw⟩ := Maps.keyOf_int_inv hk hkey
  injection e1 with _ e1
  subst e1
  have hy : y.1 = .held c := by
    obtain ⟨d, ps⟩ := y
    exact asV_inv hR
  have h2 := (hD x hw).2
  have hF : usedF en us a cc k x = some c := by
    cases hf : usedF en us a cc k x with
    | some v =>
      have := h2 c
      rw [hat, hy, hf] at this
      simp only [Option.getD_some, DataW.held.injEq] at this
      rw [this]
    | none =>
      have q1 := h2 (.bool true)
      have q2 := h2 (.bool false)
      rw [hat, hy, hf] at q1 q2
      simp only [Option.getD_none, DataW.held.injEq] at q1 q2
      rw [q1] at q2
      cases q2
  unfold usedF at hF
  split at hF
  · rename_i hc
    injection hF with hF
    refine ⟨x.toNat, hc.2.1, hc.2.2, by omega, by rw [show ((x.toNat : Nat) : Int) = x by omega], hF.symm⟩
  · cases hF
open Classical in
theorem has_used {D : DataW Value} (hD : ∀ x, isI64 x → Maps.has D (.int .i64 x) = (usedF en us a cc k x).isSome ∧ ∀ z, D.atKey (.int .i64 x) (.held z) = .held ((usedF en us a cc k x).getD z)) {j : Nat} (hj : j < k) (hu : us j) (hk : k < 100000) : Maps.has D (.int .i64 (j : Int)) = true := by
  rw [(hD _ (isI64_of (by omega) (by omega))).1]
  unfold usedF
  rw [if_pos ⟨by omega, by omega, by rw [show ((j : Nat) : Int).toNat = j by omega]; exact hu⟩]
  rfl
theorem left_step {left : Lit → Bool} {i j : Nat} (hj : j < 100000) : ((left (.int .i64 (i : Int)) && !(Lit.int .i64 (i : Int)).sameKey (.int .i64 (j : Int))) = false) ↔ (left (.int .i64 (i : Int)) = false ∨ i = j) := by
  have hs : (Lit.int .i64 (i : Int)).sameKey (.int .i64 (j : Int)) = decide (i = j) := by
    by_cases h : i = j
    · subst h
      rw [WideAt.sameKey_self (show WideAt.IsKeyLit (.int .i64 (i : Int)) from trivial)]
      simp
    · have : (Lit.int .i64 (i : Int)).sameKey (.int .i64 (j : Int)) = false := Maps.sameKey_ne (fun e => h (by injection e with _ e; omega))
      rw [this]
      simp [h]
  rw [hs]
  cases left (.int .i64 (i : Int)) <;> simp
end
end Go.Proofs.YtmgcaiilocifbaaGreatDoor
