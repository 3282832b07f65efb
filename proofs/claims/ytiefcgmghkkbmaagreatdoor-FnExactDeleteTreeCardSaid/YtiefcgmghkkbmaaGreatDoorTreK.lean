/-
  Trees: what a walk leaves as it was: rows of other types, other maps, and all blocks below a place.
-/
import Derived.Test.YtiefcgmghkkbmaaGreatDoorTreP
import Derived.Test.YtiefcgmghkkbmaaGreatDoorMapP
import Derived.Lib.Builder
namespace Go.Proofs.YtiefcgmghkkbmaaGreatDoor
open Go Go.ChangeShapes Go.WideShapes Go.ChangeAt Go.RowKit lib
set_option linter.unusedVariables false
set_option maxRecDepth 100000
/-- a block that stays: a row of another type, or another map -/
def kpOk (T : List Nat) (m : Nat) (o : Option Obj) (i : Nat) : Prop := (∃ cs e fr, o = some (.cells cs e fr) ∧ e ∉ T) ∨ (∃ es cl, o = some (.map es cl) ∧ i ≠ m)
structure Kp (T : List Nat) (m B : Nat) (w w' : World) : Prop where
  os : w'.os = w.os
  tape : w'.tape = w.tape
  output : w'.output = w.output
  size : w.heap.size ≤ w'.heap.size
  block : ∀ i, i < w.heap.size → (i < B ∨ kpOk T m w.heap[i]? i) → w'.heap[i]? = w.heap[i]?
section
variable {T : List Nat} {m B : Nat} {w w' w2 : World}
theorem Kp.refl (T : List Nat) (m B : Nat) (w : World) : Kp T m B w w := ⟨rfl, rfl, rfl, Nat.le_refl _, fun _ _ _ => rfl⟩
theorem Kp.trans (h : Kp T m B w w') (k : Kp T m B w' w2) : Kp T m B w w2 :=
  ⟨k.os.trans h.os, k.tape.trans h.tape, k.output.trans h.output, Nat.le_trans h.size k.size, fun i hi hq => by
    have h1 := h.block i hi hq
    rw [← h1]
    exact k.block i (Nat.lt_of_lt_of_le hi h.size) (by rw [h1]; exact hq)⟩
theorem Kp.ofBelow (h : Below w.heap.size w w') : Kp T m B w w' := ⟨h.os, h.tape, h.output, h.size, fun i hi _ => h.block i hi⟩
theorem Kp.below (h : Kp T m B w w') (hB : B ≤ w.heap.size) : Below B w w' := ⟨h.os, h.tape, h.output, h.size, fun i hi => h.block i (by omega) (.inl hi)⟩
theorem Kp.drewN (h : Kp T m B w w') (k : Nat) : Kp T m B w (w'.drewN k) := ⟨h.os, h.tape, h.output, h.size, h.block⟩
theorem Kp.drew (h : Kp T m B w w') : Kp T m B w w'.drew := ⟨h.os, h.tape, h.output, h.size, h.block⟩
theorem Kp.ofDrewN (k : Nat) : Kp T m B w (w.drewN k) := (Kp.refl _ _ _ _).drewN k
theorem Kp.grown {g : Nat} {row : Option Nat} (hg : w.grownBy w' row) (hr : ∀ j, row = some j → B ≤ j ∧ ¬ kpOk T m w.heap[j]? j) : Kp T m B w w' :=
  ⟨hg.os, hg.tape, hg.output, hg.size, fun i hi hq => hg.block i hi (fun e => by
    obtain ⟨h1, h2⟩ := hr i e.symm
    rcases hq with h | h
    · omega
    · exact h2 h)⟩
theorem notOk_row {g e : Nat} {cs : Array Value} (h : Row w g e cs) (he : e ∈ T) : ¬ kpOk T m w.heap[g]? g := by
  obtain ⟨fr, h1, _⟩ := h
  rintro (⟨cs', e', fr', h2, h3⟩ | ⟨es, cl, h2, _⟩)
  · rw [h1] at h2
    injection h2 with h2
    injection h2 with _ h2
    subst h2
    exact h3 he
  · rw [h1] at h2
    injection h2 with h2
    cases h2
theorem Kp.set {g e i : Nat} {cs : Array Value} (h : Row w g e cs) (he : e ∈ T) (hB : B ≤ g) (v : Value) : Kp T m B w (w.setCell ⟨g, i, none⟩ v) :=
  Kp.grown (g := 0) (row := some g) (only_setCell (only_refl _ _) (.inl rfl) v) (fun j hj => by injection hj with hj; subst hj; exact ⟨hB, notOk_row h he⟩)
theorem notOk_own {e k n : Nat} {v : Value} {xs : List Value} (h : w.ownsRow B e k v n xs) (he : e ∈ T) : ∀ j, v.ownBlock = some j → B ≤ j ∧ ¬ kpOk T m w.heap[j]? j := fun j hj => by
  rcases h.2 with ⟨rfl, _⟩ | ⟨g, cap, cur, rfl, hB, hg, _⟩
  · cases hj
  · have : g = j := by simpa [Value.ownBlock] using hj
    subst this
    exact ⟨hB, notOk_row (Row.of hg) he⟩
theorem Kp.own {e k n : Nat} {v : Value} {xs : List Value} (h : w.ownsRow B e k v n xs) (he : e ∈ T) (hg : w.grownBy w' v.ownBlock) : Kp T m B w w' := Kp.grown (g := 0) hg (notOk_own h he)
theorem Kp.map {P : Program} {k : TypeId} {R : Value → Option (DataW Unit × List MemPlace)} {n : Nat} {D : DataW Unit} (h : w.ownsMap P k R m n D) (hB : B ≤ m) (hg : w.grownBy w' (some m)) : Kp T m B w w' :=
  Kp.grown (g := 0) hg (fun j hj => by
    injection hj with hj; subst hj
    refine ⟨hB, ?_⟩
    obtain ⟨es, cl, h1, _⟩ := h
    rintro (⟨cs', e', fr', h2, h3⟩ | ⟨es', cl', h2, h3⟩)
    · rw [h1] at h2; cases h2
    · exact h3 rfl)
theorem lib.Row.kp {g e : Nat} {cs : Array Value} (h : Row w g e cs) (hk : Kp T m B w w') (he : e ∉ T) : Row w' g e cs := h.keep (hk.block g h.lt (.inr (by
  obtain ⟨fr, h1, _⟩ := h
  exact .inl ⟨cs, e, fr, h1, he⟩)))
theorem rwKp {g e : Nat} {cs : Array Value} (h : Rw w g e cs) (hk : Kp T m B w w') (he : e ∉ T) : Rw w' g e cs := (hk.block g h.lt (.inr (.inl ⟨cs, e, (0, 0), h, he⟩))).trans h
theorem lib.BRow.kp {g e n : Nat} {x : Nat → UInt8} (h : BRow w e g n x) (hk : Kp T m B w w') (he : e ∉ T) : BRow w' e g n x := h.keep (hk.block g h.lt (.inr (by
  obtain ⟨cs, ⟨fr, h1, _⟩, _⟩ := h
  exact .inl ⟨cs, e, fr, h1, he⟩)))
theorem ownKp {B' e k n : Nat} {v : Value} {xs : List Value} (h : w.ownsRow B' e k v n xs) (hk : Kp T m B w w') (he : e ∉ T) : w'.ownsRow B' e k v n xs := by
  refine ⟨h.1, ?_⟩
  rcases h.2 with hn | ⟨g, cap, cur, rfl, hB, hg, rest⟩
  · exact .inl hn
  · exact .inr ⟨g, cap, cur, rfl, hB, (hk.block g (by have := (Row.of hg).lt; exact this) (.inr (.inl ⟨cur, e, (0, 0), hg, he⟩))).trans hg, rest⟩
theorem mapKp {P : Program} {k : TypeId} {R : Value → Option (DataW Unit × List MemPlace)} {b n : Nat} {D : DataW Unit} (h : w.ownsMap P k R b n D) (hk : Kp T m B w w') (hb : b ≠ m) : w'.ownsMap P k R b n D := by
  have hlt := h.lt
  obtain ⟨es, cl, h1, h2⟩ := h
  exact ⟨es, cl, (hk.block b hlt (.inr (.inr ⟨es, cl, h1, hb⟩))).trans h1, h2⟩
theorem NSet.kp {P : Program} {k e : TypeId} {b cnt : Nat} {Q : ByteArray → Prop} (h : NSet P k e w b cnt Q) (hk : Kp T m B w w') (hb : b ≠ m) : NSet P k e w' b cnt Q := by
  obtain ⟨D, ho, hD⟩ := h
  exact ⟨D, mapKp ho hk hb, hD⟩
theorem builderKp {Tb e B' b : Nat} {bs : List Value} (h : Lib.IsBuilder Tb e B' b bs w) (hk : Kp T m B w w') (h1 : Tb ∉ T) (h2 : e ∉ T) : Lib.IsBuilder Tb e B' b bs w' := by
  have key : ∀ p, Lib.BuilderAt Tb e B' b p bs w → Lib.BuilderAt Tb e B' b p bs w' := fun p h => by
    have hlt := h.lt
    obtain ⟨q1, v, q2, q3, q4⟩ := h
    exact ⟨q1, v, (hk.block b hlt (.inr (.inl ⟨_, _, _, q2, h1⟩))).trans q2, ownKp q3 hk h2, q4⟩
  rcases h with h | h
  · exact .inl (key _ h)
  · exact .inr (key _ h)
theorem slKp {A : Option Addr} {n : Nat} {f : Nat → Value} (h : Sl w B A n f) (hk : Kp T m B w w') (hB : B ≤ w.heap.size) : Sl w' B A n f := h.below (hk.below hB)
/-- the map at block b holds true at the numbers of Q -/
def TSet (P : Program) (k e : TypeId) (w : World) (b cnt : Nat) (Q : Nat → Bool) : Prop :=
  ∃ D : DataW Unit, w.ownsMap P k (plainElem P e) b cnt D ∧ Maps.IsMap D ∧ ∀ x : Nat, D.atKey (.int .i64 (x : Int)) (.lit (.bool false)) = .lit (.bool (Q x))
variable {P : Program} {k e t : TypeId} {b cnt : Nat} {Q : Nat → Bool}
theorem TSet.made (w : World) : TSet P k e (w.alloc (.map #[] 0)) w.heap.size 0 (fun _ => false) := ⟨.map [], World.ownsMap_made w P k _, Maps.isMap_empty, fun x => rfl⟩
theorem TSet.lt (h : TSet P k e w b cnt Q) : b < w.heap.size := by obtain ⟨D, ho, _⟩ := h; exact ho.lt
theorem TSet.mono {cnt' : Nat} (h : TSet P k e w b cnt Q) (hn : cnt ≤ cnt') : TSet P k e w b cnt' Q := by obtain ⟨D, ho, hD⟩ := h; exact ⟨D, ho.mono hn, hD⟩
theorem TSet.below (h : TSet P k e w b cnt Q) (hb : Below w.heap.size w w') : TSet P k e w' b cnt Q := by
  obtain ⟨D, ho, hD⟩ := h
  exact ⟨D, ho.kept (row := none) ⟨hb.os, hb.tape, hb.output, hb.size, fun i hi _ => hb.block i hi⟩ (by simp), hD⟩
theorem TSet.grown {row : Option Nat} (h : TSet P k e w b cnt Q) (hg : w.grownBy w' row) (hne : some b ≠ row) : TSet P k e w' b cnt Q := by
  obtain ⟨D, ho, hD⟩ := h
  exact ⟨D, ho.kept hg hne, hD⟩
theorem wfT {x : Nat} (hx : x < 1000) : (Lit.int .i64 (x : Int)).wf = true := by
  have h1 : IntKind.i64.min = -9223372036854775808 := by decide
  have h2 : IntKind.i64.max = 9223372036854775807 := by decide
  simp [Lit.wf]
  omega
theorem plain_boolT {v : Value} {z : DataW Unit × List MemPlace} (he : P.underlying e = some .bool) (h : plainElem P e v = some z) : ∃ x, v = .bool x ∧ z.1 = .lit (.bool x) := by
  unfold plainElem at h
  rw [he] at h
  cases v <;> simp at h
  rename_i x
  exact ⟨x, rfl, by rw [← h]⟩
theorem TSet.look (h : TSet P k e w b cnt Q) (hk : P.underlying k = some (.int .i64)) (ht : P.underlying t = some (.map k e)) (he : P.underlying e = some .bool) (hz : (zeroValue e).run P w = .ok (.bool false) w) (x : Nat) (hx : x < 1000) :
    (Instr.lookup t (.map (some b)) (.int .i64 (x : Int)) false).run P w = .ok (.bool (Q x)) w := by
  obtain ⟨D, ho, hD, hq⟩ := h
  obtain ⟨v, ps, hrun, hv⟩ := ho.lookup (Maps.int_keyed hk) ht hz (plainElem_bool he false) (Maps.keyOf_int_mk hk (wfT hx))
  rw [hq x] at hv
  obtain ⟨y, rfl, hy⟩ := plain_boolT he hv
  simp only [DataW.lit.injEq, Lit.bool.injEq] at hy
  rw [hy]
  exact hrun
theorem TSet.store (h : TSet P k e w b cnt Q) (hk : P.underlying k = some (.int .i64)) (ht : P.underlying t = some (.map k e)) (he : P.underlying e = some .bool) (hc : cnt < maxLen) (x : Nat) (hx : x < 1000) (v : Bool) :
    ∃ w', (Instr.mapUpdate t (.map (some b)) (.int .i64 (x : Int)) (.bool v)).run P w = .ok () w' ∧ TSet P k e w' b (cnt + 1) (fun y => if y = x then v else Q y) ∧ w.grownBy w' (some b) := by
  obtain ⟨D, ho, hD, hq⟩ := h
  obtain ⟨w', hrun, ho', hg⟩ := ho.update (Maps.int_keyed hk) ht hc (Maps.keyOf_int_mk hk (wfT hx)) (plainElem_bool he v)
  refine ⟨w', hrun, ⟨_, ho', hD.put _ _, fun y => ?_⟩, hg⟩
  by_cases hy : y = x
  · subst hy
    show _ = DataW.lit (Lit.bool (if y = y then v else Q y))
    rw [if_pos rfl]
    exact Maps.atKey_put_same hD (by trivial) _ _
  · show _ = DataW.lit (Lit.bool (if y = x then v else Q y))
    rw [if_neg hy, Maps.atKey_put_other (fun he => hy ?_), hq y]
    injection he with _ he
    omega
theorem TSet.kp2 {m2 : Nat} (h : TSet P k e w m2 cnt Q) (hk : Kp T m B w w') (hb : m2 ≠ m) : TSet P k e w' m2 cnt Q := by
  obtain ⟨D, ho, hD⟩ := h
  exact ⟨D, mapKp ho hk hb, hD⟩
end
end Go.Proofs.YtiefcgmghkkbmaaGreatDoor
