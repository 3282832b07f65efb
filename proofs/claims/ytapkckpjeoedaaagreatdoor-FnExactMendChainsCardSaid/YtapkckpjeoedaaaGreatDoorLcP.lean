/-
  Disks of chains: the lost blocks in chains: plain; lists of lists of the call's own; sets of numbers in a map.
-/
import Derived.Test.YtapkckpjeoedaaaGreatDoorLostTop
import Derived.Test.YtapkckpjeoedaaaGreatDoorMapP
namespace Go.Proofs.YtapkckpjeoedaaaGreatDoor
open Go Go.ChangeShapes Go.WideShapes Go.ChangeAt Go.RowKit lib
set_option linter.unusedVariables false
set_option maxRecDepth 100000
section
variable {P : Program} {k e t : TypeId} {w w' : World} {b cnt : Nat} {Q : Nat → Prop}
/-- the map at block b holds true at the numbers of Q -/
def ISet (P : Program) (k e : TypeId) (w : World) (b cnt : Nat) (Q : Nat → Prop) : Prop :=
  ∃ D : DataW Unit, w.ownsMap P k (plainElem P e) b cnt D ∧ Maps.IsMap D ∧ ∀ x : Nat, ∃ v, D.atKey (.int .i64 (x : Int)) (.lit (.bool false)) = .lit (.bool v) ∧ (v = true ↔ Q x)
theorem ISet.made (w : World) : ISet P k e (w.alloc (.map #[] 0)) w.heap.size 0 (fun _ => False) := ⟨.map [], World.ownsMap_made w P k _, Maps.isMap_empty, fun x => ⟨false, rfl, by simp⟩⟩
theorem ISet.lt (h : ISet P k e w b cnt Q) : b < w.heap.size := by obtain ⟨D, ho, _⟩ := h; exact ho.lt
theorem ISet.mono {cnt' : Nat} (h : ISet P k e w b cnt Q) (hn : cnt ≤ cnt') : ISet P k e w b cnt' Q := by obtain ⟨D, ho, hD⟩ := h; exact ⟨D, ho.mono hn, hD⟩
theorem ISet.congr {Q' : Nat → Prop} (h : ISet P k e w b cnt Q) (hq : ∀ x, Q x ↔ Q' x) : ISet P k e w b cnt Q' := by
  obtain ⟨D, ho, hD, hx⟩ := h
  exact ⟨D, ho, hD, fun x => by obtain ⟨v, h1, h2⟩ := hx x; exact ⟨v, h1, h2.trans (hq x)⟩⟩
theorem ISet.below (h : ISet P k e w b cnt Q) (hb : Below w.heap.size w w') : ISet P k e w' b cnt Q := by
  obtain ⟨D, ho, hD⟩ := h
  exact ⟨D, ho.kept (row := none) ⟨hb.os, hb.tape, hb.output, hb.size, fun i hi _ => hb.block i hi⟩ (by simp), hD⟩
theorem ISet.grown {row : Option Nat} (h : ISet P k e w b cnt Q) (hg : w.grownBy w' row) (hne : some b ≠ row) : ISet P k e w' b cnt Q := by
  obtain ⟨D, ho, hD⟩ := h
  exact ⟨D, ho.kept hg hne, hD⟩
theorem ISet.drew (h : ISet P k e w b cnt Q) : ISet P k e w.drew b cnt Q := h
theorem wfI {x : Nat} (hx : x < 1000) : (Lit.int .i64 (x : Int)).wf = true := by
  have h1 : IntKind.i64.min = -9223372036854775808 := by decide
  have h2 : IntKind.i64.max = 9223372036854775807 := by decide
  simp [Lit.wf]
  omega
theorem ISet.look (h : ISet P k e w b cnt Q) (hk : P.underlying k = some (.int .i64)) (ht : P.underlying t = some (.map k e)) (he : P.underlying e = some .bool) (hz : (zeroValue e).run P w = .ok (.bool false) w) (x : Nat) (hx : x < 1000) :
    ∃ v, (Instr.lookup t (.map (some b)) (.int .i64 (x : Int)) false).run P w = .ok (.bool v) w ∧ (v = true ↔ Q x) := by
  obtain ⟨D, ho, hD, hq⟩ := h
  obtain ⟨v, ps, hrun, hv⟩ := ho.lookup (Maps.int_keyed hk) ht hz (plainElem_bool he false) (Maps.keyOf_int_mk hk (wfI hx))
  obtain ⟨v0, hv0, hv1⟩ := hq x
  rw [hv0] at hv
  obtain ⟨y, rfl, hy⟩ := plain_bool he hv
  simp only [DataW.lit.injEq, Lit.bool.injEq] at hy
  subst hy
  exact ⟨_, hrun, hv1⟩
theorem ISet.store (h : ISet P k e w b cnt Q) (hk : P.underlying k = some (.int .i64)) (ht : P.underlying t = some (.map k e)) (he : P.underlying e = some .bool) (hc : cnt < maxLen) (x : Nat) (hx : x < 1000) (v : Bool) :
    ∃ w', (Instr.mapUpdate t (.map (some b)) (.int .i64 (x : Int)) (.bool v)).run P w = .ok () w' ∧ ISet P k e w' b (cnt + 1) (fun y => if y = x then v = true else Q y) ∧ w.grownBy w' (some b) := by
  obtain ⟨D, ho, hD, hq⟩ := h
  obtain ⟨w', hrun, ho', hg⟩ := ho.update (Maps.int_keyed hk) ht hc (Maps.keyOf_int_mk hk (wfI hx)) (plainElem_bool he v)
  refine ⟨w', hrun, ⟨_, ho', hD.put _ _, fun y => ?_⟩, hg⟩
  by_cases hy : y = x
  · subst hy
    exact ⟨v, Maps.atKey_put_same hD (by trivial) _ _, by simp⟩
  · obtain ⟨v0, h0, h1⟩ := hq y
    refine ⟨v0, ?_, ?_⟩
    · rw [Maps.atKey_put_other (fun he => hy ?_), h0]
      injection he with _ he
      omega
    · rw [h1]; simp [hy]
end
/-- a chain followed as long as it stays in L and is not used -/
def flw (L : List Nat) (lk : Nat → Nat) (used : List Nat) : Nat → List Nat → Nat → List Nat
  | 0, out, _ => out
  | f + 1, out, a => if a ∈ L ∧ a ∉ used ∧ a ∉ out then flw L lk used f (out ++ [a]) (lk a) else out
/-- lists that are followed keep to this -/
structure FlwOk (n : Nat) (L used out : List Nat) : Prop where
  nd : out.Nodup
  mem : ∀ x, x ∈ out → x ∈ L ∧ x < n ∧ x ∉ used
theorem FlwOk.nil (n : Nat) (L used : List Nat) : FlwOk n L used [] := ⟨List.nodup_nil, fun x h => by simp at h⟩
theorem FlwOk.len {n : Nat} {L used out : List Nat} (h : FlwOk n L used out) : out.length ≤ n := nodup_len n out h.nd fun x hx => (h.mem x hx).2.1
theorem FlwOk.snoc {n : Nat} {L used out : List Nat} {a : Nat} (h : FlwOk n L used out) (hL : ∀ x, x ∈ L → x < n) (ha : a ∈ L ∧ a ∉ used ∧ a ∉ out) : FlwOk n L used (out ++ [a]) := by
  refine ⟨?_, fun x hx => ?_⟩
  · rw [List.nodup_append]
    exact ⟨h.nd, by simp, fun x hx y hy => by simp at hy; subst hy; exact fun e => ha.2.2 (e ▸ hx)⟩
  · rcases List.mem_append.1 hx with h1 | h1
    · exact h.mem x h1
    · simp at h1
      subst h1
      exact ⟨ha.1, hL _ ha.1, ha.2.1⟩
theorem flw_ok {n : Nat} {L : List Nat} {lk : Nat → Nat} {used : List Nat} (hL : ∀ x, x ∈ L → x < n) : ∀ (f : Nat) (out : List Nat) (a : Nat), FlwOk n L used out → FlwOk n L used (flw L lk used f out a)
  | 0, out, _, h => h
  | f + 1, out, a, h => by
    rw [flw]
    split
    · rename_i hc
      exact flw_ok hL f _ _ (h.snoc hL hc)
    · exact h
theorem flw_hit {L used out : List Nat} {lk : Nat → Nat} {f a : Nat} (h : a ∈ L ∧ a ∉ used ∧ a ∉ out) : flw L lk used (f + 1) out a = flw L lk used f (out ++ [a]) (lk a) := by rw [flw, if_pos h]
theorem flw_stop {L used out : List Nat} {lk : Nat → Nat} {f a : Nat} (h : ¬ (a ∈ L ∧ a ∉ used ∧ a ∉ out)) : flw L lk used f out a = out := by
  cases f with
  | zero => rfl
  | succ f => rw [flw, if_neg h]
/-- .. from its head on -/
def flwA (L : List Nat) (lk : Nat → Nat) (used : List Nat) (a : Nat) : List Nat := flw L lk used 129 [] a
theorem flw_ne {L used : List Nat} {lk : Nat → Nat} : ∀ (f : Nat) (out : List Nat) (a : Nat), out ≠ [] → flw L lk used f out a ≠ []
  | 0, out, _, h => h
  | f + 1, out, a, h => by
    rw [flw]
    split
    · exact flw_ne f _ _ (by simp)
    · exact h
theorem flwA_pos {L used : List Nat} {lk : Nat → Nat} {a : Nat} (h : a ∈ L ∧ a ∉ used) : 0 < (flwA L lk used a).length := by
  unfold flwA
  rw [flw_hit ⟨h.1, h.2, by simp⟩]
  exact List.length_pos_iff.2 (flw_ne _ _ _ (by simp))
/-- a block of the list leads to this one -/
def ledN (L : List Nat) (lk : Nat → Nat) (b m : Nat) : Prop := ∃ j, j < m ∧ lk (L.getD j 0) = b
open Classical in
/-- one block looked at: what is used, and the chains -/
noncomputable def stepC (L : List Nat) (lk : Nat → Nat) (rest : Bool) (b : Nat) (S : List Nat × List (List Nat)) : List Nat × List (List Nat) :=
  if b ∈ S.1 ∨ (rest = false ∧ ledN L lk b L.length) then S else (S.1 ++ flwA L lk S.1 b, S.2 ++ [flwA L lk S.1 b])
noncomputable def passC (L : List Nat) (lk : Nat → Nat) (rest : Bool) (S : List Nat × List (List Nat)) : Nat → List Nat × List (List Nat)
  | 0 => S
  | i + 1 => stepC L lk rest (L.getD i 0) (passC L lk rest S i)
noncomputable def chainsC (L : List Nat) (lk : Nat → Nat) : List (List Nat) := (passC L lk true (passC L lk false ([], []) L.length) L.length).2
structure UseOk (n : Nat) (L : List Nat) (S : List Nat × List (List Nat)) : Prop where
  nd : S.1.Nodup
  mem : ∀ x, x ∈ S.1 → x ∈ L ∧ x < n
  len : S.2.length ≤ S.1.length
  each : ∀ l, l ∈ S.2 → l.length ≤ n
theorem UseOk.nil (n : Nat) (L : List Nat) : UseOk n L ([], []) := ⟨List.nodup_nil, fun x h => by simp at h, Nat.le_refl _, fun x h => by simp at h⟩
theorem UseOk.bound {n : Nat} {L : List Nat} {S : List Nat × List (List Nat)} (h : UseOk n L S) : S.1.length ≤ n ∧ S.2.length ≤ n := by
  have := nodup_len n S.1 h.nd fun x hx => (h.mem x hx).2
  exact ⟨this, Nat.le_trans h.len this⟩
theorem UseOk.step {n : Nat} {L : List Nat} {lk : Nat → Nat} {rest : Bool} {b : Nat} {S : List Nat × List (List Nat)} (h : UseOk n L S) (hL : ∀ x, x ∈ L → x < n) (hb : b ∈ L) : UseOk n L (stepC L lk rest b S) := by
  unfold stepC
  split
  · exact h
  · rename_i hc
    have hu : b ∉ S.1 := fun h => hc (.inl h)
    have hf := flw_ok (lk := lk) (used := S.1) hL 129 [] b (FlwOk.nil n L S.1)
    have hp := flwA_pos (lk := lk) ⟨hb, hu⟩
    refine ⟨?_, fun x hx => ?_, ?_, fun l hl => ?_⟩
    · rw [List.nodup_append]
      exact ⟨h.nd, hf.nd, fun x hx y hy e => (hf.mem y hy).2.2 (e ▸ hx)⟩
    · rcases List.mem_append.1 hx with h1 | h1
      · exact h.mem x h1
      · exact ⟨(hf.mem x h1).1, (hf.mem x h1).2.1⟩
    · simp only [List.length_append, List.length_singleton]
      have := h.len
      omega
    · rcases List.mem_append.1 hl with h1 | h1
      · exact h.each l h1
      · simp at h1
        subst h1
        exact hf.len
theorem UseOk.pass {n : Nat} {L : List Nat} {lk : Nat → Nat} {rest : Bool} {S : List Nat × List (List Nat)} (h : UseOk n L S) (hL : ∀ x, x ∈ L → x < n) : ∀ i, i ≤ L.length → UseOk n L (passC L lk rest S i)
  | 0, _ => h
  | i + 1, hi => by
    rw [passC]
    refine (UseOk.pass h hL i (by omega)).step hL ?_
    rw [List.getD_eq_getElem?_getD, List.getElem?_eq_getElem (by omega)]
    exact List.getElem_mem _
/-- a list of lists of the call's own: the lists' blocks are those of F -/
def OL (B : Nat) (F : Nat → Prop) (w : World) (A : Option Addr) (c : Nat) (Ls : List (List Nat)) : Prop :=
  ∃ xs, w.ownsRow B 74 1 (.slice A Ls.length c) Ls.length xs ∧ ∃ (a : Nat → Option Addr) (cc : Nat → Nat), (∀ i, i < Ls.length → xs[i]? = some (.slice (a i) (Ls.getD i []).length (cc i)) ∧ IntsR B w (a i) (cc i) (Ls.getD i []) ∧ ∀ o, (Value.slice (a i) (Ls.getD i []).length (cc i)).ownBlock = some o → F o) ∧
    ∀ i j, i < Ls.length → j < Ls.length → i ≠ j → apart (.slice (a i) (Ls.getD i []).length (cc i)) (.slice (a j) (Ls.getD j []).length (cc j))
theorem tI : 2 ≠ 74 := by decide
theorem own_neO {w : World} {B B' e e' k k' n n' : Nat} {v v' : Value} {xs xs' : List Value} (h : w.ownsRow B e k v n xs) (h' : w.ownsRow B' e' k' v' n' xs') (hne : e ≠ e') : v.ownBlock = none ∨ v.ownBlock ≠ v'.ownBlock := by
  rcases h.2 with ⟨hv, _⟩ | ⟨g, cap, cur, hv, _, hg, _⟩
  · left; rw [hv]; rfl
  · rcases h'.2 with ⟨hv', _⟩ | ⟨g', cap', cur', hv', _, hg', _⟩
    · right; rw [hv, hv']; simp [Value.ownBlock]
    · right
      rw [hv, hv']
      simp only [Value.ownBlock]
      intro e
      injection e with e
      subst e
      rw [hg] at hg'
      injection hg' with hg'
      injection hg' with _ h2 _
      exact hne h2
theorem own_ltW {w : World} {B e k n : Nat} {v : Value} {xs : List Value} (h : w.ownsRow B e k v n xs) : ∀ o, v.ownBlock = some o → o < w.heap.size := by
  intro o ho
  rcases h.2 with ⟨hv, _⟩ | ⟨g, cap, cur, hv, _, hg, _⟩
  · rw [hv] at ho; cases ho
  · rw [hv] at ho
    injection ho with ho
    subst ho
    rcases Nat.lt_or_ge g w.heap.size with h' | h'
    · exact h'
    · simp [Array.getElem?_eq_none h'] at hg
theorem own_same {w : World} {B e k n : Nat} {v : Value} {xs ys : List Value} (h : w.ownsRow B e k v n xs) (h' : w.ownsRow B e k v n ys) : xs = ys := by
  rcases h.2 with ⟨hv, h0⟩ | ⟨g, cap, cur, hv, _, hg, _, _, _, hx⟩
  · have h1 := h.1
    have h2 := h'.1
    subst h0
    rw [Nat.zero_mul] at h1 h2
    rw [List.length_eq_zero_iff.1 h1, List.length_eq_zero_iff.1 h2]
  · rcases h'.2 with ⟨hv', h0'⟩ | ⟨g', cap', cur', hv', _, hg', _, _, _, hx'⟩
    · rw [hv] at hv'; cases hv'
    · rw [hv] at hv'
      injection hv' with e1 _ e2
      injection e1 with e1
      injection e1 with e1
      subst e1 e2
      rw [hg] at hg'
      injection hg' with hg'
      injection hg' with e3 _ _
      subst e3
      exact hx.symm.trans hx'
theorem OL.nil (B : Nat) (F : Nat → Prop) (w : World) : OL B F w none 0 [] := ⟨[], World.ownsRow_nil _ _ _ _, fun _ => none, fun _ => 0, fun i hi => absurd hi (by simp), fun i j hi => absurd hi (by simp)⟩
theorem OL.grown {B c : Nat} {F : Nat → Prop} {w w' : World} {A : Option Addr} {Ls : List (List Nat)} {row : Option Nat} (h : OL B F w A c Ls) (hg : w.grownBy w' row) (hr : ∀ o, row = some o → o < B ∨ (¬ F o ∧ (Value.slice A Ls.length c).ownBlock ≠ some o)) : OL B F w' A c Ls := by
  obtain ⟨xs, h1, a, cc, h2, h3⟩ := h
  refine ⟨xs, h1.kept hg ?_, a, cc, fun i hi => ⟨(h2 i hi).1, (h2 i hi).2.1.grown hg ?_, (h2 i hi).2.2⟩, h3⟩
  · cases hrow : row with
    | none => cases hv : (Value.slice A Ls.length c).ownBlock <;> simp
    | some o =>
      rcases hr o hrow with h | h
      · cases hv : (Value.slice A Ls.length c).ownBlock with
        | none => exact .inl rfl
        | some q => exact .inr fun e => by injection e with e; have := (h1.lt q hv).1; omega
      · exact .inr h.2
  · cases hrow : row with
    | none => cases hv : (Value.slice (a i) (Ls.getD i []).length (cc i)).ownBlock <;> simp
    | some o =>
      cases hv : (Value.slice (a i) (Ls.getD i []).length (cc i)).ownBlock with
      | none => exact .inl rfl
      | some q =>
        refine .inr fun e => ?_
        injection e with e
        have h4 := (h2 i hi).2.2 q hv
        have h5 := (World.ownsRow.lt (h2 i hi).2.1 q hv).1
        rcases hr o hrow with h | h
        · omega
        · exact h.1 (e ▸ h4)
theorem OL.below {B c : Nat} {F : Nat → Prop} {w w' : World} {A : Option Addr} {Ls : List (List Nat)} (h : OL B F w A c Ls) (hb : Below w.heap.size w w') : OL B F w' A c Ls :=
  h.grown (only_below hb (Nat.le_refl _) none) (fun o e => by cases e)
theorem OL.more {B c : Nat} {F F' : Nat → Prop} {w : World} {A : Option Addr} {Ls : List (List Nat)} (h : OL B F w A c Ls) (hH : ∀ o, F o → F' o) : OL B F' w A c Ls := by
  obtain ⟨xs, h1, a, cc, h2, h3⟩ := h
  exact ⟨xs, h1, a, cc, fun i hi => ⟨(h2 i hi).1, (h2 i hi).2.1, fun o ho => hH o ((h2 i hi).2.2 o ho)⟩, h3⟩
/-- a list is appended -/
theorem OL.push {B c c' cl : Nat} {F F' : Nat → Prop} {w w1 : World} {A A' Al : Option Addr} {Ls : List (List Nat)} {l : List Nat} {xs0 : List Value} (h : OL B F w A c Ls) (hl : IntsR B w Al cl l) (hlF : ∀ o, (Value.slice Al l.length cl).ownBlock = some o → ¬ F o ∧ F' o) (hF : ∀ o, F o → F' o)
    (hx : w.ownsRow B 74 1 (.slice A Ls.length c) Ls.length xs0) (ho : w1.ownsRow B 74 1 (.slice A' (Ls.length + 1) c') (Ls.length + 1) (xs0 ++ [.slice Al l.length cl])) (hg : w.grownBy w1 (Value.slice A Ls.length c).ownBlock) : OL B F' w1 A' c' (Ls ++ [l]) := by
  obtain ⟨xs, h1, a, cc, h2, h3⟩ := h
  have hxs : xs = xs0 := own_same h1 hx
  subst hxs
  have hlen := h1.1
  rw [Nat.mul_one] at hlen
  have hl1 := hl.grown hg ((own_neO hl h1 tI).imp id fun h e => h e.symm)
  have hin : ∀ i, i < Ls.length → IntsR B w1 (a i) (cc i) (Ls.getD i []) := fun i hi => (h2 i hi).2.1.grown hg ((own_neO (h2 i hi).2.1 h1 tI).imp id fun h e => h e.symm)
  have hgd : ∀ i, i < Ls.length → (Ls ++ [l]).getD i [] = Ls.getD i [] := fun i hi => by rw [List.getD_eq_getElem?_getD, List.getD_eq_getElem?_getD, List.getElem?_append_left hi]
  have hge : (Ls ++ [l]).getD Ls.length [] = l := by rw [List.getD_eq_getElem?_getD, List.getElem?_append_right (Nat.le_refl _)]; simp
  have hal : ∀ i, i < Ls.length → apart (.slice (a i) (Ls.getD i []).length (cc i)) (.slice Al l.length cl) ∧ apart (.slice Al l.length cl) (.slice (a i) (Ls.getD i []).length (cc i)) := fun i hi => by
    have key : (Value.slice (a i) (Ls.getD i []).length (cc i)).ownBlock = none ∨ (Value.slice Al l.length cl).ownBlock = none ∨ (Value.slice (a i) (Ls.getD i []).length (cc i)).ownBlock ≠ (Value.slice Al l.length cl).ownBlock := by
      cases hv : (Value.slice (a i) (Ls.getD i []).length (cc i)).ownBlock with
      | none => exact .inl rfl
      | some q =>
        cases hv2 : (Value.slice Al l.length cl).ownBlock with
        | none => exact .inr (.inl rfl)
        | some q2 =>
          refine .inr (.inr fun e => ?_)
          injection e with e
          exact (hlF q2 hv2).1 (e ▸ (h2 i hi).2.2 q hv)
    unfold apart
    rcases key with h | h | h
    · exact ⟨.inl h, by rw [h]; cases hv2 : (Value.slice Al l.length cl).ownBlock <;> simp⟩
    · exact ⟨by rw [h]; cases hv : (Value.slice (a i) (Ls.getD i []).length (cc i)).ownBlock <;> simp, .inl h⟩
    · exact ⟨.inr h, .inr fun e => h e.symm⟩
  refine ⟨xs ++ [.slice Al l.length cl], by rw [List.length_append]; exact ho, fun i => if i = Ls.length then Al else a i, fun i => if i = Ls.length then cl else cc i, fun i hi => ?_, fun i j hi hj hij => ?_⟩
  · by_cases e : i = Ls.length
    · subst e
      simp only [if_pos]
      rw [hge]
      exact ⟨by rw [List.getElem?_append_right (by omega)]; simp [hlen], hl1, fun o ho' => (hlF o ho').2⟩
    · have hi' : i < Ls.length := by simp at hi; omega
      simp only [if_neg e]
      rw [hgd i hi']
      exact ⟨by rw [List.getElem?_append_left (by omega)]; exact (h2 i hi').1, hin i hi', fun o ho' => hF o ((h2 i hi').2.2 o ho')⟩
  · by_cases e : i = Ls.length
    · subst e
      have hj' : j < Ls.length := by simp at hj; omega
      simp only [if_pos, if_neg (show j ≠ Ls.length by omega)]
      rw [hge, hgd j hj']
      exact (hal j hj').2
    · have hi' : i < Ls.length := by simp at hi; omega
      by_cases e2 : j = Ls.length
      · subst e2
        simp only [if_pos, if_neg e]
        rw [hge, hgd i hi']
        exact (hal i hi').1
      · have hj' : j < Ls.length := by simp at hj; omega
        simp only [if_neg e, if_neg e2]
        rw [hgd i hi', hgd j hj']
        exact h3 i j hi' hj' hij
theorem OL.base {B B' c : Nat} {F : Nat → Prop} {w : World} {A : Option Addr} {Ls : List (List Nat)} (h : OL B F w A c Ls) (hB : B' ≤ B) : OL B' F w A c Ls := by
  obtain ⟨xs, h1, a, cc, h2, h3⟩ := h
  exact ⟨xs, own_base h1 hB, a, cc, fun i hi => ⟨(h2 i hi).1, (h2 i hi).2.1.base hB, (h2 i hi).2.2⟩, h3⟩
theorem OL.drew {B c : Nat} {F : Nat → Prop} {w : World} {A : Option Addr} {Ls : List (List Nat)} (h : OL B F w A c Ls) : OL B F w.drew A c Ls := h.below (Below.refl _ _).drew
theorem OL.row {B c : Nat} {F : Nat → Prop} {w : World} {A : Option Addr} {Ls : List (List Nat)} (h : OL B F w A c Ls) : ∃ xs, w.ownsRow B 74 1 (.slice A Ls.length c) Ls.length xs := by
  obtain ⟨xs, h1, _⟩ := h
  exact ⟨xs, h1⟩
theorem only_far {a b c : World} {g : Nat} {row : Option Nat} (h : a.grownBy b (some g)) (k : b.grownBy c row) (hq : ∀ q, row = some q → a.heap.size ≤ q) : a.grownBy c (some g) :=
  ⟨k.os.trans h.os, k.tape.trans h.tape, k.output.trans h.output, Nat.le_trans h.size k.size, fun i hi hn => (k.block i (Nat.lt_of_lt_of_le hi h.size) (fun e => by have := hq i e.symm; omega)).trans (h.block i hi hn)⟩
/-- what the loops over the lost blocks keep, besides the map of those that are left -/
structure StC (P : Program) (k e : TypeId) (n : Nat) (w wr : World) (ma q : Nat) (L : List Nat) (lk : Nat → Nat) (Al : Option Addr) (cl : Nat) (H : Nat) (A : Option Addr) (c : Nat) (Ls : List (List Nat)) : Prop where
  ol : OL (ma + 2) (· < H) wr A c Ls
  le : ISet P k e wr (ma + 1) 128 (fun x => ledN L lk x L.length)
  li : IntsR w.heap.size wr Al cl L
  be : Below w.heap.size w wr
  ro : Rw wr q 4 #[.bool false, .bool true]
  qa : ma + 2 ≤ q
  wm : w.heap.size ≤ ma
  lm : ∀ o, (Value.slice Al L.length cl).ownBlock = some o → o < ma
  hh : H ≤ wr.heap.size
  mh : ma + 2 ≤ H
section
variable {P : Program} {k e : TypeId} {n : Nat} {w wr wr' : World} {ma q : Nat} {L : List Nat} {lk : Nat → Nat} {Al : Option Addr} {cl : Nat} {H : Nat} {A : Option Addr} {c : Nat} {Ls : List (List Nat)}
theorem StC.grown {row : Option Nat} (h : StC P k e n w wr ma q L lk Al cl H A c Ls) (hg : wr.grownBy wr' row) (hr : ∀ o, row = some o → o = ma ∨ (H ≤ o ∧ o ≠ q ∧ (Value.slice A Ls.length c).ownBlock ≠ some o)) : StC P k e n w wr' ma q L lk Al cl H A c Ls := by
  have hmh := h.mh
  have hwm := h.wm
  have hqa := h.qa
  refine ⟨h.ol.grown hg (fun o e => ?_), h.le.grown hg (fun e => ?_), h.li.grown hg ?_, h.be.grown hg h.be.size (fun o e => ?_), rw_grown h.ro hg ?_, h.qa, h.wm, h.lm, Nat.le_trans h.hh hg.size, h.mh⟩
  · rcases hr o e with h | h
    · exact .inl (by omega)
    · exact .inr ⟨by omega, h.2.2⟩
  · rcases hr _ e.symm with h | h <;> omega
  · cases hv : (Value.slice Al L.length cl).ownBlock with
    | none => exact .inl rfl
    | some o => exact .inr (fun e => by have := h.lm o hv; rcases hr o e with h | h <;> omega)
  · rcases hr o e with h | h <;> omega
  · cases row with
    | none => exact .inl rfl
    | some o => exact .inr (fun e => by injection e with e; rcases hr o rfl with h | h <;> omega)
theorem StC.drew (h : StC P k e n w wr ma q L lk Al cl H A c Ls) : StC P k e n w wr.drew ma q L lk Al cl H A c Ls := h.grown (row := none) (only_drew (only_refl _ _)) (fun o e => by cases e)
theorem StC.more (h : StC P k e n w wr ma q L lk Al cl H A c Ls) : StC P k e n w wr ma q L lk Al cl wr.heap.size A c Ls :=
  ⟨h.ol.more (fun o ho => Nat.lt_of_lt_of_le ho h.hh), h.le, h.li, h.be, h.ro, h.qa, h.wm, h.lm, Nat.le_refl _, Nat.le_trans h.mh h.hh⟩
theorem StC.push {A' Ac : Option Addr} {c' cc : Nat} {l : List Nat} {xs0 : List Value} (h : StC P k e n w wr ma q L lk Al cl H A c Ls) (hl : IntsR H wr Ac cc l) (hx : wr.ownsRow (ma + 2) 74 1 (.slice A Ls.length c) Ls.length xs0)
    (ho : wr'.ownsRow (ma + 2) 74 1 (.slice A' (Ls.length + 1) c') (Ls.length + 1) (xs0 ++ [.slice Ac l.length cc])) (hg : wr.grownBy wr' (Value.slice A Ls.length c).ownBlock) : StC P k e n w wr' ma q L lk Al cl wr'.heap.size A' c' (Ls ++ [l]) := by
  have hmh := h.mh
  have hwm := h.wm
  have hqa := h.qa
  have hlo := hx.lt
  refine ⟨h.ol.push (hl.base h.mh) (fun o ho => ⟨Nat.not_lt.2 (own_lt hl o ho), Nat.lt_of_lt_of_le (own_ltW hl o ho) hg.size⟩) (fun o ho => Nat.lt_of_lt_of_le ho (Nat.le_trans h.hh hg.size)) hx ho hg, h.le.grown hg (fun e => ?_), h.li.grown hg ?_, h.be.grown hg h.be.size (fun o e => ?_), rw_grown h.ro hg ?_, h.qa, h.wm, h.lm, Nat.le_refl _, Nat.le_trans h.mh (Nat.le_trans h.hh hg.size)⟩
  · have := (hlo _ e.symm).1; omega
  · cases hv : (Value.slice Al L.length cl).ownBlock with
    | none => exact .inl rfl
    | some o => exact .inr (fun e => by have := h.lm o hv; have := (hlo _ e).1; omega)
  · have := (hlo _ e).1; omega
  · exact own_ne hx h.ro (by decide)
end
end Go.Proofs.YtapkckpjeoedaaaGreatDoor
