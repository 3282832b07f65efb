/-
  Lists of walks: read, owned, marked, held.
-/
import Derived.Test.YtgmmigbaaigldaaDoorLostTop
namespace Go.Proofs.YtgmmigbaaigldaaDoor
open Go Go.ChangeShapes Go.WideShapes Go.ChangeAt Go.RowKit lib
set_option linter.unusedVariables false
set_option maxRecDepth 100000
/-- a list of walks that is read: all its blocks lie below Bd -/
def WS (Bd : Nat) (w : World) (A : Option Addr) (m : Nat) (f : Nat → List Nat × Nat × Nat) : Prop :=
  ∀ i, i < m → ∃ q o Ai ci, A = some ⟨q, o, none⟩ ∧ q < Bd ∧ w.cell? ⟨q, o + i * 3, none⟩ = some (.slice Ai (f i).1.length ci) ∧ w.cell? ⟨q, o + i * 3 + 1, none⟩ = some (.int .i64 ((f i).2.1 : Int)) ∧ w.cell? ⟨q, o + i * 3 + 2, none⟩ = some (.int .i64 ((f i).2.2 : Int)) ∧
    Sl w Bd Ai (f i).1.length (fun j => .int .i64 (((f i).1.getD j 0 : Nat) : Int))
section
variable {Bd B' m : Nat} {w w' : World} {A : Option Addr} {f g : Nat → List Nat × Nat × Nat}
theorem WS.below (h : WS Bd w A m f) (hb : Below Bd w w') : WS Bd w' A m f := fun i hi => by
  obtain ⟨q, o, Ai, ci, hA, hq, h0, h1, h2, hs⟩ := h i hi
  exact ⟨q, o, Ai, ci, hA, hq, (hb.cell (p := ⟨q, _, none⟩) hq).trans h0, (hb.cell (p := ⟨q, _, none⟩) hq).trans h1, (hb.cell (p := ⟨q, _, none⟩) hq).trans h2, hs.below hb⟩
theorem WS.more (h : WS Bd w A m f) (hB : Bd ≤ B') : WS B' w A m f := fun i hi => by
  obtain ⟨q, o, Ai, ci, hA, hq, h0, h1, h2, hs⟩ := h i hi
  exact ⟨q, o, Ai, ci, hA, by omega, h0, h1, h2, hs.more hB⟩
theorem WS.congr (h : WS Bd w A m f) (he : ∀ i, i < m → f i = g i) : WS Bd w A m g := fun i hi => by
  rw [← he i hi]; exact h i hi
end
/-- a list of walks of the call's own, from block lo on -/
def GW (lo : Nat) (w : World) (A : Option Addr) (m : Nat) (f : Nat → List Nat × Nat × Nat) : Prop := m = 0 ∨ ∃ q B, A = some ⟨q, 0, none⟩ ∧ lo ≤ q ∧ lo ≤ B ∧ WRow B w q m f
section
variable {lo m : Nat} {w w' : World} {A : Option Addr} {f : Nat → List Nat × Nat × Nat}
theorem GW.nil (lo : Nat) (w : World) (A : Option Addr) (f : Nat → List Nat × Nat × Nat) : GW lo w A 0 f := .inl rfl
theorem GW.below (h : GW lo w A m f) (hb : Below w.heap.size w w') : GW lo w' A m f := by
  rcases h with h | ⟨q, B, hA, hq, hB, hw⟩
  · exact .inl h
  · exact .inr ⟨q, B, hA, hq, hB, hw.below hb⟩
theorem GW.grown {row : Option Nat} (h : GW lo w A m f) (hg : w.grownBy w' row) (hr : ∀ o, row = some o → o < lo) : GW lo w' A m f := by
  rcases h with h | ⟨q, B, hA, hq, hB, hw⟩
  · exact .inl h
  · cases row with
    | none => exact .inr ⟨q, B, hA, hq, hB, hw.below (below_grown hg (fun k e => by cases e) (Nat.le_refl _))⟩
    | some o =>
      have := hr o rfl
      exact .inr ⟨q, B, hA, hq, hB, hw.grown hg (by omega) (by omega)⟩
theorem GW.ws (h : GW lo w A m f) : WS w.heap.size w A m f := by
  intro i hi
  rcases h with h | ⟨q, B, hA, hq, hB, hw⟩
  · omega
  · have hlt : q < w.heap.size := by obtain ⟨cs, _, _, h1, _⟩ := hw; exact h1.lt
    obtain ⟨Ai, ci, h0, h1, h2, hs, _⟩ := hw.cell hi
    exact ⟨q, 0, Ai, ci, hA, hlt, by rw [Nat.zero_add]; exact h0, by rw [Nat.zero_add]; exact h1, by rw [Nat.zero_add]; exact h2, hs.sl⟩
end
/-- a walk's list is stored anew -/
theorem WRow.mark {B q m : Nat} {w : World} {F : Nat → List Nat × Nat × Nat} (h : WRow B w q m F) {i : Nat} (hi : i < m) :
    ∃ Ai ci, w.cell? ⟨q, i * 3, none⟩ = some (.slice Ai (F i).1.length ci) ∧ w.cell? ⟨q, i * 3 + 1, none⟩ = some (.int .i64 ((F i).2.1 : Int)) ∧ w.cell? ⟨q, i * 3 + 2, none⟩ = some (.int .i64 ((F i).2.2 : Int)) ∧ IntsR B w Ai ci (F i).1 ∧ (∀ j, w.frozen? ⟨q, j, none⟩ = false) ∧ ∀ (w1 : World) (l' : List Nat), l'.length = (F i).1.length → IntsR B w1 Ai ci l' → w.grownBy w1 (Value.slice Ai (F i).1.length ci).ownBlock → WRow B w1 q m (fun j => if j = i then (l', (F i).2.1, (F i).2.2) else F j) := by
  obtain ⟨cs, A, c, h1, h2, h3, h4, h5⟩ := h
  obtain ⟨a, b, d⟩ := h3 i hi
  refine ⟨A i, c i, by rw [h1.cell, a], by rw [h1.cell, b], by rw [h1.cell, d], h4 i hi, fun j => h1.frozen j, fun w1 l' hl hi' hg => ?_⟩
  have hlen : ∀ j, (if j = i then (l', (F i).2.1, (F i).2.2) else F j).1.length = (F j).1.length := fun j => by
    by_cases e : j = i
    · subst e; simp [hl]
    · simp [e]
  refine ⟨cs, A, c, rw_grown h1 hg (own_ne (h4 i hi) h1 tT), h2, fun j hj => ?_, fun j hj => ?_, fun j k hj hk hjk => ?_⟩
  · obtain ⟨a', b', d'⟩ := h3 j hj
    by_cases e : j = i
    · subst e
      simp only [if_pos]
      rw [hl]
      exact ⟨a', b', d'⟩
    · simp only [if_neg e]
      exact ⟨a', b', d'⟩
  · by_cases e : j = i
    · subst e
      simp only [if_pos]
      exact hi'
    · simp only [if_neg e]
      exact (h4 j hj).grown hg ((h5 j i hj hi e).imp id fun h e' => h e'.symm)
  · rw [hlen, hlen]
    exact h5 j k hj hk hjk
/-- .. its numbers -/
theorem WRow.nums {B q m : Nat} {w : World} {F : Nat → List Nat × Nat × Nat} (h : WRow B w q m F) {i : Nat} (hi : i < m) (x y : Nat) :
    WRow B ((w.setCell ⟨q, i * 3 + 1, none⟩ (.int .i64 (x : Int))).setCell ⟨q, i * 3 + 2, none⟩ (.int .i64 (y : Int))) q m (fun j => if j = i then ((F i).1, x, y) else F j) := by
  obtain ⟨cs, A, c, h1, h2, h3, h4, h5⟩ := h
  have h1' := h1.set (i * 3 + 1) (.int .i64 (x : Int))
  refine ⟨_, A, c, h1'.set (i * 3 + 2) (.int .i64 (y : Int)), by simp [h2], fun j hj => ?_, fun j hj => ?_, fun j k hj hk hjk => ?_⟩
  · obtain ⟨a', b', d'⟩ := h3 j hj
    by_cases e : j = i
    · subst e
      simp only [if_pos]
      refine ⟨?_, ?_, ?_⟩
      · rw [Array.getElem?_setIfInBounds_ne (by omega), Array.getElem?_setIfInBounds_ne (by omega)]; exact a'
      · rw [Array.getElem?_setIfInBounds_ne (by omega), Array.getElem?_setIfInBounds_self_of_lt (by omega)]
      · rw [Array.getElem?_setIfInBounds_self_of_lt (by simp; omega)]
    · simp only [if_neg e]
      refine ⟨?_, ?_, ?_⟩
      · rw [Array.getElem?_setIfInBounds_ne (by omega), Array.getElem?_setIfInBounds_ne (by omega)]; exact a'
      · rw [Array.getElem?_setIfInBounds_ne (by omega), Array.getElem?_setIfInBounds_ne (by omega)]; exact b'
      · rw [Array.getElem?_setIfInBounds_ne (by omega), Array.getElem?_setIfInBounds_ne (by omega)]; exact d'
  · have h4' := own_farR (own_farR (h4 j hj) h1 tT (i * 3 + 1) (.int .i64 (x : Int))) h1' tT (i * 3 + 2) (.int .i64 (y : Int))
    by_cases e : j = i
    · subst e
      simp only [if_pos]
      exact h4'
    · simp only [if_neg e]
      exact h4'
  · have hlen : ∀ j, (if j = i then ((F i).1, x, y) else F j).1.length = (F j).1.length := fun j => by
      by_cases e : j = i
      · subst e; simp
      · simp [e]
    rw [hlen, hlen]
    exact h5 j k hj hk hjk
theorem WRow.cong {B q m : Nat} {w : World} {F G : Nat → List Nat × Nat × Nat} (h : WRow B w q m F) (he : ∀ j, j < m → F j = G j) : WRow B w q m G := by
  obtain ⟨cs, A, c, h1, h2, h3, h4, h5⟩ := h
  exact ⟨cs, A, c, h1, h2, fun j hj => by rw [← he j hj]; exact h3 j hj, fun j hj => by rw [← he j hj]; exact h4 j hj, fun j k hj hk hjk => by rw [← he j hj, ← he k hk]; exact h5 j k hj hk hjk⟩
/-- the mark ahead of walk i -/
def kAt (f : Nat → List Nat × Nat × Nat) (k0 : Nat) : Nat → Nat
  | 0 => k0
  | i + 1 => kAt f k0 i + (f i).1.length + 2
/-- a marked walk -/
def mkF (f : Nat → List Nat × Nat × Nat) (k0 i : Nat) : List Nat × Nat × Nat := ((List.range (f i).1.length).map (kAt f k0 i + ·), kAt f k0 i + (f i).1.length, kAt f k0 i + (f i).1.length + 1)
theorem kAt_le {f : Nat → List Nat × Nat × Nat} {k0 : Nat} : ∀ m, (∀ i, i < m → (f i).1.length ≤ 128) → kAt f k0 m ≤ k0 + m * 130
  | 0, _ => by simp [kAt]
  | m + 1, h => by
    have := kAt_le (f := f) (k0 := k0) m (fun i hi => h i (by omega))
    have := h m (by omega)
    rw [kAt]
    omega
theorem kAt_ge {f : Nat → List Nat × Nat × Nat} {k0 : Nat} : ∀ m, k0 ≤ kAt f k0 m
  | 0 => Nat.le_refl _
  | m + 1 => by have := kAt_ge (f := f) (k0 := k0) m; rw [kAt]; omega
theorem mkF_len (f : Nat → List Nat × Nat × Nat) (k0 i : Nat) : (mkF f k0 i).1.length = (f i).1.length := by simp [mkF]
theorem mkF_getD {f : Nat → List Nat × Nat × Nat} {k0 i j : Nat} (h : j < (f i).1.length) : (mkF f k0 i).1.getD j 0 = kAt f k0 i + j := by
  simp [mkF, h]
theorem own_ltR {w : World} {B e k n : Nat} {v : Value} {xs : List Value} (h : w.ownsRow B e k v n xs) : ∀ o, v.ownBlock = some o → o < w.heap.size := by
  intro o ho
  rcases h.2 with ⟨hv, _⟩ | ⟨g, cap, cur, hv, _, hg, _⟩
  · rw [hv] at ho; cases ho
  · rw [hv] at ho
    injection ho with ho
    subst ho
    rcases Nat.lt_or_ge g w.heap.size with h' | h'
    · exact h'
    · simp [Array.getElem?_eq_none h'] at hg
theorem walkN_lenK {n z t : Nat} {U : Nat → UInt8} (k : Nat) (ht : t ≤ n) : (walkN n z t U k).1.length ≤ n := by
  unfold walkN
  split
  · exact (walkOf_ok _ _ _ _ _).1.len
  · exact Nat.zero_le _
end Go.Proofs.YtgmmigbaaigldaaDoor
