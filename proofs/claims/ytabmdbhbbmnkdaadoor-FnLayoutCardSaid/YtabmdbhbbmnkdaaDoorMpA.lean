/-
  Marks on tracks, plain: a track as chunks, where a pattern of FM or MFM fits.
-/
import Derived.Test.YtabmdbhbbmnkdaaDoorTkP
import Derived.Test.YtabmdbhbbmnkdaaDoorMkD
namespace Go.Proofs.YtabmdbhbbmnkdaaDoor
open Go Go.ChangeShapes Go.WideShapes Go.ChangeAt Go.RowKit lib
set_option linter.unusedVariables false
set_option linter.unusedSimpArgs false
set_option maxRecDepth 100000
/-- a byte, or a mark with the zeros before it -/
inductive Chk where
  | r (y : UInt8)
  | m (kd : Nat)
def Chk.ok : Chk → Prop
  | .r _ => True
  | .m kd => f123 kd
def Chk.I (f : Nat) : Chk → List Itm
  | .r y => [rbI y]
  | .m kd => runI f ++ markI f kd
def itemsC (f : Nat) (L : List Chk) : List Itm := L.flatMap (Chk.I f)
/-- each item lies in a chunk -/
theorem chunk_at (f : Nat) : ∀ (L : List Chk) (k : Nat), k < (itemsC f L).length → ∃ (A B : List Chk) (x : Chk) (j : Nat), L = A ++ x :: B ∧ k = (itemsC f A).length + j ∧ j < (x.I f).length
  | [], k, h => by simp [itemsC] at h
  | x :: r, k, h => by
    have e : itemsC f (x :: r) = x.I f ++ itemsC f r := rfl
    by_cases hk : k < (x.I f).length
    · exact ⟨[], r, x, k, rfl, by simp [itemsC], hk⟩
    · rw [e, List.length_append] at h
      obtain ⟨A, B, y, j, e1, e2, e3⟩ := chunk_at f r (k - (x.I f).length) (by omega)
      refine ⟨x :: A, B, y, j, by rw [e1]; rfl, ?_, e3⟩
      have : itemsC f (x :: A) = x.I f ++ itemsC f A := rfl
      rw [this, List.length_append]
      omega
theorem itemsC_split (f : Nat) (A B : List Chk) (x : Chk) : itemsC f (A ++ x :: B) = itemsC f A ++ x.I f ++ itemsC f B := by
  unfold itemsC
  rw [List.flatMap_append, List.flatMap_cons, List.append_assoc]
theorem iat_in {l A X B : List Itm} (h : l = A ++ X ++ B) (j : Nat) (hj : j < X.length) : iat l (A.length + j) = X.getD j noI := by
  unfold iat
  have hl : l.length = A.length + X.length + B.length := by rw [h, List.length_append, List.length_append]
  rw [Nat.mod_eq_of_lt (by omega), h, List.getD_eq_getElem?_getD, List.getElem?_append_left (by rw [List.length_append]; omega), List.getElem?_append_right (by omega), show A.length + j - A.length = j by omega, ← List.getD_eq_getElem?_getD]
/-- an item with a mark's clocks -/
theorem mk_chunk (f : Nat) (hf : f = 1 ∨ f = 2) (L : List Chk) (hL : ∀ x ∈ L, x.ok) (k : Nat) (h0 : itemsC f L ≠ []) (hk : (iat (itemsC f L) k).mk? = true) :
    ∃ (A B : List Chk) (kd j : Nat), L = A ++ .m kd :: B ∧ f123 kd ∧ k % (itemsC f L).length = (itemsC f A).length + j ∧ (if f = 1 then j = 2 else 3 ≤ j ∧ j ≤ 5) := by
  have hN : 0 < (itemsC f L).length := List.length_pos_iff.2 h0
  obtain ⟨A, B, x, j, e1, e2, e3⟩ := chunk_at f L (k % (itemsC f L).length) (Nat.mod_lt _ hN)
  have hi : iat (itemsC f L) k = (x.I f).getD j noI := by
    have := iat_in (l := itemsC f L) (A := itemsC f A) (X := x.I f) (B := itemsC f B) (by rw [e1, itemsC_split]) j e3
    rw [← this, ← e2]
    unfold iat
    rw [Nat.mod_mod]
  rw [hi] at hk
  cases x with
  | r y =>
    have hj : j = 0 := by
      have : (Chk.I f (.r y)).length = 1 := rfl
      omega
    subst hj
    exact absurd hk (by simp [Chk.I, rbI, Itm.mk?])
  | m kd =>
    have hkd : f123 kd := hL (.m kd) (by rw [e1]; simp)
    refine ⟨A, B, kd, j, e1, hkd, e2, ?_⟩
    rcases hf with rfl | rfl
    · rw [if_pos rfl]
      have hl : (Chk.I 1 (.m kd)).length = 3 := rfl
      have : j = 0 ∨ j = 1 ∨ j = 2 := by omega
      rcases this with rfl | rfl | rfl
      · exact absurd hk (by simp [Chk.I, runI, rbI, Itm.mk?])
      · exact absurd hk (by simp [Chk.I, runI, rbI, Itm.mk?])
      · rfl
    · rw [if_neg (by omega)]
      have hl : (Chk.I 2 (.m kd)).length = 7 := rfl
      have : j = 0 ∨ j = 1 ∨ j = 2 ∨ (3 ≤ j ∧ j ≤ 5) ∨ j = 6 := by omega
      rcases this with rfl | rfl | rfl | h | rfl
      · exact absurd hk (by simp [Chk.I, runI, rbI, Itm.mk?])
      · exact absurd hk (by simp [Chk.I, runI, rbI, Itm.mk?])
      · exact absurd hk (by simp [Chk.I, runI, rbI, Itm.mk?])
      · exact h
      · exact absurd hk (by simp [Chk.I, runI, markI, rbI, Itm.mk?])
end Go.Proofs.YtabmdbhbbmnkdaaDoor
