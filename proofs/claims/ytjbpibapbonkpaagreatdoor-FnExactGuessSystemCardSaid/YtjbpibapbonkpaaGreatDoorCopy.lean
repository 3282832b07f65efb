/-
  'copy(dst, s)' over a row of bytes. No function of the program is named here.
-/
import Derived.Test.YtjbpibapbonkpaaGreatDoorBase
import Derived.Lib.LazyBuf
namespace Go.Proofs.YtjbpibapbonkpaaGreatDoor.lib
open Go Go.ChangeShapes Go.WideShapes Go.ChangeAt Go.RowKit
set_option linter.unusedVariables false
/-- bytes over a row from o on -/
def putU (u : Nat → UInt8) (o : Nat) (l : List UInt8) : Nat → UInt8 := fun j => if o ≤ j ∧ j < o + l.length then l.getD (j - o) 0 else u j
theorem putU_nil (u : Nat → UInt8) (o : Nat) : putU u o [] = u := by
  funext j
  unfold putU
  rw [if_neg (by simp)]
theorem putU_cons (u : Nat → UInt8) (o : Nat) (x : UInt8) (l : List UInt8) : putU u o (x :: l) = putU (upd u o x) (o + 1) l := by
  funext j
  unfold putU upd
  simp only [List.length_cons]
  by_cases h : j = o
  · subst h
    rw [if_pos (by omega), if_neg (by omega), if_pos rfl, Nat.sub_self]
    rfl
  · by_cases h2 : o + 1 ≤ j ∧ j < o + 1 + l.length
    · rw [if_pos h2, if_pos (by omega), show j - o = (j - (o + 1)) + 1 by omega]
      rfl
    · rw [if_neg h2, if_neg (by omega), if_neg h]
theorem BRow.setCells {e g n : Nat} : ∀ (l : List UInt8) (o : Nat) (w : World) (u : Nat → UInt8), BRow w e g n u → BRow (w.setCells g o (l.map fun x => Value.int .u8 (x.toNat : Int))) e g n (putU u o l)
  | [], o, w, u, h => by rw [putU_nil]; exact h
  | x :: l, o, w, u, h => by
    rw [putU_cons]
    exact BRow.setCells l (o + 1) _ _ (h.set (i := o) x rfl)
theorem heap_setCells_other {b b' : Nat} (hne : b' ≠ b) : ∀ (vs : List Value) (o : Nat) (w : World), (w.setCells b o vs).heap[b']? = w.heap[b']?
  | [], _, _ => rfl
  | v :: r, o, w => (heap_setCells_other hne r (o + 1) _).trans (Below.heap_setCell w ⟨b, o, none⟩ v b' hne)
theorem size_setCells {b : Nat} : ∀ (vs : List Value) (o : Nat) (w : World), (w.setCells b o vs).heap.size = w.heap.size
  | [], _, _ => rfl
  | v :: r, o, w => (size_setCells r (o + 1) _).trans (by simp [World.setCell])
theorem only_setCells {a : World} {g : Nat} : ∀ (vs : List Value) (o : Nat) (w : World), a.grownBy w (some g) → a.grownBy (w.setCells g o vs) (some g)
  | [], _, _, h => h
  | v :: r, o, w, h => only_setCells r (o + 1) _ (only_setCell h (p := ⟨g, o, none⟩) (.inl rfl) v)
end Go.Proofs.YtjbpibapbonkpaaGreatDoor.lib
