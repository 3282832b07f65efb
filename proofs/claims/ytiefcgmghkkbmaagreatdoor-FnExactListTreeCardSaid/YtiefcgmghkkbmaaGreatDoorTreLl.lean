/-
  Trees: ListTree: both sides in the form of the law.
-/
import Derived.Test.YtiefcgmghkkbmaaGreatDoorTreLs
namespace Go.Proofs.YtiefcgmghkkbmaaGreatDoor
open Go Go.ChangeShapes Go.WideShapes Go.ChangeAt Go.RowKit lib
set_option linter.unusedVariables false
set_option maxRecDepth 100000
theorem lsAt_dd {n : Nat} {s : Nat → ByteArray} {p : ByteArray} (h : (lsAt n s p).1 = 0) : DD n (fun i => byteAt (s i)) (lsAt n s p).2 := by
  by_cases hp0 : p = ⟨#[]⟩
  · rw [hp0, lsAt_root] at h ⊢
    obtain ⟨⟨h4, hn, _⟩, hw⟩ := tCode_zero h
    exact dd_root (by omega) hn hw
  · cases hp : pathT p with
    | none => rw [lsAt_none hp0 hp] at h; cases h
    | some N =>
      by_cases hc : tCode n s = 0
      · rw [lsAt_fold hp0 hp hc] at h ⊢
        obtain ⟨⟨h4, hn, _⟩, hw⟩ := tCode_zero hc
        exact tFold_dd _ (dd_root (by omega) hn hw) h
      · rw [lsAt_code hp0 hp hc] at h
        exact absurd h hc
theorem lsT_len (n : Nat) (s : Nat → ByteArray) (p : ByteArray) : (lsT n s p).length ≤ 1048576 := by
  unfold lsT
  by_cases h : (lsAt n s p).1 = 0
  · rw [if_pos h, putL_len]
    have := lsD_len (lsAt_dd h) 8 (Nat.le_refl _)
    simp only [List.length_nil]
    omega
  · rw [if_neg h]
    simp
theorem rng_texts (L : List ByteArray) : ((List.range L.length).map fun (i : Nat) => Value.string (L.getD i ⟨#[]⟩)) = L.map Value.string := by
  apply List.ext_getElem
  · simp
  · intro i h1 h2
    simp at h1
    simp [List.getElem?_eq_getElem h1]
theorem LsOut.rng {n : Nat} {s : Nat → ByteArray} {p : ByteArray} {w w' : World} {e : Ending} (h : LsOut n s p w e w') : ∃ (A : Option Addr) (c : Nat), e = .returned (.tuple #[.slice A (lsT n s p).length c, .int .i64 ((lsAt n s p).1 : Nat)]) ∧ w'.ownsRow w.heap.size 9 1 (.slice A (lsT n s p).length c) (lsT n s p).length ((List.range (lsT n s p).length).map fun (i : Nat) => Value.string ((lsT n s p).getD i ⟨#[]⟩)) ∧ Below w.heap.size w w' := by
  obtain ⟨A, c, h1, h2, h3⟩ := h
  rw [rng_texts]
  exact ⟨A, c, h1, h2, h3⟩
end Go.Proofs.YtiefcgmghkkbmaaGreatDoor
