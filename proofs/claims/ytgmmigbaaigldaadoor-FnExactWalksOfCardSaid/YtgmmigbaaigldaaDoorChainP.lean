/-
  Disks of chains: how a chain runs: plain.
-/
import Derived.Test.YtgmmigbaaigldaaDoorEntR
namespace Go.Proofs.YtgmmigbaaigldaaDoor
open Go Go.ChangeShapes Go.WideShapes Go.ChangeAt Go.RowKit lib
set_option linter.unusedVariables false
set_option maxRecDepth 100000
theorem nodup_len : ∀ (n : Nat) (l : List Nat), l.Nodup → (∀ x, x ∈ l → x < n) → l.length ≤ n
  | 0, l, _, h => by
    cases l with
    | nil => exact Nat.le_refl _
    | cons a l => exact absurd (h a (by simp)) (by omega)
  | n + 1, l, hd, h => by
    by_cases hm : n ∈ l
    · have h1 := nodup_len n (l.erase n) (hd.erase n) fun x hx => by
        have h2 := (List.Nodup.mem_erase_iff hd).1 hx
        have := h x h2.2
        have := h2.1
        omega
      rw [List.length_erase_of_mem hm] at h1
      omega
    · have h1 := nodup_len n l hd fun x hx => by
        have := h x hx
        have : x ≠ n := fun e => hm (e ▸ hx)
        omega
      omega
/-- a link that leads nowhere -/
def isOpenN (x : Nat) : Bool := x == 0 || x == 253 || x == 254
/-- where a chain leads: 't' the first data block, 'n' all blocks, 'L' the links -/
def chainGo (t n : Nat) (L : Nat → Nat) : Nat → List Nat → Nat → List Nat × Nat
  | 0, _, _ => ([], 0)
  | m + 1, l, a =>
    if t ≤ a ∧ a < n then
      if a ∈ l then ([], 6) else
      if isOpenN (L a) then ([], 10) else
      if L a = 255 then (l ++ [a], 0) else chainGo t n L m (l ++ [a]) (L a)
    else ([], 2)
def chainOf (t n : Nat) (L : Nat → Nat) (first : Nat) : List Nat × Nat := if first = 0 then ([], 0) else chainGo t n L (n + 1) [] first
/-- what a chain's blocks are, all along -/
structure ChL (t n : Nat) (l : List Nat) : Prop where
  nd : l.Nodup
  lt : ∀ x, x ∈ l → t ≤ x ∧ x < n
theorem ChL.len {t n : Nat} {l : List Nat} (h : ChL t n l) : l.length ≤ n := nodup_len n l h.nd fun x hx => (h.lt x hx).2
theorem ChL.nil (t n : Nat) : ChL t n [] := ⟨List.nodup_nil, by simp⟩
theorem ChL.snoc {t n a : Nat} {l : List Nat} (h : ChL t n l) (ha : t ≤ a ∧ a < n) (hm : a ∉ l) : ChL t n (l ++ [a]) := by
  refine ⟨?_, fun x hx => ?_⟩
  · rw [List.nodup_append]
    refine ⟨h.nd, by simp, ?_⟩
    intro x hx y hy
    simp at hy
    subst hy
    rintro rfl
    exact hm hx
  · rw [List.mem_append] at hx
    rcases hx with hx | hx
    · exact h.lt x hx
    · simp at hx
      subst hx
      exact ha
theorem chainGo_ok {t n : Nat} {L : Nat → Nat} : ∀ (m : Nat) (l : List Nat) (a : Nat), ChL t n l → ChL t n (chainGo t n L m l a).1
  | 0, l, a, h => ChL.nil t n
  | m + 1, l, a, h => by
    unfold chainGo
    split
    · rename_i h1
      split
      · exact ChL.nil t n
      · rename_i h2
        split
        · exact ChL.nil t n
        · split
          · exact h.snoc h1 h2
          · exact chainGo_ok m _ _ (h.snoc h1 h2)
    · exact ChL.nil t n
theorem chainOf_ok (t n : Nat) (L : Nat → Nat) (first : Nat) : ChL t n (chainOf t n L first).1 := by
  unfold chainOf
  split
  · exact ChL.nil t n
  · exact chainGo_ok _ _ _ (ChL.nil t n)
/-- one step of a chain -/
theorem chainGo_step {t n m a : Nat} {L : Nat → Nat} {l : List Nat} (h1 : t ≤ a ∧ a < n) (h2 : a ∉ l) (h3 : isOpenN (L a) = false) (h4 : L a ≠ 255) : chainGo t n L (m + 1) l a = chainGo t n L m (l ++ [a]) (L a) := by
  rw [chainGo, if_pos h1, if_neg h2, h3, if_neg (by simp), if_neg h4]
theorem chainGo_end {t n m a : Nat} {L : Nat → Nat} {l : List Nat} (h1 : t ≤ a ∧ a < n) (h2 : a ∉ l) (h4 : L a = 255) : chainGo t n L (m + 1) l a = (l ++ [a], 0) := by
  rw [chainGo, if_pos h1, if_neg h2, h4, if_neg (by decide), if_pos rfl]
theorem chainGo_range {t n m a : Nat} {L : Nat → Nat} {l : List Nat} (h1 : ¬ (t ≤ a ∧ a < n)) : chainGo t n L (m + 1) l a = ([], 2) := by
  rw [chainGo, if_neg h1]
theorem chainGo_loop {t n m a : Nat} {L : Nat → Nat} {l : List Nat} (h1 : t ≤ a ∧ a < n) (h2 : a ∈ l) : chainGo t n L (m + 1) l a = ([], 6) := by
  rw [chainGo, if_pos h1, if_pos h2]
theorem chainGo_open {t n m a : Nat} {L : Nat → Nat} {l : List Nat} (h1 : t ≤ a ∧ a < n) (h2 : a ∉ l) (h3 : isOpenN (L a) = true) : chainGo t n L (m + 1) l a = ([], 10) := by
  rw [chainGo, if_pos h1, if_neg h2, h3, if_pos rfl]
end Go.Proofs.YtgmmigbaaigldaaDoor
