/-
  Revolutions: three revolutions of which each cell is changed in one at most. Plain.
-/
import Derived.Test.YtabmdbhbbmnkdaaDoorVoI
namespace Go.Proofs.YtabmdbhbbmnkdaaDoor
open Go Go.ChangeShapes Go.WideShapes Go.ChangeAt Go.RowKit Go.Joins lib
set_option linter.unusedVariables false
set_option maxRecDepth 100000
def flipY (y : UInt8) : UInt8 := 97 - y
theorem flip48 : flipY 48 = 49 := by decide
theorem flip49 : flipY 49 = 48 := by decide
/-- the revolution j: the cells that are given to it are changed -/
def vJ (c : List UInt8) (a : Nat → Nat) (j : Nat) : List UInt8 := (List.range c.length).map fun i => if a i = j then flipY (c.getD i 0) else c.getD i 0
theorem vJ_len (c : List UInt8) (a : Nat → Nat) (j : Nat) : (vJ c a j).length = c.length := by unfold vJ; simp
theorem vJ_get (c : List UInt8) (a : Nat → Nat) (j i : Nat) (h : i < c.length) : (vJ c a j).getD i 0 = if a i = j then flipY (c.getD i 0) else c.getD i 0 := by
  unfold vJ
  rw [List.getD_eq_getElem?_getD, List.getElem?_map, List.getElem?_range h]
  rfl
theorem vJ_cell {c : List UInt8} (hc : CellL c) (a : Nat → Nat) (j : Nat) : CellL (vJ c a j) := by
  intro y hy
  unfold vJ at hy
  obtain ⟨i, hi, rfl⟩ := List.mem_map.1 hy
  rw [List.mem_range] at hi
  have h := cell_of hc hi
  split
  · rcases h with h | h
    · rw [h]; exact .inr flip48
    · rw [h]; exact .inl flip49
  · exact h
theorem rev3_vJ {c : List UInt8} (hc : CellL c) (a : Nat → Nat) (h1 : 1 ≤ c.length) (h8 : c.length ≤ 8000) : Rev3 (vJ c a) c.length := ⟨fun j _ => vJ_len c a j, fun j _ => vJ_cell hc a j, h1, h8⟩
theorem vJ_none (c : List UInt8) (j : Nat) (a : Nat → Nat) (ha : ∀ i, a i = 3) (hj : j < 3) : vJ c a j = c := by
  apply List.ext_getElem?
  intro i
  by_cases hi : i < c.length
  · have h1 := vJ_get c a j i hi
    rw [List.getD_eq_getElem?_getD, List.getElem?_eq_getElem (by rw [vJ_len]; exact hi), if_neg (by rw [ha]; omega)] at h1
    rw [List.getElem?_eq_getElem (by rw [vJ_len]; exact hi), List.getElem?_eq_getElem hi]
    rw [List.getD_eq_getElem?_getD, List.getElem?_eq_getElem hi] at h1
    simpa using h1
  · rw [List.getElem?_eq_none (by rw [vJ_len]; omega), List.getElem?_eq_none (by omega)]
def setA (a : Nat → Nat) (t j : Nat) : Nat → Nat := fun i => if i = t then j else a i
theorem vJ_other (c : List UInt8) (a : Nat → Nat) (t j k : Nat) (ht : a t = 3) (hk : k ≠ j) (hk3 : k < 3) : vJ c (setA a t j) k = vJ c a k := by
  unfold vJ
  apply List.map_congr_left
  intro i _
  unfold setA
  by_cases e : i = t
  · subst e
    rw [if_pos rfl, if_neg (by omega), if_neg (by omega)]
  · rw [if_neg e]
theorem vJ_set (c : List UInt8) (a : Nat → Nat) (t j : Nat) (ht : a t = 3) (hj : j < 3) (hl : t < c.length) : (vJ c a j).set t (flipY ((vJ c a j).getD t 0)) = vJ c (setA a t j) j := by
  rw [vJ_get c a j t hl, if_neg (by omega)]
  apply List.ext_getElem?
  intro i
  rw [List.getElem?_set]
  unfold vJ
  by_cases e : t = i
  · subst e
    rw [if_pos rfl, if_pos (by simp; exact hl), List.getElem?_map, List.getElem?_range hl]
    unfold setA
    simp
  · rw [if_neg e, List.getElem?_map, List.getElem?_map]
    by_cases hi : i < c.length
    · rw [List.getElem?_range hi]
      simp only [Option.map_some]
      unfold setA
      simp only [if_neg (show ¬ i = t from fun h => e h.symm)]
    · rw [List.getElem?_eq_none (show (List.range c.length).length ≤ i by simp; omega)]
      rfl
theorem maj_vJ {c : List UInt8} (hc : CellL c) (a : Nat → Nat) : bstr c.length (majB (vJ c a)) = strL c := by
  unfold bstr strL
  congr 2
  apply List.ext_getElem?
  intro i
  by_cases hi : i < c.length
  · rw [List.getElem?_map, List.getElem?_range hi, List.getElem?_eq_getElem hi]
    simp only [Option.map_some]
    congr 1
    have hci : c.getD i 0 = c[i] := by rw [List.getD_eq_getElem?_getD, List.getElem?_eq_getElem hi]; rfl
    rw [← hci]
    unfold majB majN majN majN majN
    rw [vJ_get c a 0 i hi, vJ_get c a 1 i hi, vJ_get c a 2 i hi]
    rcases cell_of hc hi with h | h <;> rw [h]
    · rw [flip48]
      have : a i = 0 ∨ a i = 1 ∨ a i = 2 ∨ 3 ≤ a i := by omega
      rcases this with h | h | h | h
      · rw [h]; decide
      · rw [h]; decide
      · rw [h]; decide
      · rw [if_neg (by omega : ¬ a i = 0), if_neg (by omega : ¬ a i = 1), if_neg (by omega : ¬ a i = 2)]; decide
    · rw [flip49]
      have : a i = 0 ∨ a i = 1 ∨ a i = 2 ∨ 3 ≤ a i := by omega
      rcases this with h | h | h | h
      · rw [h]; decide
      · rw [h]; decide
      · rw [h]; decide
      · rw [if_neg (by omega : ¬ a i = 0), if_neg (by omega : ¬ a i = 1), if_neg (by omega : ¬ a i = 2)]; decide
  · rw [List.getElem?_eq_none (by simp; omega), List.getElem?_eq_none (by omega)]
def wantA (a : Nat → Nat) (n : Nat) : List Nat := (List.range n).filter fun i => decide (a i < 3)
theorem dif_vJ {c : List UInt8} (hc : CellL c) (a : Nat → Nat) (i : Nat) (hi : i < c.length) : difB (vJ c a) i = decide (a i < 3) := by
  unfold difB
  rw [vJ_get c a 0 i hi, vJ_get c a 1 i hi, vJ_get c a 2 i hi]
  have : a i = 0 ∨ a i = 1 ∨ a i = 2 ∨ 3 ≤ a i := by omega
  rcases cell_of hc hi with h | h <;> rw [h]
  · rw [flip48]
    rcases this with h | h | h | h
    · rw [h]; decide
    · rw [h]; decide
    · rw [h]; decide
    · rw [if_neg (by omega : ¬ a i = 0), if_neg (by omega : ¬ a i = 1), if_neg (by omega : ¬ a i = 2), decide_eq_false (by omega)]; decide
  · rw [flip49]
    rcases this with h | h | h | h
    · rw [h]; decide
    · rw [h]; decide
    · rw [h]; decide
    · rw [if_neg (by omega : ¬ a i = 0), if_neg (by omega : ¬ a i = 1), if_neg (by omega : ¬ a i = 2), decide_eq_false (by omega)]; decide
theorem weak_vJ {c : List UInt8} (hc : CellL c) (a : Nat → Nat) : weakL (vJ c a) c.length = wantA a c.length := by
  unfold weakL wantA
  apply List.filter_congr
  intro i hi
  rw [List.mem_range] at hi
  exact dif_vJ hc a i hi
theorem wantA_succ (a : Nat → Nat) (n : Nat) : wantA a (n + 1) = wantA a n ++ (if a n < 3 then [n] else []) := by
  unfold wantA
  rw [List.range_succ, List.filter_append]
  by_cases h : a n < 3 <;> simp [h]
theorem wantA_flat (a : Nat → Nat) (t : Nat) (ha : ∀ i, t ≤ i → a i = 3) : ∀ d, wantA a (t + d) = wantA a t
  | 0 => rfl
  | d + 1 => by rw [← Nat.add_assoc, wantA_succ, wantA_flat a t ha d, if_neg (by rw [ha (t + d) (by omega)]; omega), List.append_nil]
theorem wantA_agree {a b : Nat → Nat} : ∀ n, (∀ i, i < n → a i = b i) → wantA a n = wantA b n
  | 0, _ => rfl
  | n + 1, h => by rw [wantA_succ, wantA_succ, wantA_agree n (fun i hi => h i (by omega)), h n (by omega)]
theorem wantA_step (a : Nat → Nat) (t n j : Nat) (ha : ∀ i, t ≤ i → a i = 3) (ht : t < n) (hj : j < 3) : wantA (setA a t j) n = wantA a n ++ [t] := by
  obtain ⟨d, rfl⟩ : ∃ d, n = t + 1 + d := ⟨n - t - 1, by omega⟩
  rw [wantA_flat (setA a t j) (t + 1) (fun i hi => by unfold setA; rw [if_neg (by omega)]; exact ha i (by omega)) d, wantA_succ, if_pos (by unfold setA; rw [if_pos rfl]; exact hj)]
  rw [show t + 1 + d = t + (1 + d) by omega, wantA_flat a t ha (1 + d)]
  congr 1
  exact wantA_agree t fun i hi => by unfold setA; rw [if_neg (by omega)]
theorem wantA_none (a : Nat → Nat) (ha : ∀ i, a i = 3) (n : Nat) : wantA a n = [] := by
  have := wantA_flat a 0 (fun i _ => ha i) n
  rw [Nat.zero_add] at this
  rw [this]
  rfl
end Go.Proofs.YtabmdbhbbmnkdaaDoor
