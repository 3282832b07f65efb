/-
  The lines of a text, a text cut at a byte: plain.
-/
import Derived.Test.YtdofpkdemmngeaaSplP
import Derived.Lib.Bytealg
import Derived.Lib.Strings
namespace Go.Proofs.Ytdofpkdemmngeaa
open Go Go.ChangeShapes Go.WideShapes Go.ChangeAt Go.RowKit lib
set_option linter.unusedVariables false
set_option maxRecDepth 100000
/-- the lines of a text, each with its newline -/
def linesL : List UInt8 → List (List UInt8)
  | [] => []
  | c :: r => if c = 10 then [c] :: linesL r else match linesL r with
    | [] => [[c]]
    | p :: q => (c :: p) :: q
theorem linesL_len : ∀ l, (linesL l).length ≤ l.length
  | [] => Nat.le_refl _
  | c :: r => by
    have h := linesL_len r
    unfold linesL
    split
    · simp; omega
    · split
      · simp
      · rename_i p q e
        rw [e] at h
        simp at h ⊢
        omega
theorem ix_step (b c : UInt8) (r : List UInt8) : Lib.indexByte (b :: r) c = if b = c then 0 else if Lib.indexByte r c = -1 then -1 else Lib.indexByte r c + 1 := by
  simp only [Lib.indexByte, beq_iff_eq]
theorem linesL_hit : ∀ (l : List UInt8) (i : Nat), Lib.indexByte l 10 = i → linesL l = l.take (i + 1) :: linesL (l.drop (i + 1)) ∧ i + 1 ≤ l.length
  | [], i, h => by simp [Lib.indexByte] at h <;> omega
  | b :: r, i, h => by
    rw [ix_step] at h
    by_cases hb : b = 10
    · rw [if_pos hb] at h
      have hi : i = 0 := by omega
      subst hi
      rw [linesL, if_pos hb]
      exact ⟨by simp, by simp⟩
    · rw [if_neg hb] at h
      by_cases h1 : Lib.indexByte r 10 = -1
      · rw [if_pos h1] at h; omega
      · rw [if_neg h1] at h
        have hg := Lib.indexByte_ge r 10
        obtain ⟨j, hj⟩ : ∃ j : Nat, Lib.indexByte r 10 = j := ⟨(Lib.indexByte r 10).toNat, by omega⟩
        have hij : i = j + 1 := by omega
        subst hij
        obtain ⟨ih, hl⟩ := linesL_hit r j hj
        rw [linesL, if_neg hb, ih]
        exact ⟨by simp, by simp; omega⟩
theorem linesL_miss : ∀ (l : List UInt8), Lib.indexByte l 10 = -1 → l ≠ [] → linesL l = [l]
  | [], _, h => absurd rfl h
  | b :: r, h, _ => by
    rw [ix_step] at h
    have hg := Lib.indexByte_ge r 10
    by_cases hb : b = 10
    · rw [if_pos hb] at h; omega
    · rw [if_neg hb] at h
      by_cases h1 : Lib.indexByte r 10 = -1
      · rw [linesL, if_neg hb]
        cases r with
        | nil => rfl
        | cons a t => rw [linesL_miss (a :: t) h1 (by simp)]
      · rw [if_neg h1] at h; omega
/-- a line, then the rest -/
theorem linesL_line : ∀ (p r : List UInt8), 10 ∉ p → linesL (p ++ 10 :: r) = (p ++ [10]) :: linesL r
  | [], r, _ => by rw [List.nil_append, linesL, if_pos rfl]; rfl
  | x :: p, r, h => by
    have hx : x ≠ 10 := fun e => h (by rw [e]; simp)
    rw [List.cons_append, linesL, if_neg hx, linesL_line p r (fun e => h (by simp [e]))]
    rfl
/-- the place of the first c -/
theorem ix_none : ∀ (l : List UInt8) (c : UInt8), c ∉ l → Lib.indexByte l c = -1
  | [], _, _ => rfl
  | b :: r, c, h => by
    rw [ix_step, if_neg (fun e => h (by rw [e]; simp)), if_pos (ix_none r c (fun e => h (by simp [e])))]
theorem ix_first : ∀ (p r : List UInt8) (c : UInt8), c ∉ p → Lib.indexByte (p ++ c :: r) c = p.length
  | [], r, c, _ => by rw [List.nil_append, ix_step, if_pos rfl]; rfl
  | b :: p, r, c, h => by
    have ih := ix_first p r c (fun e => h (by simp [e]))
    rw [List.cons_append, ix_step, if_neg (fun e => h (by rw [e]; simp)), ih, if_neg (by omega)]
    simp
/-- a text cut at the first c: what lies ahead, what lies behind -/
def cutA (c : UInt8) (l : List UInt8) : List UInt8 := if 0 ≤ Lib.indexByte l c then l.take (Lib.indexByte l c).toNat else l
def cutZ (c : UInt8) (l : List UInt8) : List UInt8 := if 0 ≤ Lib.indexByte l c then l.drop ((Lib.indexByte l c).toNat + 1) else []
theorem cutA_first {p r : List UInt8} {c : UInt8} (h : c ∉ p) : cutA c (p ++ c :: r) = p := by
  unfold cutA
  rw [ix_first p r c h, if_pos (by omega)]
  simp
theorem cutZ_first {p r : List UInt8} {c : UInt8} (h : c ∉ p) : cutZ c (p ++ c :: r) = r := by
  unfold cutZ
  rw [ix_first p r c h, if_pos (by omega)]
  simp
theorem cutA_len (c : UInt8) (l : List UInt8) : (cutA c l).length ≤ l.length := by
  unfold cutA; split
  · simp; omega
  · exact Nat.le_refl _
theorem cutZ_len (c : UInt8) (l : List UInt8) : (cutZ c l).length ≤ l.length := by
  unfold cutZ; split
  · simp
  · simp
end Go.Proofs.Ytdofpkdemmngeaa
