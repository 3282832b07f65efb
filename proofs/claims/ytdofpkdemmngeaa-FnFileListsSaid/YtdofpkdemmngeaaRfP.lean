/-
  A list of files read from its text: plain.
-/
import Derived.Test.YtdofpkdemmngeaaFtT
import Derived.Test.YtdofpkdemmngeaaFIdx
import Derived.Test.YtdofpkdemmngeaaSplP
namespace Go.Proofs.Ytdofpkdemmngeaa
open Go Go.ChangeShapes Go.WideShapes Go.ChangeAt Go.RowKit lib
set_option linter.unusedVariables false
set_option maxRecDepth 100000
/-! ### hexadecimal digits -/
/-- the value of a digit -/
def unD (x : UInt8) : Option Nat := if 48 ≤ x.toNat ∧ x.toNat ≤ 57 then some (x.toNat - 48) else if 97 ≤ x.toNat ∧ x.toNat ≤ 102 then some (x.toNat - 87) else none
def unhex : List UInt8 → Option (List UInt8)
  | [] => some []
  | [_] => none
  | a :: b :: r => match unD a, unD b, unhex r with
    | some x, some y, some t => some (UInt8.ofNat (16 * x + y) :: t)
    | _, _, _ => none
theorem unD_lt {x : UInt8} {v : Nat} (h : unD x = some v) : v < 16 := by
  unfold unD at h
  split at h
  · injection h with h; omega
  · split at h
    · injection h with h; omega
    · cases h
theorem unD_hexD {v : Nat} (h : v < 16) : unD (hexD v) = some v := by
  have : v = 0 ∨ v = 1 ∨ v = 2 ∨ v = 3 ∨ v = 4 ∨ v = 5 ∨ v = 6 ∨ v = 7 ∨ v = 8 ∨ v = 9 ∨ v = 10 ∨ v = 11 ∨ v = 12 ∨ v = 13 ∨ v = 14 ∨ v = 15 := by omega
  rcases this with rfl | rfl | rfl | rfl | rfl | rfl | rfl | rfl | rfl | rfl | rfl | rfl | rfl | rfl | rfl | rfl <;> rfl
theorem hexD_unD {x : UInt8} {v : Nat} (h : unD x = some v) : hexD v = x := by
  have hv := unD_lt h
  unfold unD at h
  have hx : x = UInt8.ofNat x.toNat := by simp
  have this : v = 0 ∨ v = 1 ∨ v = 2 ∨ v = 3 ∨ v = 4 ∨ v = 5 ∨ v = 6 ∨ v = 7 ∨ v = 8 ∨ v = 9 ∨ v = 10 ∨ v = 11 ∨ v = 12 ∨ v = 13 ∨ v = 14 ∨ v = 15 := by omega
  split at h
  · injection h with h
    rw [hx, show x.toNat = v + 48 by omega]
    have h10 : v < 10 := by omega
    rcases this with rfl | rfl | rfl | rfl | rfl | rfl | rfl | rfl | rfl | rfl | rfl | rfl | rfl | rfl | rfl | rfl <;> first | rfl | omega
  · split at h
    · injection h with h
      rw [hx, show x.toNat = v + 87 by omega]
      have h10 : 10 ≤ v := by omega
      rcases this with rfl | rfl | rfl | rfl | rfl | rfl | rfl | rfl | rfl | rfl | rfl | rfl | rfl | rfl | rfl | rfl <;> first | rfl | omega
    · cases h
/-- the digits of bytes -/
def hexL : List UInt8 → List UInt8
  | [] => []
  | x :: r => hexD (x.toNat / 16) :: hexD (x.toNat % 16) :: hexL r
theorem unhex_hexL : ∀ l, unhex (hexL l) = some l
  | [] => rfl
  | x :: r => by
    have h := x.toNat_lt
    rw [hexL, unhex, unD_hexD (by omega), unD_hexD (by omega), unhex_hexL r]
    dsimp only
    rw [show 16 * (x.toNat / 16) + x.toNat % 16 = x.toNat by omega]
    simp
theorem hexL_unhex : ∀ (l d : List UInt8), unhex l = some d → hexL d = l
  | [], d, h => by
    injection h with h
    subst h
    rfl
  | [_], d, h => by cases h
  | a :: b :: r, d, h => by
    rw [unhex] at h
    cases ha : unD a with
    | none => rw [ha] at h; cases h
    | some x =>
      cases hb : unD b with
      | none => rw [ha, hb] at h; cases h
      | some y =>
        cases hr : unhex r with
        | none => rw [ha, hb, hr] at h; cases h
        | some t =>
          rw [ha, hb, hr] at h
          injection h with h
          subst h
          have hx := unD_lt ha
          have hy := unD_lt hb
          have e : (UInt8.ofNat (16 * x + y)).toNat = 16 * x + y := by
            rw [UInt8.toNat_ofNat']
            omega
          rw [hexL, e, show (16 * x + y) / 16 = x by omega, show (16 * x + y) % 16 = y by omega, hexD_unD ha, hexD_unD hb, hexL_unhex r t hr]
theorem unhex_len : ∀ (l d : List UInt8), unhex l = some d → l.length = 2 * d.length
  | l, d, h => by
    have := hexL_unhex l d h
    rw [← this]
    clear h this
    induction d with
    | nil => rfl
    | cons x r ih => rw [hexL]; simp [ih]; omega
end Go.Proofs.Ytdofpkdemmngeaa
