/-
  Tracks: the cells of bytes. Plain.
-/
import Derived.Test.YtabmdbhbbmnkdaaDoorBase
namespace Go.Proofs.YtabmdbhbbmnkdaaDoor
open Go Go.ChangeShapes Go.WideShapes Go.ChangeAt Go.RowKit lib
set_option linter.unusedVariables false
set_option maxRecDepth 100000
/-- the bits of a byte, the greatest first -/
def bitY (y : UInt8) (k : Nat) : Bool := y.toNat / 2 ^ k % 2 == 1
def bitsY (y : UInt8) : List Bool := [bitY y 7, bitY y 6, bitY y 5, bitY y 4, bitY y 3, bitY y 2, bitY y 1, bitY y 0]
def bitsL (l : List UInt8) : List Bool := l.flatMap bitsY
def cellB (b : Bool) : UInt8 := if b then 49 else 48
/-- FM and MFM: a clock ahead of each bit -/
def encL (mfm : Bool) : Bool → List Bool → List UInt8
  | _, [] => []
  | last, b :: r => cellB (!mfm || (!last && !b)) :: cellB b :: encL mfm b r
theorem bitsY_len (y : UInt8) : (bitsY y).length = 8 := rfl
theorem bitsL_len : ∀ l : List UInt8, (bitsL l).length = 8 * l.length
  | [] => rfl
  | y :: r => by
    have ih := bitsL_len r
    unfold bitsL at *
    rw [List.flatMap_cons, List.length_append, ih, bitsY_len, List.length_cons]
    omega
theorem encL_len (mfm : Bool) : ∀ (last : Bool) (l : List Bool), (encL mfm last l).length = 2 * l.length
  | _, [] => rfl
  | last, b :: r => by
    rw [encL, List.length_cons, List.length_cons, encL_len mfm b r, List.length_cons]
    omega
/-- the last bit, or what was before -/
def lastB (last : Bool) (l : List Bool) : Bool := l.getLast?.getD last
theorem encL_snoc (mfm : Bool) : ∀ (l : List Bool) (last b : Bool), encL mfm last (l ++ [b]) = encL mfm last l ++ [cellB (!mfm || (!lastB last l && !b)), cellB b]
  | [], last, b => rfl
  | x :: r, last, b => by
    rw [List.cons_append, encL, encL, encL_snoc mfm r x b, List.cons_append, List.cons_append]
    have e : lastB last (x :: r) = lastB x r := by
      unfold lastB
      cases r with
      | nil => rfl
      | cons a s =>
        rw [List.getLast?_cons_cons]
        cases h : (a :: s).getLast? with
        | none => simp at h
        | some v => rfl
    rw [e]
theorem lastB_snoc (last : Bool) (l : List Bool) (b : Bool) : lastB last (l ++ [b]) = b := by unfold lastB; simp
theorem encL_cells (mfm : Bool) : ∀ (last : Bool) (l : List Bool) (c : UInt8), c ∈ encL mfm last l → c = 48 ∨ c = 49
  | _, [], c, h => by simp [encL] at h
  | last, b :: r, c, h => by
    rw [encL] at h
    have key : ∀ x : Bool, cellB x = 48 ∨ cellB x = 49 := fun x => by cases x <;> decide
    rcases List.mem_cons.1 h with rfl | h
    · exact key _
    rcases List.mem_cons.1 h with rfl | h
    · exact key _
    exact encL_cells mfm b r c h
/-- the group code -/
def gcrT : List (List UInt8) := [[48, 49, 48, 49, 48], [48, 49, 48, 49, 49], [49, 48, 48, 49, 48], [49, 48, 48, 49, 49], [48, 49, 49, 49, 48], [48, 49, 49, 49, 49], [49, 48, 49, 49, 48], [49, 48, 49, 49, 49], [48, 49, 48, 48, 49], [49, 49, 48, 48, 49], [49, 49, 48, 49, 48], [49, 49, 48, 49, 49], [48, 49, 49, 48, 49], [49, 49, 49, 48, 49], [49, 49, 49, 49, 48], [49, 48, 49, 48, 49]]
def gcrY (y : UInt8) : List UInt8 := gcrT.getD (y.toNat / 16) [] ++ gcrT.getD (y.toNat % 16) []
def gcrL (l : List UInt8) : List UInt8 := l.flatMap gcrY
theorem gcrT_len : ∀ k, k < 16 → (gcrT.getD k []).length = 5 := by decide
theorem gcrL_len : ∀ l : List UInt8, (gcrL l).length = 10 * l.length
  | [] => rfl
  | y :: r => by
    have ih := gcrL_len r
    have hy := y.toNat_lt
    unfold gcrL at *
    rw [List.flatMap_cons, List.length_append, ih, gcrY, List.length_append, gcrT_len _ (by omega), gcrT_len _ (by omega), List.length_cons]
    omega
/-- the cells of bytes in a format (1 FM, 2 MFM, 3 group code) -/
def encF3 (f : Nat) (last : Bool) (l : List UInt8) : List UInt8 := if f = 1 then encL false last (bitsL l) else if f = 2 then encL true last (bitsL l) else gcrL l
end Go.Proofs.YtabmdbhbbmnkdaaDoor
