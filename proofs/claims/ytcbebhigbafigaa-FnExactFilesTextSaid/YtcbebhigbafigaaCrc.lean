/-
  Check values of sixteen bits, words of two bytes.
-/
import Derived.Test.YtcbebhigbafigaaGf
import Derived.Test.YtcbebhigbafigaaOwn
namespace Go.Proofs.Ytcbebhigbafigaa
open Go Go.ChangeShapes Go.WideShapes Go.ChangeAt Go.RowKit lib
set_option linter.unusedVariables false
set_option maxRecDepth 100000
/-- one bit of a check value -/
def crcBit (b v : Nat) : Nat := if v / 32768 = b then v * 2 % 65536 else (v * 2 % 65536) ^^^ 4129
/-- k bits of a byte, the highest first -/
def crcB (c : Nat) : Nat → Nat → Nat
  | 0, v => v
  | k + 1, v => crcBit (c / 2 ^ (7 - k) % 2) (crcB c k v)
/-- the check value of n bytes -/
def crcN (u : Nat → UInt8) : Nat → Nat → Nat
  | 0, v => v
  | n + 1, v => crcB (u n).toNat 8 (crcN u n v)
theorem crcBit_lt (b v : Nat) : crcBit b v < 65536 := by
  unfold crcBit
  split
  · omega
  · exact Nat.xor_lt_two_pow (n := 16) (by omega) (by omega)
theorem crcB_lt (c : Nat) : ∀ (k v : Nat), v < 65536 → crcB c k v < 65536
  | 0, _, h => h
  | _ + 1, _, _ => crcBit_lt _ _
theorem crcN_lt (u : Nat → UInt8) : ∀ (n v : Nat), v < 65536 → crcN u n v < 65536
  | 0, _, h => h
  | n + 1, v, h => crcB_lt _ _ _ (crcN_lt u n v h)
/-- the byte i of a string -/
def byteAt (s : ByteArray) (i : Nat) : UInt8 := s.data.toList.getD i 0
theorem byteAt_get (s : ByteArray) (i : Nat) (h : i < s.size) : s[i]'h = byteAt s i := by
  unfold byteAt
  rw [List.getD_eq_getElem?_getD, List.getElem?_eq_getElem (h := by exact h)]
  rfl
theorem u8_low : ∀ c : Fin 256, bits .and .u8 ((c.val : Nat) : Int) 1 = ((c.val % 2 : Nat) : Int) := by decide +kernel
theorem crc_bit (u : UInt8) (k : Nat) : wrap64 (bits .and .u8 ((u.toNat : Int) / 2 ^ k) 1) = ((u.toNat / 2 ^ k % 2 : Nat) : Int) := by
  have h : u.toNat / 2 ^ k < 256 := Nat.lt_of_le_of_lt (Nat.div_le_self _ _) u.toNat_lt
  have e : (u.toNat : Int) / 2 ^ k = ((u.toNat / 2 ^ k : Nat) : Int) := by simp [Int.natCast_ediv]
  have := u8_low ⟨_, h⟩
  simp only at this
  rw [e, this]
  unfold wrap64
  omega
theorem crc_bit64 (u : UInt8) (k : Nat) : bits .and .i64 (wrap64 ((u.toNat : Int) / 2 ^ k)) 1 = ((u.toNat / 2 ^ k % 2 : Nat) : Int) := by
  have h : u.toNat / 2 ^ k < 256 := Nat.lt_of_le_of_lt (Nat.div_le_self _ _) u.toNat_lt
  have e : (u.toNat : Int) / 2 ^ k = ((u.toNat / 2 ^ k : Nat) : Int) := by simp [Int.natCast_ediv]
  rw [e]
  generalize u.toNat / 2 ^ k = z at h
  have e' : wrap64 ((z : Nat) : Int) = ((z : Nat) : Int) := by unfold wrap64; omega
  rw [e']
  refine (i64_and _ 1 (by omega) (by omega)).trans ?_
  rw [Nat.and_one_is_mod]
theorem crc_top (y : Nat) (h : y < 65536) : bits .and .i64 ((y : Int) / 32768) 1 = (y : Int) / 32768 := by
  have e : (y : Int) / 32768 = ((y / 32768 : Nat) : Int) := by omega
  rw [e]
  refine (i64_and _ 1 (by omega) (by omega)).trans ?_
  rw [Nat.and_one_is_mod]
  omega
theorem crc_dbl (y : Nat) (h : y < 65536) : bits .and .i64 ((y : Int) * 2) 65535 = ((y * 2 % 65536 : Nat) : Int) := by
  refine (i64_and (y * 2) 65535 (by omega) (by omega)).trans ?_
  rw [show 65535 = 2 ^ 16 - 1 from rfl, Nat.and_two_pow_sub_one_eq_mod]
theorem crc_same (y b : Nat) (h : y < 65536) (e : ((y : Int) / 32768 != (b : Int)) = false) : bits .and .i64 ((y : Int) * 2) 65535 = ((crcBit b y : Nat) : Int) := by
  have e' : (y : Int) / 32768 = (b : Int) := by simpa using e
  rw [crc_dbl y h]
  unfold crcBit
  rw [if_pos (by omega)]
theorem crc_other (y b : Nat) (h : y < 65536) (e : ((y : Int) / 32768 != (b : Int)) = true) : bits .xor .i64 (bits .and .i64 ((y : Int) * 2) 65535) 4129 = ((crcBit b y : Nat) : Int) := by
  have e' : (y : Int) / 32768 ≠ (b : Int) := by simpa using e
  rw [crc_dbl y h]
  refine (i64_xor (y * 2 % 65536) 4129 (by omega) (by omega)).trans ?_
  unfold crcBit
  rw [if_neg (by omega)]
/-- a word of two bytes -/
def word2 (v : Nat) : ByteArray := ⟨#[UInt8.ofNat (v / 256), UInt8.ofNat (v % 256)]⟩
end Go.Proofs.Ytcbebhigbafigaa
