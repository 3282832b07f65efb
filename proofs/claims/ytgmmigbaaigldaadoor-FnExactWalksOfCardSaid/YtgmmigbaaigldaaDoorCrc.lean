/-
  Check values of sixteen bits, words of two bytes.
-/
import Derived.Test.YtgmmigbaaigldaaDoorGf
import Derived.Test.YtgmmigbaaigldaaDoorOwn
namespace Go.Proofs.YtgmmigbaaigldaaDoor
open Go Go.ChangeShapes Go.WideShapes Go.ChangeAt Go.RowKit lib
set_option linter.unusedVariables false
set_option maxRecDepth 100000
/-- one bit of a check value -/
def crcBit (b v : Nat) : Nat := if v / 32768 = b then v * 2 % 65536 else (v * 2 % 65536) ^^^ 4129
/-- k bits of a byte, the highest first -/
def crcB (c : Nat) : Nat → Nat → Nat
  | 0, v => v
  | k + 1, v => crcBit (c / 2 ^ (7 - k) % 2) (crcB c k v)
/-- the check value of n bytes -/
def crcN (u : Nat → UInt8) : Nat → Nat → Nat
  | 0, v => v
  | n + 1, v => crcB (u n).toNat 8 (crcN u n v)
theorem crcBit_lt (b v : Nat) : crcBit b v < 65536 := by
  unfold crcBit
  split
  · omega
  · exact Nat.xor_lt_two_pow (n := 16) (by omega) (by omega)
theorem crcB_lt (c : Nat) : ∀ (k v : Nat), v < 65536 → crcB c k v < 65536
  | 0, _, h => h
  | _ + 1, _, _ => crcBit_lt _ _
theorem crcN_lt (u : Nat → UInt8) : ∀ (n v : Nat), v < 65536 → crcN u n v < 65536
  | 0, _, h => h
  | n + 1, v, h => crcB_lt _ _ _ (crcN_lt u n v h)
/-- the byte i of a string -/
def byteAt (s : ByteArray) (i : Nat) : UInt8 := s.data.toList.getD i 0
theorem byteAt_get (s : ByteArray) (i : Nat) (h : i < s.size) : s[i]'h = byteAt s i := by
  unfold byteAt
  rw [List.getD_eq_getElem?_getD, List.getElem?_eq_getElem (h := by exact h)]
  rfl
theorem u8_low : ∀ c : Fin 256, bits .and .u8 ((c.val : Nat) : Int) 1 = ((c.val % 2 : Nat) : Int) := by decide +kernel
theorem crc_bit (u : UInt8) (k : Nat) : wrap64 (bits .and .u8 ((u.toNat : Int) / 2 ^ k) 1) = ((u.toNat / 2 ^ k % 2 : Nat) : Int) := by
  have h : u.toNat / 2 ^ k < 256 := Nat.lt_of_le_of_lt (Nat.div_le_self _ _) u.toNat_lt
  have e : (u.toNat : Int) / 2 ^ k = ((u.toNat / 2 ^ k : Nat) : Int) := by simp [Int.natCast_ediv]
  have := u8_low ⟨_, h⟩
  simp only at this
  rw [e, this]
  unfold wrap64
  omega
theorem crc_bit64 (u : UInt8) (k : Nat) : bits .and .i64 (wrap64 ((u.toNat : Int) / 2 ^ k)) 1 = ((u.toNat / 2 ^ k % 2 : Nat) : Int) := by
  have h : u.toNat / 2 ^ k < 256 := Nat.lt_of_le_of_lt (Nat.div_le_self _ _) u.toNat_lt
  have e : (u.toNat : Int) / 2 ^ k = ((u.toNat / 2 ^ k : Nat) : Int) := by simp [Int.natCast_ediv]
  rw [e]
  generalize u.toNat / 2 ^ k = z at h
  have e' : wrap64 ((z : Nat) : Int) = ((z : Nat) : Int) := by unfold wrap64; omega
  rw [e']
  refine (i64_and _ 1 (by omega) (by omega)).trans ?_
  rw [Nat.and_one_is_mod]
theorem crc_top (y : Nat) (h : y < 65536) : bits .and .i64 ((y : Int) / 32768) 1 = (y : Int) / 32768 := by
  have e : (y : Int) / 32768 = ((y / 32768 : Nat) : Int) := by omega
  rw [e]
  refine (i64_and _ 1 (by omega) (by omega)).trans ?_
  rw [Nat.and_one_is_mod]
  omega
theorem crc_dbl (y : Nat) (h : y < 65536) : bits .and .i64 ((y : Int) * 2) 65535 = ((y * 2 % 65536 : Nat) : Int) := by
  refine (i64_and (y * 2) 65535 (by omega) (by omega)).trans ?_
  rw [show 65535 = 2 ^ 16 - 1 from rfl, Nat.and_two_pow_sub_one_eq_mod]
theorem crc_same (y b : Nat) (h : y < 65536) (e : ((y : Int) / 32768 != (b : Int)) = false) : bits .and .i64 ((y : Int) * 2) 65535 = ((crcBit b y : Nat) : Int) := by
  have e' : (y : Int) / 32768 = (b : Int) := by simpa using e
  rw [crc_dbl y h]
  unfold crcBit
  rw [if_pos (by omega)]
theorem crc_other (y b : Nat) (h : y < 65536) (e : ((y : Int) / 32768 != (b : Int)) = true) : bits .xor .i64 (bits .and .i64 ((y : Int) * 2) 65535) 4129 = ((crcBit b y : Nat) : Int) := by
  have e' : (y : Int) / 32768 ≠ (b : Int) := by simpa using e
  rw [crc_dbl y h]
  refine (i64_xor (y * 2 % 65536) 4129 (by omega) (by omega)).trans ?_
  unfold crcBit
  rw [if_neg (by omega)]
set_option maxHeartbeats 1000000 in
theorem implCrc_any (s : ByteArray) (v : Nat) (w : World) (hv : v < 65536) (hs : s.size ≤ 1048576) :
    Calls Tryd.prog 94 #[.string s, .int .i64 v] w fun e w' => e = .returned (.int .i64 (crcN (byteAt s) s.size v)) ∧ w = w' := by
  go_enter Tryd.func94, Tryd.ntmps94
  go_wp2
  go_loop [1, 10] (fun s1 s10 => ∃ n : Nat, n ≤ s.size ∧ s10 = .int .i64 n ∧ ∃ x : Nat, x < 65536 ∧ x = crcN (byteAt s) n v ∧ s1 = .int .i64 x) (fun _ i => s.size - (intOf i).toNat)
  case atStart => exact ⟨0, by omega, rfl, v, hv, rfl, rfl⟩
  case round =>
    obtain ⟨n, hn, rfl, x, hx, ex, rfl⟩ := hrel
    by_cases hlt : n < s.size
    · have hb := byteAt_get s n hlt
      have EX := Lib.hid ex
      clear ex
      go_wp2
      go_loop [1, 6] (fun s1 s6 => ∃ k : Nat, k ≤ 8 ∧ s6 = .int .i64 (7 - (k : Int)) ∧ ∃ y : Nat, y < 65536 ∧ y = crcB (byteAt s n).toNat k x ∧ s1 = .int .i64 y) (fun _ i => ((intOf i) + 1).toNat)
      case atStart => exact ⟨0, by omega, rfl, x, hx, rfl, rfl⟩
      case round =>
        obtain ⟨k, hk, rfl, y, hy, ey, rfl⟩ := hrel
        have EY := Lib.hid ey
        clear ey
        by_cases hk8 : k < 8
        · go_wp2
          · rename_i h1
            rw [crc_bit] at h1
            exact ⟨⟨k + 1, by omega, congrArg (Value.int .i64) (by omega), crcBit ((byteAt s n).toNat / 2 ^ (7 - k) % 2) y, crcBit_lt _ _, congrArg (crcBit _) EY.out, congrArg (Value.int .i64) (crc_other y _ hy h1)⟩, by simp [intOf]; omega⟩
          · rename_i h1
            rw [crc_bit] at h1
            exact ⟨⟨k + 1, by omega, congrArg (Value.int .i64) (by omega), crcBit ((byteAt s n).toNat / 2 ^ (7 - k) % 2) y, crcBit_lt _ _, congrArg (crcBit _) EY.out, congrArg (Value.int .i64) (crc_same y _ hy h1)⟩, by simp [intOf]; omega⟩
        · obtain rfl : k = 8 := by omega
          go_wp2
          exact ⟨⟨n + 1, by omega, by go_num, y, hy, by rw [EY.out, EX.out]; rfl, rfl⟩, by simp [intOf]; omega⟩
    · go_wp2
      go_ret
      obtain rfl : n = s.size := by omega
      subst ex
      exact ⟨rfl, rfl⟩
set_option maxHeartbeats 1000000 in
theorem specCrc_any (s : ByteArray) (v : Nat) (w : World) (hv : v < 65536) (hs : s.size ≤ 1048576) :
    Calls Tryd.prog 108 #[.string s, .int .i64 v] w fun e w' => e = .returned (.int .i64 (crcN (byteAt s) s.size v)) ∧ w = w' := by
  go_enter Tryd.func108, Tryd.ntmps108
  go_wp2
  go_loop [5, 6] (fun s1 s10 => ∃ n : Nat, n ≤ s.size ∧ s10 = .int .i64 n ∧ ∃ x : Nat, x < 65536 ∧ x = crcN (byteAt s) n v ∧ s1 = .int .i64 x) (fun _ i => s.size - (intOf i).toNat)
  case atStart => exact ⟨0, by omega, rfl, v, hv, rfl, rfl⟩
  case round =>
    obtain ⟨n, hn, rfl, x, hx, ex, rfl⟩ := hrel
    by_cases hlt : n < s.size
    · have hb := byteAt_get s n hlt
      have EX := Lib.hid ex
      clear ex
      go_wp2
      go_loop [5, 7] (fun s1 s6 => ∃ k : Nat, k ≤ 8 ∧ s6 = .int .i64 (7 - (k : Int)) ∧ ∃ y : Nat, y < 65536 ∧ y = crcB (byteAt s n).toNat k x ∧ s1 = .int .i64 y) (fun _ i => ((intOf i) + 1).toNat)
      case atStart => exact ⟨0, by omega, rfl, x, hx, rfl, rfl⟩
      case round =>
        obtain ⟨k, hk, rfl, y, hy, ey, rfl⟩ := hrel
        have EY := Lib.hid ey
        clear ey
        by_cases hk8 : k < 8
        · go_wp2
          · rename_i h1
            rw [crc_bit64, crc_top y hy] at h1
            exact ⟨⟨k + 1, by omega, congrArg (Value.int .i64) (by omega), crcBit ((byteAt s n).toNat / 2 ^ (7 - k) % 2) y, crcBit_lt _ _, congrArg (crcBit _) EY.out, congrArg (Value.int .i64) (crc_other y _ hy h1)⟩, by simp [intOf]; omega⟩
          · rename_i h1
            rw [crc_bit64, crc_top y hy] at h1
            exact ⟨⟨k + 1, by omega, congrArg (Value.int .i64) (by omega), crcBit ((byteAt s n).toNat / 2 ^ (7 - k) % 2) y, crcBit_lt _ _, congrArg (crcBit _) EY.out, congrArg (Value.int .i64) (crc_same y _ hy h1)⟩, by simp [intOf]; omega⟩
        · obtain rfl : k = 8 := by omega
          go_wp2
          exact ⟨⟨n + 1, by omega, by go_num, y, hy, by rw [EY.out, EX.out]; rfl, rfl⟩, by simp [intOf]; omega⟩
    · go_wp2
      go_ret
      obtain rfl : n = s.size := by omega
      subst ex
      exact ⟨rfl, rfl⟩
theorem specCrc16_any (s : ByteArray) (v : Nat) (w : World) (hv : v < 65536) (hs : s.size ≤ 1048576) :
    Calls Tryd.prog 91 #[.string s, .int .i64 v] w fun e w' => e = .returned (.int .i64 (crcN (byteAt s) s.size v)) ∧ w = w' := by
  have d : (decide ((0:Int) ≤ (v : Int)) && decide ((v : Int) ≤ 65535)) = true := by simp; omega
  have d' : decide ((v : Int) ≤ 65535) = true := by simp; omega
  go_enter Tryd.func91, Tryd.ntmps91
  go_wp2_with (first | (go_at_call 32; refine (l00In_any _ _ _ _).mono ?_; rintro e w' ⟨rfl, rfl⟩) | (go_at_call 108; refine (specCrc_any s v _ hv hs).mono ?_; rintro e w' ⟨rfl, rfl⟩))
  go_ret
  exact ⟨rfl, rfl⟩
/-- a word of two bytes -/
def word2 (v : Nat) : ByteArray := ⟨#[UInt8.ofNat (v / 256), UInt8.ofNat (v % 256)]⟩
theorem specWord_any (v : Nat) (w : World) (hv : v < 65536) :
    Calls Tryd.prog 107 #[.int .i64 v] w fun e w' => e = .returned (.string (word2 v)) ∧ Below w.heap.size w w' := by
  have hcv := fun W x y => run_bstr2 (P := Tryd.prog) 52 9 5 Tryd.underlying52 Tryd.underlying5 Tryd.underlying9 W x y
  go_enter Tryd.func107, Tryd.ntmps107
  go_wp2
  go_ret
  exact ⟨congrArg (fun x => Ending.returned (Value.string x)) rfl, (Below.refl _ _).alloc (by simp <;> omega) _⟩
theorem specPutWord_any (v : Nat) (w : World) (hv : v < 65536) :
    Calls Tryd.prog 90 #[.int .i64 v] w fun e w' => e = .returned (.string (word2 v)) ∧ Below w.heap.size w w' := by
  have d : (decide ((0:Int) ≤ (v : Int)) && decide ((v : Int) ≤ 65535)) = true := by simp; omega
  have d' : decide ((v : Int) ≤ 65535) = true := by simp; omega
  go_enter Tryd.func90, Tryd.ntmps90
  go_wp2_with (first | (go_at_call 32; refine (l00In_any _ _ _ _).mono ?_; rintro e w' ⟨rfl, rfl⟩) | (go_at_call 107; refine (specWord_any v _ hv).mono ?_; rintro e w' ⟨rfl, hb⟩))
  go_ret
  exact ⟨rfl, hb⟩
theorem implPutWord_any (v : Nat) (w : World) (hv : v < 65536) :
    Calls Tryd.prog 93 #[.int .i64 v] w fun e w' => e = .returned (.string (word2 v)) ∧ Below w.heap.size w w' := by
  have d : (decide ((0:Int) ≤ (v : Int)) && decide ((v : Int) ≤ 65535)) = true := by simp; omega
  have d' : decide ((v : Int) ≤ 65535) = true := by simp; omega
  have hcv := fun W x y => run_bstr2 (P := Tryd.prog) 52 9 5 Tryd.underlying52 Tryd.underlying5 Tryd.underlying9 W x y
  go_enter Tryd.func93, Tryd.ntmps93
  go_wp2_with (first | (go_at_call 36; refine (within_any _ _ _ _).mono ?_; rintro e w' ⟨rfl, rfl⟩))
  go_ret
  exact ⟨congrArg (fun x => Ending.returned (Value.string x)) rfl, (Below.refl _ _).alloc (by simp <;> omega) _⟩
end Go.Proofs.YtgmmigbaaigldaaDoor
