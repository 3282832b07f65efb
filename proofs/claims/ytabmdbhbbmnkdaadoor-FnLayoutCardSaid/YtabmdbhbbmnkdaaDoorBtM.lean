/-
  Tracks: the program's marks and fields.
-/
import Derived.Test.YtabmdbhbbmnkdaaDoorBtG
namespace Go.Proofs.YtabmdbhbbmnkdaaDoor
open Go Go.ChangeShapes Go.WideShapes Go.ChangeAt Go.RowKit Go.Joins lib
set_option linter.unusedVariables false
set_option linter.unusedSimpArgs false
set_option maxRecDepth 100000
theorem isFormat_any (x : Int) (w : World) : Calls Tryd.prog 35 #[.int .i64 x] w fun e w' => e = .returned (.bool (decide (1 ≤ x) && decide (x ≤ 3))) ∧ w' = w := by
  go_enter Tryd.func35, Tryd.ntmps35
  go_wp2_with (go_at_call 55; refine (within_any _ _ _ _).mono ?_; rintro e w' ⟨rfl, rfl⟩)
  go_ret
  exact ⟨rfl, rfl⟩
theorem isMarkKind_any (x : Int) (w : World) : Calls Tryd.prog 102 #[.int .i64 x] w fun e w' => e = .returned (.bool (decide (1 ≤ x) && decide (x ≤ 3))) ∧ w' = w := by
  go_enter Tryd.func102, Tryd.ntmps102
  go_wp2_with (go_at_call 55; refine (within_any _ _ _ _).mono ?_; rintro e w' ⟨rfl, rfl⟩)
  go_ret
  exact ⟨rfl, rfl⟩
theorem markByte_any (f k : Nat) (hf : f123 f) (hk : f123 k) (x y : Int) (hx : x = f) (hy : y = k) (w : World) : Calls Tryd.prog 72 #[.int .i64 x, .int .i64 y] w fun e w' => e = .returned (.int .i64 (mByte f k)) ∧ w' = w := by
  subst hx; subst hy
  rcases hf with rfl | rfl | rfl <;> rcases hk with rfl | rfl | rfl <;> (
    go_enter Tryd.func72, Tryd.ntmps72
    go_wp2_with (first
      | (go_at_call 35; refine (isFormat_any _ _).mono ?_; rintro e w' ⟨rfl, hw'⟩; rw [hw']; clear hw' w')
      | (go_at_call 102; refine (isMarkKind_any _ _).mono ?_; rintro e w' ⟨rfl, hw'⟩; rw [hw']; clear hw' w'))
    go_ret
    exact ⟨rfl, rfl⟩)
theorem lastBit_any (s : ByteArray) (hs : s.size ≤ 1048576) (h0 : s.size ≠ 0) (w : World) : Calls Tryd.prog 95 #[.string s] w fun e w' => e = .returned (.bool (lastY s.data.toList)) ∧ w' = w := by
  obtain ⟨n, hn⟩ : ∃ n, s.size = n + 1 := ⟨s.size - 1, by omega⟩
  have hg := byteAt_get s n (by omega)
  obtain ⟨y, hy⟩ : ∃ y, byteAt s n = y := ⟨_, rfl⟩
  have HL := Lib.hid (show lastY s.data.toList = (y.toNat % 2 == 1) by
    have hl : s.data.toList.length = n + 1 := hn
    unfold lastY
    rw [List.getLast?_eq_getElem?, hl, Nat.add_sub_cancel, ← hy]
    unfold byteAt
    rw [List.getD_eq_getElem?_getD])
  rw [hy] at hg
  clear hy
  have e0 : s.toList.isEmpty = false := by
    rw [Bool.eq_false_iff]
    intro h
    rw [List.isEmpty_iff, Lib.toList_data] at h
    have h3 := congrArg List.length h
    have h4 : s.data.toList.length = n + 1 := hn
    rw [h4] at h3
    simp at h3
  have hb : bits .and .u8 (y.toNat : Int) 1 = ((y.toNat % 2 : Nat) : Int) := by
    have := u8_low ⟨_, y.toNat_lt⟩
    simpa using this
  have hki : ((n + 1 : Nat) : Int) - 1 = (n : Int) := by omega
  have hki2 : (n : Int) + 1 - 1 = (n : Int) := by omega
  have hlt : (n : Int) < (s.size : Int) := by omega
  go_enter Tryd.func95, Tryd.ntmps95
  go_wp2_with fail
  go_ret
  have e1 : ((y.toNat : Int) % 2 == 1) = lastY s.data.toList := by
    rw [HL.out, Bool.eq_iff_iff]
    simp
    omega
  exact ⟨congrArg (fun b => Ending.returned (Value.bool b)) e1, rfl⟩
theorem bitsL_cl8 (last : Bool) (l : List UInt8) : fmGo (⟨#[49, 49, 49, 49, 49, 49, 49, 49]⟩ : ByteArray) 0 (bitsL l) = encL false last (bitsL l) := fmGo_ones last _ 0
theorem encodeBytes_any (f : Nat) (hf : f123 f) (s : ByteArray) (last : Bool) (hs : s.size ≤ 2048) (x : Int) (hx : x = f) (w : World) (hw : GcrW w) : Calls Tryd.prog 94 #[.int .i64 x, .string s, .bool last] w fun e w' => e = .returned (.string ⟨(encF3 f last s.data.toList).toArray⟩) ∧ Below w.heap.size w w' := by
  have H1 := Lib.hid (fmCells_any s cl8 hs rfl w)
  have H2 := Lib.hid (mfmCells_any s last hs w)
  have H3 := Lib.hid (gcrCells_any s (by omega) w hw)
  subst hx
  rcases hf with rfl | rfl | rfl <;> (
    go_enter Tryd.func94, Tryd.ntmps94
    go_wp2_with (first
      | (go_at_call 112; refine H1.out.mono ?_; rintro e w' ⟨rfl, hb⟩)
      | (go_at_call 113; refine H2.out.mono ?_; rintro e w' ⟨rfl, hb⟩)
      | (go_at_call 114; refine H3.out.mono ?_; rintro e w' ⟨rfl, hb⟩))
    go_ret
    first
      | exact ⟨rfl, hb⟩
      | exact ⟨congrArg (fun l : List UInt8 => Ending.returned (Value.string ⟨l.toArray⟩)) (fmGo_ones last _ 0), hb⟩)
theorem rep10 : Lib.repeatL (⟨#[49]⟩ : ByteArray).data.toList 10 = ten1 := by rfl
theorem rep3 : Lib.repeatL (⟨#[48, 49, 48, 48, 48, 49, 48, 48, 49, 48, 48, 48, 49, 48, 48, 49]⟩ : ByteArray).data.toList 3 = mfmMk ++ mfmMk ++ mfmMk := by rfl
theorem wrap_byte (n : Nat) (h : n ≤ 255) : IntKind.u8.wrap (n : Int) = (n : Int) := by rw [IntKind.wrap_u8]; omega
theorem mByte_lt {f k : Nat} (hf : f123 f) (hk : f123 k) : mByte f k ≤ 255 := by rcases hf with rfl | rfl | rfl <;> rcases hk with rfl | rfl | rfl <;> decide
def strL (l : List UInt8) : ByteArray := ⟨l.toArray⟩
theorem strL_size (l : List UInt8) : (strL l).size = l.length := by simp [strL, ByteArray.size]
theorem strL_list (l : List UInt8) : (strL l).data.toList = l := by simp [strL]
theorem strL_app (a b : List UInt8) : strL a ++ strL b = strL (a ++ b) := by
  apply ByteArray.ext
  rw [ByteArray.data_append]
  simp [strL]
theorem strL_back (s : ByteArray) : strL s.data.toList = s := by
  apply ByteArray.ext
  simp [strL]
theorem markCells_any (f k : Nat) (hf : f123 f) (hk : f123 k) (x y : Int) (hx : x = f) (hy : y = k) (w : World) (hw : GcrW w) : Calls Tryd.prog 96 #[.int .i64 x, .int .i64 y] w fun e w' => e = .returned (.string (strL (markL f k))) ∧ Below w.heap.size w w' := by
  have hf' := hf
  have H0 := Lib.hid (markByte_any f k hf hk x y hx hy w)
  have hmb := mByte_lt hf hk
  have hmw := wrap_byte _ hmb
  have hmy : UInt8.ofNat ((mByte f k : Nat) : Int).toNat = mY f k := rfl
  obtain ⟨M, hM⟩ : ∃ M, mByte f k = M := ⟨_, rfl⟩
  rw [hM] at H0 hmb hmw hmy
  have hcv := fun W : World => run_bstr1 (P := Tryd.prog) 22 9 5 Tryd.underlying22 Tryd.underlying5 Tryd.underlying9 W (M : Int)
  rw [hmy] at hcv
  obtain ⟨Y, hY⟩ : ∃ Y, mY f k = Y := ⟨_, rfl⟩
  rw [hY] at hcv
  have H1 := Lib.hid (fun W : World => fmCells_any ⟨#[Y]⟩ clM (show 1 ≤ 2048 by decide) rfl W)
  have H2 := Lib.hid (fun W : World => mfmCells_any ⟨#[Y]⟩ true (show 1 ≤ 2048 by decide) W)
  have H3 := Lib.hid (fun (W : World) (hb : Below w.heap.size w W) => gcrCells_any ⟨#[Y]⟩ (show 1 ≤ 4096 by decide) W (hw.below hb))
  have HR1 := Lib.hid (fun W : World => Tryd.strings_Repeat ⟨#[49]⟩ 10 W (by decide) (by decide))
  have HR3 := Lib.hid (fun W : World => Tryd.strings_Repeat ⟨#[48, 49, 48, 48, 48, 49, 48, 48, 49, 48, 48, 48, 49, 48, 48, 49]⟩ 3 W (by decide) (by decide))
  have HL := Lib.hid hY
  have e1 : ∀ W : World, ∀ l1 l2 : List UInt8, l1.length ≤ 100 → l2.length ≤ 100 → (Op.stringOp .add ⟨l1.toArray⟩ ⟨l2.toArray⟩).run Tryd.prog W = .ok (.string (strL (l1 ++ l2))) W := fun W l1 l2 h1 h2 => by
    rw [← strL_app]
    exact run_string_add_sum _ _ _ (by have := strL_size l1; have := strL_size l2; unfold strL at *; omega)
  have hB0 : Below w.heap.size w (w.alloc (.cells #[.int .u8 (M : Int)] 5)) := (Below.refl _ _).alloc (Nat.le_refl _) _
  have HB0 := Lib.hid hB0
  clear hB0 hmy hY hM
  subst hx; subst hy
  rcases hf' with rfl | rfl | rfl
  · go_enter Tryd.func96, Tryd.ntmps96
    go_wp2_with (first
      | (go_at_call 72; refine H0.out.mono ?_; rintro e w' ⟨rfl, hw'⟩; rw [hw']; clear hw' w')
      | (go_at_call 112; refine (H1.out _).mono ?_; rintro e w' ⟨rfl, hb⟩))
    go_ret
    refine ⟨?_, HB0.out.trans (hb.mono HB0.out.size)⟩
    rw [show markL 1 k = fmGo clM 0 (bitsY (mY 1 k)) from rfl, HL.out, ← bitsL_one]
    rfl
  · have hl2 : (encL true true (bitsL [Y])).length ≤ 100 := by rw [encL_len, bitsL_len]; exact (show 2 * (8 * 1) ≤ 100 by decide)
    have e2 := fun W => e1 W (mfmMk ++ mfmMk ++ mfmMk) (encL true true (bitsL [Y])) (by decide) hl2
    rw [← rep3] at e2
    go_enter Tryd.func96, Tryd.ntmps96
    go_wp2_with (first
      | (go_at_call 72; refine H0.out.mono ?_; rintro e w' ⟨rfl, hw'⟩; rw [hw']; clear hw' w')
      | (go_at_call 60; refine (HR3.out _).mono ?_; rintro e w1 ⟨rfl, hb1⟩)
      | (go_at_call 113; refine (H2.out _).mono ?_; rintro e w' ⟨rfl, hb⟩))
    go_ret
    have hb2 := HB0.out.trans (hb1.mono HB0.out.size)
    refine ⟨?_, hb2.trans (hb.mono hb2.size)⟩
    rw [show markL 2 k = mfmMk ++ mfmMk ++ mfmMk ++ encL true true (bitsY (mY 2 k)) from rfl, HL.out, ← bitsL_one, ← rep3]
    rfl
  · have hl2 : (gcrL [Y]).length ≤ 100 := by rw [gcrL_len]; exact (show 10 * 1 ≤ 100 by decide)
    have e2 := fun W => e1 W ten1 (gcrL [Y]) (by decide) hl2
    rw [← rep10] at e2
    go_enter Tryd.func96, Tryd.ntmps96
    go_wp2_with (first
      | (go_at_call 72; refine H0.out.mono ?_; rintro e w' ⟨rfl, hw'⟩; rw [hw']; clear hw' w')
      | (go_at_call 60; refine (HR1.out _).mono ?_; rintro e w1 ⟨rfl, hb1⟩; have hb2 := HB0.out.trans (hb1.mono HB0.out.size))
      | (go_at_call 114; refine (H3.out _ hb2).mono ?_; rintro e w' ⟨rfl, hb⟩))
    go_ret
    refine ⟨?_, hb2.trans (hb.mono hb2.size)⟩
    rw [show markL 3 k = ten1 ++ gcrY (mY 3 k) from rfl, HL.out, ← gcrL_one, ← rep10]
    rfl
end Go.Proofs.YtabmdbhbbmnkdaaDoor
