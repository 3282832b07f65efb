/-
  Tracks: the program's fields.
-/
import Derived.Test.YtabmdbhbbmnkdaaDoorBtM
namespace Go.Proofs.YtabmdbhbbmnkdaaDoor
open Go Go.ChangeShapes Go.WideShapes Go.ChangeAt Go.RowKit Go.Joins lib
set_option linter.unusedVariables false
set_option linter.unusedSimpArgs false
set_option maxRecDepth 100000
theorem crc_strL (l : List UInt8) : crcN (byteAt (strL l)) (strL l).size 65535 = crcL l := by
  rw [strL_size]
  unfold crcL
  congr 1
set_option maxHeartbeats 4000000 in
theorem checkedField_any (f k : Nat) (hf : f123 f) (hk : f123 k) (d : ByteArray) (hd : d.size ≤ 64) (bad : Bool) (x y : Int) (hx : x = f) (hy : y = k) (w : World) : Calls Tryd.prog 37 #[.int .i64 x, .int .i64 y, .string d, .bool bad] w fun e w' => e = .returned (.string (strL (fieldL f k d.data.toList bad))) ∧ Below w.heap.size w w' := by
  have hf' := hf
  have H0 := Lib.hid (markByte_any f k hf hk x y hx hy w)
  have hmb := mByte_lt hf hk
  have hmw := wrap_byte _ hmb
  have hmy : UInt8.ofNat ((mByte f k : Nat) : Int).toNat = mY f k := rfl
  obtain ⟨M, hM⟩ : ∃ M, mByte f k = M := ⟨_, rfl⟩
  rw [hM] at H0 hmb hmw hmy
  have hcv := fun W : World => run_bstr1 (P := Tryd.prog) 22 9 5 Tryd.underlying22 Tryd.underlying5 Tryd.underlying9 W (M : Int)
  rw [hmy] at hcv
  obtain ⟨Y, hY⟩ : ∃ Y, mY f k = Y := ⟨_, rfl⟩
  rw [hY] at hcv
  have hdd := strL_back d
  have hdl : d.data.toList.length ≤ 64 := hd
  obtain ⟨D, hD⟩ : ∃ D, d.data.toList = D := ⟨_, rfl⟩
  rw [hD] at hdd hdl ⊢
  obtain ⟨PL, hPL⟩ : ∃ PL, prefL f k = PL := ⟨_, rfl⟩
  have hpl : PL.length ≤ 4 := by rw [← hPL]; unfold prefL; split <;> simp
  have hv := crcL_lt (PL ++ D)
  have HC := fun W : World => implCrc_any (strL (PL ++ D)) 65535 W (by omega) (by rw [strL_size, List.length_append]; omega)
  simp only [crc_strL] at HC
  obtain ⟨V, hV⟩ : ∃ V, crcL (PL ++ D) = V := ⟨_, rfl⟩
  rw [hV] at HC hv
  have hv2 := sumV_lt bad hv
  have HP := fun W : World => implPutWord_any (sumV bad V) W hv2
  have hFL : fieldL f k D bad = D ++ (word2 (sumV bad V)).data.toList := by unfold fieldL; rw [hPL, hV]
  have e1 : ∀ W : World, (Op.stringOp .add (strL PL) d).run Tryd.prog W = .ok (.string (strL (PL ++ D))) W := fun W => by
    rw [← hdd, ← strL_app]
    exact run_string_add_sum _ _ _ (by rw [strL_size, strL_size]; omega)
  have e2 : ∀ W : World, (Op.stringOp .add d (word2 (sumV bad V))).run Tryd.prog W = .ok (.string (strL (fieldL f k D bad))) W := fun W => by
    rw [hFL, ← strL_app, strL_back, hdd]
    exact run_string_add_sum _ _ _ (by show d.size + 2 ≤ _; omega)
  have e3 : ∀ W : World, (Op.stringOp .add (⟨#[161, 161, 161]⟩ : ByteArray) ⟨#[Y]⟩).run Tryd.prog W = .ok (.string (strL [161, 161, 161, Y])) W := fun W => run_string_add_sum _ _ _ (by show 3 + 1 ≤ _; omega)
  have hB0 : Below w.heap.size w (w.alloc (.cells #[.int .u8 (M : Int)] 5)) := (Below.refl _ _).alloc (Nat.le_refl _) _
  have HB0 := Lib.hid hB0
  obtain ⟨FL, hFL2⟩ : ∃ FL, strL (fieldL f k D bad) = FL := ⟨_, rfl⟩
  rw [hFL2] at e2 ⊢
  obtain ⟨S1, hS1⟩ : ∃ S1, strL PL = S1 := ⟨_, rfl⟩
  obtain ⟨S2, hS2⟩ : ∃ S2, strL (PL ++ D) = S2 := ⟨_, rfl⟩
  rw [hS2] at e1 HC
  rw [hS1] at e1
  have HS1 := Lib.hid (show S1 = strL (if f = 2 then [161, 161, 161, Y] else [Y]) by rw [← hS1, ← hPL]; unfold prefL; rw [hY])
  obtain ⟨S3, hS3⟩ : ∃ S3, word2 (sumV bad V) = S3 := ⟨_, rfl⟩
  rw [hS3] at e2 HP
  have hsv : (65535 : Int) - (V : Int) = ((65535 - V : Nat) : Int) := by omega
  have HCC := Lib.hid HC
  have HPP := Lib.hid HP
  clear hB0 hmy hY hM HC HP hS1 hS2 hS3 hFL2 hFL hV hPL hdd hD
  subst hx; subst hy
  unfold sumV at HPP
  rcases hf' with rfl | rfl | rfl <;> cases bad <;> (
    first
      | (have hs1 : S1 = ⟨#[Y]⟩ := HS1.out; subst hs1; clear e3)
      | (have hs1 : S1 = strL [161, 161, 161, Y] := HS1.out; subst hs1)
    clear HS1
    go_enter Tryd.func37, Tryd.ntmps37
    go_wp2_with (first
      | (go_at_call 72; refine H0.out.mono ?_; rintro e w' ⟨rfl, hw'⟩; rw [hw']; clear hw' w')
      | (go_at_call 73; refine (HCC.out _).mono ?_; rintro e w' ⟨rfl, hw'⟩; rw [← hw']; clear hw' w')
      | (go_at_call 74; refine (HPP.out _).mono ?_; rintro e w' ⟨rfl, hb⟩))
    go_ret
    exact ⟨rfl, HB0.out.trans (hb.mono HB0.out.size)⟩)
end Go.Proofs.YtabmdbhbbmnkdaaDoor
