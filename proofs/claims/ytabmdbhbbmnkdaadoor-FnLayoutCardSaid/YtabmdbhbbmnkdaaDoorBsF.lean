/-
  Tracks: the reference's fields.
-/
import Derived.Test.YtabmdbhbbmnkdaaDoorBsM
import Derived.Test.YtabmdbhbbmnkdaaDoorBtT
namespace Go.Proofs.YtabmdbhbbmnkdaaDoor
open Go Go.ChangeShapes Go.WideShapes Go.ChangeAt Go.RowKit Go.Joins lib
set_option linter.unusedVariables false
set_option linter.unusedSimpArgs false
set_option maxRecDepth 100000
theorem prefix_any (f k : Nat) (hf : f123 f) (hk : f123 k) (x y : Int) (hx : x = f) (hy : y = k) (w : World) : Calls Tryd.prog 86 #[.int .i64 x, .int .i64 y] w fun e w' => e = .returned (.string (strL (prefL f k))) ∧ Below w.heap.size w w' := by
  have hf' := hf
  have H0 := Lib.hid (specByte_any f k hf hk x y hx hy w)
  have hmb := mByte_lt hf hk
  have hmw := wrap_byte _ hmb
  have hmy : UInt8.ofNat ((mByte f k : Nat) : Int).toNat = mY f k := rfl
  obtain ⟨M, hM⟩ : ∃ M, mByte f k = M := ⟨_, rfl⟩
  rw [hM] at H0 hmb hmw hmy
  have hcv := fun W : World => run_bstr1 (P := Tryd.prog) 22 9 5 Tryd.underlying22 Tryd.underlying5 Tryd.underlying9 W (M : Int)
  rw [hmy] at hcv
  have HP := Lib.hid (show prefL f k = if f = 2 then [161, 161, 161, mY f k] else [mY f k] from rfl)
  obtain ⟨Y, hY⟩ : ∃ Y, mY f k = Y := ⟨_, rfl⟩
  rw [hY] at hcv HP
  rw [HP.out]
  have e3 : ∀ W : World, (Op.stringOp .add (⟨#[161, 161, 161]⟩ : ByteArray) ⟨#[Y]⟩).run Tryd.prog W = .ok (.string (strL [161, 161, 161, Y])) W := fun W => run_string_add_sum _ _ _ (by show 3 + 1 ≤ _; omega)
  clear hmy hY hM
  subst hx; subst hy
  rcases hf' with rfl | rfl | rfl
  · clear e3
    go_enter Tryd.func86, Tryd.ntmps86
    go_wp2_with (go_at_call 83; refine H0.out.mono ?_; rintro e w1 ⟨rfl, hb1⟩)
    go_ret
    exact ⟨rfl, hb1.alloc hb1.size _⟩
  · go_enter Tryd.func86, Tryd.ntmps86
    go_wp2_with (go_at_call 83; refine H0.out.mono ?_; rintro e w1 ⟨rfl, hb1⟩)
    go_ret
    exact ⟨rfl, hb1.alloc hb1.size _⟩
  · clear e3
    go_enter Tryd.func86, Tryd.ntmps86
    go_wp2_with (go_at_call 83; refine H0.out.mono ?_; rintro e w1 ⟨rfl, hb1⟩)
    go_ret
    exact ⟨rfl, hb1.alloc hb1.size _⟩
theorem sum_any (f k : Nat) (d : ByteArray) (hd : d.size ≤ 64) (bad : Bool) (p : ByteArray) (hp : p = strL (prefL f k)) (w : World) : Calls Tryd.prog 85 #[.string p, .string d, .bool bad] w fun e w' => e = .returned (.string (strL (fieldL f k d.data.toList bad))) ∧ Below w.heap.size w w' := by
  have hdd := strL_back d
  have hdl : d.data.toList.length ≤ 64 := hd
  obtain ⟨D, hD⟩ : ∃ D, d.data.toList = D := ⟨_, rfl⟩
  rw [hD] at hdd hdl ⊢
  obtain ⟨PL, hPL⟩ : ∃ PL, prefL f k = PL := ⟨_, rfl⟩
  have hpl : PL.length ≤ 4 := by rw [← hPL]; unfold prefL; split <;> simp
  rw [hPL] at hp
  have hv := crcL_lt (PL ++ D)
  have HC := fun W : World => specCrc16_any (strL (PL ++ D)) 65535 W (by omega) (by rw [strL_size, List.length_append]; omega)
  simp only [crc_strL] at HC
  obtain ⟨V, hV⟩ : ∃ V, crcL (PL ++ D) = V := ⟨_, rfl⟩
  rw [hV] at HC hv
  have hv2 := sumV_lt bad hv
  have HP := fun W : World => specPutWord_any (sumV bad V) W hv2
  have hFL : fieldL f k D bad = D ++ (word2 (sumV bad V)).data.toList := by unfold fieldL; rw [hPL, hV]
  have e1 : ∀ W : World, (Op.stringOp .add p d).run Tryd.prog W = .ok (.string (strL (PL ++ D))) W := fun W => by
    rw [hp, ← hdd, ← strL_app]
    exact run_string_add_sum _ _ _ (by rw [strL_size, strL_size]; omega)
  have e2 : ∀ W : World, (Op.stringOp .add d (word2 (sumV bad V))).run Tryd.prog W = .ok (.string (strL (fieldL f k D bad))) W := fun W => by
    rw [hFL, ← strL_app, strL_back, hdd]
    exact run_string_add_sum _ _ _ (by show d.size + 2 ≤ _; omega)
  obtain ⟨FL, hFL2⟩ : ∃ FL, strL (fieldL f k D bad) = FL := ⟨_, rfl⟩
  rw [hFL2] at e2 ⊢
  obtain ⟨S2, hS2⟩ : ∃ S2, strL (PL ++ D) = S2 := ⟨_, rfl⟩
  rw [hS2] at e1 HC
  obtain ⟨S3, hS3⟩ : ∃ S3, word2 (sumV bad V) = S3 := ⟨_, rfl⟩
  rw [hS3] at e2 HP
  have hsv : (65535 : Int) - (V : Int) = ((65535 - V : Nat) : Int) := by omega
  have HCC := Lib.hid HC
  have HPP := Lib.hid HP
  clear HC HP hS2 hS3 hFL2 hFL hV hPL hdd hD hp
  unfold sumV at HPP
  cases bad <;> (
    go_enter Tryd.func85, Tryd.ntmps85
    go_wp2_with (first
      | (go_at_call 104; refine (HCC.out _).mono ?_; rintro e w' ⟨rfl, hw'⟩; rw [← hw']; clear hw' w')
      | (go_at_call 105; refine (HPP.out _).mono ?_; rintro e w' ⟨rfl, hb⟩))
    go_ret
    exact ⟨rfl, hb⟩)
theorem specKind_any (S : SS) (b p : Nat) (w : World) (hs : SecAt w b p S) : Calls Tryd.prog 53 #[.pointer (some ⟨b, p, none⟩)] w fun e w' => e = .returned (.int .i64 (S.kd : Nat)) ∧ w' = w := by
  obtain ⟨_, _, _, _, _, k5, _, _⟩ := hs
  unfold SS.kd
  obtain ⟨cy, hdd, no, sz, dt, dl, bi, bd⟩ := S
  simp only at *
  cases dl <;> (
    go_enter Tryd.func53, Tryd.ntmps53
    go_wp2
    go_ret
    exact ⟨rfl, rfl⟩)
theorem specData_any (f : Nat) (hf : f123 f) (S : SS) (hS : S.ok) (b p : Nat) (x : Int) (hx : x = f) (w : World) (hs : SecAt w b p S) (hb : b < w.heap.size) : Calls Tryd.prog 54 #[.int .i64 x, .pointer (some ⟨b, p, none⟩)] w fun e w' => e = .returned (.string (strL (fieldL f S.kd S.dt.data.toList S.bd))) ∧ Below w.heap.size w w' := by
  have hd := hS.len
  have HK := Lib.hid (specKind_any S b p w.drew hs)
  have HP := Lib.hid (fun W => prefix_any f S.kd hf S.kd123 x (S.kd : Int) hx rfl W)
  have HS := Lib.hid (fun W => sum_any f S.kd S.dt (by omega) S.bd (strL (prefL f S.kd)) rfl W)
  have HSA := Lib.hid hs
  obtain ⟨KD, hKD⟩ : ∃ KD, S.kd = KD := ⟨_, rfl⟩
  rw [hKD] at HK HP HS ⊢
  obtain ⟨PR, hPR⟩ : ∃ PR, strL (prefL f KD) = PR := ⟨_, rfl⟩
  rw [hPR] at HP HS
  obtain ⟨R, hR⟩ : ∃ R, strL (fieldL f KD S.dt.data.toList S.bd) = R := ⟨_, rfl⟩
  rw [hR] at HS ⊢
  have c4 : w.drew.cell? ⟨b, p + 4, none⟩ = some (.string S.dt) := hs.2.2.2.2.1
  have c7 : w.drew.cell? ⟨b, p + 7, none⟩ = some (.bool S.bd) := hs.2.2.2.2.2.2.2
  clear hKD hPR hR hs hd hx
  go_enter Tryd.func54, Tryd.ntmps54
  go_wp2_with fail
  go_region_law (go_simp; (first
    | (go_at_call 53; refine HK.out.mono ?_; rintro e w' ⟨rfl, hw'⟩; rw [hw']; clear hw' w')
    | (go_at_call 86; refine (HP.out _).mono ?_; rintro e w1 ⟨rfl, hb1⟩; have d4 : w1.cell? ⟨b, p + 4, none⟩ = some (.string S.dt) := (hb1.cell (p := ⟨b, p + 4, none⟩) hb).trans c4; have d7 : w1.cell? ⟨b, p + 7, none⟩ = some (.bool S.bd) := (hb1.cell (p := ⟨b, p + 7, none⟩) hb).trans c7)
    | (go_at_call 85; refine (HS.out _).mono ?_; rintro e w2 ⟨rfl, hb2⟩)))
  all_goals
    go_wp2_with fail
    go_ret
    exact ⟨rfl, ((Below.refl _ _).drew.trans hb1).trans (hb2.mono hb1.size)⟩
set_option maxHeartbeats 4000000 in
theorem specId_any (f : Nat) (hf : f123 f) (S : SS) (hS : S.ok) (b p : Nat) (x : Int) (hx : x = f) (w : World) (hs : SecAt w b p S) (hb : b < w.heap.size) : Calls Tryd.prog 52 #[.int .i64 x, .pointer (some ⟨b, p, none⟩)] w fun e w' => e = .returned (.string (strL (fieldL f 1 S.id S.bi))) ∧ Below w.heap.size w w' := by
  obtain ⟨h1, h2, h3, h4, _⟩ := hS
  have HP := Lib.hid (fun W => prefix_any f 1 hf (.inl rfl) x 1 hx rfl W)
  have HS := Lib.hid (fun W => sum_any f 1 (strL S.id) (by rw [strL_size]; unfold SS.id; simp) S.bi (strL (prefL f 1)) rfl W)
  rw [strL_list] at HS
  have HSA := Lib.hid hs
  have HI := Lib.hid (show (⟨#[UInt8.ofNat S.cy.toNat, UInt8.ofNat S.hd.toNat, UInt8.ofNat S.no.toNat, UInt8.ofNat S.sz.toNat]⟩ : ByteArray) = strL S.id from rfl)
  have e1 := wrap_u8i S.cy h1.1 h1.2
  have e2 := wrap_u8i S.hd h2.1 h2.2
  have e3 := wrap_u8i S.no h3.1 h3.2
  have e4 := wrap_u8i S.sz h4.1 (by omega)
  have hcv : (convert 22 9 (.slice (some ⟨w.heap.size, 0, none⟩) 4 4)).run Tryd.prog ((w.alloc (.cells #[.int .u8 S.cy, .int .u8 S.hd, .int .u8 S.no, .int .u8 S.sz] 5)).drew) = .ok (.string ⟨#[UInt8.ofNat S.cy.toNat, UInt8.ofNat S.hd.toNat, UInt8.ofNat S.no.toNat, UInt8.ofNat S.sz.toNat]⟩) ((w.alloc (.cells #[.int .u8 S.cy, .int .u8 S.hd, .int .u8 S.no, .int .u8 S.sz] 5)).drew) := run_bstr4 w.drew S.cy S.hd S.no S.sz
  obtain ⟨I, hI⟩ : ∃ I, strL S.id = I := ⟨_, rfl⟩
  rw [HI.out, hI] at hcv
  rw [hI] at HS
  obtain ⟨PR, hPR⟩ : ∃ PR, strL (prefL f 1) = PR := ⟨_, rfl⟩
  rw [hPR] at HP HS
  obtain ⟨R, hR⟩ : ∃ R, strL (fieldL f 1 S.id S.bi) = R := ⟨_, rfl⟩
  rw [hR] at HS ⊢
  have c0 : w.drew.cell? ⟨b, p, none⟩ = some (.int .i64 S.cy) := hs.1
  have c1 : w.drew.cell? ⟨b, p + 1, none⟩ = some (.int .i64 S.hd) := hs.2.1
  have c2 : w.drew.cell? ⟨b, p + 2, none⟩ = some (.int .i64 S.no) := hs.2.2.1
  have c3 : w.drew.cell? ⟨b, p + 3, none⟩ = some (.int .i64 S.sz) := hs.2.2.2.1
  clear hR hPR hI HI hs h1 h2 h3 h4 hx
  go_enter Tryd.func52, Tryd.ntmps52
  go_wp2_with fail
  go_cut [5] (fun s5 wx => s5 = .string I ∧ Below w.heap.size w wx)
  case first =>
    go_region_law (fail)
    all_goals
      go_wp2_with fail
      go_meet
      exact ⟨rfl, by first | exact ((Below.refl _ _).drew.alloc (Nat.le_refl _) _) | exact ((Below.refl _ _).alloc (Nat.le_refl _) _).drew⟩
  case rest =>
    obtain ⟨rfl, hbx⟩ := hcut
    have HBX := Lib.hid hbx
    have hzx := hbx.size
    have c6 : wc.drew.cell? ⟨b, p + 6, none⟩ = some (.bool S.bi) := (hbx.cell (p := ⟨b, p + 6, none⟩) hb).trans HSA.out.2.2.2.2.2.2.1
    clear c0 c1 c2 c3 e1 e2 e3 e4 hcv hbx
    go_wp2_with fail
    go_region_law (go_simp; (first
      | (go_at_call 86; refine (HP.out _).mono ?_; rintro e w1 ⟨rfl, hb1⟩; have d6 : w1.cell? ⟨b, p + 6, none⟩ = some (.bool S.bi) := (hb1.cell (p := ⟨b, p + 6, none⟩) (by show b < wc.heap.size; omega)).trans c6)
      | (go_at_call 85; refine (HS.out _).mono ?_; rintro e w2 ⟨rfl, hb2⟩)))
    all_goals
      go_wp2_with fail
      go_ret
      exact ⟨rfl, HBX.out.trans ((((Below.refl _ _).drew.trans hb1).trans (hb2.mono hb1.size)).mono hzx)⟩
end Go.Proofs.YtabmdbhbbmnkdaaDoor
