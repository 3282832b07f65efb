/-
  Trees: the reference's walk: a file followed; an entry asked for.
-/
import Derived.Test.YtiefcgmghkkbmaaGreatDoorTreS
import Derived.Deep.LoopGhost
namespace Go.Proofs.YtiefcgmghkkbmaaGreatDoor
open Go Go.ChangeShapes Go.WideShapes Go.ChangeAt Go.RowKit lib
set_option linter.unusedVariables false
set_option linter.unusedSimpArgs false
set_option maxRecDepth 100000
theorem tLook_ok {n : Nat} {u : Nat → Nat → UInt8} {S : TS} {b : Nat} (h : (tLook n u S b).2 = true) : b < n ∧ S.sn b = false ∧ usum (u b) 32 = 0 ∧ (tLook n u S b).1 = S := by
  unfold tLook at h ⊢
  by_cases h1 : n ≤ b ∨ S.sn b = true
  · rw [if_pos h1] at h; cases h
  · rw [if_neg h1] at h ⊢
    by_cases h2 : usum (u b) 32 ≠ 0
    · rw [if_pos h2] at h; cases h
    · rw [if_neg h2]
      exact ⟨by omega, by cases hs : S.sn b with | false => rfl | true => exact absurd (.inr hs) h1, by simpa using h2, rfl⟩
theorem tEnter_look {n : Nat} {u : Nat → Nat → UInt8} {S : TS} {b : Nat} {ok : Prop} (h : (tLook n u S b).2 = false) : tEnter n u S b ok = ((tLook n u S b).1, false) := by
  unfold tLook at h ⊢
  unfold tEnter
  by_cases h1 : n ≤ b ∨ S.sn b = true
  · rw [if_pos h1, if_pos h1]
  · rw [if_neg h1] at h ⊢
    rw [if_neg h1]
    by_cases h2 : usum (u b) 32 ≠ 0
    · rw [if_pos h2, if_pos h2]
    · rw [if_neg h2] at h; cases h
theorem tEnter_yes {n : Nat} {u : Nat → Nat → UInt8} {S : TS} {b : Nat} {ok : Prop} (h : (tLook n u S b).2 = true) (hok : ok) : tEnter n u S b ok = (S.see b, true) := by
  obtain ⟨h1, h2, h3, _⟩ := tLook_ok h
  unfold tEnter
  rw [if_neg (fun q => q.elim (by omega) (fun q => by rw [h2] at q; cases q)), if_neg (fun q => q h3), if_pos hok]
theorem tEnter_no {n : Nat} {u : Nat → Nat → UInt8} {S : TS} {b : Nat} {ok : Prop} (h : (tLook n u S b).2 = true) (hok : ¬ ok) : tEnter n u S b ok = (S.prob 2 b, false) := by
  obtain ⟨h1, h2, h3, _⟩ := tLook_ok h
  unfold tEnter
  rw [if_neg (fun q => q.elim (by omega) (fun q => by rw [h2] at q; cases q)), if_neg (fun q => q h3), if_neg hok]
theorem sFile_done {n : Nat} {u : Nat → Nat → UInt8} {g : Nat} {S : TS} {f k : Nat} {out : ByteArray} : tFile n u (g + 1) S f 0 k out = if out.size = tW (u f) 12 then (S, some out) else (S.prob 5 f, none) := by
  unfold tFile
  rw [if_pos rfl]
theorem sFile_go {n : Nat} {u : Nat → Nat → UInt8} {g : Nat} {S S1 : TS} {f b k : Nat} {out : ByteArray} (hb : b ≠ 0) (h : tEnter n u S b (tPart (u b) f k) = (S1, true)) : tFile n u (g + 1) S f b k out = tFile n u g S1 f (u b 4).toNat (k + 1) (out ++ tDat (u b)) := by
  rw [tFile, if_neg hb, if_pos (by rw [h]), h]
theorem sFile_stop {n : Nat} {u : Nat → Nat → UInt8} {g : Nat} {S S1 : TS} {f b k : Nat} {out : ByteArray} (hb : b ≠ 0) (h : tEnter n u S b (tPart (u b) f k) = (S1, false)) : tFile n u (g + 1) S f b k out = (S1, none) := by
  rw [tFile, if_neg hb, if_neg (by rw [h]; simp), h]
def SFilOut (q n B gs : Nat) (Ad : Option Addr) (cd : Nat) (s : Nat → ByteArray) (L : Nat) (xs : List Value) (w : World) (R : TS × Option ByteArray) (e : Ending) (w' : World) : Prop :=
  e = .returned (.tuple #[.string (datO R.2), .bool R.2.isSome]) ∧ SkW w' q n B gs Ad cd s R.1 L xs ∧ Kp skF 0 B w w' ∧ w'.cell? ⟨q, 2, none⟩ = w.cell? ⟨q, 2, none⟩
set_option maxHeartbeats 16000000 in
theorem sfile_any {w : World} {q n B gs cd L f : Nat} {Ad : Option Addr} {s : Nat → ByteArray} {S : TS} {xs : List Value} (h : SkW w q n B gs Ad cd s S L xs) (hn : n ≤ 128) (h32 : ∀ i, i < n → (s i).size = 32) (hl : S.mu n ≤ 90000) (hf : f < n) :
    Calls Tryz.prog 112 #[.pointer (some ⟨q, 0, none⟩), .int .i64 f] w (SFilOut q n B gs Ad cd s L xs w (tFile n (fun i => byteAt (s i)) 256 S f (byteAt (s f) 14).toNat 1 ⟨#[]⟩)) := by
  obtain ⟨u, hu⟩ : ∃ u, u = fun i => byteAt (s i) := ⟨_, rfl⟩
  have HU := Lib.hid (fun i => show u i = byteAt (s i) by rw [hu])
  obtain ⟨R, hR⟩ : ∃ R, tFile n u 256 S f (byteAt (s f) 14).toNat 1 ⟨#[]⟩ = R := ⟨_, rfl⟩
  rw [← hu, hR]
  have HLK := Lib.hid (fun (W : World) (S' : TS) (hW : SkW W q n B gs Ad cd s S' L xs) (b : Nat) (hb : b ≤ 255) (hp : S'.pr.length ≤ 100000) => show Calls Tryz.prog 109 #[.pointer (some ⟨q, 0, none⟩), .int .i64 b] W fun e w' => e = .returned (.bool (tLook n u S' b).2) ∧ SkW w' q n B gs Ad cd s (tLook n u S' b).1 L xs ∧ Kp skF 0 B W w' ∧ w'.cell? ⟨q, 2, none⟩ = W.cell? ⟨q, 2, none⟩ by rw [hu]; exact slook_any hW hn h32 hp hb)
  have HR := Lib.hid hR
  have H32 := Lib.hid h32
  have HW := Lib.hid h
  obtain ⟨k0, cs, k1⟩ := h.head
  obtain ⟨ba, oa, hA, hbl, hca⟩ := h.disk f hf
  subst hA
  dsimp only at hca
  have hzf := h32 f hf
  obtain ⟨x14, h14⟩ : ∃ x, (byteAt (s f) 14).toNat = x := ⟨_, rfl⟩
  have b14 : x14 < 256 := by rw [← h14]; exact UInt8.toNat_lt _
  rw [h14] at HR
  have hfi : (f : Int) < (n : Int) := by omega
  have hun := unsF_le S.sn n
  obtain ⟨xf, hxf⟩ : ∃ x, s f = x := ⟨_, rfl⟩
  have HXF := Lib.hid hxf
  simp only [hxf] at hca hzf h14
  have hszf : ((xf.size : Nat) : Int) = 32 := by omega
  clear h hR hu h32 hxf
  have hg14 := byteAt_get xf 14 (by omega)
  go_enter Tryz.func112, Tryz.ntmps112
  go_wp2_with fail
  go_loopg [6, 7, 8] 129 (fun g' s6 s7 s8 wy => ∃ (b k g : Nat) (out : ByteArray) (S' : TS), S'.uns n + 1 ≤ g' ∧ s8 = .int .i64 b ∧ b < 256 ∧ s7 = .int .i64 k ∧ s6 = .string out ∧ tFile n u g S' f b k out = R ∧ S'.uns n < g ∧ k + S'.uns n ≤ 200 ∧ out.size ≤ 26 * k ∧ S'.mu n ≤ S.mu n ∧
    SkW wy q n B gs (some ⟨ba, oa, none⟩) cd s S' L xs ∧ Kp skF 0 B w wy ∧ wy.cell? ⟨q, 2, none⟩ = w.cell? ⟨q, 2, none⟩)
  case atStart => exact ⟨x14, 1, 256, ⟨#[]⟩, S, by show unsF S.sn n + 1 ≤ 129; omega, rfl, b14, rfl, rfl, HR.out, by show unsF S.sn n < 256; omega, by show 1 + unsF S.sn n ≤ 200; omega, by show 0 ≤ _; omega, Nat.le_refl _, HW.out, Kp.refl _ _ _ _, rfl⟩
  case round =>
    clear k0 k1 hca
    obtain ⟨b, k, g, out, S', hg', rfl, hb256, rfl, rfl, hfe, hfu, hku, hos, hmu, hw, hkp, hc2⟩ := hrel
    have HFE := Lib.hid hfe
    have HWR := Lib.hid hw
    have HKP := Lib.hid hkp
    have HC2 := Lib.hid hc2
    have hpl : S'.pr.length ≤ 90000 := by have : S'.mu n = S'.pr.length + 20 * S'.uns n := rfl; omega
    obtain ⟨g1, rfl⟩ : ∃ g1, g = g1 + 1 := ⟨g - 1, by omega⟩
    obtain ⟨k0, cs', k1⟩ := hw.head
    clear hfe hkp hc2
    by_cases h0 : b = 0
    · subst h0
      obtain ⟨_, _, e1, _, hca⟩ := hw.disk f hf
      simp only [Option.some.injEq, Addr.mk.injEq, and_true] at e1
      obtain ⟨rfl, rfl⟩ := e1
      dsimp only at hca
      rw [HXF.out] at hca
      have hfd := HFE.out
      rw [sFile_done] at hfd
      have HGW := Lib.hid (fun W => get_any xf 12 (by omega) (by omega) W)
      obtain ⟨Lw, hLw⟩ : ∃ L, tW (byteAt xf) 12 = L := ⟨_, rfl⟩
      rw [HU.out f, HXF.out, hLw] at hfd
      rw [hLw] at HGW
      have hL2 : Lw < 65536 := by rw [← hLw]; unfold tW; have := (byteAt xf 12).toNat_lt; have := (byteAt xf (12 + 1)).toNat_lt; omega
      obtain ⟨z, hz⟩ : ∃ z, out.size = z := ⟨_, rfl⟩
      rw [hz] at hfd
      have hzi : ((out.size : Nat) : Int) = (z : Int) := by rw [hz]
      have HFD := Lib.hid hfd
      clear hfd hLw hw
      by_cases he : z = Lw
      · have t1 : ((z : Int) != (Lw : Int)) = false := by simp; omega
        have HRES := Lib.hid (show R = (S', some out) by have := HFD.out; rw [if_pos he] at this; exact this.symm)
        clear he
        go_wp2_with (go_at_call 138; refine (HGW.out _).mono ?_; rintro e w3 ⟨rfl, q3, rfl⟩)
        go_ret2
        rw [HRES.out]
        exact ⟨rfl, HWR.out.below ((Below.refl _ _).drewN _), HKP.out.drewN _, HC2.out⟩
      · have t1 : ((z : Int) != (Lw : Int)) = true := by simp; omega
        have HRES := Lib.hid (show R = (S'.prob 5 f, none) by have := HFD.out; rw [if_neg he] at this; exact this.symm)
        clear he
        go_wp2_with (first | (go_at_call 138; refine (HGW.out _).mono ?_; rintro e w3 ⟨rfl, q3, rfl⟩) | (go_at_call 77; refine (sproblem_any (HWR.out.below ((Below.refl _ _).drewN q3)) (by omega) (k := 5) (b := f) (by omega) (by omega)).mono ?_; rintro e w5 ⟨rfl, hw5, hk5, hc5, _⟩))
        go_ret2
        rw [HRES.out]
        exact ⟨rfl, hw5, (HKP.out.drewN _).trans hk5, hc5.trans HC2.out⟩
    · have t1 : ((b : Int) != 0) = true := by simp; omega
      have HLO := Lib.hid (HLK.out _ _ HWR.out b (by omega) (by omega))
      cases hlo : (tLook n u S' b).2 with
      | false =>
        have HRES := Lib.hid (show R = ((tLook n u S' b).1, none) from HFE.out.symm.trans (sFile_stop h0 (tEnter_look hlo)))
        rw [hlo] at HLO
        clear hlo hw
        go_wp2_with (go_at_call 109; refine HLO.out.mono ?_; rintro e w5 ⟨rfl, hw5, hk5, hc5⟩)
        go_ret2
        rw [HRES.out]
        exact ⟨rfl, hw5, HKP.out.trans hk5, hc5.trans HC2.out⟩
      | true =>
        obtain ⟨hbn, hsn, _, hS⟩ := tLook_ok hlo
        rw [hlo, hS] at HLO
        have hbi : (b : Int) < (n : Int) := by omega
        have hz32 := H32.out b hbn
        have HY := Lib.hid (fun (p : tPart (u b) f k) => sFile_go (g := g1) (out := out) h0 (tEnter_yes hlo p))
        have HNO := Lib.hid (fun (p : ¬ tPart (u b) f k) => sFile_stop (g := g1) (out := out) h0 (tEnter_no hlo p))
        have hun1 := uns_see hbn hsn
        have hmu1 := mu_see hbn hsn
        obtain ⟨x, hx⟩ : ∃ x, s b = x := ⟨_, rfl⟩
        have HX := Lib.hid hx
        rw [hx] at hz32
        have HUB := Lib.hid (show u b = byteAt x from by rw [HU.out, HX.out])
        clear hlo hS hsn hx hw
        by_cases hp : tPart (u b) f k
        · have HDA := Lib.hid (fun W => specData_any x f k hz32 (by omega) (by omega) true ⟨fun _ => by rw [← HUB.out]; exact hp, fun _ => rfl⟩ W)
          have hfe2 := HFE.out.symm.trans (HY.out hp)
          rw [HUB.out] at hp hfe2
          have hx5a := hp.2.2.2.1
          have hx5b := hp.2.2.2.2.1
          have hg5 := byteAt_get x 5 (by omega)
          have hg4 := byteAt_get x 4 (by omega)
          obtain ⟨x5, h5⟩ : ∃ y, (byteAt x 5).toNat = y := ⟨_, rfl⟩
          obtain ⟨x4, h4⟩ : ∃ y, (byteAt x 4).toNat = y := ⟨_, rfl⟩
          rw [h5] at hx5a hx5b
          have b4 : x4 < 256 := by rw [← h4]; exact UInt8.toNat_lt _
          rw [h4] at hfe2
          have HFE2 := Lib.hid hfe2
          have hsl := fun W => slTx x 6 (6 + x5) 6 (6 + (x5 : Int)) rfl (by omega) (by omega) (by omega) (by omega) W
          obtain ⟨Dt, hDt⟩ : ∃ D, tDat (byteAt x) = D := ⟨_, rfl⟩
          have hDs : Dt.size = x5 := by rw [← hDt]; unfold tDat; rw [bsT_size, h5]
          have hDt2 : (bstr (6 + x5 - 6) fun i => byteAt x (6 + i)) = Dt := by rw [← hDt]; unfold tDat; rw [h5, show 6 + x5 - 6 = x5 by omega]
          simp only [hDt2] at hsl
          rw [hDt] at HFE2
          have hadd : ∀ W : World, (Op.stringOp .add out Dt).run Tryz.prog W = .ok (.string (out ++ Dt)) W := fun W => run_string_add_sum _ _ _ (by omega)
          have hszx : ((x.size : Nat) : Int) = 32 := by omega
          have hDi : ((Dt.size : Nat) : Int) = (x5 : Int) := by rw [hDs]
          have HDS := Lib.hid hDs
          clear hp hfe2 hDt hDt2 hDs
          go_upto_region 9 with (go_at_call 109; refine HLO.out.mono ?_; rintro e w5 ⟨rfl, hw5, hk5, hc5⟩; obtain ⟨k0, cs5, k1⟩ := hw5.head; obtain ⟨_, _, e1, _, hca⟩ := hw5.disk b hbn; simp only [Option.some.injEq, Addr.mk.injEq, and_true] at e1; obtain ⟨rfl, rfl⟩ := e1; dsimp only at hca; rw [HX.out] at hca)
          have HW5 := Lib.hid hw5
          have HK5 := Lib.hid (HKP.out.trans hk5)
          have HC5 := Lib.hid (hc5.trans HC2.out)
          clear hw5 hk5 hc5 k0 k1 hca
          go_upto_region 12 with (go_at_call 139; refine (HDA.out _).mono ?_; rintro e w6 ⟨rfl, hb6⟩)
          have hw6 := HW5.out.below hb6
          have HW6 := Lib.hid hw6
          have HK6 := Lib.hid (HK5.out.trans (Kp.ofBelow hb6))
          have HC6 := Lib.hid ((hb6.cell (p := ⟨q, 2, none⟩) (by obtain ⟨⟨_, _, _, _, _, r1, _⟩, _⟩ := HW5.out; exact r1.lt)).trans HC5.out)
          obtain ⟨k0, cs6, k1⟩ := hw6.head
          obtain ⟨k4, k5⟩ := hw6.bit hbn
          obtain ⟨hv1, hv2, hv3⟩ := hw6.visit hbn
          have hc7 : (w6.setCell ⟨gs, b, none⟩ (.bool true)).cell? ⟨q, 2, none⟩ = w6.cell? ⟨q, 2, none⟩ := World.cell?_of_block (a := ⟨q, 2, none⟩) (hv3.block q (by obtain ⟨⟨_, _, _, _, _, r1, _⟩, _⟩ := hw6; exact r1.lt) (.inr (by obtain ⟨⟨_, _, _, _, _, ⟨fr, r2, _⟩, _⟩, _⟩ := hw6; exact .inl ⟨_, _, fr, r2, by decide⟩)))
          have HW7 := Lib.hid hv1
          have HK7 := Lib.hid (HK6.out.trans hv2)
          have HC7 := Lib.hid (hc7.trans HC6.out)
          clear hw6 hb6 hv1 hv2 hv3 hc7
          go_upto_region 13 with fail
          generalize w6.setCell ⟨gs, b, none⟩ (.bool true) = w7 at *
          clear k0 k1 k4 k5
          obtain ⟨k0, cs7, k1⟩ := HW7.out.head
          obtain ⟨_, _, e1, _, hca⟩ := HW7.out.disk b hbn
          simp only [Option.some.injEq, Addr.mk.injEq, and_true] at e1
          obtain ⟨rfl, rfl⟩ := e1
          dsimp only at hca
          rw [HX.out] at hca
          have n5 : (6 + (x5 : Int)).toNat = 6 + x5 := by omega
          go_wp2_with fail
          go_roundg ((S'.see b).uns n + 1)
          case measure => omega
          case rel => exact ⟨x4, k + 1, g1, out ++ Dt, S'.see b, Nat.le_refl _, rfl, b4, by go_num, rfl, HFE2.out.symm, by omega, by omega, by rw [ByteArray.size_append]; have := HDS.out; omega, by omega, HW7.out, HK7.out, HC7.out⟩
        · have HDA := Lib.hid (fun W => specData_any x f k hz32 (by omega) (by omega) false ⟨fun h => (by cases h), fun h => absurd (by rw [HUB.out]; exact h) hp⟩ W)
          have HRES := Lib.hid (show R = (S'.prob 2 b, none) from HFE.out.symm.trans (HNO.out hp))
          clear hp
          go_upto_region 9 with (go_at_call 109; refine HLO.out.mono ?_; rintro e w5 ⟨rfl, hw5, hk5, hc5⟩; obtain ⟨k0, cs5, k1⟩ := hw5.head; obtain ⟨_, _, e1, _, hca⟩ := hw5.disk b hbn; simp only [Option.some.injEq, Addr.mk.injEq, and_true] at e1; obtain ⟨rfl, rfl⟩ := e1; dsimp only at hca; rw [HX.out] at hca)
          have HW5 := Lib.hid hw5
          have HK5 := Lib.hid (HKP.out.trans hk5)
          have HC5 := Lib.hid (hc5.trans HC2.out)
          clear hw5 hk5 hc5 k0 k1 hca
          go_wp2_with (first | (go_at_call 139; refine (HDA.out _).mono ?_; rintro e w6 ⟨rfl, hb6⟩) | (go_at_call 77; refine (sproblem_any (HW5.out.below hb6) (by omega) (k := 2) (b := b) (by omega) (by omega)).mono ?_; rintro e w7 ⟨rfl, hw7, hk7, hc7, _⟩))
          go_ret2
          rw [HRES.out]
          exact ⟨rfl, hw7, (HK5.out.trans (Kp.ofBelow hb6)).trans hk7, hc7.trans ((hb6.cell (p := ⟨q, 2, none⟩) (by obtain ⟨⟨_, _, _, _, _, r1, _⟩, _⟩ := HW5.out; exact r1.lt)).trans HC5.out)⟩
end Go.Proofs.YtiefcgmghkkbmaaGreatDoor
