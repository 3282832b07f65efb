/-
  Trees: the program's walk: a file followed.
-/
import Derived.Test.YtiefcgmghkkbmaaGreatDoorTreWr
import Derived.Deep.LoopGhost
namespace Go.Proofs.YtiefcgmghkkbmaaGreatDoor
open Go Go.ChangeShapes Go.WideShapes Go.ChangeAt Go.RowKit lib
set_option linter.unusedVariables false
set_option linter.unusedSimpArgs false
set_option maxRecDepth 100000
theorem tFile_done {n : Nat} {u : Nat → Nat → UInt8} {g : Nat} {S : TS} {f k : Nat} {out : ByteArray} : tFile n u (g + 1) S f 0 k out = if out.size = tW (u f) 12 then (S, some out) else (S.prob 5 f, none) := by
  unfold tFile
  rw [if_pos rfl]
theorem tFile_go {n : Nat} {u : Nat → Nat → UInt8} {g : Nat} {S : TS} {f b k : Nat} {out : ByteArray} (hb : b ≠ 0) (h : (tEnter n u S b (tPart (u b) f k)).2 = true) : tFile n u (g + 1) S f b k out = tFile n u g (tEnter n u S b (tPart (u b) f k)).1 f (u b 4).toNat (k + 1) (out ++ tDat (u b)) := by
  rw [tFile, if_neg hb, if_pos h]
theorem tFile_stop {n : Nat} {u : Nat → Nat → UInt8} {g : Nat} {S : TS} {f b k : Nat} {out : ByteArray} (hb : b ≠ 0) (h : (tEnter n u S b (tPart (u b) f k)).2 = false) : tFile n u (g + 1) S f b k out = ((tEnter n u S b (tPart (u b) f k)).1, none) := by
  rw [tFile, if_neg hb, if_neg (by rw [h]; simp)]
theorem tEnter_ok {n : Nat} {u : Nat → Nat → UInt8} {S : TS} {b : Nat} {ok : Prop} (h : (tEnter n u S b ok).2 = true) : b < n ∧ S.sn b = false ∧ ok ∧ (tEnter n u S b ok).1 = S.see b := by
  rcases tEnter_cases (n := n) (u := u) S b ok with ⟨h1, h2, _, h3, e⟩ | ⟨k, e⟩
  · exact ⟨h1, h2, h3, by rw [e]⟩
  · rw [e] at h; cases h
/-- how a walk's part with a result ends -/
def FilOut (q gp gr n B B0 m : Nat) (bl cp : Nat → Nat) (u : Nat → Nat → UInt8) (w : World) (R : TS × Option ByteArray) (e : Ending) (w' : World) : Prop :=
  e = .returned (.tuple #[.string (datO R.2), .bool R.2.isSome]) ∧ WkW w' q gp gr n B B0 m bl cp u R.1 ∧ Kp wkT m B w w' ∧ w'.cell? ⟨q, 3, none⟩ = w.cell? ⟨q, 3, none⟩
set_option maxHeartbeats 16000000 in
theorem file_any {w : World} {q gp gr n B B0 m f : Nat} {bl cp : Nat → Nat} {u : Nat → Nat → UInt8} {S : TS} (h : WkW w q gp gr n B B0 m bl cp u S) (hB : B ≤ w.heap.size) (hn : n ≤ 128) (hl : S.mu n ≤ 90000) (hf : f < n) :
    Calls Tryz.prog 117 #[.pointer (some ⟨q, 0, none⟩), .int .i64 f] w (FilOut q gp gr n B B0 m bl cp u w (tFile n u 256 S f (u f 14).toNat 1 ⟨#[]⟩)) := by
  obtain ⟨R, hR⟩ : ∃ R, tFile n u 256 S f (u f 14).toNat 1 ⟨#[]⟩ = R := ⟨_, rfl⟩
  rw [hR]
  have HR := Lib.hid hR
  have HQL0 := Lib.hid (RowsLt.of h).1
  have hb0 := (Below.refl w.heap.size w).alloc (Nat.le_refl _) (.cells #[.int .i64 (f : Int)] 2)
  have HK0 := Lib.hid (Kp.ofBelow (T := wkT) (m := m) (B := B) hb0)
  have HW0 := Lib.hid (h.below hb0)
  have HC0 := Lib.hid (hb0.cell (p := ⟨q, 3, none⟩) HQL0.out)
  have HBX := Lib.hid (Row.new w 2 #[.int .i64 (f : Int)])
  have hz0 := hb0.size
  have hbxl : w.heap.size < (w.alloc (.cells #[.int .i64 (f : Int)] 2)).heap.size := by rw [World.size_alloc]; omega
  clear h hb0 hR
  go_enter Tryz.func117, Tryz.ntmps117
  go_upto_region 1 with fail
  obtain ⟨bx, hbx⟩ : ∃ bx, w.heap.size = bx := ⟨_, rfl⟩
  rw [hbx] at HBX hbxl hz0
  rw [hbx]
  have HBXE := Lib.hid hbx
  clear hbx
  generalize w.alloc (.cells #[.int .i64 (f : Int)] 2) = W1 at *
  obtain ⟨k0, _⟩ := HW0.out.ptr
  obtain ⟨cap, k2⟩ := HW0.out.tree.ptr
  have k3 := HW0.out.tree.blk hf
  have kb : W1.cell? ⟨bx, 0, none⟩ = some (.int .i64 (f : Int)) := HBX.out.cell 0
  have hfi : (f : Int) < (n : Int) := by omega
  go_quiet (fail)
  have HW2 := Lib.hid (HW0.out.drewN nq)
  have HC2 : Hid ((W1.drewN nq).cell? ⟨q, 3, none⟩ = w.cell? ⟨q, 3, none⟩) := Lib.hid HC0.out
  have HK2 := Lib.hid (HK0.out.drewN nq)
  have HBX2 : Hid (Row (W1.drewN nq) bx 2 #[.int .i64 (f : Int)]) := Lib.hid (HBX.out.drewN nq)
  have hz2 : bx < (W1.drewN nq).heap.size := hbxl
  have hB2 : B ≤ (W1.drewN nq).heap.size := by have := HBXE.out; show B ≤ W1.heap.size; omega
  clear k0 k2 k3 kb HW0 HK0 HBX hbxl hz0 HC0
  generalize W1.drewN nq = W2 at *
  go_upto_region 3 with fail
  have HIB := Lib.hid (Lib.fresh_isBuilder 113 5 W2)
  have hb3 := (Below.refl W2.heap.size W2).alloc (Nat.le_refl _) (.cells #[.pointer none, .slice none 0 0] 113)
  have HW3 := Lib.hid (HW2.out.below hb3)
  have HC3' := Lib.hid ((hb3.cell (p := ⟨q, 3, none⟩) (RowsLt.of HW2.out).1).trans HC2.out)
  have HBX3 := Lib.hid (HBX2.out.below hb3 HBX2.out.lt)
  have HK3 := Lib.hid (HK2.out.trans (Kp.ofBelow hb3))
  have HBL := Lib.hid (fun j (hj : j < n) => (HW2.out.tree.row hj).lt)
  have HGP := Lib.hid (show gp < W2.heap.size ∧ gr < W2.heap.size ∧ m < W2.heap.size from by
    obtain ⟨_, ⟨cnt, _, h5⟩, ⟨⟨⟨cap, a1⟩, ⟨cs, a2, _⟩, _⟩, _⟩, _⟩ := HW2.out
    exact ⟨a1.lt, a2.lt, h5.lt⟩)
  have HRL3 := Lib.hid ((RowsLt.of HW2.out).same (hb3.block q (RowsLt.of HW2.out).1))
  have hz3 := hb3.size
  obtain ⟨qb, hqb⟩ : ∃ qb, W2.heap.size = qb := ⟨_, rfl⟩
  rw [hqb] at HIB hz3 hz2 hB2 HBL HGP HRL3
  rw [hqb]
  clear hb3 HW2 HBX2 HK2 hqb HC2
  generalize W2.alloc (.cells #[.pointer none, .slice none 0 0] 113) = W3 at *
  have HROW := Lib.hid (HW3.out.tree.row hf)
  have c14 := HROW.out.cell (i := 14) (by omega)
  obtain ⟨x14, h14⟩ : ∃ x, (u f 14).toNat = x := ⟨_, rfl⟩
  have b14 : x14 < 256 := by rw [← h14]; exact UInt8.toNat_lt _
  rw [h14] at c14 HR
  have hb4 := (Below.refl W3.heap.size W3).alloc (Nat.le_refl _) (.cells #[.int .i64 1] 2)
  have HW4 := Lib.hid (HW3.out.below hb4)
  have HC4 := Lib.hid ((hb4.cell (p := ⟨q, 3, none⟩) (RowsLt.of HW3.out).1).trans HC3'.out)
  have HBX4 := Lib.hid (HBX3.out.below hb4 HBX3.out.lt)
  have HK4 := Lib.hid (HK3.out.trans (Kp.ofBelow hb4))
  have HIB4 := Lib.hid (builderKp HIB.out (Kp.ofBelow (T := wkT) (m := m) (B := B) hb4) (by decide) (by decide))
  have HRL4 := Lib.hid (HRL3.out.same (hb4.block q (by have := HRL3.out.1; omega)))
  have HNB := Lib.hid (Row.new W3 2 #[.int .i64 1])
  have hz4 : qb ≤ (W3.alloc (.cells #[.int .i64 1] 2)).heap.size := Nat.le_trans hz3 hb4.size
  clear h14 hb4
  go_wp2_with fail
  go_loopg [8, 9] 129 (fun g' s8 s9 wy => ∃ (b k bk g : Nat) (out : ByteArray) (S' : TS), S'.uns n + 1 ≤ g' ∧ s8 = .int .i64 b ∧ b < 256 ∧ s9 = .pointer (some ⟨bk, 0, none⟩) ∧ Row wy bk 2 #[.int .i64 (k : Int)] ∧ tFile n u g S' f b k out = R ∧ S'.uns n < g ∧ k + S'.uns n ≤ 200 ∧ out.size ≤ 26 * k ∧ S'.mu n ≤ S.mu n ∧
    WkW wy q gp gr n B B0 m bl cp u S' ∧ Kp wkT m B w wy ∧ Lib.IsBuilder 113 5 qb qb (Lib.byteCells out.data.toList) wy ∧ RowsLt wy q qb ∧ wy.cell? ⟨q, 3, none⟩ = w.cell? ⟨q, 3, none⟩ ∧ Row wy bx 2 #[.int .i64 (f : Int)] ∧ qb ≤ wy.heap.size)
  case atStart => exact ⟨x14, 1, _, 256, ⟨#[]⟩, S, by have := unsF_le S.sn n; unfold TS.uns; omega, rfl, b14, rfl, HNB.out, HR.out, by have := unsF_le S.sn n; unfold TS.uns; omega, by have := unsF_le S.sn n; unfold TS.uns; omega, by show 0 ≤ _; omega, Nat.le_refl _, HW4.out, HK4.out, HIB4.out, HRL4.out, HC4.out, HBX4.out, hz4⟩
  case round =>
    obtain ⟨b, k, bk, g, out, S', hg', rfl, hb256, rfl, hrk, hfe, hfu, hku, hos, hmu, hw, hkp, hib, hrl, hc3, hbx, hqz⟩ := hrel
    have HC3 := Lib.hid hc3
    clear hc3
    have HFE := Lib.hid hfe
    have HW := Lib.hid hw
    have HKP := Lib.hid hkp
    have HIBR := Lib.hid hib
    have HRK := Lib.hid hrk
    have HBXR := Lib.hid hbx
    have HRL := Lib.hid hrl
    have hBr : B ≤ wr.heap.size := by omega
    have hpl : S'.pr.length ≤ 90000 := by have : S'.mu n = S'.pr.length + 20 * S'.uns n := rfl; omega
    obtain ⟨g1, rfl⟩ : ∃ g1, g = g1 + 1 := ⟨g - 1, by omega⟩
    clear hfe hw hkp hib hrk hbx hrl
    by_cases h0 : b = 0
    · subst h0
      have HROWR := Lib.hid (HW.out.tree.row hf)
      have c12 := HROWR.out.cell (i := 12) (by omega)
      have c13 := HROWR.out.cell (i := 13) (by omega)
      obtain ⟨x12, h12⟩ : ∃ x, (u f 12).toNat = x := ⟨_, rfl⟩
      obtain ⟨x13, h13⟩ : ∃ x, (u f 13).toNat = x := ⟨_, rfl⟩
      have b12 : x12 < 256 := by rw [← h12]; exact UInt8.toNat_lt _
      have b13 : x13 < 256 := by rw [← h13]; exact UInt8.toNat_lt _
      rw [h12] at c12
      rw [h13] at c13
      have hfd := HFE.out
      rw [tFile_done, show tW (u f) 12 = x12 * 256 + x13 by unfold tW; rw [h12, h13]] at hfd
      have e9 : IntKind.i64.wrap (x12 : Int) = (x12 : Int) := by rw [IntKind.wrap_i64]; omega
      have e9' : IntKind.i64.wrap ((x12 : Int) * 256) = (x12 : Int) * 256 := by rw [IntKind.wrap_i64]; omega
      have e10 : IntKind.i64.wrap (x13 : Int) = (x13 : Int) := by rw [IntKind.wrap_i64]; omega
      have eor := or_wordT x12 x13 b12 b13
      obtain ⟨L, hL⟩ : ∃ L, x12 * 256 + x13 = L := ⟨_, rfl⟩
      rw [hL] at eor hfd
      have hL2 : L < 65536 := by omega
      have HFD := Lib.hid hfd
      have hlen : (Lib.byteCells out.data.toList).length = out.size := cellsLen _
      obtain ⟨z, hz⟩ : ∃ z, out.size = z := ⟨_, rfl⟩
      rw [hz] at hlen
      have HLEN := Lib.hid (fun (kk : Nat) => (show Calls Tryz.prog 142 #[.pointer (some ⟨qb, 0, none⟩)] (wr.drewN kk) fun e w' => e = .returned (.int .i64 (z : Int)) ∧ w' = wr.drewN kk by rw [← hlen]; exact Tryz.Builder_Len qb qb _ (wr.drewN kk) HIBR.out))
      have HZ := Lib.hid hz
      clear hL hfd h12 h13 hlen hz
      by_cases he : z = L
      · have t1 : ((z : Int) != (L : Int)) = false := by simp; omega
        have HRES := Lib.hid (show R = (S', some out) by have := HFD.out; rw [if_pos (by rw [HZ.out]; exact he)] at this; exact this.symm)
        clear he
        go_upto_region 14 with fail
        go_quiet ((go_at_call 142; exact Calls.quiet_of_same (HLEN.out _)))
        go_wp2_with (go_at_call 74; refine (Tryz.Builder_String_any qb qb out.data.toList (wr.drewN nq) HIBR.out hqz).mono ?_; rintro e w5 ⟨rfl, hb5⟩)
        go_ret2
        rw [HRES.out]
        exact ⟨rfl, (HW.out.drewN nq).low HRL.out HGP.out.2.2 HGP.out.1 HGP.out.2.1 HBL.out hb5, (HKP.out.drewN nq).thenBelow hb5 (by have := HBXE.out; omega), (hb5.cell (p := ⟨q, 3, none⟩) HRL.out.1).trans HC3.out⟩
      · have t1 : ((z : Int) != (L : Int)) = true := by simp; omega
        have HRES := Lib.hid (show R = (S'.prob 5 f, none) by have := HFD.out; rw [if_neg (by rw [HZ.out]; exact he)] at this; exact this.symm)
        have kb := HBXR.out.cell 0
        clear he
        go_upto_region 14 with fail
        go_quiet ((go_at_call 142; exact Calls.quiet_of_same (HLEN.out _)))
        go_wp2_with (go_at_call 91; refine (problem_any (HW.out.drewN nq) hBr (by omega) (k := 5) (b := f) (by omega) (by omega)).mono ?_; rintro e w5 ⟨rfl, hw5, hk5, hc5, _⟩)
        go_ret2
        rw [HRES.out]
        exact ⟨rfl, hw5, (HKP.out.drewN nq).trans hk5, hc5.trans HC3.out⟩
    · have t1 : ((b : Int) != 0) = true := by simp; omega
      have HEN := Lib.hid (enterFile_any HW.out hBr hn (by omega) (b := b) (by omega) (f := f) (k := k) (bx := bx) (by_ := bk) (by omega) (by omega) (HBXR.out.cell 0) (HRK.out.cell 0))
      have HEOK := Lib.hid (tEnter_ok (n := n) (u := u) (S := S') (b := b) (ok := tPart (u b) f k))
      have hgo := tFile_go (n := n) (u := u) (g := g1) (S := S') (f := f) (k := k) (out := out) h0
      have hst := tFile_stop (n := n) (u := u) (g := g1) (S := S') (f := f) (k := k) (out := out) h0
      rw [HFE.out] at hgo hst
      have HGO := Lib.hid hgo
      have HST := Lib.hid hst
      clear hgo hst
      generalize tEnter n u S' b (tPart (u b) f k) = E at HEN HEOK HGO HST
      obtain ⟨S1, ev⟩ := E
      cases ev with
      | false =>
        have HRES := Lib.hid (HST.out rfl)
        go_wp2_with (go_at_call 114; refine HEN.out.mono ?_; rintro e w5 ⟨rfl, hw5, hk5, _, hc5⟩)
        go_ret2
        rw [HRES.out]
        exact ⟨rfl, hw5, HKP.out.trans hk5, hc5.trans HC3.out⟩
      | true =>
        obtain ⟨hbn, hsn, hpt, hS1⟩ := HEOK.out rfl
        have HRES := Lib.hid (HGO.out rfl)
        dsimp only at hS1 HEN
        have hun : S1.uns n + 1 = S'.uns n := by rw [hS1]; exact uns_see hbn hsn
        have hmu1 : S1.mu n ≤ S'.mu n := by rw [hS1]; have := mu_see hbn hsn; omega
        have hx5a := hpt.2.2.2.1
        have hx5b := hpt.2.2.2.2.1
        have hbi : (b : Int) < (n : Int) := by omega
        clear hS1 hsn hpt
        go_upto_region 10 with (go_at_call 114; refine HEN.out.mono ?_; rintro e w5 ⟨rfl, hw5, hk5, hk5b, hc5⟩; have k0 := hw5.ptr.1; obtain ⟨cap5, k2⟩ := hw5.tree.ptr; have k3 := hw5.tree.blk hbn)
        have HR5 := Lib.hid (hw5.tree.row hbn)
        have hc32 := hw5.tree.2 b hbn
        have c5 := HR5.out.cell (i := 5) (by omega)
        obtain ⟨x5, h5⟩ : ∃ x, (u b 5).toNat = x := ⟨_, rfl⟩
        rw [h5] at c5 hx5a hx5b
        obtain ⟨gb, hgb⟩ : ∃ g, bl b = g := ⟨_, rfl⟩
        obtain ⟨cb, hcb⟩ : ∃ c, cp b = c := ⟨_, rfl⟩
        rw [hgb] at HR5 c5 k3
        rw [hcb] at k3 hc32
        rw [hgb, hcb]
        have HGB := Lib.hid hgb
        have H5 := Lib.hid h5
        have hgbq : gb < qb := by rw [← hgb]; exact HBL.out b hbn
        have HW5 := Lib.hid hw5
        have HC5 := Lib.hid (hc5.trans HC3.out)
        clear hc5
        have HK5 := Lib.hid (HKP.out.trans hk5)
        have HIB5 := Lib.hid (builderKp HIBR.out hk5 (by decide) (by decide))
        have HRK5 := Lib.hid (HRK.out.kp hk5 (by decide))
        have HBX5 := Lib.hid (HBXR.out.kp hk5 (by decide))
        have HRL5 := Lib.hid (show RowsLt w5 q qb from by
          obtain ⟨⟨A1, c1, A2, c2, r1, _⟩, _⟩ := HW.out
          refine HRL.out.same ((hk5b trivial).block q r1.lt (.inr (.inl ?_)))
          obtain ⟨fr, r2, _⟩ := r1
          exact ⟨_, _, fr, r2, by simp⟩)
        have hz5 : qb ≤ w5.heap.size := Nat.le_trans hqz hk5.size
        have hsl5 : Sl w5 qb (some ⟨gb, 6, none⟩) x5 (fun i => .int .u8 ((u b (6 + i)).toNat : Int)) := fun i hi => ⟨gb, 6, rfl, hgbq, HR5.out.cell (by omega)⟩
        have HSL5 := Lib.hid hsl5
        have hdat : Lib.byteCells out.data.toList ++ ((List.range x5).map fun i => Value.int .u8 ((u b (6 + i)).toNat : Int)) = Lib.byteCells (out ++ tDat (u b)).data.toList := by
          have := cellsSnoc out x5 (fun i => u b (6 + i))
          unfold tDat
          rw [h5]
          exact this
        have HDAT := Lib.hid hdat
        have hln : (Lib.byteCells out.data.toList).length = out.size := cellsLen _
        have HWRI := Lib.hid (writeKp (c := cb - 6) HIB5.out (by rw [hln]; omega) hz5 (Nat.le_refl _) HSL5.out)
        rw [HDAT.out] at HWRI
        have hcs6 : (cb = 6) = False := by simp; omega
        have hci : (32 : Int) ≤ (cb : Int) := by omega
        have n5 : (6 + (x5 : Int)).toNat = 6 + x5 := by omega
        have p5 : (0 : Int) ≤ 6 + (x5 : Int) := by omega
        have l5 : 6 + (x5 : Int) ≤ 32 := by omega
        have l6 : 6 + (x5 : Int) ≤ (cb : Int) := by omega
        have l7 : (6 : Int) ≤ 6 + (x5 : Int) := by omega
        clear hw5 hk5 hk5b hsl5 hdat hln k0 k2 k3 h5 hgb hcb
        go_upto_region 11 with (go_at_call 73; refine HWRI.out.mono ?_; rintro e w6 ⟨rfl, hib6, hb6, hk6⟩)
        have HW6 := Lib.hid (HW5.out.write hb6 (hk6 (m + 1)) HBL.out)
        have HK6 := Lib.hid (HK5.out.thenBelow hb6 (by have := HBXE.out; omega))
        have HIB6 := Lib.hid hib6
        have HC6 := Lib.hid ((hb6.cell (p := ⟨q, 3, none⟩) HRL5.out.1).trans HC5.out)
        have HRK6 := Lib.hid (HRK5.out.kp (hk6 0) (by decide))
        have HBX6 := Lib.hid (HBX5.out.kp (hk6 0) (by decide))
        have HRL6 := Lib.hid (HRL5.out.same (hb6.block q HRL5.out.1))
        have hz6 : qb ≤ w6.heap.size := Nat.le_trans hz5 hb6.size
        have c4 := (HW6.out.tree.row hbn).cell (i := 4) (by omega)
        rw [HGB.out] at c4
        have kk := HRK6.out.cell 0
        obtain ⟨x4, h4⟩ : ∃ x, (u b 4).toNat = x := ⟨_, rfl⟩
        have b4 : x4 < 256 := by rw [← h4]; exact UInt8.toNat_lt _
        rw [h4] at c4 HRES
        have HSZ := Lib.hid (show (out ++ tDat (u b)).size ≤ 26 * (k + 1) by
          rw [ByteArray.size_append]
          have : (tDat (u b)).size = x5 := by unfold tDat; rw [bsT_size]; exact H5.out
          omega)
        have hb7 := (Below.refl w6.heap.size w6).alloc (Nat.le_refl _) (.cells #[.int .i64 ((k : Int) + 1)] 2)
        have HW7 := Lib.hid (HW6.out.below hb7)
        have HK7 := Lib.hid (HK6.out.trans (Kp.ofBelow hb7))
        have HIB7 := Lib.hid (builderKp HIB6.out (Kp.ofBelow (T := wkT) (m := m) (B := B) hb7) (by decide) (by decide))
        have HC7 := Lib.hid ((hb7.cell (p := ⟨q, 3, none⟩) (RowsLt.of HW6.out).1).trans HC6.out)
        have HRL7 := Lib.hid (HRL6.out.same (hb7.block q (by have := HRL6.out.1; omega)))
        have HBX7 := Lib.hid (HBX6.out.below hb7 HBX6.out.lt)
        have HNW := Lib.hid (show Row (w6.alloc (.cells #[.int .i64 ((k : Int) + 1)] 2)) w6.heap.size 2 #[.int .i64 (((k + 1 : Nat)) : Int)] from by have := Row.new w6 2 #[.int .i64 ((k : Int) + 1)]; rwa [show ((k : Int) + 1) = (((k + 1 : Nat)) : Int) by omega] at this)
        have hz7 : qb ≤ (w6.alloc (.cells #[.int .i64 ((k : Int) + 1)] 2)).heap.size := Nat.le_trans hz6 hb7.size
        clear hib6 hb6 hk6 c5 h4 hb7
        go_wp2_with fail
        go_roundg (S1.uns n + 1)
        case measure => omega
        case rel => exact ⟨x4, k + 1, _, g1, out ++ tDat (u b), S1, Nat.le_refl _, by go_num, b4, rfl, HNW.out, HRES.out.symm, by omega, by omega, by have := HSZ.out; omega, by omega, HW7.out, HK7.out, HIB7.out, HRL7.out, HC7.out, HBX7.out, hz7⟩
end Go.Proofs.YtiefcgmghkkbmaaGreatDoor
