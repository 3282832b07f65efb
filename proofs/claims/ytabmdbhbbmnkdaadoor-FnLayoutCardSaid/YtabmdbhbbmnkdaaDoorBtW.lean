/-
  Tracks: the program's writer of a track.
-/
import Derived.Test.YtabmdbhbbmnkdaaDoorBtM2
namespace Go.Proofs.YtabmdbhbbmnkdaaDoor
open Go Go.ChangeShapes Go.WideShapes Go.ChangeAt Go.RowKit Go.Joins lib
set_option linter.unusedVariables false
set_option linter.unusedSimpArgs false
set_option maxRecDepth 100000
theorem GcrW.belowB {B : Nat} {w W : World} (h : GcrW w) (hb : Below B w W) (hB : 0 < B) : GcrW W := by
  unfold GcrW at *
  unfold World.var? at *
  have hg : Tryd.prog.globalNamed "loop.example/g00899/impl.gcrTable" = some 0 := by kernel_rfl
  rw [hg] at h ⊢
  simp only [Option.bind_some] at h ⊢
  rw [hb.block _ hB]
  exact h
theorem GcrW.lt {w : World} (h : GcrW w) : 0 < w.heap.size := by
  have hc := h.cell 0 (by omega)
  rcases Nat.lt_or_ge 0 w.heap.size with h' | h'
  · exact h'
  · unfold World.cell? at hc
    simp [Array.getElem?_eq_none h'] at hc
/-- a writer's state in a block -/
def TWS (B b f : Nat) (s : WS) (w : World) : Prop := TW B b f s.1 s.2 w
theorem twBytes_any {B b f : Nat} (hf : f123 f) {s : WS} (t : ByteArray) (ht : t.size ≤ 64) (ht0 : t.size ≠ 0) {w : World} (h : TWS B b f s w) (hl : s.2.length ≤ 65536) (hBw : B ≤ w.heap.size) (hw : GcrW w) (hB : 0 < B) :
    Calls Tryd.prog 62 #[.pointer (some ⟨b, 0, none⟩), .string t] w fun e w' => e = .returned (.tuple #[]) ∧ TWS B b f (wBytes f s t.data.toList) w' ∧ Below B w w' ∧ KpW b w w' := by
  obtain ⟨last, l⟩ := s
  unfold TWS at *
  simp only at h hl
  have hBb : B ≤ b := h.1
  have hlt := h.lt
  have hen := encF3_len f last t.data.toList
  have HEN := Lib.hid (show (encF3 f last t.data.toList).length ≤ 1024 by
    have h1 : t.data.toList.length = t.size := rfl
    omega)
  have HE := Lib.hid (fun n : Nat => encodeBytes_any f hf t last (by omega) (f : Int) rfl (w.drewN n) (hw.below ((Below.refl _ _).drewN n)))
  have HT := Lib.hid h
  have HL := Lib.hid (fun W : World => lastBit_any t (by omega) ht0 W)
  have c0 : w.drew.cell? ⟨b, 0, none⟩ = some (.int .i64 (f : Int)) := h.cell0
  have c1 : w.drew.cell? ⟨b, 1, none⟩ = some (.bool last) := h.cell1
  obtain ⟨E, hE⟩ : ∃ E, encF3 f last t.data.toList = E := ⟨_, rfl⟩
  have HWB := Lib.hid (show wBytes f (last, l) t.data.toList = (lastY t.data.toList, l ++ E) by unfold wBytes; rw [hE])
  rw [hE] at HE HEN
  rw [HWB.out]
  clear h hen hE
  go_enter Tryd.func62, Tryd.ntmps62
  go_wp2_with fail
  go_region_law (go_simp; (first
    | (go_at_call 94; refine (HE.out 1).mono ?_; rintro e w1 ⟨rfl, hb1⟩; have ht1 : TW B b (f : Int) last l w1 := HT.out.below ((Below.refl _ _).drew.trans hb1))
    | (go_at_call 92; refine (tw_writeString _ ht1 (by show l.length + E.toArray.size ≤ _; rw [List.size_toArray]; have := HEN.out; omega) (Nat.le_trans hBw hb1.size)).mono ?_; rintro e w2 ⟨rfl, ht2, hb2, hk2⟩)))
  all_goals
    have HK2 := Lib.hid (show KpW b w w2 from (KpW.below ((Below.refl _ _).drew.trans hb1)).trans hk2)
    clear hk2
    rw [show (⟨E.toArray⟩ : ByteArray).data.toList = E from strL_list E] at ht2
    have f2 := ht2.frozen 1
    have hB2 : Below B w w2 := (((Below.refl _ _).drew.trans hb1).mono hBw).trans hb2
    have HT2 := Lib.hid ht2
    have c2 := ht2.cell1
    clear ht1 hb1 hb2 ht2
    go_wp2_with (go_at_call 95; refine (HL.out _).mono ?_; rintro e w' ⟨rfl, hw'⟩; rw [hw']; clear hw' w')
    go_end0
    exact ⟨rfl, HT2.out.setLast _, hB2.setCell (p := ⟨b, 1, none⟩) hBb _, HK2.out.trans KpW.set⟩
theorem mByte_odd (f k : Nat) (hf : f123 f) (hk : f123 k) (n : Int) (hn : n = (mByte f k : Nat)) : (n % 2 == 1) = (mByte f k % 2 == 1) := by
  subst hn
  rcases hf with rfl | rfl | rfl <;> rcases hk with rfl | rfl | rfl <;> rfl
set_option maxHeartbeats 4000000 in
theorem twMark_any {B b f k : Nat} (hf : f123 f) (hk : f123 k) {s : WS} {w : World} (h : TWS B b f s w) (hl : s.2.length ≤ 65536) (hBw : B ≤ w.heap.size) (hw : GcrW w) (hB : 0 < B) (y : Int) (hy : y = k) :
    Calls Tryd.prog 63 #[.pointer (some ⟨b, 0, none⟩), .int .i64 y] w fun e w' => e = .returned (.tuple #[]) ∧ TWS B b f (wMark f k s) w' ∧ Below B w w' ∧ KpW b w w' := by
  have hBb : B ≤ b := h.1
  have HRL := Lib.hid (wRun_len f s)
  have HML := Lib.hid (markL_len f k)
  have c0 := h.cell0
  have hmb := mByte_lt hf hk
  have HMC := Lib.hid (fun (x : Int) (hx : x = (f : Int)) (W : World) (hb : Below B w W) (hz : w.heap.size ≤ W.heap.size) => markCells_any f k hf hk x y hx hy W (hw.belowB hb hB))
  obtain ⟨M, hM⟩ : ∃ M, mByte f k = M := ⟨_, rfl⟩
  have HMB := Lib.hid (fun (x : Int) (hx : x = (f : Int)) (W : World) => hM ▸ markByte_any f k hf hk x y hx hy W)
  have HOD := Lib.hid (show ((M : Int) % 2 == 1) = (mByte f k % 2 == 1) from mByte_odd f k hf hk _ (by rw [hM]))
  rw [hM] at hmb
  clear hM
  have HH := Lib.hid h
  have hwm : wMark f k s = (mByte f k % 2 == 1, (wRun f s).2 ++ markL f k) := rfl
  rw [hwm]
  have hsl : s.2.length ≤ 65536 := hl
  clear hwm
  obtain ⟨R, hR⟩ : ∃ R, wRun f s = R := ⟨_, rfl⟩
  have HRR := Lib.hid (show (wRun f s).2 = R.2 by rw [hR])
  have HRF := Lib.hid hR
  obtain ⟨last, l⟩ := s
  clear h hl hR hy
  rcases hf with rfl | rfl | rfl
  · have HTB := Lib.hid (twBytes_any (f := 1) (.inl rfl) ⟨#[0, 0]⟩ (show 2 ≤ 64 by omega) (show 2 ≠ 0 by omega) HH.out hsl hBw hw hB)
    go_enter Tryd.func63, Tryd.ntmps63
    go_wp2_with (go_at_call 62; refine HTB.out.mono ?_; rintro e w1 ⟨rfl, ht1, hb1, hk1⟩)
    have HK1 := Lib.hid hk1
    clear hk1
    rw [show wBytes 1 (last, l) (⟨#[0, 0]⟩ : ByteArray).data.toList = R from HRF.out] at ht1
    unfold TWS at ht1
    have c1d : w1.drew.cell? ⟨b, 0, none⟩ = some (.int .i64 1) := ht1.cell0
    have hz1 : w.heap.size ≤ w1.heap.size := hb1.size
    go_region_law (go_simp; (first
      | (go_at_call 96; refine (HMC.out 1 rfl _ (hb1.trans (Below.refl _ _).drew) hz1).mono ?_; rintro e w2 ⟨rfl, hb2⟩; have ht2 := ht1.below ((Below.refl _ _).drew.trans hb2))
      | (go_at_call 92; refine (tw_writeString _ ht2 (by rw [strL_size, ← HRR.out]; have := HRL.out; have := HML.out; omega) (Nat.le_trans (Nat.le_trans hBw hz1) hb2.size)).mono ?_; rintro e w3 ⟨rfl, ht3, hb3, hk3⟩)))
    all_goals
      rw [strL_list] at ht3
      have f3 := ht3.frozen 1
      have c3 := ht3.cell0
      have c31 := ht3.cell1
      have HB3 := Lib.hid (show Below B w w3 from (hb1.trans (((Below.refl _ _).drew.trans hb2).mono (Nat.le_trans hBw hz1))).trans hb3)
      have HT3 := Lib.hid ht3
      have HK3 := Lib.hid (show KpW b w w3 from (HK1.out.trans (KpW.below ((Below.refl _ _).drew.trans hb2))).trans hk3)
      clear hk3 ht1 ht2 hb1 hb2 hb3 ht3 c1d
      go_wp2_with (go_at_call 72; refine (HMB.out 1 rfl _).mono ?_; rintro e w' ⟨rfl, hw'⟩; rw [hw']; clear hw' w')
      go_end0
      rw [HOD.out]
      have e0 := HRR.out
      refine ⟨rfl, ?_, HB3.out.setCell (p := ⟨b, 1, none⟩) hBb _, HK3.out.trans KpW.set⟩
      rw [e0]
      exact HT3.out.setLast _
  · have HTB := Lib.hid (twBytes_any (f := 2) (.inr (.inl rfl)) ⟨#[0, 0, 0]⟩ (show 3 ≤ 64 by omega) (show 3 ≠ 0 by omega) HH.out hsl hBw hw hB)
    go_enter Tryd.func63, Tryd.ntmps63
    go_wp2_with (go_at_call 62; refine HTB.out.mono ?_; rintro e w1 ⟨rfl, ht1, hb1, hk1⟩)
    have HK1 := Lib.hid hk1
    clear hk1
    rw [show wBytes 2 (last, l) (⟨#[0, 0, 0]⟩ : ByteArray).data.toList = R from HRF.out] at ht1
    unfold TWS at ht1
    have c1d : w1.drew.cell? ⟨b, 0, none⟩ = some (.int .i64 2) := ht1.cell0
    have hz1 : w.heap.size ≤ w1.heap.size := hb1.size
    go_region_law (go_simp; (first
      | (go_at_call 96; refine (HMC.out 2 rfl _ (hb1.trans (Below.refl _ _).drew) hz1).mono ?_; rintro e w2 ⟨rfl, hb2⟩; have ht2 := ht1.below ((Below.refl _ _).drew.trans hb2))
      | (go_at_call 92; refine (tw_writeString _ ht2 (by rw [strL_size, ← HRR.out]; have := HRL.out; have := HML.out; omega) (Nat.le_trans (Nat.le_trans hBw hz1) hb2.size)).mono ?_; rintro e w3 ⟨rfl, ht3, hb3, hk3⟩)))
    all_goals
      rw [strL_list] at ht3
      have f3 := ht3.frozen 1
      have c3 := ht3.cell0
      have c31 := ht3.cell1
      have HB3 := Lib.hid (show Below B w w3 from (hb1.trans (((Below.refl _ _).drew.trans hb2).mono (Nat.le_trans hBw hz1))).trans hb3)
      have HT3 := Lib.hid ht3
      have HK3 := Lib.hid (show KpW b w w3 from (HK1.out.trans (KpW.below ((Below.refl _ _).drew.trans hb2))).trans hk3)
      clear hk3 ht1 ht2 hb1 hb2 hb3 ht3 c1d
      go_wp2_with (go_at_call 72; refine (HMB.out 2 rfl _).mono ?_; rintro e w' ⟨rfl, hw'⟩; rw [hw']; clear hw' w')
      go_end0
      rw [HOD.out]
      have e0 := HRR.out
      refine ⟨rfl, ?_, HB3.out.setCell (p := ⟨b, 1, none⟩) hBb _, HK3.out.trans KpW.set⟩
      rw [e0]
      exact HT3.out.setLast _
  · have HRP := Lib.hid (fun W : World => Tryd.strings_Repeat ⟨#[49]⟩ 10 W (by decide) (by decide))
    go_enter Tryd.func63, Tryd.ntmps63
    go_wp2_with fail
    have c0d : w.drew.cell? ⟨b, 0, none⟩ = some (.int .i64 3) := HH.out.cell0
    go_region_law (go_simp; (first
      | (go_at_call 60; refine (HRP.out _).mono ?_; rintro e w0 ⟨rfl, hb0⟩; have ht0 : TW B b (3 : Int) last l w0 := TW.below HH.out ((Below.refl _ _).drew.trans hb0))
      | (go_at_call 92; refine (tw_writeString _ ht0 (by show l.length + 10 ≤ _; have : l.length ≤ 65536 := hsl; omega) (Nat.le_trans hBw hb0.size)).mono ?_; rintro e w1 ⟨rfl, ht1, hb1', hk1'⟩)))
    all_goals
      have HK1 := Lib.hid (show KpW b w w1 from (KpW.below ((Below.refl _ _).drew.trans hb0)).trans hk1')
      clear hk1'
      have hb1 : Below B w w1 := (((Below.refl _ _).drew.trans hb0).mono hBw).trans hb1'
      clear hb1' hb0 ht0 c0d
      have hr2 : R = (last, l ++ ten1) := HRF.out.symm
      subst hr2
      replace ht1 : TW B b (3 : Int) last (l ++ ten1) w1 := ht1
      go_wp2_with fail
      have c1d : w1.drew.cell? ⟨b, 0, none⟩ = some (.int .i64 3) := ht1.cell0
      have hz1 : w.heap.size ≤ w1.heap.size := hb1.size
      go_region_law (go_simp; (first
        | (go_at_call 96; refine (HMC.out 3 rfl _ (hb1.trans (Below.refl _ _).drew) hz1).mono ?_; rintro e w2 ⟨rfl, hb2⟩; have ht2 := ht1.below ((Below.refl _ _).drew.trans hb2))
        | (go_at_call 92; refine (tw_writeString _ ht2 (by rw [strL_size, ← HRR.out]; have := HRL.out; have := HML.out; omega) (Nat.le_trans (Nat.le_trans hBw hz1) hb2.size)).mono ?_; rintro e w3 ⟨rfl, ht3, hb3, hk3⟩)))
      all_goals
        rw [strL_list] at ht3
        have f3 := ht3.frozen 1
        have c3 := ht3.cell0
        have c31 := ht3.cell1
        have HB3 := Lib.hid (show Below B w w3 from (hb1.trans (((Below.refl _ _).drew.trans hb2).mono (Nat.le_trans hBw hz1))).trans hb3)
        have HT3 := Lib.hid ht3
        have HK3 := Lib.hid (show KpW b w w3 from (HK1.out.trans (KpW.below ((Below.refl _ _).drew.trans hb2))).trans hk3)
        clear hk3 ht1 ht2 hb1 hb2 hb3 ht3 c1d
        go_wp2_with (go_at_call 72; refine (HMB.out 3 rfl _).mono ?_; rintro e w' ⟨rfl, hw'⟩; rw [hw']; clear hw' w')
        go_end0
        rw [HOD.out]
        have e0 := HRR.out
        refine ⟨rfl, ?_, HB3.out.setCell (p := ⟨b, 1, none⟩) hBb _, HK3.out.trans KpW.set⟩
        rw [e0]
        exact HT3.out.setLast _
end Go.Proofs.YtabmdbhbbmnkdaaDoor
