/-
  Disks of extents: the header, the reference's side.
-/
import Derived.Test.YtjbpibapbonkpaaGreatDoorXlT
import Derived.Deep.DeepCutAuto
namespace Go.Proofs.YtjbpibapbonkpaaGreatDoor
open Go Go.ChangeShapes Go.WideShapes Go.ChangeAt Go.RowKit lib
set_option linter.unusedVariables false
set_option linter.unusedSimpArgs false
set_option maxRecDepth 100000
set_option maxHeartbeats 2000000 in
theorem l17Head_any (n z : Nat) (w : World) (hn : n ≤ 128) (hz8 : 8 ≤ z) (hz32 : z ≤ 32) : Calls Tryz.prog 29 #[.int .i64 n, .int .i64 z] w fun r w' => r = .returned (.string (hdrX n z)) ∧ Below w.heap.size w w' := by
  have mk : ∀ W : World, (Instr.makeSlice 42 (.int .i64 z) (.int .i64 z)).run Tryz.prog W = .ok (.slice (some ⟨W.heap.size, 0, none⟩) z z) (W.alloc (.cells (madeCells #[.int .u8 0] z) 5)) := fun W => by
    have h := run_mk (P := Tryz.prog) 42 5 (.int .u8 0) 1 1 Tryz.underlying42 (by kernel_rfl) (by omega) z (by omega) W
    rw [Nat.mul_one] at h
    exact h
  have br0 := BRow.made w 5 z
  have hE : ((n : Int) / 4) = ((n / 4 : Nat) : Int) := by omega
  have hfin : bstr z (upd (upd (upd (upd (upd (fun _ => 0) 0 69) 1 88) 2 (UInt8.ofNat n)) 3 (UInt8.ofNat z)) 4 (UInt8.ofNat (n / 4))) = hdrX n z := by
    refine ba_ext (by rw [bsx_size, hdrX_size hz8]) fun j hj => ?_
    rw [bsx_size] at hj
    rw [bsx_at hj, hdrX_at]
    by_cases h5 : j < 5
    · rw [if_pos h5]
      have : j = 0 ∨ j = 1 ∨ j = 2 ∨ j = 3 ∨ j = 4 := by omega
      unfold head5
      rw [byteAt_append]
      rcases this with rfl | rfl | rfl | rfl | rfl <;> rfl
    · rw [if_neg h5, upd_other _ _ (by omega), upd_other _ _ (by omega), upd_other _ _ (by omega), upd_other _ _ (by omega), upd_other _ _ (by omega)]
  have HF := Lib.hid hfin
  have hB0 : Below w.heap.size w (w.alloc (.cells (madeCells #[.int .u8 0] z) 5)) := (Below.refl _ _).alloc (Nat.le_refl _) _
  have BR0 := Lib.hid br0
  have HB0 := Lib.hid hB0
  clear br0 hB0 hfin
  go_enter Tryz.func29, Tryz.ntmps29
  go_upto_region 2 with fail
  go_cut [] (fun wx => BRow wx 5 w.heap.size z (upd (fun _ => 0) 0 69) ∧ Below w.heap.size w wx)
  case first =>
    have k0 := BR0.out.cell (i := 0) (by omega)
    have f0 := BR0.out.frozen (i := 0) (by omega)
    go_wp2_with fail
    go_meet
    have hI : IsB ((madeCells #[.int .u8 0] z).setIfInBounds 0 (.int .u8 69)) z (upd (fun _ => 0) 0 69) := by
      have h : IsB (madeCells #[.int .u8 0] z) z (fun _ => 0) := ⟨by rw [size_madeCells]; exact Nat.le_refl _, fun i hi => by simp [madeCells, hi, Nat.mod_one]⟩
      exact h.set (i := 0) 69 (y := 69) rfl
    exact ⟨⟨_, Row.new w _ _, hI.1, hI.2⟩, (Below.refl _ _).alloc (Nat.le_refl _) _⟩
  case rest =>
    obtain ⟨BR, HB⟩ := hcut
    have br1 := (((BR.set (i := 1) 88 (y := 88) rfl).set (i := 2) (UInt8.ofNat n) (u8n (x := n) (by omega)).symm).set (i := 3) (UInt8.ofNat z) (u8n (x := z) (by omega)).symm).set (i := 4) (UInt8.ofNat (n / 4)) (y := (n : Int) / 4) (by rw [u8n (by omega)]; omega)
    have hb1 := (((HB.setCell (p := ⟨w.heap.size, 1, none⟩) (Nat.le_refl _) (.int .u8 88)).setCell (p := ⟨w.heap.size, 2, none⟩) (Nat.le_refl _) (.int .u8 (n : Int))).setCell (p := ⟨w.heap.size, 3, none⟩) (Nat.le_refl _) (.int .u8 (z : Int))).setCell (p := ⟨w.heap.size, 4, none⟩) (Nat.le_refl _) (.int .u8 ((n : Int) / 4))
    have c1 := BR.cell (i := 1) (by omega); have c2 := BR.cell (i := 2) (by omega); have c3 := BR.cell (i := 3) (by omega); have c4 := BR.cell (i := 4) (by omega)
    have f1 := BR.frozen (i := 1) (by omega); have f2 := BR.frozen (i := 2) (by omega); have f3 := BR.frozen (i := 3) (by omega); have f4 := BR.frozen (i := 4) (by omega)
    have BR1 := Lib.hid br1
    have HB1 := Lib.hid hb1
    have wn : IntKind.u8.wrap (n : Int) = (n : Int) := by rw [IntKind.wrap_u8]; omega
    have wz : IntKind.u8.wrap (z : Int) = (z : Int) := by rw [IntKind.wrap_u8]; omega
    have wE : IntKind.u8.wrap ((n : Int) / 4) = (n : Int) / 4 := by rw [IntKind.wrap_u8]; omega
    clear BR HB br1 hb1 hE
    go_upto_region 7 with fail
    go_wp2_with (refine wpList_bstr 42 9 5 (.tmp 25) rfl rfl Tryz.underlying42 Tryz.underlying5 Tryz.underlying9 rfl BR1.out.sl (by simp) ?_)
    go_ret
    exact ⟨by rw [HF.out]; rfl, HB1.out⟩
end Go.Proofs.YtjbpibapbonkpaaGreatDoor
