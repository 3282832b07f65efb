/-
  Trees: the program's small functions: entries, the root.
-/
import Derived.Test.YtiefcgmghkkbmaaGreatDoorTreB2
namespace Go.Proofs.YtiefcgmghkkbmaaGreatDoor
open Go Go.ChangeShapes Go.WideShapes Go.ChangeAt Go.RowKit lib
set_option linter.unusedVariables false
set_option linter.unusedSimpArgs false
set_option maxRecDepth 100000
theorem shl_orT (x y : Nat) (hx : x < 256) (hy : y < 256) : x * 256 ||| y = x * 256 + y := by
  rw [show x * 256 = x <<< 8 by rw [Nat.shiftLeft_eq]]
  rw [← Nat.shiftLeft_add_eq_or_of_lt (by omega)]
theorem or_wordT (x y : Nat) (hx : x < 256) (hy : y < 256) : bits .or .i64 ((x : Int) * 256) (y : Int) = ((x * 256 + y : Nat) : Int) := by
  rw [show ((x : Int) * 256) = ((x * 256 : Nat) : Int) by omega, i64_or _ _ (by omega) (by omega), shl_orT _ _ hx hy]
set_option maxHeartbeats 4000000 in
theorem isEntry_any {w : World} {g c d : Nat} {x : Nat → UInt8} (hr : BRow w 5 g 32 x) (hc : 32 ≤ c) (hd : d ≤ 1000) (b : Bool) (hb : b = true ↔ tEnt x d) : Calls Tryz.prog 116 #[.slice (some ⟨g, 0, none⟩) 32 c, .int .i64 d] w fun e w' => e = .returned (.bool b) ∧ Below w.heap.size w w' := by
  obtain ⟨c0, c3, c12, c13⟩ : _ ∧ _ ∧ _ ∧ _ := ⟨hr.cell (i := 0) (by omega), hr.cell (i := 3) (by omega), hr.cell (i := 12) (by omega), hr.cell (i := 13) (by omega)⟩
  have HR := Lib.hid hr
  obtain ⟨x0, h0⟩ : ∃ m, (x 0).toNat = m := ⟨_, rfl⟩
  obtain ⟨x3, h3⟩ : ∃ m, (x 3).toNat = m := ⟨_, rfl⟩
  obtain ⟨x12, h12⟩ : ∃ m, (x 12).toNat = m := ⟨_, rfl⟩
  obtain ⟨x13, h13⟩ : ∃ m, (x 13).toNat = m := ⟨_, rfl⟩
  have b0 : x0 < 256 := by rw [← h0]; exact (x 0).toNat_lt
  have b3 : x3 < 256 := by rw [← h3]; exact (x 3).toNat_lt
  have b12 : x12 < 256 := by rw [← h12]; exact (x 12).toNat_lt
  have b13 : x13 < 256 := by rw [← h13]; exact (x 13).toNat_lt
  rw [h0] at c0
  rw [h3] at c3
  rw [h12] at c12
  rw [h13] at c13
  obtain ⟨X, hX⟩ : ∃ X, tnm x = X := ⟨_, rfl⟩
  obtain ⟨t, ht⟩ : ∃ t, tN x = t := ⟨_, rfl⟩
  have hXs : X.size = t := by rw [← hX, tnm_size, ht]
  have ht8 : t ≤ 8 := by rw [← ht]; exact tN_le x
  have hp : tEnt x d ↔ (x3 = d ∧ NameS X ∧ ((x0 = 2 ∧ x12 * 256 + x13 ≤ 512 ∧ tZ x 15) ∨ (x0 = 4 ∧ tZ x 20))) := by
    unfold tEnt tW
    rw [h3, hX, u8_is 2 h0, u8_is 4 h0, h12, show 12 + 1 = 13 from rfl, h13]
    simp only [show (2 : UInt8).toNat = 2 from rfl, show (4 : UInt8).toNat = 4 from rfl]
  rw [hp] at hb
  have HB := Lib.hid hb
  have HNO := Lib.hid (fun (W : World) (hW : BRow W 5 g 32 x) => show Calls Tryz.prog 67 #[.slice (some ⟨g, 0, none⟩) 32 c] W fun e w' => e = .returned (.string X) ∧ W = w' by rw [← hX]; exact nameOf_any hW hc)
  have HTL := Lib.hid (allZero_any (w := w) (some ⟨g, 4 + t, none⟩) (12 - (4 + t)) (c - (4 + t)) (fun i => x (4 + t + i)) true (by omega) (tSl (o := 4 + t) (m := 12 - (4 + t)) hr (by omega)) ⟨fun _ i hi => by
    have := tLen_nul (tV x) 8 (t + i) (by rw [← ht]; exact Nat.le_add_right _ _) (by omega)
    unfold tV at this
    rwa [← Nat.add_assoc] at this, fun _ => rfl⟩)
  have hci : (32 : Int) ≤ (c : Int) := by omega
  have s4 : (c = 4 + t) = False := by simp; omega
  have s15 : (c = 15) = False := by simp; omega
  have s20 : (c = 20) = False := by simp; omega
  have HXS := Lib.hid hXs
  have hln : ((X.size : Nat) : Int) = (t : Int) := by rw [hXs]
  clear h0 h3 h12 h13 hb hp hr hX ht hXs
  by_cases q3 : x3 = d
  · have t3 : ((x3 : Int) != (d : Int)) = false := by simp; omega
    by_cases qn : NameS X
    · have HIN := Lib.hid (fun W => implIsName_any X (by rw [HXS.out]; omega) true ⟨fun _ => qn, fun _ => rfl⟩ W)
      by_cases q2 : x0 = 2
      · have t2 : ((x0 : Int) == 2) = true := by simp; omega
        have e9 : IntKind.i64.wrap (x12 : Int) = (x12 : Int) := by rw [IntKind.wrap_i64]; omega
        have e9' : IntKind.i64.wrap ((x12 : Int) * 256) = (x12 : Int) * 256 := by rw [IntKind.wrap_i64]; omega
        have e10 : IntKind.i64.wrap (x13 : Int) = (x13 : Int) := by rw [IntKind.wrap_i64]; omega
        have eor := or_wordT x12 x13 b12 b13
        obtain ⟨L, hL⟩ : ∃ L, x12 * 256 + x13 = L := ⟨_, rfl⟩
        rw [hL] at eor
        have HL := Lib.hid hL
        have hL2 : L < 65536 := by omega
        clear hL
        by_cases q5 : L ≤ 512
        · have t5 : decide ((L : Int) ≤ 512) = true := by simp; omega
          by_cases q6 : tZ x 15
          · obtain rfl : b = true := HB.out.2 ⟨q3, qn, .inl ⟨q2, by rw [HL.out]; exact q5, q6⟩⟩
            have HAZ := Lib.hid (fun (W : World) (hW : BRow W 5 g 32 x) => allZeroAt (c := c - 15) (j := 15) hW (by omega) true ⟨fun _ => q6, fun _ => rfl⟩)
            go_enter Tryz.func116, Tryz.ntmps116
            go_wp2_with (first | (go_at_call 67; refine (HNO.out _ HR.out).mono ?_; rintro e w' ⟨rfl, rfl⟩) | (go_at_call 102; refine (HIN.out _).mono ?_; rintro e w' ⟨rfl, rfl⟩) | (go_at_call 55; refine HTL.out.mono ?_; rintro e w1 ⟨rfl, hbl⟩; have k0 := (hbl.cell (p := ⟨g, 0, none⟩) HR.out.lt).trans c0; have k12 := (hbl.cell (p := ⟨g, 12, none⟩) HR.out.lt).trans c12; have k13 := (hbl.cell (p := ⟨g, 13, none⟩) HR.out.lt).trans c13; have hrb := HR.out.below hbl HR.out.lt; have HRB := Lib.hid hrb; clear hrb))
            go_region_with (go_at_call 55; refine (HAZ.out _ (by first | exact HRB.out | exact HRB.out.drew)).mono ?_; rintro e w2 ⟨rfl, hbl2⟩)
            all_goals
              go_wp2_with fail
              go_ret
              exact ⟨rfl, (hbl.drewN 1).trans (hbl2.mono hbl.size)⟩
          · obtain rfl := bF HB.out (fun q => q.2.2.elim (fun h => q6 h.2.2) (fun h => by omega))
            have HAZ := Lib.hid (fun (W : World) (hW : BRow W 5 g 32 x) => allZeroAt (c := c - 15) (j := 15) hW (by omega) false ⟨fun h => (by cases h), fun h => absurd h q6⟩)
            go_enter Tryz.func116, Tryz.ntmps116
            go_wp2_with (first | (go_at_call 67; refine (HNO.out _ HR.out).mono ?_; rintro e w' ⟨rfl, rfl⟩) | (go_at_call 102; refine (HIN.out _).mono ?_; rintro e w' ⟨rfl, rfl⟩) | (go_at_call 55; refine HTL.out.mono ?_; rintro e w1 ⟨rfl, hbl⟩; have k0 := (hbl.cell (p := ⟨g, 0, none⟩) HR.out.lt).trans c0; have k12 := (hbl.cell (p := ⟨g, 12, none⟩) HR.out.lt).trans c12; have k13 := (hbl.cell (p := ⟨g, 13, none⟩) HR.out.lt).trans c13; have hrb := HR.out.below hbl HR.out.lt; have HRB := Lib.hid hrb; clear hrb))
            go_region_with (go_at_call 55; refine (HAZ.out _ (by first | exact HRB.out | exact HRB.out.drew)).mono ?_; rintro e w2 ⟨rfl, hbl2⟩)
            all_goals
              go_wp2_with fail
              go_ret
              exact ⟨rfl, (hbl.drewN 1).trans (hbl2.mono hbl.size)⟩
        · have t5 : decide ((L : Int) ≤ 512) = false := by simp; omega
          obtain rfl := bF HB.out (fun q => q.2.2.elim (fun h => q5 (by rw [← HL.out]; exact h.2.1)) (fun h => by omega))
          go_enter Tryz.func116, Tryz.ntmps116
          go_wp2_with (first | (go_at_call 67; refine (HNO.out _ HR.out).mono ?_; rintro e w' ⟨rfl, rfl⟩) | (go_at_call 102; refine (HIN.out _).mono ?_; rintro e w' ⟨rfl, rfl⟩) | (go_at_call 55; refine HTL.out.mono ?_; rintro e w1 ⟨rfl, hbl⟩; have k0 := (hbl.cell (p := ⟨g, 0, none⟩) HR.out.lt).trans c0; have k12 := (hbl.cell (p := ⟨g, 12, none⟩) HR.out.lt).trans c12; have k13 := (hbl.cell (p := ⟨g, 13, none⟩) HR.out.lt).trans c13; have hrb := HR.out.below hbl HR.out.lt; have HRB := Lib.hid hrb; clear hrb))
          go_quiet (fail)
          go_wp2_with fail
          go_ret
          exact ⟨rfl, hbl.drewN _⟩
      · have t2 : ((x0 : Int) == 2) = false := by simp; omega
        by_cases q4 : x0 = 4
        · have t4 : ((x0 : Int) == 4) = true := by simp; omega
          by_cases q6 : tZ x 20
          · obtain rfl : b = true := HB.out.2 ⟨q3, qn, .inr ⟨q4, q6⟩⟩
            have HAZ := Lib.hid (fun (W : World) (hW : BRow W 5 g 32 x) => allZeroAt (c := c - 20) (j := 20) hW (by omega) true ⟨fun _ => q6, fun _ => rfl⟩)
            go_enter Tryz.func116, Tryz.ntmps116
            go_upto_region 4 with (first | (go_at_call 67; refine (HNO.out _ HR.out).mono ?_; rintro e w' ⟨rfl, rfl⟩) | (go_at_call 102; refine (HIN.out _).mono ?_; rintro e w' ⟨rfl, rfl⟩) | (go_at_call 55; refine HTL.out.mono ?_; rintro e w1 ⟨rfl, hbl⟩; have k0 := (hbl.cell (p := ⟨g, 0, none⟩) HR.out.lt).trans c0; have k12 := (hbl.cell (p := ⟨g, 12, none⟩) HR.out.lt).trans c12; have k13 := (hbl.cell (p := ⟨g, 13, none⟩) HR.out.lt).trans c13; have hrb := HR.out.below hbl HR.out.lt; have HRB := Lib.hid hrb; clear hrb))
            go_wp2_with (go_at_call 55; refine (HAZ.out _ HRB.out).mono ?_; rintro e w2 ⟨rfl, hbl2⟩)
            go_ret
            exact ⟨rfl, hbl.trans (hbl2.mono hbl.size)⟩
          · obtain rfl := bF HB.out (fun q => q.2.2.elim (fun h => by omega) (fun h => q6 h.2))
            have HAZ := Lib.hid (fun (W : World) (hW : BRow W 5 g 32 x) => allZeroAt (c := c - 20) (j := 20) hW (by omega) false ⟨fun h => (by cases h), fun h => absurd h q6⟩)
            go_enter Tryz.func116, Tryz.ntmps116
            go_upto_region 4 with (first | (go_at_call 67; refine (HNO.out _ HR.out).mono ?_; rintro e w' ⟨rfl, rfl⟩) | (go_at_call 102; refine (HIN.out _).mono ?_; rintro e w' ⟨rfl, rfl⟩) | (go_at_call 55; refine HTL.out.mono ?_; rintro e w1 ⟨rfl, hbl⟩; have k0 := (hbl.cell (p := ⟨g, 0, none⟩) HR.out.lt).trans c0; have k12 := (hbl.cell (p := ⟨g, 12, none⟩) HR.out.lt).trans c12; have k13 := (hbl.cell (p := ⟨g, 13, none⟩) HR.out.lt).trans c13; have hrb := HR.out.below hbl HR.out.lt; have HRB := Lib.hid hrb; clear hrb))
            go_wp2_with (go_at_call 55; refine (HAZ.out _ HRB.out).mono ?_; rintro e w2 ⟨rfl, hbl2⟩)
            go_ret
            exact ⟨rfl, hbl.trans (hbl2.mono hbl.size)⟩
        · have t4 : ((x0 : Int) == 4) = false := by simp; omega
          obtain rfl := bF HB.out (fun q => q.2.2.elim (fun h => q2 h.1) (fun h => q4 h.1))
          go_enter Tryz.func116, Tryz.ntmps116
          go_wp2_with (first | (go_at_call 67; refine (HNO.out _ HR.out).mono ?_; rintro e w' ⟨rfl, rfl⟩) | (go_at_call 102; refine (HIN.out _).mono ?_; rintro e w' ⟨rfl, rfl⟩) | (go_at_call 55; refine HTL.out.mono ?_; rintro e w1 ⟨rfl, hbl⟩; have k0 := (hbl.cell (p := ⟨g, 0, none⟩) HR.out.lt).trans c0; have k12 := (hbl.cell (p := ⟨g, 12, none⟩) HR.out.lt).trans c12; have k13 := (hbl.cell (p := ⟨g, 13, none⟩) HR.out.lt).trans c13; have hrb := HR.out.below hbl HR.out.lt; have HRB := Lib.hid hrb; clear hrb))
          go_ret
          exact ⟨rfl, hbl⟩
    · have HIN := Lib.hid (fun W => implIsName_any X (by rw [HXS.out]; omega) false ⟨fun h => (by cases h), fun h => absurd h qn⟩ W)
      obtain rfl := bF HB.out (fun q => qn q.2.1)
      go_enter Tryz.func116, Tryz.ntmps116
      go_wp2_with (first | (go_at_call 67; refine (HNO.out _ HR.out).mono ?_; rintro e w' ⟨rfl, rfl⟩) | (go_at_call 102; refine (HIN.out _).mono ?_; rintro e w' ⟨rfl, rfl⟩))
      go_ret
      exact ⟨rfl, Below.refl _ _⟩
  · have t3 : ((x3 : Int) != (d : Int)) = true := by simp; omega
    obtain rfl := bF HB.out (fun q => q3 q.1)
    go_enter Tryz.func116, Tryz.ntmps116
    go_wp2_with (first | (go_at_call 67; refine (HNO.out _ HR.out).mono ?_; rintro e w' ⟨rfl, rfl⟩))
    go_ret
    exact ⟨rfl, Below.refl _ _⟩
end Go.Proofs.YtiefcgmghkkbmaaGreatDoor
