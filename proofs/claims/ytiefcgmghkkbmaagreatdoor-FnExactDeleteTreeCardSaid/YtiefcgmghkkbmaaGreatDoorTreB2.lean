/-
  Trees: the program's small functions: names, entries, parts.
-/
import Derived.Test.YtiefcgmghkkbmaaGreatDoorTreB
namespace Go.Proofs.YtiefcgmghkkbmaaGreatDoor
open Go Go.ChangeShapes Go.WideShapes Go.ChangeAt Go.RowKit lib
set_option linter.unusedVariables false
set_option linter.unusedSimpArgs false
set_option maxRecDepth 100000
theorem tableRoot_any {w : World} {g c n : Nat} {x : Nat → UInt8} (hr : BRow w 5 g 32 x) (hc : 32 ≤ c) (h0 : x 0 = 1) : Calls Tryz.prog 56 #[.slice (some ⟨g, 0, none⟩) 32 c] w fun e w' => e = .returned (.slice (some ⟨g, 4, none⟩) 8 (c - 4)) ∧ w = w' := by
  have c0 := hr.cell (i := 0) (by omega)
  rw [h0] at c0
  have e1 : (c = 4) = False := by simp; omega
  have hci : (32 : Int) ≤ (c : Int) := by omega
  clear h0
  go_enter Tryz.func56, Tryz.ntmps56
  go_wp2_with fail
  go_ret
  exact ⟨rfl, rfl⟩
theorem tableDir_any {w : World} {g c n : Nat} {x : Nat → UInt8} (hr : BRow w 5 g 32 x) (hc : 32 ≤ c) (h0 : x 0 = 4) : Calls Tryz.prog 56 #[.slice (some ⟨g, 0, none⟩) 32 c] w fun e w' => e = .returned (.slice (some ⟨g, 12, none⟩) 8 (c - 12)) ∧ w = w' := by
  have c0 := hr.cell (i := 0) (by omega)
  rw [h0] at c0
  have e1 : (c = 12) = False := by simp; omega
  have hci : (32 : Int) ≤ (c : Int) := by omega
  clear h0
  go_enter Tryz.func56, Tryz.ntmps56
  go_wp2_with fail
  go_ret
  exact ⟨rfl, rfl⟩
theorem nameOf_any {w : World} {g c : Nat} {x : Nat → UInt8} (hr : BRow w 5 g 32 x) (hc : 32 ≤ c) : Calls Tryz.prog 67 #[.slice (some ⟨g, 0, none⟩) 32 c] w fun e w' => e = .returned (.string (tnm x)) ∧ w = w' := by
  have hcv : (convert 45 9 (.slice (some ⟨g, 4, none⟩) 8 (c - 4))).run Tryz.prog w = .ok (.string (bstr 8 (tV x))) w :=
    run_bstr (P := Tryz.prog) (w := w) (B := w.heap.size) 45 9 5 Tryz.underlying45 Tryz.underlying5 Tryz.underlying9 (u := tV x) (tSl (o := 4) (m := 8) hr (by omega)) (by simp)
  have e1 : (c = 4) = False := by simp; omega
  have hci : (32 : Int) ≤ (c : Int) := by omega
  have HT := Lib.hid (show (⟨(Go.Lib.trimRightB (bstr 8 (tV x)).data.toList 0).toArray⟩ : ByteArray) = tnm x from tTrim)
  go_enter Tryz.func67, Tryz.ntmps67
  go_wp2_with (go_at_call 103; refine (Tryz.strings_TrimRight_one _ 0 (by decide) _ (by rw [bsT_size]; omega)).mono ?_; rw [HT.out]; rintro e w' ⟨rfl, hw'⟩; (first | (rw [hw']) | (rw [← hw'])); clear hw' w')
  go_ret
  exact ⟨rfl, rfl⟩
theorem sumN_byte (s : ByteArray) (k : Nat) : sumN (byteAt s) (k + 1) = sumN (byteAt s) k + (byteAt s k).toNat := rfl
theorem implSum16_any (s : ByteArray) (hs : s.size ≤ 1048576) (w : World) : Calls Tryz.prog 99 #[.string s] w fun e w' => e = .returned (.int .i64 (sum16 s : Nat)) ∧ w = w' := by
  have HSL := Lib.hid (sumN_le (byteAt s))
  unfold sum16
  go_enter Tryz.func99, Tryz.ntmps99
  go_wp2_with fail
  go_loop [3, 7] (fun a b => ∃ k : Nat, k ≤ s.size ∧ b = .int .i64 k ∧ a = .int .i64 (sumN (byteAt s) k : Nat)) (fun _ i => s.size - (intOf i).toNat)
  case atStart => exact ⟨0, by omega, rfl, rfl⟩
  case round =>
    obtain ⟨k, hk, rfl, rfl⟩ := hrel
    have hb := HSL.out k
    have hb2 : sumN (byteAt s) k ≤ 267386880 := by omega
    by_cases hlt : k < s.size
    · have hg := byteAt_get s k hlt
      have h256 := (byteAt s k).toNat_lt
      go_wp2_with fail
      go_round
      case rel => exact ⟨k + 1, by omega, by go_num, congrArg (Value.int .i64) (by rw [sumN]; omega)⟩
      case measure => simp [intOf]; omega
    · go_wp2_with fail
      go_ret
      obtain rfl : k = s.size := by omega
      exact ⟨congrArg Ending.returned (congrArg (Value.int .i64) (by omega)), rfl⟩
theorem hashOf_any (s : ByteArray) (hs : s.size ≤ 1048576) (w : World) : Calls Tryz.prog 57 #[.string s] w fun e w' => e = .returned (.int .i64 (tHash s : Nat)) ∧ w = w' := by
  have hl : sum16 s < 65536 := by unfold sum16; omega
  unfold tHash
  go_enter Tryz.func57, Tryz.ntmps57
  go_wp2_with (go_at_call 99; refine (implSum16_any s hs _).mono ?_; rintro e w' ⟨rfl, rfl⟩)
  go_ret
  exact ⟨congrArg Ending.returned (congrArg (Value.int .i64) (by omega)), rfl⟩
set_option maxHeartbeats 2000000 in
theorem isPart_any {w : World} {g c f k : Nat} {x : Nat → UInt8} (hr : BRow w 5 g 32 x) (hc : 32 ≤ c) (hf : f ≤ 1000) (hk : k ≤ 1000) (b : Bool) (hb : b = true ↔ tPart x f k) : Calls Tryz.prog 141 #[.slice (some ⟨g, 0, none⟩) 32 c, .int .i64 f, .int .i64 k] w fun e w' => e = .returned (.bool b) ∧ Below w.heap.size w w' := by
  obtain ⟨c0, c2, c3, c4, c5⟩ : _ ∧ _ ∧ _ ∧ _ ∧ _ := ⟨hr.cell (i := 0) (by omega), hr.cell (i := 2) (by omega), hr.cell (i := 3) (by omega), hr.cell (i := 4) (by omega), hr.cell (i := 5) (by omega)⟩
  have HR := Lib.hid hr
  obtain ⟨x0, h0⟩ : ∃ m, (x 0).toNat = m := ⟨_, rfl⟩
  obtain ⟨x2, h2⟩ : ∃ m, (x 2).toNat = m := ⟨_, rfl⟩
  obtain ⟨x3, h3⟩ : ∃ m, (x 3).toNat = m := ⟨_, rfl⟩
  obtain ⟨x4, h4⟩ : ∃ m, (x 4).toNat = m := ⟨_, rfl⟩
  obtain ⟨x5, h5⟩ : ∃ m, (x 5).toNat = m := ⟨_, rfl⟩
  have b0 : x0 < 256 := by rw [← h0]; exact (x 0).toNat_lt
  have b2 : x2 < 256 := by rw [← h2]; exact (x 2).toNat_lt
  have b3 : x3 < 256 := by rw [← h3]; exact (x 3).toNat_lt
  have b4 : x4 < 256 := by rw [← h4]; exact (x 4).toNat_lt
  have b5 : x5 < 256 := by rw [← h5]; exact (x 5).toNat_lt
  rw [h0] at c0
  rw [h2] at c2
  rw [h3] at c3
  rw [h4] at c4
  rw [h5] at c5
  have hp : tPart x f k ↔ (x0 = 3 ∧ x2 = f ∧ x3 = k ∧ (1 ≤ x5 ∧ x5 ≤ 26) ∧ tZ x (6 + x5) ∧ (x4 = 0 ∨ x5 = 26)) := by
    unfold tPart
    rw [h2, h3, h5, u8_is 3 h0, u8_is 0 h4]
    simp only [show (3 : UInt8).toNat = 3 from rfl, show (0 : UInt8).toNat = 0 from rfl]
    constructor
    · rintro ⟨a1, a2, a3, a4, a5, a6, a7⟩; exact ⟨a1, a2, a3, ⟨a4, a5⟩, a7, a6⟩
    · rintro ⟨a1, a2, a3, ⟨a4, a5⟩, a7, a6⟩; exact ⟨a1, a2, a3, a4, a5, a6, a7⟩
  rw [hp] at hb
  have HB := Lib.hid hb
  have hci : (32 : Int) ≤ (c : Int) := by omega
  clear h0 h2 h3 h4 h5 hb hp hr
  by_cases q0 : x0 = 3
  · have t0 : ((x0 : Int) == 3) = true := by simp; omega
    by_cases q2 : x2 = f
    · have t2 : ((x2 : Int) == (f : Int)) = true := by simp; omega
      by_cases q3 : x3 = k
      · have t3 : ((x3 : Int) == (k : Int)) = true := by simp; omega
        by_cases q5 : 1 ≤ x5 ∧ x5 ≤ 26
        · have t5 : (decide ((1 : Int) ≤ (x5 : Int)) && decide ((x5 : Int) ≤ 26)) = true := by simp; omega
          have n5 : (6 + (x5 : Int)).toNat = 6 + x5 := by omega
          have p5 : (0 : Int) ≤ 6 + (x5 : Int) := by omega
          have l5 : 6 + (x5 : Int) ≤ 32 := by omega
          have l6 : 6 + (x5 : Int) ≤ (c : Int) := by omega
          by_cases q8 : x5 = 26
          · have q6 : tZ x (6 + x5) := fun i h1 h2 => by omega
            have hz0 : 32 - (6 + x5) = 0 := by omega
            subst q8
            by_cases q7 : x4 = 0
            · have t4 : ((x4 : Int) == 0) = true := by simp; omega
              by_cases q9 : c = 32
              · subst q9
                obtain rfl : b = true := HB.out.2 ⟨q0, q2, q3, q5, q6, .inr rfl⟩
                go_enter Tryz.func141, Tryz.ntmps141
                go_wp2_with (first | (go_at_call 85; refine (within_any _ _ _ _).mono ?_; rintro e w' ⟨rfl, rfl⟩) | (go_at_call 55; refine (allZeroEnd (x := x)).mono ?_; rintro e w1 ⟨rfl, hbl⟩; have k4 := (hbl.cell (p := ⟨g, 4, none⟩) HR.out.lt).trans c4))
                go_ret
                exact ⟨rfl, hbl⟩
              · have q10 : (c = 32) = False := by simp [q9]
                clear q9
                obtain rfl : b = true := HB.out.2 ⟨q0, q2, q3, q5, q6, .inr rfl⟩
                go_enter Tryz.func141, Tryz.ntmps141
                go_wp2_with (first | (go_at_call 85; refine (within_any _ _ _ _).mono ?_; rintro e w' ⟨rfl, rfl⟩) | (go_at_call 55; refine (allZeroEnd (x := x)).mono ?_; rintro e w1 ⟨rfl, hbl⟩; have k4 := (hbl.cell (p := ⟨g, 4, none⟩) HR.out.lt).trans c4))
                go_ret
                exact ⟨rfl, hbl⟩
            · have t4 : ((x4 : Int) == 0) = false := by simp; omega
              by_cases q9 : c = 32
              · subst q9
                obtain rfl : b = true := HB.out.2 ⟨q0, q2, q3, q5, q6, .inr rfl⟩
                go_enter Tryz.func141, Tryz.ntmps141
                go_wp2_with (first | (go_at_call 85; refine (within_any _ _ _ _).mono ?_; rintro e w' ⟨rfl, rfl⟩) | (go_at_call 55; refine (allZeroEnd (x := x)).mono ?_; rintro e w1 ⟨rfl, hbl⟩; have k4 := (hbl.cell (p := ⟨g, 4, none⟩) HR.out.lt).trans c4))
                go_ret
                exact ⟨rfl, hbl⟩
              · have q10 : (c = 32) = False := by simp [q9]
                clear q9
                obtain rfl : b = true := HB.out.2 ⟨q0, q2, q3, q5, q6, .inr rfl⟩
                go_enter Tryz.func141, Tryz.ntmps141
                go_wp2_with (first | (go_at_call 85; refine (within_any _ _ _ _).mono ?_; rintro e w' ⟨rfl, rfl⟩) | (go_at_call 55; refine (allZeroEnd (x := x)).mono ?_; rintro e w1 ⟨rfl, hbl⟩; have k4 := (hbl.cell (p := ⟨g, 4, none⟩) HR.out.lt).trans c4))
                go_ret
                exact ⟨rfl, hbl⟩
          · have q10 : (c = 6 + x5) = False := by simp; omega
            have t7 : ((x5 : Int) == 26) = false := by simp; omega
            by_cases q6 : tZ x (6 + x5)
            · have HZ := Lib.hid (allZeroAt (w := w) (c := c - (6 + x5)) (j := 6 + x5) HR.out (by omega) true ⟨fun _ => q6, fun _ => rfl⟩)
              by_cases q7 : x4 = 0
              · have t4 : ((x4 : Int) == 0) = true := by simp; omega
                obtain rfl : b = true := HB.out.2 ⟨q0, q2, q3, q5, q6, .inl q7⟩
                go_enter Tryz.func141, Tryz.ntmps141
                go_wp2_with (first | (go_at_call 85; refine (within_any _ _ _ _).mono ?_; rintro e w' ⟨rfl, rfl⟩) | (go_at_call 55; refine HZ.out.mono ?_; rintro e w1 ⟨rfl, hbl⟩; have k4 := (hbl.cell (p := ⟨g, 4, none⟩) HR.out.lt).trans c4))
                go_ret
                exact ⟨rfl, hbl⟩
              · have t4 : ((x4 : Int) == 0) = false := by simp; omega
                obtain rfl := bF HB.out (fun q => q.2.2.2.2.2.elim q7 q8)
                go_enter Tryz.func141, Tryz.ntmps141
                go_wp2_with (first | (go_at_call 85; refine (within_any _ _ _ _).mono ?_; rintro e w' ⟨rfl, rfl⟩) | (go_at_call 55; refine HZ.out.mono ?_; rintro e w1 ⟨rfl, hbl⟩; have k4 := (hbl.cell (p := ⟨g, 4, none⟩) HR.out.lt).trans c4))
                go_ret
                exact ⟨rfl, hbl⟩
            · have HZ := Lib.hid (allZeroAt (w := w) (c := c - (6 + x5)) (j := 6 + x5) HR.out (by omega) false ⟨fun h => (by cases h), fun h => absurd h q6⟩)
              obtain rfl := bF HB.out (fun q => q6 q.2.2.2.2.1)
              go_enter Tryz.func141, Tryz.ntmps141
              go_wp2_with (first | (go_at_call 85; refine (within_any _ _ _ _).mono ?_; rintro e w' ⟨rfl, rfl⟩) | (go_at_call 55; refine HZ.out.mono ?_; rintro e w1 ⟨rfl, hbl⟩; have k4 := (hbl.cell (p := ⟨g, 4, none⟩) HR.out.lt).trans c4))
              go_ret
              exact ⟨rfl, hbl⟩
        · have t5 : (decide ((1 : Int) ≤ (x5 : Int)) && decide ((x5 : Int) ≤ 26)) = false := by simp; omega
          obtain rfl := bF HB.out (fun q => q5 q.2.2.2.1)
          go_enter Tryz.func141, Tryz.ntmps141
          go_wp2_with (go_at_call 85; refine (within_any _ _ _ _).mono ?_; rintro e w' ⟨rfl, rfl⟩)
          go_ret
          exact ⟨rfl, Below.refl _ _⟩
      · have t3 : ((x3 : Int) == (k : Int)) = false := by simp; omega
        obtain rfl := bF HB.out (fun q => q3 q.2.2.1)
        go_enter Tryz.func141, Tryz.ntmps141
        go_wp2_with (go_at_call 85; refine (within_any _ _ _ _).mono ?_; rintro e w' ⟨rfl, rfl⟩)
        go_ret
        exact ⟨rfl, Below.refl _ _⟩
    · have t2 : ((x2 : Int) == (f : Int)) = false := by simp; omega
      obtain rfl := bF HB.out (fun q => q2 q.2.1)
      go_enter Tryz.func141, Tryz.ntmps141
      go_wp2_with (go_at_call 85; refine (within_any _ _ _ _).mono ?_; rintro e w' ⟨rfl, rfl⟩)
      go_ret
      exact ⟨rfl, Below.refl _ _⟩
  · have t0 : ((x0 : Int) == 3) = false := by simp; omega
    obtain rfl := bF HB.out (fun q => q0 q.1)
    go_enter Tryz.func141, Tryz.ntmps141
    go_wp2_with (go_at_call 85; refine (within_any _ _ _ _).mono ?_; rintro e w' ⟨rfl, rfl⟩)
    go_ret
    exact ⟨rfl, Below.refl _ _⟩
end Go.Proofs.YtiefcgmghkkbmaaGreatDoor
