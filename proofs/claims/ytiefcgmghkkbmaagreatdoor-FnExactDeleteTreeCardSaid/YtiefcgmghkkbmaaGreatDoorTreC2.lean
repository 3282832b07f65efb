/-
  Trees: the reference's small functions: entries, data blocks, the root, a disk.
-/
import Derived.Test.YtiefcgmghkkbmaaGreatDoorTreC
namespace Go.Proofs.YtiefcgmghkkbmaaGreatDoor
open Go Go.ChangeShapes Go.WideShapes Go.ChangeAt Go.RowKit lib
set_option linter.unusedVariables false
set_option linter.unusedSimpArgs false
set_option maxRecDepth 100000
set_option maxHeartbeats 2000000 in
theorem specData_any (s : ByteArray) (f k : Nat) (hs : s.size = 32) (hf : f ≤ 1000) (hk : k ≤ 1000) (b : Bool) (hb : b = true ↔ tPart (byteAt s) f k) (w : World) : Calls Tryz.prog 139 #[.string s, .int .i64 f, .int .i64 k] w fun e w' => e = .returned (.bool b) ∧ Below w.heap.size w w' := by
  obtain ⟨g0, g2, g3, g4, g5⟩ : _ ∧ _ ∧ _ ∧ _ ∧ _ := ⟨byteAt_get s 0 (by omega), byteAt_get s 2 (by omega), byteAt_get s 3 (by omega), byteAt_get s 4 (by omega), byteAt_get s 5 (by omega)⟩
  have HR := Lib.hid (fun (j : Nat) (hj : j ≤ 32) (v : Bool) (hv : v = true ↔ tZ (byteAt s) j) => rest_any s j hs hj v hv w)
  obtain ⟨x0, h0⟩ : ∃ m, (byteAt s 0).toNat = m := ⟨_, rfl⟩
  obtain ⟨x2, h2⟩ : ∃ m, (byteAt s 2).toNat = m := ⟨_, rfl⟩
  obtain ⟨x3, h3⟩ : ∃ m, (byteAt s 3).toNat = m := ⟨_, rfl⟩
  obtain ⟨x4, h4⟩ : ∃ m, (byteAt s 4).toNat = m := ⟨_, rfl⟩
  obtain ⟨x5, h5⟩ : ∃ m, (byteAt s 5).toNat = m := ⟨_, rfl⟩
  have b0 : x0 < 256 := by rw [← h0]; exact UInt8.toNat_lt _
  have b2 : x2 < 256 := by rw [← h2]; exact UInt8.toNat_lt _
  have b3 : x3 < 256 := by rw [← h3]; exact UInt8.toNat_lt _
  have b4 : x4 < 256 := by rw [← h4]; exact UInt8.toNat_lt _
  have b5 : x5 < 256 := by rw [← h5]; exact UInt8.toNat_lt _
  have hp : tPart (byteAt s) f k ↔ (x0 = 3 ∧ x2 = f ∧ x3 = k ∧ 1 ≤ x5 ∧ x5 ≤ 26 ∧ (x4 = 0 ∨ x5 = 26) ∧ tZ (byteAt s) (6 + x5)) := by
    unfold tPart
    rw [h2, h3, h5, u8_is 3 h0, u8_is 0 h4]
    exact Iff.rfl
  rw [hp] at hb
  have HB := Lib.hid hb
  have hsz : ((s.size : Nat) : Int) = 32 := by omega
  clear hb hp
  by_cases q0 : x0 = 3
  · have t0 : ((x0 : Int) != 3) = false := by simp; omega
    by_cases q2 : x2 = f
    · have t1 : ((x2 : Int) != (f : Int)) = false := by simp; omega
      by_cases q3 : x3 = k
      · have t2 : ((x3 : Int) != (k : Int)) = false := by simp; omega
        by_cases q5 : 1 ≤ x5
        · have t3 : decide ((x5 : Int) < 1) = false := by simp; omega
          by_cases q6 : x5 ≤ 26
          · have t4 : decide ((26 : Int) < (x5 : Int)) = false := by simp; omega
            have n6 : (6 + x5 : Nat) ≤ 32 := by omega
            have HRX := Lib.hid (fun (z : Int) (hz : z = ((6 + x5 : Nat) : Int)) (v : Bool) (hv : v = true ↔ tZ (byteAt s) (6 + x5)) => show Calls Tryz.prog 108 #[.string s, .int .i64 z] w fun e w' => e = .returned (.bool v) ∧ Below w.heap.size w w' by rw [hz]; exact HR.out (6 + x5) n6 v hv)
            by_cases q4 : x4 = 0
            · have t8 : ((x4 : Int) != 0) = false := by simp; omega
              by_cases q8 : tZ (byteAt s) (6 + x5)
              · have HA := Lib.hid (fun z hz => HRX.out z hz true ⟨fun _ => q8, fun _ => rfl⟩)
                obtain rfl : b = true := HB.out.2 ⟨q0, q2, q3, q5, q6, .inl q4, q8⟩
                go_enter Tryz.func139, Tryz.ntmps139
                go_wp2_with (go_at_call 108; refine (HA.out _ (by omega)).mono ?_; rintro e w' ⟨rfl, hbl⟩)
                go_ret
                exact ⟨rfl, hbl⟩
              · have HA := Lib.hid (fun z hz => HRX.out z hz false ⟨fun h => (by cases h), fun h => absurd h q8⟩)
                obtain rfl := bF HB.out (fun q => q8 q.2.2.2.2.2.2)
                go_enter Tryz.func139, Tryz.ntmps139
                go_wp2_with (go_at_call 108; refine (HA.out _ (by omega)).mono ?_; rintro e w' ⟨rfl, hbl⟩)
                go_ret
                exact ⟨rfl, hbl⟩
            · have t8 : ((x4 : Int) != 0) = true := by simp; omega
              by_cases q7 : x5 = 26
              · have t9 : decide ((x5 : Int) < 26) = false := by simp; omega
                by_cases q8 : tZ (byteAt s) (6 + x5)
                · have HA := Lib.hid (fun z hz => HRX.out z hz true ⟨fun _ => q8, fun _ => rfl⟩)
                  obtain rfl : b = true := HB.out.2 ⟨q0, q2, q3, q5, q6, .inr q7, q8⟩
                  go_enter Tryz.func139, Tryz.ntmps139
                  go_wp2_with (go_at_call 108; refine (HA.out _ (by omega)).mono ?_; rintro e w' ⟨rfl, hbl⟩)
                  go_ret
                  exact ⟨rfl, hbl⟩
                · have HA := Lib.hid (fun z hz => HRX.out z hz false ⟨fun h => (by cases h), fun h => absurd h q8⟩)
                  obtain rfl := bF HB.out (fun q => q8 q.2.2.2.2.2.2)
                  go_enter Tryz.func139, Tryz.ntmps139
                  go_wp2_with (go_at_call 108; refine (HA.out _ (by omega)).mono ?_; rintro e w' ⟨rfl, hbl⟩)
                  go_ret
                  exact ⟨rfl, hbl⟩
              · have t9 : decide ((x5 : Int) < 26) = true := by simp; omega
                obtain rfl := bF HB.out (fun q => q.2.2.2.2.2.1.elim q4 q7)
                go_enter Tryz.func139, Tryz.ntmps139
                go_wp2_with fail
                go_ret
                exact ⟨rfl, Below.refl _ _⟩
          · have t4 : decide ((26 : Int) < (x5 : Int)) = true := by simp; omega
            obtain rfl := bF HB.out (fun q => q6 q.2.2.2.2.1)
            go_enter Tryz.func139, Tryz.ntmps139
            go_wp2_with fail
            go_ret
            exact ⟨rfl, Below.refl _ _⟩
        · have t3 : decide ((x5 : Int) < 1) = true := by simp; omega
          obtain rfl := bF HB.out (fun q => q5 q.2.2.2.1)
          go_enter Tryz.func139, Tryz.ntmps139
          go_wp2_with fail
          go_ret
          exact ⟨rfl, Below.refl _ _⟩
      · have t2 : ((x3 : Int) != (k : Int)) = true := by simp; omega
        obtain rfl := bF HB.out (fun q => q3 q.2.2.1)
        go_enter Tryz.func139, Tryz.ntmps139
        go_wp2_with fail
        go_ret
        exact ⟨rfl, Below.refl _ _⟩
    · have t1 : ((x2 : Int) != (f : Int)) = true := by simp; omega
      obtain rfl := bF HB.out (fun q => q2 q.2.1)
      go_enter Tryz.func139, Tryz.ntmps139
      go_wp2_with fail
      go_ret
      exact ⟨rfl, Below.refl _ _⟩
  · have t0 : ((x0 : Int) != 3) = true := by simp; omega
    obtain rfl := bF HB.out (fun q => q0 q.1)
    go_enter Tryz.func139, Tryz.ntmps139
    go_wp2_with fail
    go_ret
    exact ⟨rfl, Below.refl _ _⟩
set_option maxHeartbeats 2000000 in
theorem specEntry_any (s : ByteArray) (d : Nat) (hs : s.size = 32) (hd : d ≤ 1000) (b : Bool) (hb : b = true ↔ tEnt (byteAt s) d) (w : World) : Calls Tryz.prog 110 #[.string s, .int .i64 d] w fun e w' => e = .returned (.bool b) ∧ Below w.heap.size w w' := by
  obtain ⟨g0, g3⟩ : _ ∧ _ := ⟨byteAt_get s 0 (by omega), byteAt_get s 3 (by omega)⟩
  have HR := Lib.hid (fun (W : World) (j : Nat) (hj : j ≤ 32) (v : Bool) (hv : v = true ↔ tZ (byteAt s) j) => rest_any s j hs hj v hv W)
  obtain ⟨x0, h0⟩ : ∃ m, (byteAt s 0).toNat = m := ⟨_, rfl⟩
  obtain ⟨x3, h3⟩ : ∃ m, (byteAt s 3).toNat = m := ⟨_, rfl⟩
  obtain ⟨L, hL⟩ : ∃ m, tW (byteAt s) 12 = m := ⟨_, rfl⟩
  have b0 : x0 < 256 := by rw [← h0]; exact UInt8.toNat_lt _
  have b3 : x3 < 256 := by rw [← h3]; exact UInt8.toNat_lt _
  have hp : tEnt (byteAt s) d ↔ (x3 = d ∧ NameS (tnm (byteAt s)) ∧ ((x0 = 2 ∧ L ≤ 512 ∧ tZ (byteAt s) 15) ∨ (x0 = 4 ∧ tZ (byteAt s) 20))) := by
    unfold tEnt
    rw [h3, u8_is 2 h0, u8_is 4 h0, hL]
    exact Iff.rfl
  rw [hp] at hb
  have HB := Lib.hid hb
  have hsz : ((s.size : Nat) : Int) = 32 := by omega
  have HGW := Lib.hid (fun W => get_any s 12 (by omega) (by omega) W)
  rw [hL] at HGW
  have HNM := Lib.hid (fun W => specName_any s hs W)
  clear hb hp hL
  by_cases qn : NameS (tnm (byteAt s))
  · rw [tnmS_ok qn] at HNM
    have hne : (tnm (byteAt s)).toList.isEmpty = false := by
      have := qn.lo
      cases h : (tnm (byteAt s)).toList with
      | nil => exact absurd ((toList_iff (tnm (byteAt s)) ⟨#[]⟩).1 (h.trans (by rw [ByteArray.toList_eq]))) (fun q => by rw [q] at this; exact absurd this (by decide))
      | cons a l => rfl
    generalize tnm (byteAt s) = X at HNM hne HB qn
    by_cases q3 : x3 = d
    · have t3 : ((x3 : Int) != (d : Int)) = false := by simp; omega
      by_cases q4 : x0 = 4
      · have t4 : ((x0 : Int) == 4) = true := by simp; omega
        by_cases q8 : tZ (byteAt s) 20
        · have HA := Lib.hid (fun W => HR.out W 20 (by omega) true ⟨fun _ => q8, fun _ => rfl⟩)
          obtain rfl : b = true := HB.out.2 ⟨q3, qn, .inr ⟨q4, q8⟩⟩
          go_enter Tryz.func110, Tryz.ntmps110
          go_wp2_with (first | (go_at_call 71; refine (HNM.out _).mono ?_; rintro e w1 ⟨rfl, hbn⟩) | (go_at_call 108; refine (HA.out _).mono ?_; rintro e w2 ⟨rfl, hbl⟩))
          go_ret
          exact ⟨rfl, hbn.trans (hbl.mono hbn.size)⟩
        · have HA := Lib.hid (fun W => HR.out W 20 (by omega) false ⟨fun h => (by cases h), fun h => absurd h q8⟩)
          obtain rfl := bF HB.out (fun q => q.2.2.elim (fun h => by omega) (fun h => q8 h.2))
          go_enter Tryz.func110, Tryz.ntmps110
          go_wp2_with (first | (go_at_call 71; refine (HNM.out _).mono ?_; rintro e w1 ⟨rfl, hbn⟩) | (go_at_call 108; refine (HA.out _).mono ?_; rintro e w2 ⟨rfl, hbl⟩))
          go_ret
          exact ⟨rfl, hbn.trans (hbl.mono hbn.size)⟩
      · have t4 : ((x0 : Int) == 4) = false := by simp; omega
        by_cases q2 : x0 = 2
        · have t2 : ((x0 : Int) == 2) = true := by simp; omega
          by_cases q8 : tZ (byteAt s) 15
          · have HA := Lib.hid (fun W => HR.out W 15 (by omega) true ⟨fun _ => q8, fun _ => rfl⟩)
            by_cases qL : L ≤ 512
            · have tL : decide ((L : Int) ≤ 512) = true := by simp; omega
              obtain rfl : b = true := HB.out.2 ⟨q3, qn, .inl ⟨q2, qL, q8⟩⟩
              go_enter Tryz.func110, Tryz.ntmps110
              go_wp2_with (first | (go_at_call 71; refine (HNM.out _).mono ?_; rintro e w1 ⟨rfl, hbn⟩) | (go_at_call 108; refine (HA.out _).mono ?_; rintro e w2 ⟨rfl, hbl⟩) | (go_at_call 138; refine (HGW.out _).mono ?_; rintro e w3 ⟨rfl, q3, rfl⟩))
              go_ret
              exact ⟨rfl, (hbn.trans (hbl.mono hbn.size)).drewN _⟩
            · have tL : decide ((L : Int) ≤ 512) = false := by simp; omega
              obtain rfl := bF HB.out (fun q => q.2.2.elim (fun h => qL h.2.1) (fun h => q4 h.1))
              go_enter Tryz.func110, Tryz.ntmps110
              go_wp2_with (first | (go_at_call 71; refine (HNM.out _).mono ?_; rintro e w1 ⟨rfl, hbn⟩) | (go_at_call 108; refine (HA.out _).mono ?_; rintro e w2 ⟨rfl, hbl⟩) | (go_at_call 138; refine (HGW.out _).mono ?_; rintro e w3 ⟨rfl, q3, rfl⟩))
              go_ret
              exact ⟨rfl, (hbn.trans (hbl.mono hbn.size)).drewN _⟩
          · have HA := Lib.hid (fun W => HR.out W 15 (by omega) false ⟨fun h => (by cases h), fun h => absurd h q8⟩)
            obtain rfl := bF HB.out (fun q => q.2.2.elim (fun h => q8 h.2.2) (fun h => q4 h.1))
            go_enter Tryz.func110, Tryz.ntmps110
            go_wp2_with (first | (go_at_call 71; refine (HNM.out _).mono ?_; rintro e w1 ⟨rfl, hbn⟩) | (go_at_call 108; refine (HA.out _).mono ?_; rintro e w2 ⟨rfl, hbl⟩))
            go_ret
            exact ⟨rfl, hbn.trans (hbl.mono hbn.size)⟩
        · have t2 : ((x0 : Int) == 2) = false := by simp; omega
          obtain rfl := bF HB.out (fun q => q.2.2.elim (fun h => q2 h.1) (fun h => q4 h.1))
          go_enter Tryz.func110, Tryz.ntmps110
          go_wp2_with (first | (go_at_call 71; refine (HNM.out _).mono ?_; rintro e w1 ⟨rfl, hbn⟩))
          go_ret
          exact ⟨rfl, hbn⟩
    · have t3 : ((x3 : Int) != (d : Int)) = true := by simp; omega
      obtain rfl := bF HB.out (fun q => q3 q.1)
      go_enter Tryz.func110, Tryz.ntmps110
      go_wp2_with (first | (go_at_call 71; refine (HNM.out _).mono ?_; rintro e w1 ⟨rfl, hbn⟩))
      go_ret
      exact ⟨rfl, hbn⟩
  · rw [tnmS_not qn] at HNM
    obtain rfl := bF HB.out (fun q => qn q.2.1)
    go_enter Tryz.func110, Tryz.ntmps110
    go_wp2_with (first | (go_at_call 71; refine (HNM.out _).mono ?_; rintro e w1 ⟨rfl, hbn⟩))
    go_ret
    exact ⟨rfl, hbn⟩
set_option maxHeartbeats 2000000 in
theorem specRoot_any {w : World} (A : Option Addr) (n c : Nat) (s : Nat → ByteArray) (hn : 0 < n) (hn2 : n ≤ 128) (hs : Sl w w.heap.size A n (fun i => .string (s i))) (h32 : (s 0).size = 32) (b : Bool) (hb : b = true ↔ tRoot (byteAt (s 0)) n) : Calls Tryz.prog 78 #[.slice A n c] w fun e w' => e = .returned (.bool b) ∧ Below w.heap.size w w' := by
  obtain ⟨ba, oa, rfl, hbl0, hc0⟩ := hs 0 hn
  dsimp only at hc0
  rw [Nat.add_zero] at hc0
  generalize s 0 = S at *
  obtain ⟨g0, g2, g3⟩ : _ ∧ _ ∧ _ := ⟨byteAt_get S 0 (by omega), byteAt_get S 2 (by omega), byteAt_get S 3 (by omega)⟩
  obtain ⟨x0, h0⟩ : ∃ m, (byteAt S 0).toNat = m := ⟨_, rfl⟩
  obtain ⟨x2, h2⟩ : ∃ m, (byteAt S 2).toNat = m := ⟨_, rfl⟩
  obtain ⟨x3, h3⟩ : ∃ m, (byteAt S 3).toNat = m := ⟨_, rfl⟩
  have b0 : x0 < 256 := by rw [← h0]; exact UInt8.toNat_lt _
  have b2 : x2 < 256 := by rw [← h2]; exact UInt8.toNat_lt _
  have b3 : x3 < 256 := by rw [← h3]; exact UInt8.toNat_lt _
  have hp : tRoot (byteAt S) n ↔ (x0 = 1 ∧ x2 = n ∧ x3 = 0 ∧ tZ (byteAt S) 28 ∧ ∀ k, n ≤ k → k < 128 → tBit (byteAt S) k = false) := by
    unfold tRoot
    rw [u8_is 1 h0, h2, u8_is 0 h3]
    exact Iff.rfl
  rw [hp] at hb
  have HB := Lib.hid hb
  have HR := Lib.hid (fun (W : World) (v : Bool) (hv : v = true ↔ tZ (byteAt S) 28) => rest_any S 28 h32 (by omega) v hv W)
  have HBI := Lib.hid (fun (W : World) (k : Nat) (hk : k < 128) => bit_any S k h32 hk W)
  have hsz : ((S.size : Nat) : Int) = 32 := by omega
  clear hb hp hs
  by_cases q0 : x0 = 1
  · have t0 : ((x0 : Int) != 1) = false := by simp; omega
    by_cases q2 : x2 = n
    · have t1 : ((x2 : Int) != (n : Int)) = false := by simp; omega
      by_cases q3 : x3 = 0
      · have t2 : ((x3 : Int) != 0) = false := by simp; omega
        by_cases q8 : tZ (byteAt S) 28
        · have HA := Lib.hid (fun W => HR.out W true ⟨fun _ => q8, fun _ => rfl⟩)
          have H8 := Lib.hid q8
          clear q8
          go_enter Tryz.func78, Tryz.ntmps78
          go_upto_region 5 with (go_at_call 108; refine (HA.out _).mono ?_; rintro e w1 ⟨rfl, hbl⟩)
          have HBL := Lib.hid hbl
          clear hbl
          go_wp2_with fail
          go_loop [4] (fun s4 => ∃ k : Nat, n ≤ k ∧ k ≤ 128 ∧ s4 = .int .i64 k ∧ ∀ j, n ≤ j → j < k → tBit (byteAt S) j = false) (fun i => 128 - (intOf i).toNat)
          case atStart => exact ⟨n, Nat.le_refl _, hn2, rfl, fun j h1 h2 => by omega⟩
          case round =>
            obtain ⟨k, hk1, hk2, rfl, hj⟩ := hrel
            have HJ := Lib.hid hj
            clear hj
            by_cases hlt : k < 128
            · have hli : (k : Int) < 128 := by omega
              have HM := Lib.hid (fun W => HBI.out W k hlt)
              cases hbt : tBit (byteAt S) k with
              | false =>
                have HBT := Lib.hid hbt
                rw [hbt] at HM
                clear hbt
                go_wp2_with (go_at_call 80; refine (HM.out _).mono ?_; rintro e w' ⟨rfl, rfl⟩)
                go_round
                case rel => exact ⟨k + 1, by omega, by omega, by go_num, fun j h1 h2 => by
                  rcases Nat.lt_or_ge j k with h | h
                  · exact HJ.out j h1 h
                  · obtain rfl : j = k := by omega
                    exact HBT.out⟩
                case measure => simp [intOf]; omega
              | true =>
                obtain rfl := bF HB.out (fun q => by have := q.2.2.2.2 k hk1 hlt; rw [hbt] at this; cases this)
                rw [hbt] at HM
                clear hbt
                go_wp2_with (go_at_call 80; refine (HM.out _).mono ?_; rintro e w' ⟨rfl, rfl⟩)
                go_ret
                exact ⟨rfl, HBL.out⟩
            · obtain rfl : k = 128 := by omega
              obtain rfl : b = true := HB.out.2 ⟨q0, q2, q3, H8.out, HJ.out⟩
              go_wp2_with fail
              go_ret
              exact ⟨rfl, HBL.out⟩
        · have HA := Lib.hid (fun W => HR.out W false ⟨fun h => (by cases h), fun h => absurd h q8⟩)
          obtain rfl := bF HB.out (fun q => q8 q.2.2.2.1)
          go_enter Tryz.func78, Tryz.ntmps78
          go_wp2_with (go_at_call 108; refine (HA.out _).mono ?_; rintro e w1 ⟨rfl, hbl⟩)
          go_ret
          exact ⟨rfl, hbl⟩
      · have t2 : ((x3 : Int) != 0) = true := by simp; omega
        obtain rfl := bF HB.out (fun q => q3 q.2.2.1)
        go_enter Tryz.func78, Tryz.ntmps78
        go_wp2_with fail
        go_ret
        exact ⟨rfl, Below.refl _ _⟩
    · have t1 : ((x2 : Int) != (n : Int)) = true := by simp; omega
      obtain rfl := bF HB.out (fun q => q2 q.2.1)
      go_enter Tryz.func78, Tryz.ntmps78
      go_wp2_with fail
      go_ret
      exact ⟨rfl, Below.refl _ _⟩
  · have t0 : ((x0 : Int) != 1) = true := by simp; omega
    obtain rfl := bF HB.out (fun q => q0 q.1)
    go_enter Tryz.func78, Tryz.ntmps78
    go_wp2_with fail
    go_ret
    exact ⟨rfl, Below.refl _ _⟩
/-- a disk of blocks of 32 bytes -/
def tDisk (n : Nat) (s : Nat → ByteArray) : Prop := 4 ≤ n ∧ n ≤ 128 ∧ ∀ i, i < n → (s i).size = 32
theorem specDisk_any {w : World} (A : Option Addr) (n c : Nat) (s : Nat → ByteArray) (hn : n ≤ 1048576) (hs : Sl w w.heap.size A n (fun i => .string (s i))) (b : Bool) (hb : b = true ↔ tDisk n s) : Calls Tryz.prog 31 #[.slice A n c] w fun e w' => e = .returned (.bool b) ∧ w = w' := by
  have HS := Lib.hid hs
  have HB := Lib.hid hb
  clear hs hb
  by_cases h4 : 4 ≤ n ∧ n ≤ 128
  · have d1 : (decide ((4:Int) ≤ (n : Int)) && decide ((n : Int) ≤ 128)) = true := by simp; omega
    go_enter Tryz.func31, Tryz.ntmps31
    go_wp2_with (go_at_call 75; refine (l00In_any _ _ _ _).mono ?_; rintro e w' ⟨rfl, rfl⟩)
    go_loop [3] (fun a => ∃ k : Nat, k ≤ n ∧ a = .int .i64 k ∧ ∀ i, i < k → (s i).size = 32) (fun i => n - (intOf i).toNat)
    case atStart => exact ⟨0, by omega, rfl, fun i hi => by omega⟩
    case round =>
      obtain ⟨k, hk, rfl, hj⟩ := hrel
      have HJ := Lib.hid hj
      clear hj
      by_cases hlt : k < n
      · obtain ⟨ba, oa, rfl, hbl0, hc0⟩ := HS.out k hlt
        dsimp only at hc0
        obtain ⟨z, hz⟩ : ∃ z, (s k).size = z := ⟨_, rfl⟩
        have HZ := Lib.hid hz
        have hli : (k : Int) < (n : Int) := by omega
        generalize s k = S at hc0 hz
        by_cases h32 : z = 32
        · have t1 : ((z : Int) != 32) = false := by simp; omega
          have H32 := Lib.hid h32
          clear h32
          go_wp2_with fail
          go_round
          case rel => exact ⟨k + 1, by omega, by go_num, fun j hj => by
            rcases Nat.lt_or_ge j k with h | h
            · exact HJ.out j h
            · obtain rfl : j = k := by omega
              rw [HZ.out]; exact H32.out⟩
          case measure => simp [intOf]; omega
        · have t1 : ((z : Int) != 32) = true := by simp; omega
          obtain rfl := bF HB.out (fun q => h32 (by rw [← HZ.out]; exact q.2.2 k hlt))
          clear h32
          go_wp2_with fail
          go_ret
          exact ⟨rfl, rfl⟩
      · obtain rfl : k = n := by omega
        obtain rfl : b = true := HB.out.2 ⟨h4.1, h4.2, HJ.out⟩
        go_wp2_with fail
        go_ret
        exact ⟨rfl, rfl⟩
  · have d1 : (decide ((4:Int) ≤ (n : Int)) && decide ((n : Int) ≤ 128)) = false := by simp; omega
    obtain rfl := bF HB.out (fun q => h4 ⟨q.1, q.2.1⟩)
    clear h4
    go_enter Tryz.func31, Tryz.ntmps31
    go_wp2_with (go_at_call 75; refine (l00In_any _ _ _ _).mono ?_; rintro e w' ⟨rfl, rfl⟩)
    go_ret
    exact ⟨rfl, rfl⟩
end Go.Proofs.YtiefcgmghkkbmaaGreatDoor
