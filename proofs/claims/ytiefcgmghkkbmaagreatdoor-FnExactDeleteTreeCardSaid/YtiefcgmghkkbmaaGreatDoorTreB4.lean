/-
  Trees: the program's side: marks, the root, a disk opened.
-/
import Derived.Test.YtiefcgmghkkbmaaGreatDoorTreB3
import Derived.Test.YtiefcgmghkkbmaaGreatDoorXmPush
namespace Go.Proofs.YtiefcgmghkkbmaaGreatDoor
open Go Go.ChangeShapes Go.WideShapes Go.ChangeAt Go.RowKit lib
set_option linter.unusedVariables false
set_option linter.unusedSimpArgs false
set_option maxRecDepth 100000
/-- a tree in memory whose blocks have room for 32 bytes -/
def TreD (w : World) (gp gr n B : Nat) (bl cp : Nat → Nat) (u : Nat → Nat → UInt8) : Prop := TreeW w gp gr n B bl cp u ∧ ∀ i, i < n → 32 ≤ cp i
section
variable {w w' : World} {gp gr n B : Nat} {bl cp : Nat → Nat} {u : Nat → Nat → UInt8}
theorem TreD.below (h : TreD w gp gr n B bl cp u) (hb : Below w.heap.size w w') : TreD w' gp gr n B bl cp u := ⟨h.1.below hb, h.2⟩
theorem TreD.ptr (h : TreD w gp gr n B bl cp u) : ∃ cap, w.cell? ⟨gp, 0, none⟩ = some (.slice (some ⟨gr, 0, none⟩) n cap) := by
  obtain ⟨⟨⟨cap, h1⟩, _⟩, _⟩ := h
  exact ⟨cap, h1.cell 0⟩
theorem TreD.blk (h : TreD w gp gr n B bl cp u) {i : Nat} (hi : i < n) : w.cell? ⟨gr, i, none⟩ = some (.slice (some ⟨bl i, 0, none⟩) 32 (cp i)) := by
  obtain ⟨⟨_, ⟨cs, h2, h3, h4⟩, _⟩, _⟩ := h
  exact (h2.cell i).trans (h4 i hi)
theorem TreD.row (h : TreD w gp gr n B bl cp u) {i : Nat} (hi : i < n) : BRow w 5 (bl i) 32 (u i) := (h.1.2.2.1 i hi).1
end
theorem marked_any {w : World} {gp gr n B k : Nat} {bl cp : Nat → Nat} {u : Nat → Nat → UInt8} (ht : TreD w gp gr n B bl cp u) (hn : 0 < n) (hk : k < 128) : Calls Tryz.prog 89 #[.pointer (some ⟨gp, 0, none⟩), .int .i64 k] w fun e w' => e = .returned (.bool (tBit (u 0) k)) ∧ w = w' := by
  obtain ⟨cap, c1⟩ := ht.ptr
  have c2 := ht.blk (i := 0) hn
  obtain ⟨q, hq⟩ : ∃ q, q = 12 + k / 8 := ⟨_, rfl⟩
  have hq32 : q < 32 := by omega
  have c3 := (ht.row (i := 0) hn).cell (i := q) hq32
  obtain ⟨x, hx⟩ : ∃ x, (u 0 q).toNat = x := ⟨_, rfl⟩
  have hx2 : x < 256 := by rw [← hx]; exact UInt8.toNat_lt _
  rw [hx] at c3
  have e1 : (12 : Int) + (k : Int) / 8 = (q : Int) := by omega
  obtain ⟨y, hy⟩ : ∃ y, x / 2 ^ (k % 8) = y := ⟨_, rfl⟩
  have hy2 : y < 256 := by rw [← hy]; exact Nat.lt_of_le_of_lt (Nat.div_le_self _ _) hx2
  have hsh : (x : Int) / 2 ^ (k % 8) = (y : Int) := by rw [← hy]; exact_mod_cast rfl
  have hand : bits .and .u8 (y : Int) 1 = ((y % 2 : Nat) : Int) := u8_low ⟨y, hy2⟩
  have hb : tBit (u 0) k = (((y % 2 : Nat) : Int) == 1) := by
    unfold tBit
    rw [← hq, hx, hy]
    rcases Nat.mod_two_eq_zero_or_one y with h | h <;> rw [h] <;> rfl
  rw [hb]
  clear hb hq hy hx ht
  go_enter Tryz.func89, Tryz.ntmps89
  go_wp2_with fail
  go_ret
  exact ⟨rfl, rfl⟩
set_option maxHeartbeats 2000000 in
theorem rootProblem_any {w : World} {gp gr n B : Nat} {bl cp : Nat → Nat} {u : Nat → Nat → UInt8} (ht : TreD w gp gr n B bl cp u) (hn : 0 < n) (hn2 : n ≤ 128) : Calls Tryz.prog 38 #[.pointer (some ⟨gp, 0, none⟩)] w fun e w' => e = .returned (.int .i64 (tRootP n u : Nat)) ∧ Below w.heap.size w w' := by
  have HT := Lib.hid ht
  obtain ⟨cap, c1⟩ := ht.ptr
  have c2 := ht.blk (i := 0) hn
  have hr := ht.row (i := 0) hn
  have hc := ht.2 0 hn
  obtain ⟨z0, z2, z3⟩ : _ ∧ _ ∧ _ := ⟨hr.cell (i := 0) (by omega), hr.cell (i := 2) (by omega), hr.cell (i := 3) (by omega)⟩
  obtain ⟨g, hg⟩ : ∃ g, bl 0 = g := ⟨_, rfl⟩
  obtain ⟨c, hcc⟩ : ∃ c, cp 0 = c := ⟨_, rfl⟩
  rw [hg] at hr z0 z2 z3
  rw [hg, hcc] at c2
  rw [hcc] at hc
  have HSL := Lib.hid (hr.sl)
  have HR := Lib.hid hr
  obtain ⟨x0, h0⟩ : ∃ m, (u 0 0).toNat = m := ⟨_, rfl⟩
  obtain ⟨x2, h2⟩ : ∃ m, (u 0 2).toNat = m := ⟨_, rfl⟩
  obtain ⟨x3, h3⟩ : ∃ m, (u 0 3).toNat = m := ⟨_, rfl⟩
  obtain ⟨y, hy⟩ : ∃ y, (usum (u 0) 32).toNat = y := ⟨_, rfl⟩
  have b0 : x0 < 256 := by rw [← h0]; exact UInt8.toNat_lt _
  have b2 : x2 < 256 := by rw [← h2]; exact UInt8.toNat_lt _
  have b3 : x3 < 256 := by rw [← h3]; exact UInt8.toNat_lt _
  have by0 : y < 256 := by rw [← hy]; exact UInt8.toNat_lt _
  rw [h0] at z0
  rw [h2] at z2
  rw [h3] at z3
  have HBS := Lib.hid (fun (W : World) (hW : BRow W 5 g 32 (u 0)) => show Calls Tryz.prog 88 #[.slice (some ⟨g, 0, none⟩) 32 c] W fun e w' => e = .returned (.int .u8 (y : Int)) ∧ W = w' by rw [← hy]; exact byteSum_any _ 32 c (u 0) W (by omega) hW.sl)
  have e1 : (usum (u 0) 32 ≠ 0) ↔ y ≠ 0 := by rw [Ne, u8_is 0 hy]; rfl
  have e2 : tRoot (u 0) n ↔ (x0 = 1 ∧ x2 = n ∧ x3 = 0 ∧ tZ (u 0) 28 ∧ ∀ k, n ≤ k → k < 128 → tBit (u 0) k = false) := by
    unfold tRoot
    rw [u8_is 1 h0, h2, u8_is 0 h3]
    exact Iff.rfl
  have HP1 := Lib.hid (show y ≠ 0 → tRootP n u = 1 from fun h => if_pos (e1.2 h))
  have HP0 := Lib.hid (show y = 0 → (x0 = 1 ∧ x2 = n ∧ x3 = 0 ∧ tZ (u 0) 28 ∧ ∀ k, n ≤ k → k < 128 → tBit (u 0) k = false) → tRootP n u = 0 from fun h q => by
    unfold tRootP
    rw [if_neg (fun h2 => e1.1 h2 h), if_pos (e2.2 q)])
  have HP2 := Lib.hid (show y = 0 → ¬ (x0 = 1 ∧ x2 = n ∧ x3 = 0 ∧ tZ (u 0) 28 ∧ ∀ k, n ≤ k → k < 128 → tBit (u 0) k = false) → tRootP n u = 2 from fun h q => by
    unfold tRootP
    rw [if_neg (fun h2 => e1.1 h2 h), if_neg (fun h2 => q (e2.1 h2))])
  have s28 : (c = 28) = False := by simp; omega
  have hci : (32 : Int) ≤ (c : Int) := by omega
  clear e1 e2 h0 h2 h3 hy hr ht hg hcc
  by_cases qy : y = 0
  · by_cases q0 : x0 = 1
    · by_cases q2 : x2 = n
      · by_cases q3 : x3 = 0
        · have HAZ := Lib.hid (fun (v : Bool) (hv : v = true ↔ tZ (u 0) 28) => allZeroAt (c := c - 28) (j := 28) HR.out (by omega) v hv)
          have t0 : ((x0 : Int) != 1) = false := by simp; omega
          have t3 : ((x3 : Int) != 0) = false := by simp; omega
          have ty : ((y : Int) != 0) = false := by simp; omega
          have t2 : ((x2 : Int) != (n : Int)) = false := by simp; omega
          by_cases q6 : tZ (u 0) 28
          · have HA1 := Lib.hid (HAZ.out true ⟨fun _ => q6, fun _ => rfl⟩)
            have H6 := Lib.hid q6
            clear q6
            go_enter Tryz.func38, Tryz.ntmps38
            go_upto_region 7 with (first | (go_at_call 88; refine (HBS.out _ HR.out).mono ?_; rintro e w' ⟨rfl, rfl⟩) | (go_at_call 55; refine HA1.out.mono ?_; rintro e w1 ⟨rfl, hbl⟩))
            have HB1 := Lib.hid hbl
            have HT1 := Lib.hid (HT.out.below hbl)
            clear hbl c1 c2 z0 z2 z3
            go_wp2_with fail
            go_loop [5] (fun s5 => ∃ k : Nat, n ≤ k ∧ k ≤ 128 ∧ s5 = .int .i64 k ∧ ∀ j, n ≤ j → j < k → tBit (u 0) j = false) (fun i => 128 - (intOf i).toNat)
            case atStart => exact ⟨n, Nat.le_refl _, hn2, rfl, fun j h1 h2 => by omega⟩
            case round =>
              obtain ⟨k, hk1, hk2, rfl, hj⟩ := hrel
              have HJ := Lib.hid hj
              clear hj
              by_cases hlt : k < 128
              · have hli : (k : Int) < 128 := by omega
                cases hbt : tBit (u 0) k with
                | false =>
                  have HBT := Lib.hid hbt
                  have HM := Lib.hid (marked_any HT1.out hn hlt)
                  rw [hbt] at HM
                  clear hbt
                  go_wp2_with (go_at_call 89; refine HM.out.mono ?_; rintro e w' ⟨rfl, rfl⟩)
                  go_round
                  case rel => exact ⟨k + 1, by omega, by omega, by go_num, fun j h1 h2 => by
                    rcases Nat.lt_or_ge j k with h | h
                    · exact HJ.out j h1 h
                    · obtain rfl : j = k := by omega
                      exact HBT.out⟩
                  case measure => simp [intOf]; omega
                | true =>
                  have HRES := Lib.hid (show tRootP n u = 2 from HP2.out qy (fun q => by have := q.2.2.2.2 k hk1 hlt; rw [hbt] at this; cases this))
                  have HM := Lib.hid (marked_any HT1.out hn hlt)
                  rw [hbt] at HM
                  clear hbt
                  go_wp2_with (go_at_call 89; refine HM.out.mono ?_; rintro e w' ⟨rfl, rfl⟩)
                  go_ret
                  exact ⟨by rw [HRES.out]; rfl, HB1.out⟩
              · obtain rfl : k = 128 := by omega
                have HRES := Lib.hid (show tRootP n u = 0 from HP0.out qy ⟨q0, q2, q3, H6.out, HJ.out⟩)
                go_wp2_with fail
                go_ret
                exact ⟨by rw [HRES.out]; rfl, HB1.out⟩
          · have HA1 := Lib.hid (HAZ.out false ⟨fun h => (by cases h), fun h => absurd h q6⟩)
            have HRES := Lib.hid (show tRootP n u = 2 from HP2.out qy (fun q => q6 q.2.2.2.1))
            clear q6
            go_enter Tryz.func38, Tryz.ntmps38
            go_wp2_with (first | (go_at_call 88; refine (HBS.out _ HR.out).mono ?_; rintro e w' ⟨rfl, rfl⟩) | (go_at_call 55; refine HA1.out.mono ?_; rintro e w1 ⟨rfl, hbl⟩))
            go_ret
            exact ⟨by rw [HRES.out]; rfl, hbl⟩
        · have HRES := Lib.hid (show tRootP n u = 2 from HP2.out qy (fun q => q3 q.2.2.1))
          have t0 : ((x0 : Int) != 1) = false := by simp; omega
          have t2 : ((x2 : Int) != (n : Int)) = false := by simp; omega
          have t3 : ((x3 : Int) != 0) = true := by simp; omega
          have ty : ((y : Int) != 0) = false := by simp; omega
          go_enter Tryz.func38, Tryz.ntmps38
          go_wp2_with (go_at_call 88; refine (HBS.out _ HR.out).mono ?_; rintro e w' ⟨rfl, rfl⟩)
          go_ret
          exact ⟨by rw [HRES.out]; rfl, Below.refl _ _⟩
      · have HRES := Lib.hid (show tRootP n u = 2 from HP2.out qy (fun q => q2 q.2.1))
        have t0 : ((x0 : Int) != 1) = false := by simp; omega
        have t2 : ((x2 : Int) != (n : Int)) = true := by simp; omega
        have ty : ((y : Int) != 0) = false := by simp; omega
        go_enter Tryz.func38, Tryz.ntmps38
        go_wp2_with (go_at_call 88; refine (HBS.out _ HR.out).mono ?_; rintro e w' ⟨rfl, rfl⟩)
        go_ret
        exact ⟨by rw [HRES.out]; rfl, Below.refl _ _⟩
    · have HRES := Lib.hid (show tRootP n u = 2 from HP2.out qy (fun q => q0 q.1))
      have t0 : ((x0 : Int) != 1) = true := by simp; omega
      have ty : ((y : Int) != 0) = false := by simp; omega
      go_enter Tryz.func38, Tryz.ntmps38
      go_wp2_with (go_at_call 88; refine (HBS.out _ HR.out).mono ?_; rintro e w' ⟨rfl, rfl⟩)
      go_ret
      exact ⟨by rw [HRES.out]; rfl, Below.refl _ _⟩
  · have HRES := Lib.hid (show tRootP n u = 1 from HP1.out qy)
    have ty : ((y : Int) != 0) = true := by simp; omega
    go_enter Tryz.func38, Tryz.ntmps38
    go_wp2_with (go_at_call 88; refine (HBS.out _ HR.out).mono ?_; rintro e w' ⟨rfl, rfl⟩)
    go_ret
    exact ⟨by rw [HRES.out]; rfl, Below.refl _ _⟩
end Go.Proofs.YtiefcgmghkkbmaaGreatDoor
