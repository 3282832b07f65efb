/-
  Lists of files: marks written and marks held.
-/
import Derived.Test.YtigemmahnmcbdaaBase
namespace Go.Proofs.Ytigemmahnmcbdaa
open Go Go.ChangeShapes Go.WideShapes Go.ChangeAt Go.RowKit lib
set_option linter.unusedVariables false
set_option maxRecDepth 100000
theorem markFileS_any (A : Option Addr) (n c B : Nat) (k0 : Int) (xs : List Value) (w : World) (hn : n ≤ 1048576) (h0 : 1 ≤ k0) (h1 : k0 ≤ 4194304) (hown : w.ownsRow B 31 2 (.slice A n c) n xs) :
    Calls Try.prog 7 #[.slice A n c, .int .i64 k0] w fun e w' => e = .returned (.int .i64 (k0 + (n * 2 : Nat))) ∧ w'.ownsRow B 31 2 (.slice A n c) n ((List.range (n * 2)).map fun (i : Nat) => Value.string (mt (k0 + i).toNat)) ∧ w.grownBy w' (Value.slice A n c).ownBlock := by
  go_enter Try.func7, Try.ntmps7
  go_wp2
  go_loopw [1, 5] (fun s1 s5 wr => ∃ k : Nat, k ≤ n ∧ s5 = .int .i64 k ∧ s1 = .int .i64 (k0 + (k * 2 : Nat)) ∧ wr.ownsRow B 31 2 (.slice A n c) n (((List.range (k * 2)).map fun (i : Nat) => Value.string (mt (k0 + i).toNat)) ++ xs.drop (k * 2)) ∧ w.grownBy wr (Value.slice A n c).ownBlock) (fun _ i _ => n - (intOf i).toNat)
  case atStart => exact ⟨0, by omega, rfl, by simp, by simpa using hown, only_refl _ _⟩
  case round =>
    obtain ⟨k, hk, rfl, rfl, ho, hg⟩ := hrel
    have hz := hg.size
    by_cases hlt : k < n
    · obtain ⟨g, cap, hv, hbg, hgl⟩ := ho.form (by omega)
      injection hv with hA _ hC
      subst hA hC
      have hxl := hown.1
      obtain ⟨x, hx⟩ : ∃ x, x = mt (k0 + (k * 2 : Nat)).toNat := ⟨_, rfl⟩
      obtain ⟨y, hy⟩ : ∃ y, y = mt (k0 + (k * 2 : Nat) + 1).toNat := ⟨_, rfl⟩
      have N1 := Lib.hid (set_next ((List.range (k * 2)).map fun (i : Nat) => Value.string (mt (k0 + i).toNat)) xs (.string x) (k * 2) (by simp) (by omega))
      have N2 := Lib.hid (set_next (((List.range (k * 2)).map fun (i : Nat) => Value.string (mt (k0 + i).toNat)) ++ [.string x]) xs (.string y) (k * 2 + 1) (by simp) (by omega))
      have HL := Lib.hid (show (((List.range (k * 2)).map fun (i : Nat) => Value.string (mt (k0 + i).toNat)) ++ [.string x]) ++ [.string y] = (List.range ((k + 1) * 2)).map fun (i : Nat) => Value.string (mt (k0 + i).toNat) by
        rw [show (k + 1) * 2 = k * 2 + 1 + 1 by omega, List.range_succ, List.range_succ, hx, hy]
        simp [Int.add_assoc])
      have HO := Lib.hid ho
      clear ho hown
      have HX := Lib.hid hx
      have HY := Lib.hid hy
      clear hx hy
      have hv0 : k0 + ((k * 2 : Nat) : Int) ≤ 8388608 ∧ 1 ≤ k0 + ((k * 2 : Nat) : Int) := by omega
      have HNX := Lib.hid (show k0 + (((k + 1) * 2 : Nat) : Int) = k0 + ((k * 2 : Nat) : Int) + 1 + 1 by omega)
      generalize k0 + ((k * 2 : Nat) : Int) = v at *
      go_wp2_with fail
      refine (markText_any v _ (by omega) (by omega)).mono ?_
      rw [← HX.out]
      rintro e w1 ⟨rfl, hb1⟩
      have HO1 := Lib.hid (own_below HO.out hb1)
      obtain ⟨⟨u0, hu0⟩, hf0⟩ := own_cell (i := k * 2) HO1.out (by omega)
      have HO2 := Lib.hid (N1.out ▸ own_set (i := k * 2) HO1.out (by omega) (.string x))
      have HG1 := Lib.hid (only_setCell (p := ⟨g, k * 2, none⟩) (only_trans hg (only_below hb1 (Nat.le_refl _) _)) (.inl rfl) (.string x))
      have hw1 := hb1.size
      clear hb1 hg
      go_wp2_with fail
      refine (markText_any (v + 1) _ (by omega) (by omega)).mono ?_
      rw [← HY.out]
      rintro e w2 ⟨rfl, hb2⟩
      have HO3 := Lib.hid (own_below HO2.out hb2)
      obtain ⟨⟨u1, hu1⟩, hf1⟩ := own_cell (i := k * 2 + 1) HO3.out (by omega)
      go_wp2_with fail
      go_roundw
      case rel =>
        refine ⟨k + 1, by omega, by go_num, by rw [HNX.out], ?_, only_setCell (p := ⟨g, k * 2 + 1, none⟩) (only_trans HG1.out (only_below hb2 (Nat.le_refl _) _)) (.inl rfl) _⟩
        have h := own_set (i := k * 2 + 1) HO3.out (by omega) (.string y)
        rw [N2.out, HL.out] at h
        rw [show (k + 1) * 2 = k * 2 + 1 + 1 by omega] at h ⊢
        simpa using h
      case measure => simp [intOf]; omega
    · go_wp2
      go_ret
      obtain rfl : k = n := by omega
      rw [List.drop_of_length_le (by have := hown.1; omega), List.append_nil] at ho
      exact ⟨rfl, ho, hg⟩
theorem heldFileS_any (A : Option Addr) (n c : Nat) (k0 : Int) (w : World) (hn : n ≤ 1048576) (h0 : 1 ≤ k0) (h1 : k0 ≤ 4194304) (hs : Sl w w.heap.size A (n * 2) (fun i => .string (mt (k0 + i).toNat))) :
    Calls Try.prog 8 #[.slice A n c, .int .i64 k0] w fun e w' => e = .returned (.int .i64 (k0 + (n * 2 : Nat))) ∧ Below w.heap.size w w' := by
  go_enter Try.func8, Try.ntmps8
  go_wp2
  go_loopw [1, 5] (fun s1 s5 wr => ∃ k : Nat, k ≤ n ∧ s5 = .int .i64 k ∧ s1 = .int .i64 (k0 + (k * 2 : Nat)) ∧ Below w.heap.size w wr) (fun _ i _ => n - (intOf i).toNat)
  case atStart => exact ⟨0, by omega, rfl, by simp, Below.refl _ _⟩
  case round =>
    obtain ⟨k, hk, rfl, rfl, hb⟩ := hrel
    have hz := hb.size
    by_cases hlt : k < n
    · obtain ⟨b, o, rfl, hbb, h0', h1'⟩ := (hs.below hb).two hlt
      rw [show ((k * 2 + 1 : Nat) : Int) = ((k * 2 : Nat) : Int) + 1 by omega, ← Int.add_assoc] at h1'
      have hv0 : k0 + ((k * 2 : Nat) : Int) ≤ 8388608 ∧ 1 ≤ k0 + ((k * 2 : Nat) : Int) := by omega
      have HNX := Lib.hid (show k0 + (((k + 1) * 2 : Nat) : Int) = k0 + ((k * 2 : Nat) : Int) + 1 + 1 by omega)
      generalize k0 + ((k * 2 : Nat) : Int) = v at *
      obtain ⟨x, hx⟩ : ∃ x, x = mt v.toNat := ⟨_, rfl⟩
      obtain ⟨y, hy⟩ : ∃ y, y = mt (v + 1).toNat := ⟨_, rfl⟩
      simp only [← hx] at h0'
      simp only [← hy] at h1'
      have HX := Lib.hid hx
      have HY := Lib.hid hy
      clear hx hs hy
      go_wp2_with fail
      go_region_held3 (fun w' => w'.cell? ⟨b, o + k * 2, none⟩ = some (.string x)) (first | go_keep | exact hc1) ((go_at_call 19; refine (markText_any v _ (by omega) (by omega)).mono ?_; rw [← HX.out]; rintro e w1 ⟨rfl, hb1⟩; have hc1 : w1.cell? ⟨b, o + k * 2, none⟩ = some (.string x) := (hb1.cell (p := ⟨b, o + k * 2, none⟩) (Nat.lt_of_lt_of_le hbb hz)).trans h0'))
      have HB1 := Lib.hid (hb.drew.trans (hb1.mono hz))
      have hz1 := HB1.out.size
      have k1 : w1.cell? ⟨b, o + k * 2 + 1, none⟩ = some (.string y) := (hb1.cell (p := ⟨b, o + k * 2 + 1, none⟩) (Nat.lt_of_lt_of_le hbb hz)).trans h1'
      clear hb1 h0' h1' hc1
      go_wp2_with fail
      go_region_held3 (fun w' => w'.cell? ⟨b, o + k * 2 + 1, none⟩ = some (.string y)) (first | go_keep | exact hc2) ((go_at_call 19; refine (markText_any (v + 1) _ (by omega) (by omega)).mono ?_; rw [← HY.out]; rintro e w2 ⟨rfl, hb2⟩; have hc2 : w2.cell? ⟨b, o + k * 2 + 1, none⟩ = some (.string y) := (hb2.cell (p := ⟨b, o + k * 2 + 1, none⟩) (Nat.lt_of_lt_of_le hbb hz1)).trans k1))
      go_wp2
      go_roundw
      case rel => exact ⟨k + 1, by omega, by go_num, by rw [HNX.out], HB1.out.drew.trans (hb2.mono hz1)⟩
      case measure => simp [intOf]; omega
    · go_wp2
      go_ret
      obtain rfl : k = n := by omega
      exact ⟨rfl, hb⟩
end Go.Proofs.Ytigemmahnmcbdaa
