/-
  Lists of files: marks written and marks held.
-/
import Derived.Test.YtpklhedcjpfgdaaBase
namespace Go.Proofs.Ytpklhedcjpfgdaa
open Go Go.ChangeShapes Go.WideShapes Go.ChangeAt Go.RowKit lib
set_option linter.unusedVariables false
set_option maxRecDepth 100000
theorem toFileS_own (A : Option Addr) (n c : Nat) (s : Nat → ByteArray) (w : World) (hn : n ≤ 1048576) (hs : Sl w w.heap.size A (n * 2) (fun i => .string (s i))) :
    Calls Try.prog 13 #[.slice A n c] w fun e w' => e = .returned (.slice (some ⟨w.heap.size, 0, none⟩) n n) ∧ w'.ownsRow w.heap.size 46 2 (.slice (some ⟨w.heap.size, 0, none⟩) n n) n ((List.range (n * 2)).map fun (i : Nat) => Value.string (s i)) ∧ Below w.heap.size w w' := by
  obtain ⟨i0, hi, hz0, hz1, hz2⟩ := info_parts info45
  have hmk : ∀ u : World, (Instr.makeSlice 22 (.int .i64 (n : Int)) (.int .i64 (n : Int))).run Try.prog u =
      .ok (.slice (some ⟨u.heap.size, 0, none⟩) n n) (u.alloc (.cells (madeCells #[.string .empty, .string .empty] (n * 2)) 46)) := fun u => by
    have h := run_make (P := Try.prog) u 22 46 i0 (.agg #[.string .empty, .string .empty]) Try.underlying22 hi hz0 .i64 .i64 (n : Int) (n : Int) (by omega) (Int.le_refl _) (by rw [hz2]; omega) (by omega)
    simpa [hz1, Value.cells] using h
  go_enter Try.func13, Try.ntmps13
  go_wp2
  go_loopw [4] (fun s4 wr => ∃ (k : Nat) (cur : Array Value), k ≤ n ∧ s4 = .int .i64 k ∧ Rw wr w.heap.size 46 cur ∧ cur.size = n * 2 ∧ (∀ i, i < k * 2 → cur[i]? = some (.string (s i))) ∧ Below w.heap.size w wr) (fun i _ => n - (intOf i).toNat)
  case atStart => exact ⟨0, _, by omega, rfl, Rw.new _ _ _, size_madeCells _ _, fun i hi => by omega, (Below.refl _ _).alloc (Nat.le_refl _) _⟩
  case round =>
    obtain ⟨k, cur, hk, rfl, hrw, hsz, hcur, hb⟩ := hrel
    have hz := hb.size
    have hlt0 := hrw.lt
    by_cases hlt : k < n
    · obtain ⟨b, o, rfl, hbb, h0, h1⟩ := (hs.below hb).two hlt
      have hnext := two_more (x := .string (s (k * 2))) (y := .string (s (k * 2 + 1))) (f := fun i => .string (s i)) hcur (by omega) rfl rfl
      have HN := Lib.hid hnext
      obtain ⟨x, hx⟩ : ∃ x, x = s (k * 2) := ⟨_, rfl⟩
      obtain ⟨y, hy⟩ : ∃ y, y = s (k * 2 + 1) := ⟨_, rfl⟩
      have HX := Lib.hid hx
      have HY := Lib.hid hy
      simp only [← hx, ← hy] at h0 h1
      clear hx hy hs hmk hi hz0 hz1 hz2 hcur hnext
      have hc0 : ∃ u, wr.cell? ⟨w.heap.size, k * 2, none⟩ = some u := ⟨_, (hrw.cell _).trans (Array.getElem?_eq_getElem (by omega))⟩
      have hc1 : ∃ u, wr.cell? ⟨w.heap.size, k * 2 + 1, none⟩ = some u := ⟨_, (hrw.cell _).trans (Array.getElem?_eq_getElem (by omega))⟩
      obtain ⟨u0, hc0⟩ := hc0
      obtain ⟨u1, hc1⟩ := hc1
      have hf0 := hrw.frozen (k * 2)
      have hf1 := hrw.frozen (k * 2 + 1)
      go_wp2_with (go_at_call 34; refine (toFile_any x y _).mono ?_; rintro e w1 ⟨rfl, hb1⟩; obtain ⟨hcc, hff⟩ := bcell hb1)
      go_roundw
      case rel =>
        refine ⟨k + 1, _, by omega, by go_num, ((hrw.below hb1 hlt0).set _ _).set _ _, by simpa using hsz, ?_, ((hb.trans (hb1.mono hz)).setCell (Nat.le_refl _) _).setCell (Nat.le_refl _) _⟩
        have h := HN.out
        rw [← HX.out, ← HY.out] at h
        exact h
      case measure => simp [intOf]; omega
    · obtain rfl : k = n := by omega
      go_wp2
      go_ret
      refine ⟨rfl, ⟨by simp, .inr ⟨w.heap.size, k, cur, rfl, Nat.le_refl _, hrw, Nat.le_refl _, by simp only [maxLen]; omega, hsz, ?_⟩⟩, hb⟩
      apply List.ext_getElem
      · simp; omega
      · intro i h1 h2
        simp at h2
        have := hcur i h2
        rw [Array.getElem?_eq_getElem (by omega)] at this
        simp at this ⊢
        exact this
theorem markFileS_any (A : Option Addr) (n c B : Nat) (k0 : Int) (xs : List Value) (w : World) (hn : n ≤ 1048576) (h0 : 1 ≤ k0) (h1 : k0 ≤ 4194304) (hown : w.ownsRow B 46 2 (.slice A n c) n xs) :
    Calls Try.prog 9 #[.slice A n c, .int .i64 k0] w fun e w' => e = .returned (.int .i64 (k0 + (n * 2 : Nat))) ∧ w'.ownsRow B 46 2 (.slice A n c) n ((List.range (n * 2)).map fun (i : Nat) => Value.string (mt (k0 + i).toNat)) ∧ w.grownBy w' (Value.slice A n c).ownBlock := by
  go_enter Try.func9, Try.ntmps9
  go_wp2
  go_loopw [1, 5] (fun s1 s5 wr => ∃ k : Nat, k ≤ n ∧ s5 = .int .i64 k ∧ s1 = .int .i64 (k0 + (k * 2 : Nat)) ∧ wr.ownsRow B 46 2 (.slice A n c) n (((List.range (k * 2)).map fun (i : Nat) => Value.string (mt (k0 + i).toNat)) ++ xs.drop (k * 2)) ∧ w.grownBy wr (Value.slice A n c).ownBlock) (fun _ i _ => n - (intOf i).toNat)
  case atStart => exact ⟨0, by omega, rfl, by simp, by simpa using hown, only_refl _ _⟩
  case round =>
    obtain ⟨k, hk, rfl, rfl, ho, hg⟩ := hrel
    have hz := hg.size
    by_cases hlt : k < n
    · obtain ⟨g, cap, hv, hbg, hgl⟩ := ho.form (by omega)
      injection hv with hA _ hC
      subst hA hC
      have hxl := hown.1
      obtain ⟨x, hx⟩ : ∃ x, x = mt (k0 + (k * 2 : Nat)).toNat := ⟨_, rfl⟩
      obtain ⟨y, hy⟩ : ∃ y, y = mt (k0 + (k * 2 : Nat) + 1).toNat := ⟨_, rfl⟩
      have N1 := Lib.hid (set_next ((List.range (k * 2)).map fun (i : Nat) => Value.string (mt (k0 + i).toNat)) xs (.string x) (k * 2) (by simp) (by omega))
      have N2 := Lib.hid (set_next (((List.range (k * 2)).map fun (i : Nat) => Value.string (mt (k0 + i).toNat)) ++ [.string x]) xs (.string y) (k * 2 + 1) (by simp) (by omega))
      have HL := Lib.hid (show (((List.range (k * 2)).map fun (i : Nat) => Value.string (mt (k0 + i).toNat)) ++ [.string x]) ++ [.string y] = (List.range ((k + 1) * 2)).map fun (i : Nat) => Value.string (mt (k0 + i).toNat) by
        rw [show (k + 1) * 2 = k * 2 + 1 + 1 by omega, List.range_succ, List.range_succ, hx, hy]
        simp [Int.add_assoc])
      have HO := Lib.hid ho
      clear ho hown
      have HX := Lib.hid hx
      have HY := Lib.hid hy
      clear hx hy
      have hv0 : k0 + ((k * 2 : Nat) : Int) ≤ 8388608 ∧ 1 ≤ k0 + ((k * 2 : Nat) : Int) := by omega
      have HNX := Lib.hid (show k0 + (((k + 1) * 2 : Nat) : Int) = k0 + ((k * 2 : Nat) : Int) + 1 + 1 by omega)
      generalize k0 + ((k * 2 : Nat) : Int) = v at *
      go_wp2_with fail
      refine (markText_any v _ (by omega) (by omega)).mono ?_
      rw [← HX.out]
      rintro e w1 ⟨rfl, hb1⟩
      have HO1 := Lib.hid (own_below HO.out hb1)
      obtain ⟨⟨u0, hu0⟩, hf0⟩ := own_cell (i := k * 2) HO1.out (by omega)
      have HO2 := Lib.hid (N1.out ▸ own_set (i := k * 2) HO1.out (by omega) (.string x))
      have HG1 := Lib.hid (only_setCell (p := ⟨g, k * 2, none⟩) (only_trans hg (only_below hb1 (Nat.le_refl _) _)) (.inl rfl) (.string x))
      have hw1 := hb1.size
      clear hb1 hg
      go_wp2_with fail
      refine (markText_any (v + 1) _ (by omega) (by omega)).mono ?_
      rw [← HY.out]
      rintro e w2 ⟨rfl, hb2⟩
      have HO3 := Lib.hid (own_below HO2.out hb2)
      obtain ⟨⟨u1, hu1⟩, hf1⟩ := own_cell (i := k * 2 + 1) HO3.out (by omega)
      go_wp2_with fail
      go_roundw
      case rel =>
        refine ⟨k + 1, by omega, by go_num, by rw [HNX.out], ?_, only_setCell (p := ⟨g, k * 2 + 1, none⟩) (only_trans HG1.out (only_below hb2 (Nat.le_refl _) _)) (.inl rfl) _⟩
        have h := own_set (i := k * 2 + 1) HO3.out (by omega) (.string y)
        rw [N2.out, HL.out] at h
        rw [show (k + 1) * 2 = k * 2 + 1 + 1 by omega] at h ⊢
        simpa using h
      case measure => simp [intOf]; omega
    · go_wp2
      go_ret
      obtain rfl : k = n := by omega
      rw [List.drop_of_length_le (by have := hown.1; omega), List.append_nil] at ho
      exact ⟨rfl, ho, hg⟩
theorem heldFileS_any (A : Option Addr) (n c : Nat) (k0 : Int) (w : World) (hn : n ≤ 1048576) (h0 : 1 ≤ k0) (h1 : k0 ≤ 4194304) (hs : Sl w w.heap.size A (n * 2) (fun i => .string (mt (k0 + i).toNat))) :
    Calls Try.prog 10 #[.slice A n c, .int .i64 k0] w fun e w' => e = .returned (.int .i64 (k0 + (n * 2 : Nat))) ∧ Below w.heap.size w w' := by
  go_enter Try.func10, Try.ntmps10
  go_wp2
  go_loopw [1, 5] (fun s1 s5 wr => ∃ k : Nat, k ≤ n ∧ s5 = .int .i64 k ∧ s1 = .int .i64 (k0 + (k * 2 : Nat)) ∧ Below w.heap.size w wr) (fun _ i _ => n - (intOf i).toNat)
  case atStart => exact ⟨0, by omega, rfl, by simp, Below.refl _ _⟩
  case round =>
    obtain ⟨k, hk, rfl, rfl, hb⟩ := hrel
    have hz := hb.size
    by_cases hlt : k < n
    · obtain ⟨b, o, rfl, hbb, h0', h1'⟩ := (hs.below hb).two hlt
      rw [show ((k * 2 + 1 : Nat) : Int) = ((k * 2 : Nat) : Int) + 1 by omega, ← Int.add_assoc] at h1'
      have hv0 : k0 + ((k * 2 : Nat) : Int) ≤ 8388608 ∧ 1 ≤ k0 + ((k * 2 : Nat) : Int) := by omega
      have HNX := Lib.hid (show k0 + (((k + 1) * 2 : Nat) : Int) = k0 + ((k * 2 : Nat) : Int) + 1 + 1 by omega)
      generalize k0 + ((k * 2 : Nat) : Int) = v at *
      obtain ⟨x, hx⟩ : ∃ x, x = mt v.toNat := ⟨_, rfl⟩
      obtain ⟨y, hy⟩ : ∃ y, y = mt (v + 1).toNat := ⟨_, rfl⟩
      simp only [← hx] at h0'
      simp only [← hy] at h1'
      have HX := Lib.hid hx
      have HY := Lib.hid hy
      clear hx hs hy
      go_wp2_with fail
      go_region_held3 (fun w' => w'.cell? ⟨b, o + k * 2, none⟩ = some (.string x)) (first | go_keep | exact hc1) ((go_at_call 32; refine (markText_any v _ (by omega) (by omega)).mono ?_; rw [← HX.out]; rintro e w1 ⟨rfl, hb1⟩; have hc1 : w1.cell? ⟨b, o + k * 2, none⟩ = some (.string x) := (hb1.cell (p := ⟨b, o + k * 2, none⟩) (Nat.lt_of_lt_of_le hbb hz)).trans h0'))
      have HB1 := Lib.hid (hb.drew.trans (hb1.mono hz))
      have hz1 := HB1.out.size
      have k1 : w1.cell? ⟨b, o + k * 2 + 1, none⟩ = some (.string y) := (hb1.cell (p := ⟨b, o + k * 2 + 1, none⟩) (Nat.lt_of_lt_of_le hbb hz)).trans h1'
      clear hb1 h0' h1' hc1
      go_wp2_with fail
      go_region_held3 (fun w' => w'.cell? ⟨b, o + k * 2 + 1, none⟩ = some (.string y)) (first | go_keep | exact hc2) ((go_at_call 32; refine (markText_any (v + 1) _ (by omega) (by omega)).mono ?_; rw [← HY.out]; rintro e w2 ⟨rfl, hb2⟩; have hc2 : w2.cell? ⟨b, o + k * 2 + 1, none⟩ = some (.string y) := (hb2.cell (p := ⟨b, o + k * 2 + 1, none⟩) (Nat.lt_of_lt_of_le hbb hz1)).trans k1))
      go_wp2
      go_roundw
      case rel => exact ⟨k + 1, by omega, by go_num, by rw [HNX.out], HB1.out.drew.trans (hb2.mono hz1)⟩
      case measure => simp [intOf]; omega
    · go_wp2
      go_ret
      obtain rfl : k = n := by omega
      exact ⟨rfl, hb⟩
end Go.Proofs.Ytpklhedcjpfgdaa
