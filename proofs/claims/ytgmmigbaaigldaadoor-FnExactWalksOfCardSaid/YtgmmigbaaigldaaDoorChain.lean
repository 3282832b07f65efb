/-
  Disks of chains: the layout.
-/
import Derived.Test.YtgmmigbaaigldaaDoorCrc
import Derived.Test.YtgmmigbaaigldaaDoorFmt
namespace Go.Proofs.YtgmmigbaaigldaaDoor
open Go Go.ChangeShapes Go.WideShapes Go.ChangeAt Go.RowKit lib
set_option linter.unusedVariables false
set_option maxRecDepth 100000
def entsN (n : Nat) : Nat := min 16 (n / 8)
def dirN (n z : Nat) : Nat := 1 + (n + z - 1) / z
def dataN (n z : Nat) : Nat := dirN n z + (entsN n * 12 + z - 1) / z
def layV (n z e d t : Nat) : Value := .agg #[.int .i64 n, .int .i64 z, .int .i64 e, .int .i64 d, .int .i64 t]
/-- a layout that a disk may have -/
structure LayOk (n z : Nat) : Prop where
  lo : 8 ≤ n
  hi : n ≤ 128
  sz : z = 8 ∨ z = 16 ∨ z = 32
/-- the quotients of a layout, opaque -/
theorem lay_parts {n z : Nat} (h : LayOk n z) : ∃ D T : Nat, D ≤ 17 ∧ T ≤ 24 ∧ ((n : Int) + z - 1) / z = D ∧ ((entsN n : Int) * 12 + z - 1) / z = T ∧ dirN n z = 1 + D ∧ dataN n z = 1 + D + T ∧ 0 < z ∧ z ≤ 32 ∧ entsN n ≤ 16 ∧ min (16 : Int) ((n : Int) / 8) = entsN n := by
  obtain ⟨h1, h2, h3⟩ := h
  obtain ⟨E, hE⟩ : ∃ E, E = entsN n := ⟨_, rfl⟩
  have hE' : E ≤ 16 := by rw [hE]; unfold entsN; omega
  have hm : min (16 : Int) ((n : Int) / 8) = (E : Int) := by rw [hE]; unfold entsN; omega
  unfold dataN dirN
  rw [← hE]
  rcases h3 with rfl | rfl | rfl <;> exact ⟨_, _, by omega, by omega, by omega, by omega, rfl, rfl, by omega, by omega, by omega, hm⟩
theorem ceiling_any (x y r : Int) (w : World) (hr : (x + y - 1) / y = r) (h0 : 0 ≤ x) (hx : x ≤ 1048576) (hy : 0 < y) (hy' : y ≤ 1048576) : Calls Tryd.prog 49 #[.int .i64 x, .int .i64 y] w fun e w' => e = .returned (.int .i64 r) ∧ w = w' := by
  go_enter Tryd.func49, Tryd.ntmps49
  go_wp2
  go_ret
  exact ⟨ret_int hr, rfl⟩
theorem l00Min_any (x y : Int) (w : World) : Calls Tryd.prog 89 #[.int .i64 x, .int .i64 y] w fun e w' => e = .returned (.int .i64 (min x y)) ∧ w = w' := by
  go_enter Tryd.func89, Tryd.ntmps89
  go_wp2
  all_goals go_ret
  all_goals exact ⟨ret_int (by omega), rfl⟩
set_option maxHeartbeats 1000000 in
theorem chainLayout_any (n z : Nat) (w : World) (h : LayOk n z) : Calls Tryd.prog 65 #[.int .i64 n, .int .i64 z] w fun e w' => e = .returned (layV n z (entsN n) (dirN n z) (dataN n z)) ∧ Below w.heap.size w w' := by
  obtain ⟨D, T, hD, hT, eD, eT, d1, d2, z0, z1, hE, hm⟩ := lay_parts h
  obtain ⟨h1, h2, h3⟩ := h
  rw [d1, d2]
  clear d1 d2 h3
  generalize entsN n = E at hE eT hm ⊢
  obtain ⟨q, hq⟩ : ∃ q : Int, (n : Int) / 8 = q := ⟨_, rfl⟩
  have hq0 : 0 ≤ q := by omega
  rw [hq] at hm
  have h12 : IntKind.i64.wrap ((E : Int) * 12) = (E : Int) * 12 := by rw [IntKind.wrap_i64]; omega
  have h192 : IntKind.i64.wrap 192 = 192 := by decide
  have hdt : IntKind.i64.wrap (1 + (D : Int) + T) = 1 + (D : Int) + T := by rw [IntKind.wrap_i64]; omega
  by_cases hlt : q < 16
  · obtain rfl : q = E := by omega
    clear hm
    go_enter Tryd.func65, Tryd.ntmps65
    go_wp2_with (go_at_call 49; refine (ceiling_any _ _ D _ (by first | omega | exact eD) (by omega) (by omega) (by omega) (by omega)).mono ?_; rintro e w' ⟨rfl, rfl⟩)
    go_region_with (go_at_call 49; refine (ceiling_any _ _ T _ (by first | exact eT | exact eT') (by omega) (by omega) (by omega) (by omega)).mono ?_; rintro e w' ⟨rfl, rfl⟩)
    all_goals go_wp2
    all_goals exact bodyPost_ret (v := layV n z E (1 + D) (1 + D + T)) (by simp [results, Tryd.results65, go_sem, layV]) rfl ⟨rfl, by
      repeat (first | exact Below.refl _ _ | refine Below.setCell ?_ (by simp) _ | refine Below.alloc ?_ (by simp <;> omega) _ | refine Below.drewN ?_ _)⟩
  · obtain rfl : E = 16 := by omega
    have eT' : (192 + (z : Int) - 1) / z = T := by simpa using eT
    clear h12 eT hm
    go_enter Tryd.func65, Tryd.ntmps65
    go_wp2_with (go_at_call 49; refine (ceiling_any _ _ D _ (by first | omega | exact eD) (by omega) (by omega) (by omega) (by omega)).mono ?_; rintro e w' ⟨rfl, rfl⟩)
    go_region_with (go_at_call 49; refine (ceiling_any _ _ T _ (by first | exact eT | exact eT') (by omega) (by omega) (by omega) (by omega)).mono ?_; rintro e w' ⟨rfl, rfl⟩)
    all_goals go_wp2
    all_goals exact bodyPost_ret (v := layV n z 16 (1 + D) (1 + D + T)) (by simp [results, Tryd.results65, go_sem, layV]) rfl ⟨rfl, by
      repeat (first | exact Below.refl _ _ | refine Below.setCell ?_ (by simp) _ | refine Below.alloc ?_ (by simp <;> omega) _ | refine Below.drewN ?_ _)⟩
set_option maxHeartbeats 1000000 in
theorem l16Sizes_any (n z : Nat) (w : World) (h : LayOk n z) : Calls Tryd.prog 60 #[.int .i64 n, .int .i64 z] w fun e w' => e = .returned (layV n z (entsN n) (dirN n z) (dataN n z)) ∧ Below w.heap.size w w' := by
  obtain ⟨D, T, hD, hT, eD, eT, d1, d2, z0, z1, hE, hm⟩ := lay_parts h
  obtain ⟨h1, h2, h3⟩ := h
  rw [d1, d2]
  clear d1 d2 h3
  generalize entsN n = E at hE eT hm ⊢
  obtain ⟨q, hq⟩ : ∃ q : Int, (n : Int) / 8 = q := ⟨_, rfl⟩
  have hq0 : 0 ≤ q := by omega
  rw [hq] at hm
  have h12 : IntKind.i64.wrap ((E : Int) * 12) = (E : Int) * 12 := by rw [IntKind.wrap_i64]; omega
  have h192 : IntKind.i64.wrap 192 = 192 := by decide
  have hdt : IntKind.i64.wrap (1 + (D : Int) + T) = 1 + (D : Int) + T := by rw [IntKind.wrap_i64]; omega
  by_cases hlt : q < 16
  · obtain rfl : q = E := by omega
    go_enter Tryd.func60, Tryd.ntmps60
    go_wp2_with (go_at_call 89; refine (l00Min_any _ _ _).mono ?_; rintro e w' ⟨rfl, rfl⟩)
    go_region
    all_goals go_wp2
    all_goals exact bodyPost_ret (v := layV n z E (1 + D) (1 + D + T)) (by simp [results, Tryd.results60, go_sem, layV]) rfl ⟨rfl, by
      repeat (first | exact Below.refl _ _ | refine Below.setCell ?_ (by simp) _ | refine Below.alloc ?_ (by simp <;> omega) _ | refine Below.drewN ?_ _)⟩
  · obtain rfl : E = 16 := by omega
    have eT' : (192 + (z : Int) - 1) / z = T := by simpa using eT
    clear h12 eT hm
    have hm' : min (16 : Int) q = 16 := by omega
    go_enter Tryd.func60, Tryd.ntmps60
    go_wp2_with (go_at_call 89; refine (l00Min_any _ _ _).mono ?_; rintro e w' ⟨rfl, rfl⟩)
    go_region
    all_goals go_wp2
    all_goals exact bodyPost_ret (v := layV n z 16 (1 + D) (1 + D + T)) (by simp [results, Tryd.results60, go_sem, layV]) rfl ⟨rfl, by
      repeat (first | exact Below.refl _ _ | refine Below.setCell ?_ (by simp) _ | refine Below.alloc ?_ (by simp <;> omega) _ | refine Below.drewN ?_ _)⟩
end Go.Proofs.YtgmmigbaaigldaaDoor
