/-
  Disks of chains: the layout.
  Disks of chains: the record behind a pointer.
-/
import Derived.Test.YtjbpibapbonkpaaGreatDoorBase
namespace Go.Proofs.YtjbpibapbonkpaaGreatDoor
open Go Go.ChangeShapes Go.WideShapes Go.ChangeAt Go.RowKit lib
set_option linter.unusedVariables false
set_option maxRecDepth 100000
def entsN (n : Nat) : Nat := min 16 (n / 8)
def dirN (n z : Nat) : Nat := 1 + (n + z - 1) / z
def dataN (n z : Nat) : Nat := dirN n z + (entsN n * 12 + z - 1) / z
def layV (n z e d t : Nat) : Value := .agg #[.int .i64 n, .int .i64 z, .int .i64 e, .int .i64 d, .int .i64 t]
/-- a layout that a disk may have -/
structure LayOk (n z : Nat) : Prop where
  lo : 8 ≤ n
  hi : n ≤ 128
  sz : z = 8 ∨ z = 16 ∨ z = 32
/-- the quotients of a layout, opaque -/
theorem lay_parts {n z : Nat} (h : LayOk n z) : ∃ D T : Nat, D ≤ 17 ∧ T ≤ 24 ∧ ((n : Int) + z - 1) / z = D ∧ ((entsN n : Int) * 12 + z - 1) / z = T ∧ dirN n z = 1 + D ∧ dataN n z = 1 + D + T ∧ 0 < z ∧ z ≤ 32 ∧ entsN n ≤ 16 ∧ min (16 : Int) ((n : Int) / 8) = entsN n := by
  obtain ⟨h1, h2, h3⟩ := h
  obtain ⟨E, hE⟩ : ∃ E, E = entsN n := ⟨_, rfl⟩
  have hE' : E ≤ 16 := by rw [hE]; unfold entsN; omega
  have hm : min (16 : Int) ((n : Int) / 8) = (E : Int) := by rw [hE]; unfold entsN; omega
  unfold dataN dirN
  rw [← hE]
  rcases h3 with rfl | rfl | rfl <;> exact ⟨_, _, by omega, by omega, by omega, by omega, rfl, rfl, by omega, by omega, by omega, hm⟩
theorem ceiling_any (x y r : Int) (w : World) (hr : (x + y - 1) / y = r) (h0 : 0 ≤ x) (hx : x ≤ 1048576) (hy : 0 < y) (hy' : y ≤ 1048576) : Calls Tryz.prog 63 #[.int .i64 x, .int .i64 y] w fun e w' => e = .returned (.int .i64 r) ∧ w = w' := by
  go_enter Tryz.func63, Tryz.ntmps63
  go_wp2
  go_ret
  exact ⟨ret_int hr, rfl⟩
theorem l00Min_any (x y : Int) (w : World) : Calls Tryz.prog 52 #[.int .i64 x, .int .i64 y] w fun e w' => e = .returned (.int .i64 (min x y)) ∧ w = w' := by
  go_enter Tryz.func52, Tryz.ntmps52
  go_wp2
  all_goals go_ret
  all_goals exact ⟨ret_int (by omega), rfl⟩
set_option maxHeartbeats 1000000 in
theorem chainLayout_any (n z : Nat) (w : World) (h : LayOk n z) : Calls Tryz.prog 37 #[.int .i64 n, .int .i64 z] w fun e w' => e = .returned (layV n z (entsN n) (dirN n z) (dataN n z)) ∧ Below w.heap.size w w' := by
  obtain ⟨D, T, hD, hT, eD, eT, d1, d2, z0, z1, hE, hm⟩ := lay_parts h
  obtain ⟨h1, h2, h3⟩ := h
  rw [d1, d2]
  clear d1 d2 h3
  generalize entsN n = E at hE eT hm ⊢
  obtain ⟨q, hq⟩ : ∃ q : Int, (n : Int) / 8 = q := ⟨_, rfl⟩
  have hq0 : 0 ≤ q := by omega
  rw [hq] at hm
  have h12 : IntKind.i64.wrap ((E : Int) * 12) = (E : Int) * 12 := by rw [IntKind.wrap_i64]; omega
  have h192 : IntKind.i64.wrap 192 = 192 := by decide
  have hdt : IntKind.i64.wrap (1 + (D : Int) + T) = 1 + (D : Int) + T := by rw [IntKind.wrap_i64]; omega
  by_cases hlt : q < 16
  · obtain rfl : q = E := by omega
    clear hm
    go_enter Tryz.func37, Tryz.ntmps37
    go_wp2_with (go_at_call 63; refine (ceiling_any _ _ D _ (by first | omega | exact eD) (by omega) (by omega) (by omega) (by omega)).mono ?_; rintro e w' ⟨rfl, rfl⟩)
    go_region_with (go_at_call 63; refine (ceiling_any _ _ T _ (by first | exact eT | exact eT') (by omega) (by omega) (by omega) (by omega)).mono ?_; rintro e w' ⟨rfl, rfl⟩)
    all_goals go_wp2
    all_goals exact bodyPost_ret (v := layV n z E (1 + D) (1 + D + T)) (by simp [results, Tryz.results37, go_sem, layV]) rfl ⟨rfl, by
      repeat (first | exact Below.refl _ _ | refine Below.setCell ?_ (by simp) _ | refine Below.alloc ?_ (by simp <;> omega) _ | refine Below.drewN ?_ _)⟩
  · obtain rfl : E = 16 := by omega
    have eT' : (192 + (z : Int) - 1) / z = T := by simpa using eT
    clear h12 eT hm
    go_enter Tryz.func37, Tryz.ntmps37
    go_wp2_with (go_at_call 63; refine (ceiling_any _ _ D _ (by first | omega | exact eD) (by omega) (by omega) (by omega) (by omega)).mono ?_; rintro e w' ⟨rfl, rfl⟩)
    go_region_with (go_at_call 63; refine (ceiling_any _ _ T _ (by first | exact eT | exact eT') (by omega) (by omega) (by omega) (by omega)).mono ?_; rintro e w' ⟨rfl, rfl⟩)
    all_goals go_wp2
    all_goals exact bodyPost_ret (v := layV n z 16 (1 + D) (1 + D + T)) (by simp [results, Tryz.results37, go_sem, layV]) rfl ⟨rfl, by
      repeat (first | exact Below.refl _ _ | refine Below.setCell ?_ (by simp) _ | refine Below.alloc ?_ (by simp <;> omega) _ | refine Below.drewN ?_ _)⟩
set_option maxHeartbeats 1000000 in
theorem l16Sizes_any (n z : Nat) (w : World) (h : LayOk n z) : Calls Tryz.prog 25 #[.int .i64 n, .int .i64 z] w fun e w' => e = .returned (layV n z (entsN n) (dirN n z) (dataN n z)) ∧ Below w.heap.size w w' := by
  obtain ⟨D, T, hD, hT, eD, eT, d1, d2, z0, z1, hE, hm⟩ := lay_parts h
  obtain ⟨h1, h2, h3⟩ := h
  rw [d1, d2]
  clear d1 d2 h3
  generalize entsN n = E at hE eT hm ⊢
  obtain ⟨q, hq⟩ : ∃ q : Int, (n : Int) / 8 = q := ⟨_, rfl⟩
  have hq0 : 0 ≤ q := by omega
  rw [hq] at hm
  have h12 : IntKind.i64.wrap ((E : Int) * 12) = (E : Int) * 12 := by rw [IntKind.wrap_i64]; omega
  have h192 : IntKind.i64.wrap 192 = 192 := by decide
  have hdt : IntKind.i64.wrap (1 + (D : Int) + T) = 1 + (D : Int) + T := by rw [IntKind.wrap_i64]; omega
  by_cases hlt : q < 16
  · obtain rfl : q = E := by omega
    go_enter Tryz.func25, Tryz.ntmps25
    go_wp2_with (go_at_call 52; refine (l00Min_any _ _ _).mono ?_; rintro e w' ⟨rfl, rfl⟩)
    go_region
    all_goals go_wp2
    all_goals exact bodyPost_ret (v := layV n z E (1 + D) (1 + D + T)) (by simp [results, Tryz.results25, go_sem, layV]) rfl ⟨rfl, by
      repeat (first | exact Below.refl _ _ | refine Below.setCell ?_ (by simp) _ | refine Below.alloc ?_ (by simp <;> omega) _ | refine Below.drewN ?_ _)⟩
  · obtain rfl : E = 16 := by omega
    have eT' : (192 + (z : Int) - 1) / z = T := by simpa using eT
    clear h12 eT hm
    have hm' : min (16 : Int) q = 16 := by omega
    go_enter Tryz.func25, Tryz.ntmps25
    go_wp2_with (go_at_call 52; refine (l00Min_any _ _ _).mono ?_; rintro e w' ⟨rfl, rfl⟩)
    go_region
    all_goals go_wp2
    all_goals exact bodyPost_ret (v := layV n z 16 (1 + D) (1 + D + T)) (by simp [results, Tryz.results25, go_sem, layV]) rfl ⟨rfl, by
      repeat (first | exact Below.refl _ _ | refine Below.setCell ?_ (by simp) _ | refine Below.alloc ?_ (by simp <;> omega) _ | refine Below.drewN ?_ _)⟩
end Go.Proofs.YtjbpibapbonkpaaGreatDoor
namespace Go.Proofs.YtjbpibapbonkpaaGreatDoor
open Go Go.ChangeShapes Go.WideShapes Go.ChangeAt Go.RowKit lib
set_option linter.unusedVariables false
set_option maxRecDepth 100000
/-- a disk of chains at block p: layout, bytes at block g -/
structure ChW (w : World) (p g n z e d t N c : Nat) (u : Nat → UInt8) : Prop where
  c0 : w.cell? ⟨p, 0, none⟩ = some (.int .i64 n)
  c1 : w.cell? ⟨p, 1, none⟩ = some (.int .i64 z)
  c2 : w.cell? ⟨p, 2, none⟩ = some (.int .i64 e)
  c3 : w.cell? ⟨p, 3, none⟩ = some (.int .i64 d)
  c4 : w.cell? ⟨p, 4, none⟩ = some (.int .i64 t)
  c5 : w.cell? ⟨p, 5, none⟩ = some (.slice (some ⟨g, 0, none⟩) N c)
  row : BRow w 5 g N u
  ne : p ≠ g
  plt : p < w.heap.size
theorem ChW.below {w w' : World} {p g n z e d t N c : Nat} {u : Nat → UInt8} (h : ChW w p g n z e d t N c u) (hb : Below w.heap.size w w') : ChW w' p g n z e d t N c u :=
  ⟨(hb.cell (p := ⟨p, 0, none⟩) h.plt).trans h.c0, (hb.cell (p := ⟨p, 1, none⟩) h.plt).trans h.c1, (hb.cell (p := ⟨p, 2, none⟩) h.plt).trans h.c2, (hb.cell (p := ⟨p, 3, none⟩) h.plt).trans h.c3, (hb.cell (p := ⟨p, 4, none⟩) h.plt).trans h.c4, (hb.cell (p := ⟨p, 5, none⟩) h.plt).trans h.c5, h.row.below hb h.row.lt, h.ne, Nat.lt_of_lt_of_le h.plt hb.size⟩
theorem ChW.drew {w : World} {p g n z e d t N c : Nat} {u : Nat → UInt8} (h : ChW w p g n z e d t N c u) : ChW w.drew p g n z e d t N c u :=
  ⟨h.c0, h.c1, h.c2, h.c3, h.c4, h.c5, h.row.drew, h.ne, h.plt⟩
/-- a byte is stored -/
theorem ChW.put {w : World} {p g n z e d t N c : Nat} {u : Nat → UInt8} (h : ChW w p g n z e d t N c u) (i : Nat) (x : UInt8) {y : Int} (hy : y = (x.toNat : Int)) : ChW (w.setCell ⟨g, i, none⟩ (.int .u8 y)) p g n z e d t N c (upd u i x) := by
  have hne : ∀ j, (⟨g, i, none⟩ : Addr) ≠ ⟨p, j, none⟩ := fun j q => h.ne (congrArg Addr.block q).symm
  have far : ∀ j, (w.setCell ⟨g, i, none⟩ (.int .u8 y)).cell? ⟨p, j, none⟩ = w.cell? ⟨p, j, none⟩ := fun j => World.cell?_setCell_other _ _ _ _ (hne j)
  exact ⟨(far 0).trans h.c0, (far 1).trans h.c1, (far 2).trans h.c2, (far 3).trans h.c3, (far 4).trans h.c4, (far 5).trans h.c5, h.row.set x hy, h.ne, by simp; exact h.plt⟩
/-- block i of a disk -/
def blkOf (z : Nat) (u : Nat → UInt8) (i : Nat) : ByteArray := bstr z (fun j => u (i * z + j))
theorem news1 (w : World) (e : Nat) (u : Value) : ∀ (j : Nat) (q : Value), [u][j]? = some q → ((w.alloc (.cells #[u] e)).drew).cell? ((⟨w.heap.size, 0, none⟩ : Addr).add j) = some q := by
  intro j q h
  match j with
  | 0 =>
    have : q = u := by simpa using h.symm
    subst this
    exact World.cell?_alloc_new w #[q] e 0
  | j + 1 => simp at h
end Go.Proofs.YtjbpibapbonkpaaGreatDoor
