/-
  Disks of chains: the layout.
  Disks of chains: the record behind a pointer.
-/
import Derived.Test.YtapkckpjeoedaaaGreatDoorBase
namespace Go.Proofs.YtapkckpjeoedaaaGreatDoor
open Go Go.ChangeShapes Go.WideShapes Go.ChangeAt Go.RowKit lib
set_option linter.unusedVariables false
set_option maxRecDepth 100000
def entsN (n : Nat) : Nat := min 16 (n / 8)
def dirN (n z : Nat) : Nat := 1 + (n + z - 1) / z
def dataN (n z : Nat) : Nat := dirN n z + (entsN n * 12 + z - 1) / z
def layV (n z e d t : Nat) : Value := .agg #[.int .i64 n, .int .i64 z, .int .i64 e, .int .i64 d, .int .i64 t]
/-- a layout that a disk may have -/
structure LayOk (n z : Nat) : Prop where
  lo : 8 ≤ n
  hi : n ≤ 128
  sz : z = 8 ∨ z = 16 ∨ z = 32
/-- the quotients of a layout, opaque -/
theorem lay_parts {n z : Nat} (h : LayOk n z) : ∃ D T : Nat, D ≤ 17 ∧ T ≤ 24 ∧ ((n : Int) + z - 1) / z = D ∧ ((entsN n : Int) * 12 + z - 1) / z = T ∧ dirN n z = 1 + D ∧ dataN n z = 1 + D + T ∧ 0 < z ∧ z ≤ 32 ∧ entsN n ≤ 16 ∧ min (16 : Int) ((n : Int) / 8) = entsN n := by
  obtain ⟨h1, h2, h3⟩ := h
  obtain ⟨E, hE⟩ : ∃ E, E = entsN n := ⟨_, rfl⟩
  have hE' : E ≤ 16 := by rw [hE]; unfold entsN; omega
  have hm : min (16 : Int) ((n : Int) / 8) = (E : Int) := by rw [hE]; unfold entsN; omega
  unfold dataN dirN
  rw [← hE]
  rcases h3 with rfl | rfl | rfl <;> exact ⟨_, _, by omega, by omega, by omega, by omega, rfl, rfl, by omega, by omega, by omega, hm⟩
theorem ceiling_any (x y r : Int) (w : World) (hr : (x + y - 1) / y = r) (h0 : 0 ≤ x) (hx : x ≤ 1048576) (hy : 0 < y) (hy' : y ≤ 1048576) : Calls Tryz.prog 83 #[.int .i64 x, .int .i64 y] w fun e w' => e = .returned (.int .i64 r) ∧ w = w' := by
  go_enter Tryz.func83, Tryz.ntmps83
  go_wp2
  go_ret
  exact ⟨ret_int hr, rfl⟩
theorem l00Min_any (x y : Int) (w : World) : Calls Tryz.prog 48 #[.int .i64 x, .int .i64 y] w fun e w' => e = .returned (.int .i64 (min x y)) ∧ w = w' := by
  go_enter Tryz.func48, Tryz.ntmps48
  go_wp2
  all_goals go_ret
  all_goals exact ⟨ret_int (by omega), rfl⟩
set_option maxHeartbeats 1000000 in
theorem chainLayout_any (n z : Nat) (w : World) (h : LayOk n z) : Calls Tryz.prog 54 #[.int .i64 n, .int .i64 z] w fun e w' => e = .returned (layV n z (entsN n) (dirN n z) (dataN n z)) ∧ Below w.heap.size w w' := by
  obtain ⟨D, T, hD, hT, eD, eT, d1, d2, z0, z1, hE, hm⟩ := lay_parts h
  obtain ⟨h1, h2, h3⟩ := h
  rw [d1, d2]
  clear d1 d2 h3
  generalize entsN n = E at hE eT hm ⊢
  obtain ⟨q, hq⟩ : ∃ q : Int, (n : Int) / 8 = q := ⟨_, rfl⟩
  have hq0 : 0 ≤ q := by omega
  rw [hq] at hm
  have h12 : IntKind.i64.wrap ((E : Int) * 12) = (E : Int) * 12 := by rw [IntKind.wrap_i64]; omega
  have h192 : IntKind.i64.wrap 192 = 192 := by decide
  have hdt : IntKind.i64.wrap (1 + (D : Int) + T) = 1 + (D : Int) + T := by rw [IntKind.wrap_i64]; omega
  by_cases hlt : q < 16
  · obtain rfl : q = E := by omega
    clear hm
    go_enter Tryz.func54, Tryz.ntmps54
    go_wp2_with (go_at_call 83; refine (ceiling_any _ _ D _ (by first | omega | exact eD) (by omega) (by omega) (by omega) (by omega)).mono ?_; rintro e w' ⟨rfl, rfl⟩)
    go_region_with (go_at_call 83; refine (ceiling_any _ _ T _ (by first | exact eT | exact eT') (by omega) (by omega) (by omega) (by omega)).mono ?_; rintro e w' ⟨rfl, rfl⟩)
    all_goals go_wp2
    all_goals exact bodyPost_ret (v := layV n z E (1 + D) (1 + D + T)) (by simp [results, Tryz.results54, go_sem, layV]) rfl ⟨rfl, by
      repeat (first | exact Below.refl _ _ | refine Below.setCell ?_ (by simp) _ | refine Below.alloc ?_ (by simp <;> omega) _ | refine Below.drewN ?_ _)⟩
  · obtain rfl : E = 16 := by omega
    have eT' : (192 + (z : Int) - 1) / z = T := by simpa using eT
    clear h12 eT hm
    go_enter Tryz.func54, Tryz.ntmps54
    go_wp2_with (go_at_call 83; refine (ceiling_any _ _ D _ (by first | omega | exact eD) (by omega) (by omega) (by omega) (by omega)).mono ?_; rintro e w' ⟨rfl, rfl⟩)
    go_region_with (go_at_call 83; refine (ceiling_any _ _ T _ (by first | exact eT | exact eT') (by omega) (by omega) (by omega) (by omega)).mono ?_; rintro e w' ⟨rfl, rfl⟩)
    all_goals go_wp2
    all_goals exact bodyPost_ret (v := layV n z 16 (1 + D) (1 + D + T)) (by simp [results, Tryz.results54, go_sem, layV]) rfl ⟨rfl, by
      repeat (first | exact Below.refl _ _ | refine Below.setCell ?_ (by simp) _ | refine Below.alloc ?_ (by simp <;> omega) _ | refine Below.drewN ?_ _)⟩
set_option maxHeartbeats 1000000 in
theorem l16Sizes_any (n z : Nat) (w : World) (h : LayOk n z) : Calls Tryz.prog 44 #[.int .i64 n, .int .i64 z] w fun e w' => e = .returned (layV n z (entsN n) (dirN n z) (dataN n z)) ∧ Below w.heap.size w w' := by
  obtain ⟨D, T, hD, hT, eD, eT, d1, d2, z0, z1, hE, hm⟩ := lay_parts h
  obtain ⟨h1, h2, h3⟩ := h
  rw [d1, d2]
  clear d1 d2 h3
  generalize entsN n = E at hE eT hm ⊢
  obtain ⟨q, hq⟩ : ∃ q : Int, (n : Int) / 8 = q := ⟨_, rfl⟩
  have hq0 : 0 ≤ q := by omega
  rw [hq] at hm
  have h12 : IntKind.i64.wrap ((E : Int) * 12) = (E : Int) * 12 := by rw [IntKind.wrap_i64]; omega
  have h192 : IntKind.i64.wrap 192 = 192 := by decide
  have hdt : IntKind.i64.wrap (1 + (D : Int) + T) = 1 + (D : Int) + T := by rw [IntKind.wrap_i64]; omega
  by_cases hlt : q < 16
  · obtain rfl : q = E := by omega
    go_enter Tryz.func44, Tryz.ntmps44
    go_wp2_with (go_at_call 48; refine (l00Min_any _ _ _).mono ?_; rintro e w' ⟨rfl, rfl⟩)
    go_region
    all_goals go_wp2
    all_goals exact bodyPost_ret (v := layV n z E (1 + D) (1 + D + T)) (by simp [results, Tryz.results44, go_sem, layV]) rfl ⟨rfl, by
      repeat (first | exact Below.refl _ _ | refine Below.setCell ?_ (by simp) _ | refine Below.alloc ?_ (by simp <;> omega) _ | refine Below.drewN ?_ _)⟩
  · obtain rfl : E = 16 := by omega
    have eT' : (192 + (z : Int) - 1) / z = T := by simpa using eT
    clear h12 eT hm
    have hm' : min (16 : Int) q = 16 := by omega
    go_enter Tryz.func44, Tryz.ntmps44
    go_wp2_with (go_at_call 48; refine (l00Min_any _ _ _).mono ?_; rintro e w' ⟨rfl, rfl⟩)
    go_region
    all_goals go_wp2
    all_goals exact bodyPost_ret (v := layV n z 16 (1 + D) (1 + D + T)) (by simp [results, Tryz.results44, go_sem, layV]) rfl ⟨rfl, by
      repeat (first | exact Below.refl _ _ | refine Below.setCell ?_ (by simp) _ | refine Below.alloc ?_ (by simp <;> omega) _ | refine Below.drewN ?_ _)⟩
end Go.Proofs.YtapkckpjeoedaaaGreatDoor
namespace Go.Proofs.YtapkckpjeoedaaaGreatDoor
open Go Go.ChangeShapes Go.WideShapes Go.ChangeAt Go.RowKit lib
set_option linter.unusedVariables false
set_option maxRecDepth 100000
/-- a disk of chains at block p: layout, bytes at block g -/
structure ChW (w : World) (p g n z e d t N c : Nat) (u : Nat → UInt8) : Prop where
  c0 : w.cell? ⟨p, 0, none⟩ = some (.int .i64 n)
  c1 : w.cell? ⟨p, 1, none⟩ = some (.int .i64 z)
  c2 : w.cell? ⟨p, 2, none⟩ = some (.int .i64 e)
  c3 : w.cell? ⟨p, 3, none⟩ = some (.int .i64 d)
  c4 : w.cell? ⟨p, 4, none⟩ = some (.int .i64 t)
  c5 : w.cell? ⟨p, 5, none⟩ = some (.slice (some ⟨g, 0, none⟩) N c)
  row : BRow w 5 g N u
  ne : p ≠ g
  plt : p < w.heap.size
theorem ChW.below {w w' : World} {p g n z e d t N c : Nat} {u : Nat → UInt8} (h : ChW w p g n z e d t N c u) (hb : Below w.heap.size w w') : ChW w' p g n z e d t N c u :=
  ⟨(hb.cell (p := ⟨p, 0, none⟩) h.plt).trans h.c0, (hb.cell (p := ⟨p, 1, none⟩) h.plt).trans h.c1, (hb.cell (p := ⟨p, 2, none⟩) h.plt).trans h.c2, (hb.cell (p := ⟨p, 3, none⟩) h.plt).trans h.c3, (hb.cell (p := ⟨p, 4, none⟩) h.plt).trans h.c4, (hb.cell (p := ⟨p, 5, none⟩) h.plt).trans h.c5, h.row.below hb h.row.lt, h.ne, Nat.lt_of_lt_of_le h.plt hb.size⟩
theorem ChW.drew {w : World} {p g n z e d t N c : Nat} {u : Nat → UInt8} (h : ChW w p g n z e d t N c u) : ChW w.drew p g n z e d t N c u :=
  ⟨h.c0, h.c1, h.c2, h.c3, h.c4, h.c5, h.row.drew, h.ne, h.plt⟩
/-- a byte is stored -/
theorem ChW.put {w : World} {p g n z e d t N c : Nat} {u : Nat → UInt8} (h : ChW w p g n z e d t N c u) (i : Nat) (x : UInt8) {y : Int} (hy : y = (x.toNat : Int)) : ChW (w.setCell ⟨g, i, none⟩ (.int .u8 y)) p g n z e d t N c (upd u i x) := by
  have hne : ∀ j, (⟨g, i, none⟩ : Addr) ≠ ⟨p, j, none⟩ := fun j q => h.ne (congrArg Addr.block q).symm
  have far : ∀ j, (w.setCell ⟨g, i, none⟩ (.int .u8 y)).cell? ⟨p, j, none⟩ = w.cell? ⟨p, j, none⟩ := fun j => World.cell?_setCell_other _ _ _ _ (hne j)
  exact ⟨(far 0).trans h.c0, (far 1).trans h.c1, (far 2).trans h.c2, (far 3).trans h.c3, (far 4).trans h.c4, (far 5).trans h.c5, h.row.set x hy, h.ne, by simp; exact h.plt⟩
theorem specLink_any {w : World} {p g n z e d t N c : Nat} {u : Nat → UInt8} (k : Nat) (h : ChW w p g n z e d t N c u) (hk : z + k < N) (hN : N ≤ 1048576) : Calls Tryz.prog 79 #[.pointer (some ⟨p, 0, none⟩), .int .i64 k] w fun r w' => r = .returned (.int .i64 ((u (z + k)).toNat : Int)) ∧ w' = w.drew := by
  have h1 := h.c1
  have h5 := h.c5
  have hr := h.row.cell hk
  have hs : IntKind.i64.wrap ((z : Int) + k) = (z : Int) + k := by rw [IntKind.wrap_i64]; omega
  have hi0 : (0 : Int) ≤ (z : Int) + k := by omega
  have hi1 : (z : Int) + k < N := by omega
  have hi2 : ((z : Int) + k).toNat = z + k := by omega
  go_enter Tryz.func79, Tryz.ntmps79
  go_wp2_with fail
  go_region
  go_wp2
  go_ret
  exact ⟨ret_int (by have := (u (z + k)).toNat_lt; unfold wrap64; omega), rfl⟩
theorem implLink_any {w : World} {p g n z e d t N c : Nat} {u : Nat → UInt8} (k : Nat) (h : ChW w p g n z e d t N c u) (hk : z + k < N) (hN : N ≤ 1048576) : Calls Tryz.prog 65 #[.pointer (some ⟨p, 0, none⟩), .int .i64 k] w fun r w' => r = .returned (.pointer (some ⟨g, z + k, none⟩)) ∧ w' = w.drew := by
  have h1 := h.c1
  have h5 := h.c5
  have hr := h.row.cell hk
  have hs : IntKind.i64.wrap ((z : Int) + k) = (z : Int) + k := by rw [IntKind.wrap_i64]; omega
  have hi0 : (0 : Int) ≤ (z : Int) + k := by omega
  have hi1 : (z : Int) + k < N := by omega
  have hi2 : ((z : Int) + k).toNat = z + k := by omega
  go_enter Tryz.func65, Tryz.ntmps65
  go_wp2_with fail
  go_region
  go_wp2
  go_ret
  exact ⟨rfl, rfl⟩
theorem specSetLink_any {w : World} {p g n z e d t N c : Nat} {u : Nat → UInt8} (k : Nat) (x : Int) (h : ChW w p g n z e d t N c u) (hk : z + k < N) (hN : N ≤ 1048576) : Calls Tryz.prog 50 #[.pointer (some ⟨p, 0, none⟩), .int .i64 k, .int .i64 x] w fun r w' => r = .returned (.tuple #[]) ∧ w' = (w.setCell ⟨g, z + k, none⟩ (.int .u8 (x % 256))).drew := by
  have h1 := h.c1
  have h5 := h.c5
  have hr := h.row.cell hk
  have hf := h.row.frozen hk
  have hs : IntKind.i64.wrap ((z : Int) + k) = (z : Int) + k := by rw [IntKind.wrap_i64]; omega
  have hi0 : (0 : Int) ≤ (z : Int) + k := by omega
  have hi1 : (z : Int) + k < N := by omega
  have hi2 : ((z : Int) + k).toNat = z + k := by omega
  go_enter Tryz.func50, Tryz.ntmps50
  go_wp2_with fail
  go_region
  go_end0
  exact ⟨rfl, rfl⟩
/-- block i of a disk -/
def blkOf (z : Nat) (u : Nat → UInt8) (i : Nat) : ByteArray := bstr z (fun j => u (i * z + j))
theorem news1 (w : World) (e : Nat) (u : Value) : ∀ (j : Nat) (q : Value), [u][j]? = some q → ((w.alloc (.cells #[u] e)).drew).cell? ((⟨w.heap.size, 0, none⟩ : Addr).add j) = some q := by
  intro j q h
  match j with
  | 0 =>
    have : q = u := by simpa using h.symm
    subst this
    exact World.cell?_alloc_new w #[q] e 0
  | j + 1 => simp at h
set_option maxHeartbeats 1000000 in
theorem specDisk_any {w : World} {p g n z e d t N c : Nat} {u : Nat → UInt8} (h : ChW w p g n z e d t N c u) (hN : N = n * z) (hn : n ≤ 128) (hz : z ≤ 32) (hz1 : 1 ≤ z) (hcN : N ≤ c) :
    Calls Tryz.prog 26 #[.pointer (some ⟨p, 0, none⟩)] w fun r w' => ∃ A c, r = .returned (.slice A n c) ∧ w'.ownsRow w.heap.size 9 1 (.slice A n c) n ((List.range n).map fun i => .string (blkOf z u i)) ∧ Below w.heap.size w w' := by
  go_enter Tryz.func26, Tryz.ntmps26
  go_wp2
  go_loopw [3, 4] (fun s3 s4 wr => ∃ (k : Nat) (A : Option Addr) (c' : Nat), k ≤ n ∧ s3 = .slice A k c' ∧ s4 = .int .i64 k ∧ wr.ownsRow w.heap.size 9 1 (.slice A k c') k ((List.range k).map fun i => Value.string (blkOf z u i)) ∧ Below w.heap.size w wr) (fun _ i _ => n - (intOf i).toNat)
  case atStart => exact ⟨0, _, 0, by omega, rfl, rfl, ⟨rfl, .inr ⟨w.heap.size, 0, #[], rfl, Nat.le_refl _, heap_alloc_new w _, Nat.le_refl _, by simp [maxLen], rfl, rfl⟩⟩, (Below.refl _ _).alloc (Nat.le_refl _) _⟩
  case round =>
    obtain ⟨k, A, c', hk, rfl, rfl, ho, hb⟩ := hrel
    have hW := h.below hb
    have h0 := hW.c0
    have h1 := hW.c1
    have h5 := hW.c5
    by_cases hlt : k < n
    · have hkz : k * z + z ≤ N := by rw [hN]; have := Nat.mul_le_mul_right z (show k + 1 ≤ n by omega); rw [Nat.add_mul] at this; omega
      have hNb : N ≤ 4096 := by rw [hN]; exact Nat.mul_le_mul hn hz
      obtain ⟨m, em⟩ : ∃ m, k * z = m := ⟨_, rfl⟩
      rw [em] at hkz
      have e1 : (k : Int) * z = (m : Int) := by rw [← em]; simp
      have e2 : ((k : Int) + 1) * z = (m : Int) + z := by rw [Int.add_mul, e1]; omega
      have e3 : IntKind.i64.wrap (m : Int) = (m : Int) := by rw [IntKind.wrap_i64]; omega
      have e4 : IntKind.i64.wrap ((m : Int) + z) = (m : Int) + z := by rw [IntKind.wrap_i64]; omega
      have e5 : IntKind.i64.wrap ((k : Int) + 1) = (k : Int) + 1 := by rw [IntKind.wrap_i64]; omega
      have e6 : (0 : Int) ≤ (m : Int) + z := by omega
      have e7 : (m : Int) + z ≤ c := by omega
      have e8 : ((m : Int) + z).toNat = m + z := by omega
      have e9 : m ≤ m + z := by omega
      have e10 : m + z - m = z := by omega
      have e11 : (c = m) = False := by simp; omega
      have hcv : (convert 63 9 (.slice (some ⟨g, m, none⟩) z (c - m))).run Tryz.prog wr.drew = .ok (.string (blkOf z u k)) wr.drew :=
        run_bstr (P := Tryz.prog) (w := wr.drew) (B := wr.heap.size) 63 9 5 Tryz.underlying63 Tryz.underlying5 Tryz.underlying9 (u := fun j => u (k * z + j)) (fun i hi => ⟨g, m, rfl, hW.row.lt, by rw [em]; exact hW.row.cell (i := m + i) (by omega)⟩) (by simp)
      have HO := Lib.hid ho
      clear ho hN
      go_wp2_with fail
      obtain ⟨i0, hi0, hz0, hz1, hz2⟩ := info_parts (show (Tryz.prog.info? 9).map (fun i => (i.zero, i.size, i.bytes)) = some (some (.string .empty), 1, 16) by kernel_rfl)
      have hz := hb.size
      go_region_law (first | (refine step_append_lies _ (by rfl) _ _ _ (by rfl) w.heap.size 9 i0 _ 1 16 Tryz.underlying22 hi0 hz0 hz1 hz2 rfl (by omega) (.slice A k c') k _ (by rfl) (((HO.out.alloc _)).drew) ⟨wr.heap.size, 0, none⟩ 1 1 [.string (blkOf z u k)] (by rfl) (by rfl) (news1 _ _ _) (by simp [Value.oneCell']) (by omega) (by simp only [maxLen]; omega) (by omega) (by simp; omega) (wr.heap.size + 1) (by simp) ?_; intro gg cap w3 ho3 hgrow hat hlt3))
      all_goals
        go_wp2
        go_roundw
        case rel =>
          have hb3 : Below w.heap.size wr w3 := (((Below.refl _ _).alloc hz _).drew.grown hgrow (by simp; omega) (fun j hj => by have := own_lt HO.out j hj; omega))
          refine ⟨k + 1, _, cap, by omega, rfl, by go_num, ?_, hb.trans hb3⟩
          rw [List.range_succ, List.map_append]
          exact ho3
        case measure => simp [intOf]; omega
    · obtain rfl : k = n := by omega
      go_wp2
      go_ret
      exact ⟨A, c', rfl, ho, hb⟩
end Go.Proofs.YtapkckpjeoedaaaGreatDoor
