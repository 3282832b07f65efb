/-
  Disks of extents: layouts and headers, both sides.
-/
import Derived.Test.YtjbpibapbonkpaaGreatDoorXeP
import Derived.Test.YtjbpibapbonkpaaGreatDoorChainOpen
import Derived.Deep.DeepCutAuto
namespace Go.Proofs.YtjbpibapbonkpaaGreatDoor
open Go Go.ChangeShapes Go.WideShapes Go.ChangeAt Go.RowKit lib
set_option linter.unusedVariables false
set_option linter.unusedSimpArgs false
set_option maxRecDepth 100000
theorem u8n {x : Nat} (h : x < 256) : ((UInt8.ofNat x).toNat : Int) = (x : Int) := by
  rw [UInt8.toNat_ofNat']
  omega
def entsX (n : Nat) : Nat := n / 4
def dataX (n z : Nat) : Nat := 1 + (n / 4 * 16 + z - 1) / z
def layX (n z E t : Nat) : Value := .agg #[.int .i64 n, .int .i64 z, .int .i64 E, .int .i64 t]
theorem layX_parts {n z : Nat} (h : LayOk n z) : ∃ T : Nat, T ≤ 64 ∧ ((n / 4 * 16 : Nat) + z - 1 : Int) / z = T ∧ dataX n z = 1 + T ∧ 0 < z ∧ z ≤ 32 := by
  obtain ⟨h1, h2, h3⟩ := h
  unfold dataX
  rcases h3 with rfl | rfl | rfl <;> exact ⟨_, by omega, by omega, rfl, by omega, by omega⟩
/-- the entries lie ahead of the data, on the disk -/
theorem layX_fits {n z k : Nat} (h : LayOk n z) (hk : k < entsX n) : z + k * 16 + 16 ≤ n * z := by
  obtain ⟨h1, h2, h3⟩ := h
  unfold entsX at hk
  have h4 : n / 4 * 4 ≤ n := Nat.div_mul_le_self n 4
  rcases h3 with rfl | rfl | rfl <;> omega
theorem layX_data {n z : Nat} (h : LayOk n z) : dataX n z ≤ n ∧ 1 ≤ dataX n z ∧ entsX n ≤ 32 := by
  obtain ⟨h1, h2, h3⟩ := h
  unfold dataX entsX
  rcases h3 with rfl | rfl | rfl <;> omega
/-- the first five bytes -/
def head5 (n z : Nat) : ByteArray := ⟨#[69, 88]⟩ ++ ⟨#[UInt8.ofNat n, UInt8.ofNat z, UInt8.ofNat (n / 4)]⟩
/-- the header that a disk should have -/
def hdrX (n z : Nat) : ByteArray := head5 n z ++ zerosB (z - 5)
theorem head5_size (n z : Nat) : (head5 n z).size = 5 := by unfold head5; rw [ByteArray.size_append]; rfl
theorem hdrX_size {n z : Nat} (h : 8 ≤ z) : (hdrX n z).size = z := by
  unfold hdrX
  rw [ByteArray.size_append, head5_size, show (zerosB (z - 5)).size = z - 5 by unfold zerosB; simp [ByteArray.size]]
  omega
theorem hdrX_at {n z j : Nat} : byteAt (hdrX n z) j = if j < 5 then byteAt (head5 n z) j else 0 := by
  unfold hdrX
  rw [byteAt_append, head5_size, byteAt_zeros]
section
variable {P : Program}
/-- 'string([]byte{x, y, v})' -/
theorem run_bstr3 (src dst e : TypeId) (hs : P.underlying src = some (.slice e)) (he : P.underlying e = some (.int .u8)) (hd : P.underlying dst = some .string) (W : World) (x y v : Int) :
    (convert src dst (.slice (some ⟨W.heap.size, 0, none⟩) 3 3)).run P (W.alloc (.cells #[.int .u8 x, .int .u8 y, .int .u8 v] e)) = .ok (.string ⟨#[UInt8.ofNat x.toNat, UInt8.ofNat y.toNat, UInt8.ofNat v.toNat]⟩) (W.alloc (.cells #[.int .u8 x, .int .u8 y, .int .u8 v] e)) := by
  have h := run_convert_bytes_arg (P := P) (w := W.alloc (.cells #[.int .u8 x, .int .u8 y, .int .u8 v] e)) src e hs he W.heap.size 0 3 3 [x, y, v] rfl (fun i hi => by
    have : i = 0 ∨ i = 1 ∨ i = 2 := by omega
    rcases this with rfl | rfl | rfl
    · simp [World.cell?_alloc_new]
    · simp [World.cell?_alloc_new]
    · simp [World.cell?_alloc_new]) dst hd
  rw [h]; rfl
end
theorem extentLayout_any (n z : Nat) (w : World) (h : LayOk n z) : Calls Tryz.prog 41 #[.int .i64 n, .int .i64 z] w fun e w' => e = .returned (layX n z (entsX n) (dataX n z)) ∧ Below w.heap.size w w' := by
  obtain ⟨T, hT, eT, d1, z0, z1⟩ := layX_parts h
  obtain ⟨h1, h2, h3⟩ := h
  rw [d1]
  clear d1 h3
  have hE : ((n : Int) / 4) = (entsX n : Int) := by unfold entsX; omega
  have eT2 : ((entsX n : Int) * 16 + z - 1) / z = T := by rw [← eT]; unfold entsX; congr 1
  have hEb : entsX n ≤ 32 := by unfold entsX; omega
  clear eT
  generalize entsX n = E at *
  have hw : IntKind.i64.wrap ((E : Int) * 16) = (E : Int) * 16 := by rw [IntKind.wrap_i64]; omega
  have hdt : IntKind.i64.wrap (1 + (T : Int)) = 1 + (T : Int) := by rw [IntKind.wrap_i64]; omega
  have hcq : ((1 + T : Nat) : Int) = 1 + (T : Int) := by omega
  unfold layX
  rw [hcq]
  go_enter Tryz.func41, Tryz.ntmps41
  go_wp2_with (go_at_call 63; refine (ceiling_any _ _ T _ (by first | exact eT2 | simpa using eT2) (by omega) (by omega) (by omega) (by omega)).mono ?_; rintro e w' ⟨rfl, rfl⟩)
  try go_region_with (go_at_call 63; refine (ceiling_any _ _ T _ (by first | exact eT2 | simpa using eT2) (by omega) (by omega) (by omega) (by omega)).mono ?_; rintro e w' ⟨rfl, rfl⟩)
  all_goals go_wp2
  all_goals exact bodyPost_ret (v := .agg #[.int .i64 n, .int .i64 z, .int .i64 E, .int .i64 (1 + (T : Int))]) (by simp [results, Tryz.results41, go_sem]) rfl ⟨rfl, by
      repeat (first | exact Below.refl _ _ | refine Below.setCell ?_ (by simp) _ | refine Below.alloc ?_ (by simp <;> omega) _ | refine Below.drewN ?_ _)⟩
theorem l17Data_any (n z : Nat) (w : World) (h : LayOk n z) : Calls Tryz.prog 30 #[.int .i64 n, .int .i64 z] w fun e w' => e = .returned (.int .i64 (dataX n z : Int)) ∧ w = w' := by
  obtain ⟨T, hT, eT, d1, z0, z1⟩ := layX_parts h
  obtain ⟨h1, h2, h3⟩ := h
  rw [d1]
  clear d1 h3
  have hE : ((n : Int) / 4) = (entsX n : Int) := by unfold entsX; omega
  have eT2 : ((entsX n : Int) * 16 + z - 1) / z = T := by rw [← eT]; unfold entsX; congr 1
  have hEb : entsX n ≤ 32 := by unfold entsX; omega
  clear eT
  generalize entsX n = E at *
  have hw : IntKind.i64.wrap ((E : Int) * 16) = (E : Int) * 16 := by rw [IntKind.wrap_i64]; omega
  go_enter Tryz.func30, Tryz.ntmps30
  go_wp2
  go_ret
  exact ⟨ret_int (by first | omega | (rw [eT2]; omega) | (simp [eT2])), rfl⟩
theorem l17Size_any (z : Nat) (b : Bool) (hb : b = true ↔ (z = 8 ∨ z = 16 ∨ z = 32)) (w : World) : Calls Tryz.prog 28 #[.int .i64 z] w fun e w' => e = .returned (.bool b) ∧ w = w' := by
  have hbz : b = decide (z = 8 ∨ z = 16 ∨ z = 32) := by rw [Bool.eq_iff_iff, hb, decide_eq_true_iff]
  clear hb
  by_cases q8 : z = 8
  · have hbt : b = true := by rw [hbz, decide_eq_true_iff]; omega
    subst hbt
    subst q8
    clear hbz
    go_enter Tryz.func28, Tryz.ntmps28
    go_wp2
    go_ret
    exact ⟨rfl, rfl⟩
  · have p1 : ((z : Int) = 8) = False := by simp; omega
    have p2 : ((z : Int) == 8) = false := by simp; omega
    by_cases q16 : z = 16
    · have hbt : b = true := by rw [hbz, decide_eq_true_iff]; omega
      subst hbt
      subst q16
      clear hbz p1 p2
      go_enter Tryz.func28, Tryz.ntmps28
      go_wp2
      go_ret
      exact ⟨rfl, rfl⟩
    · have p3 : ((z : Int) = 16) = False := by simp; omega
      have p4 : ((z : Int) == 16) = false := by simp; omega
      by_cases q32 : z = 32
      · have hbt : b = true := by rw [hbz, decide_eq_true_iff]; omega
        subst hbt
        subst q32
        clear hbz p1 p2 p3 p4
        go_enter Tryz.func28, Tryz.ntmps28
        go_wp2
        go_ret
        exact ⟨rfl, rfl⟩
      · have hbt : b = false := by rw [hbz, decide_eq_false_iff_not]; omega
        have p5 : ((z : Int) = 32) = False := by simp; omega
        have p6 : ((z : Int) == 32) = false := by simp; omega
        subst hbt
        clear hbz q8 q16 q32
        go_enter Tryz.func28, Tryz.ntmps28
        go_wp2
        go_ret
        exact ⟨rfl, rfl⟩
end Go.Proofs.YtjbpibapbonkpaaGreatDoor
