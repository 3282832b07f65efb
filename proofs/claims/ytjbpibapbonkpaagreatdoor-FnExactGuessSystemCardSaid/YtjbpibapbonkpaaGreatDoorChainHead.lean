/-
  Disks of chains: the header.
-/
import Derived.Test.YtjbpibapbonkpaaGreatDoorChA
import Derived.Test.YtjbpibapbonkpaaGreatDoorShelf
import Derived.Deep.RegionHeld3
namespace Go.Proofs.YtjbpibapbonkpaaGreatDoor
open Go Go.ChangeShapes Go.WideShapes Go.ChangeAt Go.RowKit lib
set_option linter.unusedVariables false
set_option maxRecDepth 100000
def zerosB (n : Nat) : ByteArray := ⟨(List.replicate n (0 : UInt8)).toArray⟩
/-- the first four bytes -/
def head4 (n e : Nat) : ByteArray := ⟨#[67, 72]⟩ ++ ⟨#[UInt8.ofNat n, UInt8.ofNat e]⟩
/-- the first six bytes -/
def head6 (n e : Nat) : ByteArray := head4 n e ++ word2 (crcN (byteAt (head4 n e)) (head4 n e).size 65535)
set_option maxHeartbeats 1000000 in
theorem l16Head_any (n z e d t : Nat) (w : World) (hn : n ≤ 128) (he : e ≤ 16) : Calls Tryz.prog 26 #[layV n z e d t] w fun r w' => r = .returned (.string (head6 n e)) ∧ Below w.heap.size w w' := by
  have hcv : ∀ (o : Obj) (x y : Int), (convert 42 9 (.slice (some ⟨w.heap.size + 1, 0, none⟩) 2 2)).run Tryz.prog ((w.alloc o).alloc (.cells #[.int .u8 x, .int .u8 y] 5)) = .ok (.string ⟨#[UInt8.ofNat x.toNat, UInt8.ofNat y.toNat]⟩) ((w.alloc o).alloc (.cells #[.int .u8 x, .int .u8 y] 5)) := fun o x y => by
    have := run_bstr2 (P := Tryz.prog) 42 9 5 Tryz.underlying42 Tryz.underlying5 Tryz.underlying9 (w.alloc o) x y
    rwa [World.size_alloc] at this
  have hh : head6 n e = head4 n e ++ word2 (crcN (byteAt (head4 n e)) (head4 n e).size 65535) := rfl
  have h4 : (⟨#[67, 72]⟩ : ByteArray) ++ ⟨#[UInt8.ofNat n, UInt8.ofNat e]⟩ = head4 n e := rfl
  have hz : (head4 n e).size = 4 := rfl
  have hc := crcN_lt (byteAt (head4 n e)) (head4 n e).size 65535 (by omega)
  rw [hh]
  generalize head4 n e = H at h4 hz hc ⊢
  clear hh
  rw [hz] at hc ⊢
  obtain ⟨c, ec⟩ : ∃ c, crcN (byteAt H) 4 65535 = c := ⟨_, rfl⟩
  rw [ec] at hc ⊢
  unfold layV
  go_enter Tryz.func26, Tryz.ntmps26
  go_wp2_with (first | (go_at_call 54; refine (specCrc16_any H 65535 _ (by omega) (by omega)).mono ?_; rw [hz, ec]; rintro e w' ⟨rfl, rfl⟩) | (go_at_call 53; refine (specPutWord_any _ _ hc).mono ?_; rintro e w' ⟨rfl, hb⟩))
  go_ret
  refine ⟨rfl, Below.trans ?_ (hb.mono ?_)⟩
  · repeat (first | exact Below.refl _ _ | refine Below.alloc ?_ (by simp <;> omega) _)
  · simp <;> omega
theorem zeros_any (n : Nat) (w : World) (hn : n ≤ 1048576) : Calls Tryz.prog 66 #[.int .i64 n] w fun r w' => r = .returned (.string (zerosB n)) ∧ Below w.heap.size w w' := by
  have e : (⟨(Lib.repeatL (⟨#[0]⟩ : ByteArray).data.toList n).toArray⟩ : ByteArray) = zerosB n := by
    unfold zerosB
    congr 2
    induction n with
    | zero => rfl
    | succ k ih => rw [List.replicate_succ, ← ih (by omega)]; rfl
  go_enter Tryz.func66, Tryz.ntmps66
  go_wp2_with (go_at_call 86; refine (Tryz.strings_Repeat ⟨#[0]⟩ n _ (by omega) (by show 1 * n ≤ _; omega)).mono ?_; rw [e]; rintro e w' ⟨rfl, hb⟩)
  go_ret
  exact ⟨rfl, hb⟩
set_option maxHeartbeats 2000000 in
theorem chainHeader_any (n z e d t : Nat) (w : World) (hn : n ≤ 128) (he : e ≤ 16) (hz8 : 8 ≤ z) (hz32 : z ≤ 32) : Calls Tryz.prog 39 #[layV n z e d t] w fun r w' => r = .returned (.string (head6 n e ++ zerosB (z - 6))) ∧ Below w.heap.size w w' := by
  have hcv : ∀ (o : Obj) (x y : Int), (convert 42 9 (.slice (some ⟨w.heap.size + 1, 0, none⟩) 2 2)).run Tryz.prog ((w.alloc o).alloc (.cells #[.int .u8 x, .int .u8 y] 5)) = .ok (.string ⟨#[UInt8.ofNat x.toNat, UInt8.ofNat y.toNat]⟩) ((w.alloc o).alloc (.cells #[.int .u8 x, .int .u8 y] 5)) := fun o x y => by
    have := run_bstr2 (P := Tryz.prog) 42 9 5 Tryz.underlying42 Tryz.underlying5 Tryz.underlying9 (w.alloc o) x y
    rwa [World.size_alloc] at this
  have hh : head6 n e = head4 n e ++ word2 (crcN (byteAt (head4 n e)) (head4 n e).size 65535) := rfl
  have h4 : (⟨#[67, 72]⟩ : ByteArray) ++ ⟨#[UInt8.ofNat n, UInt8.ofNat e]⟩ = head4 n e := rfl
  have hz : (head4 n e).size = 4 := rfl
  have hc := crcN_lt (byteAt (head4 n e)) (head4 n e).size 65535 (by omega)
  rw [hh]
  generalize head4 n e = H at h4 hz hc ⊢
  clear hh
  rw [hz] at hc ⊢
  obtain ⟨c, ec⟩ : ∃ c, crcN (byteAt H) 4 65535 = c := ⟨_, rfl⟩
  rw [ec] at hc ⊢
  obtain ⟨y, ey⟩ : ∃ y, z - 6 = y := ⟨_, rfl⟩
  have hy : (z : Int) - 6 = (y : Int) := by omega
  have hwy : IntKind.i64.wrap (y : Int) = (y : Int) := by rw [IntKind.wrap_i64]; omega
  rw [ey]
  have w2 : (word2 c).size = 2 := rfl
  have zy : (zerosB y).size = y := by unfold zerosB; simp [ByteArray.size]
  have a1 : ∀ W : World, (Op.stringOp .add H (word2 c)).run Tryz.prog W = .ok (.string (H ++ word2 c)) W := fun W => run_string_add_sum _ _ _ (by omega)
  have a2 : ∀ W : World, (Op.stringOp .add (H ++ word2 c) (zerosB y)).run Tryz.prog W = .ok (.string (H ++ word2 c ++ zerosB y)) W := fun W => run_string_add_sum _ _ _ (by rw [ByteArray.size_append]; omega)
  have hlt0 : ∀ a b : Obj, w.heap.size < (((w.alloc a).alloc b).drew).heap.size := fun a b => by
    show w.heap.size < ((w.alloc a).alloc b).heap.size
    simp only [World.size_alloc]
    omega
  have hB0 : ∀ a b : Obj, Below w.heap.size w (((w.alloc a).alloc b).drew) := fun a b => (((Below.refl _ w).alloc (Nat.le_refl _) a).alloc (by simp) b).drew
  have keep1 : ∀ a b : World, (a.cell? ⟨w.heap.size, 1, none⟩ = some (.int .i64 z) ∧ Below w.heap.size w a ∧ w.heap.size < a.heap.size) → Below a.heap.size a b →
      (b.cell? ⟨w.heap.size, 1, none⟩ = some (.int .i64 z) ∧ Below w.heap.size w b ∧ w.heap.size < b.heap.size) := fun a b h hb =>
    ⟨(hb.cell (p := ⟨w.heap.size, 1, none⟩) h.2.2).trans h.1, h.2.1.trans (hb.mono h.2.1.size), Nat.lt_of_lt_of_le h.2.2 hb.size⟩
  unfold layV
  go_enter Tryz.func39, Tryz.ntmps39
  go_wp2_with fail
  go_region_held3 (fun w' => w'.cell? ⟨w.heap.size, 1, none⟩ = some (.int .i64 z) ∧ Below w.heap.size w w' ∧ w.heap.size < w'.heap.size) (first | (refine ⟨?_, hB0 _ _, hlt0 _ _⟩; go_keep) | exact hlt0 _ _ | exact hB0 _ _ | exact hc1 | exact hc1.1 | exact hc1.2.1 | exact hc1.2.2 | go_keep) ((first
    | (go_at_call 65; refine (implCrc_any H 65535 _ (by omega) (by omega)).mono ?_; rw [hz, ec]; rintro e w1 ⟨rfl, rfl⟩)
    | (go_at_call 64; refine (implPutWord_any _ _ hc).mono ?_; rintro e w1 ⟨rfl, hb1⟩; have hc1 := keep1 _ _ (by assumption) hb1)
    | (go_at_call 66; refine (zeros_any y _ (by omega)).mono ?_; rintro e w1 ⟨rfl, hb1⟩; have hc1 := keep1 _ _ (by assumption) hb1)))
  go_wp2
  go_ret
  exact ⟨rfl, hc1.2.1⟩
end Go.Proofs.YtjbpibapbonkpaaGreatDoor
