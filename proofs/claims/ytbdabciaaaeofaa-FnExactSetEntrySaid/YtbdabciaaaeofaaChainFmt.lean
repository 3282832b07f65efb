/-
  Disks of chains: an empty disk.
-/
import Derived.Test.YtbdabciaaaeofaaSplit
import Derived.Test.YtbdabciaaaeofaaChainHead
import Derived.Test.YtbdabciaaaeofaaCopy
import Derived.Deep.RegionLaw
namespace Go.Proofs.Ytbdabciaaaeofaa
open Go Go.ChangeShapes Go.WideShapes Go.ChangeAt Go.RowKit lib
set_option linter.unusedVariables false
set_option maxRecDepth 100000
theorem data_le : ∀ n : Fin 129, 8 ≤ n.val → ∀ z : Fin 33, (z.val = 8 ∨ z.val = 16 ∨ z.val = 32) → dataN n.val z.val ≤ n.val := by decide +kernel
theorem LayOk.data {n z : Nat} (h : LayOk n z) : dataN n z ≤ n := data_le ⟨n, by have := h.hi; omega⟩ h.lo ⟨z, by rcases h.sz with h | h | h <;> omega⟩ h.sz
/-- the links of the first k blocks are set to 253 -/
def linkN (u : Nat → UInt8) (z : Nat) : Nat → Nat → UInt8
  | 0 => u
  | k + 1 => upd (linkN u z k) (z + k) 253
/-- the bytes of an empty disk -/
def fmtU (n z : Nat) : Nat → UInt8 := linkN (putU (fun _ => 0) 0 (head6 n (entsN n)).data.toList) z (dataN n z)
theorem ChW.keep {w w' : World} {p g n z e d t N c : Nat} {u v : Nat → UInt8} (h : ChW w p g n z e d t N c u) (hp : w'.heap[p]? = w.heap[p]?) (hs : w.heap.size ≤ w'.heap.size) (hr : BRow w' 5 g N v) : ChW w' p g n z e d t N c v := by
  have far : ∀ j, w'.cell? ⟨p, j, none⟩ = w.cell? ⟨p, j, none⟩ := fun j => World.cell?_of_block (a := ⟨p, j, none⟩) hp
  exact ⟨(far 0).trans h.c0, (far 1).trans h.c1, (far 2).trans h.c2, (far 3).trans h.c3, (far 4).trans h.c4, (far 5).trans h.c5, hr, h.ne, Nat.lt_of_lt_of_le h.plt hs⟩
theorem ChW.made (W : World) (e0 n z e d t N c g : Nat) {u : Nat → UInt8} (hr : BRow W 5 g N u) :
    ChW (W.alloc (.cells #[.int .i64 n, .int .i64 z, .int .i64 e, .int .i64 d, .int .i64 t, .slice (some ⟨g, 0, none⟩) N c] e0)) W.heap.size g n z e d t N c u := by
  have h := Rw.new W e0 #[.int .i64 n, .int .i64 z, .int .i64 e, .int .i64 d, .int .i64 t, .slice (some ⟨g, 0, none⟩) N c]
  exact ⟨h.cell 0, h.cell 1, h.cell 2, h.cell 3, h.cell 4, h.cell 5, hr.alloc _, by have := hr.lt; omega, by simp⟩
theorem ChW.puts {w : World} {p g n z e d t N c : Nat} {u : Nat → UInt8} (h : ChW w p g n z e d t N c u) (o : Nat) (l : List UInt8) : ChW (w.setCells g o (l.map fun x => Value.int .u8 (x.toNat : Int))) p g n z e d t N c (putU u o l) :=
  h.keep (heap_setCells_other h.ne _ _ _) (Nat.le_of_eq (size_setCells _ _ _).symm) (BRow.setCells _ _ _ _ h.row)
theorem sizeOf8 : ∀ w, (Go.sizeOf 5).run Try.prog w = .ok 1 w := by
  intro w
  obtain ⟨i0, hi, hz0, hz1, hz2⟩ := info_parts (show (Try.prog.info? 5).map (fun i => (i.zero, i.size, i.bytes)) = some (some (.int .u8 0), 1, 1) by kernel_rfl)
  simp [Go.sizeOf, typeInfo, hi, hz1]
theorem head6_size (n e : Nat) : (head6 n e).size = 6 := rfl
theorem putU_zeros (l : List UInt8) (k : Nat) : putU (fun _ => 0) 0 (l ++ List.replicate k 0) = putU (fun _ => 0) 0 l := by
  funext j
  unfold putU
  by_cases h1 : j < l.length
  · rw [if_pos ⟨by omega, by simp; omega⟩, if_pos ⟨by omega, by omega⟩, List.getD_eq_getElem?_getD, List.getD_eq_getElem?_getD, List.getElem?_append_left (by omega)]
  · rw [if_neg (show ¬ (0 ≤ j ∧ j < 0 + l.length) by omega)]
    split
    · rw [List.getD_eq_getElem?_getD, List.getElem?_append_right (by omega), List.getElem?_replicate]
      split <;> rfl
    · rfl
theorem putU_head (n e y : Nat) : putU (fun _ => 0) 0 (head6 n e ++ zerosB y).data.toList = putU (fun _ => 0) 0 (head6 n e).data.toList := by
  rw [ByteArray.data_append, Array.toList_append]
  exact putU_zeros _ _
set_option maxHeartbeats 2000000 in
theorem l16Format_any (n z : Nat) (w : World) (h : LayOk n z) : Calls Try.prog 26 #[.int .i64 n, .int .i64 z] w fun r w' => ∃ p g, r = .returned (.pointer (some ⟨p, 0, none⟩)) ∧ ChW w' p g n z (entsN n) (dirN n z) (dataN n z) (n * z) (n * z) (fmtU n z) ∧ Below w.heap.size w w' ∧ w.heap.size ≤ p ∧ w.heap.size ≤ g := by
  have hd := h.data
  have hlo := h.lo
  have hhi := h.hi
  have hz8 : 8 ≤ z := by rcases h.sz with h | h | h <;> omega
  have hz32 : z ≤ 32 := by rcases h.sz with h | h | h <;> omega
  obtain ⟨N, hN⟩ : ∃ N, n * z = N := ⟨_, rfl⟩
  have hNn : n + z ≤ N := by
    rw [← hN]
    have := Nat.mul_le_mul (show 8 ≤ n by omega) (show 8 ≤ z by omega)
    obtain ⟨a, rfl⟩ : ∃ a, n = a + 2 := ⟨n - 2, by omega⟩
    have h2 := Nat.mul_le_mul_left a hz8
    rw [Nat.add_mul]
    omega
  have hNb : N ≤ 4096 := by rw [← hN]; exact Nat.mul_le_mul hhi hz32
  have e1 : (n : Int) * z = (N : Int) := by rw [← hN]; simp
  have e2 : IntKind.i64.wrap (N : Int) = (N : Int) := by rw [IntKind.wrap_i64]; omega
  have he : entsN n ≤ 16 := by unfold entsN; omega
  have hU : linkN (putU (fun _ => 0) 0 (head6 n (entsN n)).data.toList) z (dataN n z) = fmtU n z := rfl
  have hH := head6_size n (entsN n)
  rw [hN]
  clear hN
  have LS := fun w' => l16Sizes_any n z w' h
  have LH := fun w' : World => l16Head_any n z (entsN n) (dirN n z) (dataN n z) w' hhi he
  generalize entsN n = e at *
  generalize dirN n z = d at *
  generalize dataN n z = t at *
  generalize head6 n e = H at *
  generalize fmtU n z = U at *
  have HU := Lib.hid hU
  clear hU
  have HLS := Lib.hid LS
  have HLH := Lib.hid LH
  clear LS LH
  unfold layV at HLS HLH
  have mk : ∀ W : World, (Instr.makeSlice 52 (.int .i64 (N : Int)) (.int .i64 (N : Int))).run Try.prog W = .ok (.slice (some ⟨W.heap.size, 0, none⟩) N N) (W.alloc (.cells (madeCells #[.int .u8 0] N) 5)) := fun W => by
    have := run_mk (P := Try.prog) 52 5 (.int .u8 0) 1 1 Try.underlying52 (by kernel_rfl) (by omega) N (by omega) W
    rwa [Nat.mul_one] at this
  go_enter Try.func26, Try.ntmps26
  go_wp2_with fail
  go_region_with (go_at_call 47; refine (HLS.out _).mono ?_; rintro e1 w1 ⟨rfl, hb1⟩)
  all_goals
    first
    | have HC := ChW.made (w1.alloc (.cells (madeCells #[.int .u8 0] N) 5)) 65 n z e d t N N w1.heap.size (BRow.made w1 5 N)
      rw [World.size_alloc] at HC
      have HB : Below w.heap.size w ((w1.alloc (.cells (madeCells #[.int .u8 0] N) 5)).alloc (.cells #[.int .i64 n, .int .i64 z, .int .i64 e, .int .i64 d, .int .i64 t, .slice (some ⟨w1.heap.size, 0, none⟩) N N] 65)) :=
        Below.alloc (Below.alloc ((Below.refl _ _).drew.trans hb1) hb1.size _) (by have := hb1.size; simp at this ⊢; omega) _
      have hp : w.heap.size ≤ w1.heap.size + 1 := by have := hb1.size; simp at this; omega
      have hg : w.heap.size ≤ w1.heap.size := hb1.size
      obtain ⟨p, g, HE⟩ : ∃ p g, Hid (p = w1.heap.size + 1 ∧ g = w1.heap.size) := ⟨_, _, Lib.hid ⟨rfl, rfl⟩⟩
    | have hs1 : w.heap.size + 1 ≤ w1.heap.size := Nat.le_trans (Nat.le_of_eq (World.size_alloc _ _).symm) hb1.size
      have HC := ChW.made w1 65 n z e d t N N w.heap.size ((BRow.made w 5 N).drew.below hb1 (by show w.heap.size < (w.alloc _).heap.size; simp))
      have HB : Below w.heap.size w (w1.alloc (.cells #[.int .i64 n, .int .i64 z, .int .i64 e, .int .i64 d, .int .i64 t, .slice (some ⟨w.heap.size, 0, none⟩) N N] 65)) :=
        Below.alloc (Below.trans ((Below.refl _ _).alloc (Nat.le_refl _) _).drew (hb1.mono (by show w.heap.size ≤ (w.alloc _).heap.size; simp))) (by omega) _
      have hp : w.heap.size ≤ w1.heap.size := by omega
      have hg : w.heap.size ≤ w.heap.size := Nat.le_refl _
      obtain ⟨p, g, HE⟩ : ∃ p g, Hid (p = w1.heap.size ∧ g = w.heap.size) := ⟨_, _, Lib.hid ⟨rfl, rfl⟩⟩
    have h0 := HC.c0
    have h1 := HC.c1
    have h2 := HC.c2
    have h3 := HC.c3
    have h4 := HC.c4
    have h5 := HC.c5
    go_wp2_with fail
    go_region_law (first
      | (go_simp; go_at_call 48; refine (HLH.out _).mono ?_; rintro e2 w2 ⟨rfl, hb2⟩; have HC2 := HC.drew.below hb2; have k5 := HC2.c5)
      | (refine step_copy_string rfl (.tmp 19) (.tmp 24) 52 9 rfl 5 Try.underlying52 sizeOf8 _ 0 N N (by rfl) H (by rfl) (by omega) (fun j hj => by rw [Nat.zero_add, HC2.row.cell (by omega)]; rfl) (fun j hj => by rw [Nat.zero_add]; exact HC2.row.frozen (by omega)) ?_))
    all_goals
      have HC3 := HC2.puts 0 H.data.toList
      have HB3 := below_setCells hg (H.data.toList.map fun x => Value.int .u8 (x.toNat : Int)) 0 _ (HB.drew.trans (hb2.mono HB.drew.size))
      have l4 := HC3.c4
      clear h0 h1 h2 h3 h4 h5
      go_wp2_with fail
      go_loopw [6] (fun s6 wr => ∃ k : Nat, k ≤ t ∧ s6 = .int .i64 k ∧ ChW wr p g n z e d t N N (linkN (putU (fun _ => 0) 0 H.data.toList) z k) ∧ Below w.heap.size w wr) (fun i _ => t - (intOf i).toNat)
      case atStart =>
        obtain ⟨rfl, rfl⟩ := HE.out
        exact ⟨0, Nat.zero_le _, rfl, HC3, HB3⟩
      case round =>
        obtain ⟨k, hk, rfl, HW, HBr⟩ := hrel
        obtain ⟨rfl, rfl⟩ := HE.out
        have r4 := HW.c4
        by_cases hlt : k < t
        · go_wp2_with (go_at_call 39; refine (specSetLink_any k 253 HW (by omega) (by omega)).mono ?_; rintro e3 w3 ⟨rfl, rfl⟩)
          go_roundw
          case rel => exact ⟨k + 1, by omega, by go_num, (HW.put (z + k) 253 rfl).drew, (HBr.setCell hg _).drew⟩
          case measure => simp [intOf]; omega
        · obtain rfl : k = t := by omega
          go_wp2
          go_ret
          rw [HU.out] at HW
          exact ⟨_, rfl, _, HW, HBr, hp, hg⟩
end Go.Proofs.Ytbdabciaaaeofaa
