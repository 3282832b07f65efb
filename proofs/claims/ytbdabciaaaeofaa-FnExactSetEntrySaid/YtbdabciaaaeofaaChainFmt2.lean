/-
  Disks of chains: an empty disk, the program's side; shapes.
-/
import Derived.Test.YtbdabciaaaeofaaChainFmt
namespace Go.Proofs.Ytbdabciaaaeofaa
open Go Go.ChangeShapes Go.WideShapes Go.ChangeAt Go.RowKit lib
set_option linter.unusedVariables false
set_option maxRecDepth 100000
set_option maxHeartbeats 2000000 in
theorem implFormat_in (n z : Nat) (w : World) (h : LayOk n z) : Calls Try.prog 8 #[.int .i64 n, .int .i64 z] w fun r w' => ∃ A c, r = .returned (.tuple #[.slice A n c, .int .i64 0]) ∧ w'.ownsRow w.heap.size 9 1 (.slice A n c) n ((List.range n).map fun i => .string (blkOf z (fmtU n z) i)) ∧ Below w.heap.size w w' := by
  have hd := h.data
  have hlo := h.lo
  have hhi := h.hi
  have hz8 : 8 ≤ z := by rcases h.sz with h | h | h <;> omega
  have hz32 : z ≤ 32 := by rcases h.sz with h | h | h <;> omega
  obtain ⟨N, hN⟩ : ∃ N, n * z = N := ⟨_, rfl⟩
  have hNn : n + z ≤ N := by
    rw [← hN]
    have := Nat.mul_le_mul (show 8 ≤ n by omega) (show 8 ≤ z by omega)
    obtain ⟨a, rfl⟩ : ∃ a, n = a + 2 := ⟨n - 2, by omega⟩
    have h2 := Nat.mul_le_mul_left a hz8
    rw [Nat.add_mul]
    omega
  have hNb : N ≤ 4096 := by rw [← hN]; exact Nat.mul_le_mul hhi hz32
  have e1 : (n : Int) * z = (N : Int) := by rw [← hN]; simp
  have e2 : IntKind.i64.wrap (N : Int) = (N : Int) := by rw [IntKind.wrap_i64]; omega
  have he : entsN n ≤ 16 := by unfold entsN; omega
  have hU : linkN (putU (fun _ => 0) 0 (head6 n (entsN n) ++ zerosB (z - 6)).data.toList) z (dataN n z) = fmtU n z := by rw [putU_head]; rfl
  have hH : (head6 n (entsN n) ++ zerosB (z - 6)).size = z := by
    rw [ByteArray.size_append, head6_size, show (zerosB (z - 6)).size = z - 6 by unfold zerosB; simp [ByteArray.size]]
    omega
  have LS := fun w' => chainLayout_any n z w' h
  have LH := fun w' : World => chainHeader_any n z (entsN n) (dirN n z) (dataN n z) w' hhi he hz8 hz32
  have LD := fun (w : World) (p g e d t : Nat) (hc : ChW w p g n z e d t N N (fmtU n z)) => implDisk_any hc hN hhi hz32 (by omega) (Nat.le_refl _)
  generalize entsN n = e at *
  generalize dirN n z = d at *
  generalize dataN n z = t at *
  generalize head6 n e ++ zerosB (z - 6) = H at *
  generalize fmtU n z = U at *
  have HU := Lib.hid hU
  have HN := Lib.hid hN
  have hsz := h.sz
  clear hU hN h
  have HLS := Lib.hid LS
  have HLH := Lib.hid LH
  have HLD := Lib.hid LD
  clear LS LH LD
  unfold layV at HLS HLH
  have hw1 : decide ((8 : Int) ≤ n) = true := by simp; omega
  have hw2 : decide ((n : Int) ≤ 128) = true := by simp; omega
  have mk : ∀ W : World, (Instr.makeSlice 52 (.int .i64 (N : Int)) (.int .i64 (N : Int))).run Try.prog W = .ok (.slice (some ⟨W.heap.size, 0, none⟩) N N) (W.alloc (.cells (madeCells #[.int .u8 0] N) 5)) := fun W => by
    have := run_mk (P := Try.prog) 52 5 (.int .u8 0) 1 1 Try.underlying52 (by kernel_rfl) (by omega) N (by omega) W
    rwa [Nat.mul_one] at this
  have hq : (((z : Int) = 8) = True ∧ ((z : Int) != 8) = false) ∨ ((((z : Int) = 8) = False ∧ ((z : Int) != 8) = true) ∧ (((z : Int) = 16) = True ∧ ((z : Int) != 16) = false)) ∨
      ((((z : Int) = 8) = False ∧ ((z : Int) != 8) = true) ∧ (((z : Int) = 16) = False ∧ ((z : Int) != 16) = true) ∧ (((z : Int) = 32) = True ∧ ((z : Int) != 32) = false)) := by
    rcases hsz with rfl | rfl | rfl <;> simp
  clear hsz
  have e0 : (0 : Int) ≤ (N : Int) := by omega
  rcases hq with ⟨q8, b8⟩ | ⟨⟨q8, b8⟩, q16, b16⟩ | ⟨⟨q8, b8⟩, ⟨q16, b16⟩, q32, b32⟩
  all_goals
    go_enter Try.func8, Try.ntmps8
    go_wp2_with (first
      | (go_at_call 28; refine (within_any _ _ _ _).mono ?_; rintro e w' ⟨rfl, rfl⟩)
      | (go_at_call 29; refine (HLS.out _).mono ?_; rintro e1 w1 ⟨rfl, hb1⟩))
    go_region
    have hs1 := hb1.size
    have HC := (ChW.made ((w1.alloc (.cells #[.int .i64 n, .int .i64 z, .int .i64 e, .int .i64 d, .int .i64 t] 49)).alloc (.cells (madeCells #[.int .u8 0] N) 5)) 54 n z e d t N N _ (BRow.made (w1.alloc (.cells #[.int .i64 n, .int .i64 z, .int .i64 e, .int .i64 d, .int .i64 t] 49)) 5 N)).drew
    rw [World.size_alloc, World.size_alloc, World.size_alloc] at HC
    have HR := ((Rw.new w1 49 #[.int .i64 n, .int .i64 z, .int .i64 e, .int .i64 d, .int .i64 t]).alloc (.cells (madeCells #[.int .u8 0] N) 5)).alloc (.cells #[.int .i64 n, .int .i64 z, .int .i64 e, .int .i64 d, .int .i64 t, .slice (some ⟨w1.heap.size + 1, 0, none⟩) N N] 54)
    have HB : Below w.heap.size w (((w1.alloc (.cells #[.int .i64 n, .int .i64 z, .int .i64 e, .int .i64 d, .int .i64 t] 49)).alloc (.cells (madeCells #[.int .u8 0] N) 5)).alloc (.cells #[.int .i64 n, .int .i64 z, .int .i64 e, .int .i64 d, .int .i64 t, .slice (some ⟨w1.heap.size + 1, 0, none⟩) N N] 54)).drew :=
      (((hb1.alloc hs1 _).alloc (by simp; omega) _).alloc (by simp; omega) _).drew
    go_wp2_with fail
    go_region_law (first
      | (go_simp; go_at_call 30; refine (HLH.out _).mono ?_; rintro e2 w2 ⟨rfl, hb2⟩; have HC2 := HC.drew.below hb2; have HR2 := (HR.drew.drew).below hb2 (HR.drew.drew).lt; have k5 := HC2.c5)
      | (refine step_copy_string rfl (.tmp 37) (.tmp 39) 52 9 rfl 5 Try.underlying52 sizeOf8 _ 0 N N (by rfl) H (by rfl) (by omega) (fun j hj => by rw [Nat.zero_add, HC2.row.cell (by omega)]; rfl) (fun j hj => by rw [Nat.zero_add]; exact HC2.row.frozen (by omega)) ?_))
    all_goals
      have HC3 := HC2.puts 0 H.data.toList
      have HB3 := below_setCells (show w.heap.size ≤ w1.heap.size + 1 by omega) (H.data.toList.map fun x => Value.int .u8 (x.toNat : Int)) 0 _ (HB.drew.trans (hb2.mono HB.drew.size))
      have l4 : (w2.setCells (w1.heap.size + 1) 0 (H.data.toList.map fun x => Value.int .u8 (x.toNat : Int))).cell? ⟨w1.heap.size, 4, none⟩ = some (.int .i64 t) :=
        (World.cell?_of_block (a := ⟨w1.heap.size, 4, none⟩) (heap_setCells_other (show w1.heap.size ≠ w1.heap.size + 1 by omega) _ _ _)).trans (HR2.cell 4)
      go_wp2_with fail
      go_loopw [8, 43] (fun s8 s43 wr => ∃ k : Nat, k ≤ t ∧ s43 = .int .i64 k ∧ ChW wr (w1.heap.size + 1 + 1) (w1.heap.size + 1) n z e d t N N (linkN (putU (fun _ => 0) 0 H.data.toList) z k) ∧ Below w.heap.size w wr) (fun _ i _ => t - (intOf i).toNat)
      case atStart => exact ⟨0, Nat.zero_le _, rfl, HC3, HB3⟩
      case round =>
        obtain ⟨k, hk, rfl, HW, HBr⟩ := hrel
        by_cases hlt : k < t
        · have hrc := HW.row.cell (i := z + k) (by omega)
          have hrf := HW.row.frozen (i := z + k) (by omega)
          go_wp2_with (go_at_call 31; refine (implLink_any k HW (by omega) (by omega)).mono ?_; rintro e3 w3 ⟨rfl, rfl⟩)
          go_roundw
          case rel => exact ⟨k + 1, by omega, by go_num, HW.drew.put (z + k) 253 rfl, HBr.drew.setCell (show w.heap.size ≤ w1.heap.size + 1 by omega) _⟩
          case measure => simp [intOf]; omega
        · obtain rfl : k = t := by omega
          rw [HU.out] at HW
          go_wp2_with (go_at_call 32; refine (HLD.out _ _ _ _ _ _ HW).mono ?_; rintro e4 w4 ⟨A, c, rfl, ho, hb4⟩)
          go_ret2
          exact ⟨A, c, rfl, own_base ho HBr.size, HBr.trans (hb4.mono HBr.size)⟩
theorem implFormat_out (n z : Int) (w : World) (h : ¬ (8 ≤ n ∧ n ≤ 128 ∧ (z = 8 ∨ z = 16 ∨ z = 32))) : Calls Try.prog 8 #[.int .i64 n, .int .i64 z] w fun r w' => r = .returned (.tuple #[.slice none 0 0, .int .i64 2]) ∧ w = w' := by
  by_cases hn : 8 ≤ n ∧ n ≤ 128
  · have hw : (decide ((8 : Int) ≤ n) && decide (n ≤ 128)) = true := by simp; omega
    have q8 : (z = 8) = False := by simp; rintro rfl; exact h (by omega)
    have q16 : (z = 16) = False := by simp; rintro rfl; exact h (by omega)
    have q32 : (z = 32) = False := by simp; rintro rfl; exact h (by omega)
    have b8 : (z != 8) = true := by simpa using q8
    have b16 : (z != 16) = true := by simpa using q16
    have b32 : (z != 32) = true := by simpa using q32
    clear h
    go_enter Try.func8, Try.ntmps8
    go_wp2_with (go_at_call 28; refine (within_any _ _ _ _).mono ?_; rw [hw]; rintro e w' ⟨rfl, rfl⟩)
    go_ret2
    exact ⟨rfl, rfl⟩
  · have hw : (decide ((8 : Int) ≤ n) && decide (n ≤ 128)) = false := by
      rw [Bool.eq_false_iff]
      intro h
      simp at h
      exact hn h
    clear h
    go_enter Try.func8, Try.ntmps8
    go_wp2_with (go_at_call 28; refine (within_any _ _ _ _).mono ?_; rw [hw]; rintro e w' ⟨rfl, rfl⟩)
    go_ret2
    exact ⟨rfl, rfl⟩
/-- whether a number is among the first n -/
def hasZ (z : Nat → Int) (n : Nat) (v : Int) : Bool := (List.range n).any fun i => z i == v
theorem hasZ_true {z : Nat → Int} {n : Nat} {v : Int} {k : Nat} (hk : k < n) (h : z k = v) : hasZ z n v = true := by
  unfold hasZ
  rw [List.any_eq_true]
  exact ⟨k, by simpa using hk, by simpa using h⟩
theorem hasZ_false {z : Nat → Int} {n : Nat} {v : Int} (h : ∀ k, k < n → z k ≠ v) : hasZ z n v = false := by
  unfold hasZ
  rw [List.any_eq_false]
  intro k hk
  simpa using h k (by simpa using hk)
theorem l00Has_any {w : World} {B n c : Nat} {A : Option Addr} (z : Nat → Int) (v : Int) (h : Sl w B A n (fun i => .int .i64 (z i))) (hn : n ≤ 1048576) : Calls Try.prog 46 #[.slice A n c, .int .i64 v] w fun e w' => e = .returned (.bool (hasZ z n v)) ∧ w = w' := by
  go_enter Try.func46, Try.ntmps46
  go_wp2_with fail
  go_loopw [5] (fun s5 wr => ∃ k : Nat, k ≤ n ∧ s5 = .int .i64 k ∧ (∀ j, j < k → z j ≠ v) ∧ wr = w) (fun i _ => n - (intOf i).toNat)
  case atStart => exact ⟨0, Nat.zero_le _, rfl, fun j hj => absurd hj (by omega), rfl⟩
  case round =>
    obtain ⟨k, hk, rfl, hz, rfl⟩ := hrel
    by_cases hlt : k < n
    · obtain ⟨b, o, rfl, hb, hc⟩ := h k hlt
      by_cases he : z k = v
      · have HT := Lib.hid (hasZ_true hlt he)
        subst he
        clear hz
        go_wp2
        go_ret
        exact ⟨by rw [HT.out]; rfl, rfl⟩
      · have he' : (z k = v) = False := by simpa using he
        have he2 : (z k == v) = false := by simpa using he
        dsimp only at hc
        have HZ := Lib.hid hz
        clear hz he
        go_wp2
        exact ⟨⟨k + 1, by omega, by go_num, fun j hj => by
          rcases Nat.lt_succ_iff_lt_or_eq.1 hj with h | rfl
          · exact HZ.out j h
          · simpa using he', trivial⟩, by simp [intOf]; omega⟩
    · obtain rfl : k = n := by omega
      have HZ := Lib.hid (hasZ_false hz)
      clear hz
      go_wp2
      go_ret
      exact ⟨by rw [HZ.out]; rfl, rfl⟩
theorem l16Shape_any (n z : Int) (w : World) : Calls Try.prog 25 #[.int .i64 n, .int .i64 z] w fun r w' => r = .returned (.bool (decide (8 ≤ n ∧ n ≤ 128 ∧ (z = 8 ∨ z = 16 ∨ z = 32)))) ∧ Below w.heap.size w w' := by
  by_cases hn : 8 ≤ n ∧ n ≤ 128
  · have hw : (decide ((8 : Int) ≤ n) && decide (n ≤ 128)) = true := by simp; omega
    have hb : decide (8 ≤ n ∧ n ≤ 128 ∧ (z = 8 ∨ z = 16 ∨ z = 32)) = hasZ (fun i => [8, 16, 32].getD i 0) 3 z := by
      have : hasZ (fun i => [8, 16, 32].getD i 0) 3 z = (((8 : Int) == z) || (((16 : Int) == z) || (((32 : Int) == z) || false))) := rfl
      rw [this, Bool.eq_iff_iff, decide_eq_true_iff]
      constructor
      · rintro ⟨_, _, rfl | rfl | rfl⟩ <;> rfl
      · intro h
        simp at h
        omega
    rw [hb]
    clear hb hn
    have hs : Sl (w.alloc (.cells #[.int .i64 8, .int .i64 16, .int .i64 32] 2)) (w.heap.size + 1) (some ⟨w.heap.size, 0, none⟩) 3 (fun i => .int .i64 ([8, 16, 32].getD i 0)) := by
      have := (Rw.new w 2 #[.int .i64 8, .int .i64 16, .int .i64 32]).sl (n := 3) (f := fun i => .int .i64 ([8, 16, 32].getD i 0)) (fun i hi => by
        match i, hi with
        | 0, _ => rfl
        | 1, _ => rfl
        | 2, _ => rfl)
      simpa using this
    go_enter Try.func25, Try.ntmps25
    go_wp2_with (first
      | (go_at_call 38; refine (l00In_any _ _ _ _).mono ?_; rw [hw]; rintro e w' ⟨rfl, rfl⟩)
      | (go_at_call 46; refine (l00Has_any _ z hs (by omega)).mono ?_; rintro e w' ⟨rfl, rfl⟩))
    go_ret
    exact ⟨rfl, (Below.refl _ _).alloc (Nat.le_refl _) _⟩
  · have hw : (decide ((8 : Int) ≤ n) && decide (n ≤ 128)) = false := by
      rw [Bool.eq_false_iff]
      intro h
      simp at h
      exact hn h
    have hb : decide (8 ≤ n ∧ n ≤ 128 ∧ (z = 8 ∨ z = 16 ∨ z = 32)) = false := by
      rw [decide_eq_false_iff_not]
      exact fun h => hn ⟨h.1, h.2.1⟩
    rw [hb]
    clear hb hn
    go_enter Try.func25, Try.ntmps25
    go_wp2_with (go_at_call 38; refine (l00In_any _ _ _ _).mono ?_; rw [hw]; rintro e w' ⟨rfl, rfl⟩)
    go_ret
    exact ⟨rfl, Below.refl _ _⟩
theorem specFormat_in (n z : Nat) (w : World) (h : LayOk n z) : Calls Try.prog 7 #[.int .i64 n, .int .i64 z] w fun r w' => ∃ A c, r = .returned (.tuple #[.slice A n c, .int .i64 0]) ∧ w'.ownsRow w.heap.size 9 1 (.slice A n c) n ((List.range n).map fun i => .string (blkOf z (fmtU n z) i)) ∧ Below w.heap.size w w' := by
  have hsz := h.sz
  have hlo := h.lo
  have hhi := h.hi
  have hd : decide ((8 : Int) ≤ n ∧ (n : Int) ≤ 128 ∧ ((z : Int) = 8 ∨ (z : Int) = 16 ∨ (z : Int) = 32)) = true := by
    rw [decide_eq_true_iff]
    omega
  have HS := Lib.hid (fun w : World => l16Shape_any n z w)
  rw [hd] at HS
  clear hd
  have HF := Lib.hid (fun w : World => l16Format_any n z w h)
  have HD := Lib.hid (fun (w : World) (p g e d t : Nat) (u : Nat → UInt8) (hc : ChW w p g n z e d t (n * z) (n * z) u) => specDisk_any hc rfl (by omega) (by omega) (by omega) (Nat.le_refl _))
  clear h hsz
  go_enter Try.func7, Try.ntmps7
  go_wp2_with (first
    | (go_at_call 25; refine (HS.out _).mono ?_; rintro e w1 ⟨rfl, hb1⟩)
    | (go_at_call 26; refine (HF.out _).mono ?_; rintro e w2 ⟨p, g, rfl, hc, hb2, _⟩)
    | (go_at_call 27; refine (HD.out _ _ _ _ _ _ _ hc).mono ?_; rintro e w3 ⟨A, c, rfl, ho, hb3⟩))
  go_ret2
  have hb12 := hb1.trans (hb2.mono hb1.size)
  exact ⟨A, c, rfl, own_base ho hb12.size, hb12.trans (hb3.mono hb12.size)⟩
theorem specFormat_out (n z : Int) (w : World) (h : ¬ (8 ≤ n ∧ n ≤ 128 ∧ (z = 8 ∨ z = 16 ∨ z = 32))) : Calls Try.prog 7 #[.int .i64 n, .int .i64 z] w fun r w' => r = .returned (.tuple #[.slice none 0 0, .int .i64 2]) ∧ Below w.heap.size w w' := by
  have hd : decide (8 ≤ n ∧ n ≤ 128 ∧ (z = 8 ∨ z = 16 ∨ z = 32)) = false := by
    rw [decide_eq_false_iff_not]
    exact h
  have HS := Lib.hid (fun w : World => l16Shape_any n z w)
  rw [hd] at HS
  clear hd h
  go_enter Try.func7, Try.ntmps7
  go_wp2_with (go_at_call 25; refine (HS.out _).mono ?_; rintro e w1 ⟨rfl, hb1⟩)
  go_ret2
  exact ⟨rfl, hb1⟩
end Go.Proofs.Ytbdabciaaaeofaa
