/-
  slices.Grow and slices.Concat of two lists of files: the program's side.
-/
import Derived.Test.YtdofpkdemmngeaaFCmp
import Derived.Test.YtdofpkdemmngeaaJnP
import Derived.Test.YtdofpkdemmngeaaAppR
import Derived.Test.YtdofpkdemmngeaaGrw
import Derived.Deep.DeepCutAuto
namespace Go.Proofs.Ytdofpkdemmngeaa
open Go Go.ChangeShapes Go.WideShapes Go.ChangeAt Go.RowKit lib
set_option linter.unusedVariables false
set_option linter.unusedSimpArgs false
set_option maxRecDepth 100000
theorem infoFL : (Try.prog.info? 43).map (fun i => (i.zero, i.size, i.bytes)) = some (some (.agg #[.string ⟨#[]⟩, .string ⟨#[]⟩]), 2, 32) := by kernel_rfl
theorem growF_any (k : Nat) (w : World) (hk : k ≤ 1048576) : Calls Try.prog 38 #[.slice none 0 0, .int .i64 k] w fun e w' => ∃ A c, e = .returned (.slice A 0 c) ∧ w'.ownsRow w.heap.size 43 2 (.slice A 0 c) 0 [] ∧ Below w.heap.size w w' := by
  obtain ⟨i0, hi0, hi1, hi2, hi3⟩ := info_parts infoFL
  rcases Nat.eq_zero_or_pos k with rfl | hk0
  · refine (show Calls Try.prog 38 #[.slice none 0 0, .int .i64 ((0 : Nat) : Int)] w _ from Any8.slices_Grow_room Try.grw none 0 0 0 w (by omega) (by omega) (by omega) (by omega)).mono ?_
    rintro e w' ⟨rfl, rfl⟩
    exact ⟨none, 0, rfl, World.ownsRow_nil _ _ _ _, Below.refl _ _⟩
  · refine (show Calls Try.prog 38 #[.slice none 0 0, .int .i64 (k : Int)] w _ from Any8.slices_Grow_grow Try.grw i0 _ hi0 hi1 (by rw [hi2]; decide) none 0 0 k [] w (by omega) (by omega) (by rw [hi3]; omega) (by omega) (by simp) (fun _ => rfl) (fun a h => by cases h)).mono ?_
    rintro e w' ⟨rfl, rfl⟩
    refine ⟨_, _, rfl, World.ownsRow_made _ _ _ (by simp) (grownCap_le_maxLen w _ _ _ (by unfold maxLen; omega)) ?_, ?_⟩
    · have h1 := grownCap_ge w (0 + k) 0 (Try.grw_ren.t 25)
      simp only [Array.size_append, size_zeroCells, List.size_toArray, List.length_nil, Value.cells]
      simp only [Nat.zero_add] at h1 ⊢
      simp
      omega
    · exact (Below.refl w.heap.size w).drew.alloc (Nat.le_refl _) _
theorem filS_flat (s : Nat → ByteArray) (n : Nat) : (filS s n).flatMap encF = (List.range (n * 2)).map fun i => Value.string (s i) := by
  rw [encF_range, filS_len]
  apply List.map_congr_left
  intro i hi
  simp only [List.mem_range] at hi
  congr 1
  unfold fAt
  have h2 : i / 2 < (filS s n).length := by rw [filS_len]; omega
  have : (filS s n).getD (i / 2) (⟨#[]⟩, ⟨#[]⟩) = (s (i / 2 * 2), s (i / 2 * 2 + 1)) := by
    rw [List.getD_eq_getElem?_getD, List.getElem?_eq_getElem h2]
    simp [filS]
  rw [this]
  split
  · rename_i h; show s (i / 2 * 2) = s i; congr 1; omega
  · rename_i h; show s (i / 2 * 2 + 1) = s i; congr 1; omega
set_option maxHeartbeats 2000000 in
theorem concat_any {w : World} {A B : Option Addr} {n m c d g : Nat} {s t : Nat → ByteArray} (hs : Sl w w.heap.size A (n * 2) (fun i => .string (s i))) (ht : Sl w w.heap.size B (m * 2) (fun i => .string (t i))) (hn : n ≤ 1024) (hm : m ≤ 1024)
    (hg : g < w.heap.size) (h0 : w.cell? ⟨g, 0, none⟩ = some (.slice A n c)) (h1 : w.cell? ⟨g, 1, none⟩ = some (.slice B m d)) :
    Calls Try.prog 18 #[.slice (some ⟨g, 0, none⟩) 2 2] w fun e w' => ∃ A' c', e = .returned (.slice A' (n + m) c') ∧ FileR w.heap.size w' A' c' (filS s n ++ filS t m) ∧ Below w.heap.size w w' := by
  have HS := Lib.hid hs
  have HT := Lib.hid ht
  obtain ⟨i0, hi0, hi1, hi2, hi3⟩ := info_parts infoFL
  have I0 := Lib.hid hi0
  have I1 := Lib.hid hi1
  have I2 := Lib.hid hi2
  have I3 := Lib.hid hi3
  clear hs ht hi0 hi1 hi2 hi3
  go_enter Try.func18, Try.ntmps18
  go_wp2_with fail
  go_loopw [3, 5, 11] (fun s3 s5 s11 wr => ∃ k v : Nat, k ≤ 2 ∧ s11 = .int .i64 k ∧ s3 = .int .i64 v ∧ (k = 0 → v = 0) ∧ (k = 1 → v = n) ∧ (k = 2 → v = n + m) ∧ wr = w) (fun _ _ i _ => 2 - (intOf i).toNat)
  case atStart => exact ⟨0, 0, by omega, rfl, rfl, fun _ => rfl, fun h => by omega, fun h => by omega, rfl⟩
  case round =>
    obtain ⟨k, v, hk, rfl, rfl, hv0, hv1, hv2, rfl⟩ := hrel
    have hk3 : k = 0 ∨ k = 1 ∨ k = 2 := by omega
    rcases hk3 with rfl | rfl | rfl
    · obtain rfl := hv0 rfl
      clear hv0 hv1 hv2
      go_wp2_with fail
      go_roundw
      case rel => exact ⟨1, n, by omega, by go_num, by go_num, fun h => by omega, fun _ => rfl, fun h => by omega, trivial⟩
      case measure => simp [intOf]
    · obtain rfl := hv1 rfl
      clear hv0 hv1 hv2
      go_wp2_with fail
      go_roundw
      case rel => exact ⟨2, v + m, by omega, by go_num, by go_num, fun h => by omega, fun h => by omega, fun _ => rfl, trivial⟩
      case measure => simp [intOf]
    · obtain rfl := hv2 rfl
      clear hv0 hv1 hv2
      obtain ⟨w, rfl⟩ : ∃ w, w = wr := ⟨_, rfl⟩
      go_upto_region 10 with (go_at_call 38; refine (growF_any (n + m) _ (by omega)).mono ?_; rintro e w1 ⟨A1, c1, rfl, ho1, hb1⟩)
      have hz1 := hb1.size
      have g0 := (hb1.cell (p := ⟨g, 0, none⟩) hg).trans h0
      have g1 := (hb1.cell (p := ⟨g, 1, none⟩) hg).trans h1
      have HO1 := Lib.hid ho1
      have HB1 := Lib.hid hb1
      have G0 := Lib.hid h0
      have G1 := Lib.hid h1
      clear ho1 hb1 h0 h1 g0 g1
      go_wp2_with fail
      go_loopw [6, 8, 27] (fun s6 s8 s27 wr => ∃ (k v c' : Nat) (A' : Option Addr) (L : List FL2), k ≤ 2 ∧ s27 = .int .i64 k ∧ s6 = .slice A' v c' ∧ L.length = v ∧ wr.ownsRow w.heap.size 43 2 (.slice A' v c') v (L.flatMap encF) ∧ (k = 0 → L = []) ∧ (k = 1 → L = filS s n) ∧ (k = 2 → L = filS s n ++ filS t m) ∧ Below w.heap.size w wr) (fun _ _ i _ => 2 - (intOf i).toNat)
      case atStart => exact ⟨0, 0, c1, A1, [], by omega, rfl, rfl, rfl, HO1.out, fun _ => rfl, fun h => by omega, fun h => by omega, HB1.out⟩
      case round =>
        obtain ⟨k, v, c', A', L, hk, rfl, rfl, hLv, ho, hL0, hL1, hL2, hb⟩ := hrel
        have hzr := hb.size
        have HO := Lib.hid ho
        have HB := Lib.hid hb
        have g0 := (hb.cell (p := ⟨g, 0, none⟩) hg).trans G0.out
        have g1 := (hb.cell (p := ⟨g, 1, none⟩) hg).trans G1.out
        have HSR := Lib.hid (HS.out.below hb)
        have HTR := Lib.hid (HT.out.below hb)
        clear ho hb
        have hk3 : k = 0 ∨ k = 1 ∨ k = 2 := by omega
        rcases hk3 with rfl | rfl | rfl
        · obtain rfl := hL0 rfl
          obtain rfl : v = 0 := by simpa using hLv.symm
          clear hL0 hL1 hL2 hLv
          go_wp2_with (at_builtin; refine wpList_appR rfl (.tmp 31) (.tmp 32) 24 rfl w.heap.size 43 i0 (.agg #[.string ⟨#[]⟩, .string ⟨#[]⟩]) 2 32 Try.underlying24 I0.out I1.out I2.out I3.out rfl (by omega) _ 0 _ (by rfl) HO.out A n c w.heap.size (fun i => .string (s i)) (by rfl) HSR.out (fun _ => rfl) (by simp only [maxLen]; omega) (by omega) hzr ?_; intro A7 c7 w7 ho7 hg7 hown7)
          go_roundw
          case rel => exact ⟨1, n, c7, A7, filS s n, by omega, by go_num, by first | rfl | rw [Nat.zero_add], filS_len _ _, by rw [filS_flat]; simpa using ho7, fun h => by omega, fun _ => rfl, fun h => by omega, HB.out.grown hg7 hzr (fun j hj => own_lt HO.out j hj)⟩
          case measure => simp [intOf]
        · obtain rfl := hL1 rfl
          rw [filS_len] at hLv
          subst hLv
          clear hL0 hL1 hL2
          go_wp2_with (at_builtin; refine wpList_appR rfl (.tmp 31) (.tmp 32) 24 rfl w.heap.size 43 i0 (.agg #[.string ⟨#[]⟩, .string ⟨#[]⟩]) 2 32 Try.underlying24 I0.out I1.out I2.out I3.out rfl (by omega) _ n _ (by rfl) HO.out B m d w.heap.size (fun i => .string (t i)) (by rfl) HTR.out (fun _ => rfl) (by simp only [maxLen]; omega) (by omega) hzr ?_; intro A7 c7 w7 ho7 hg7 hown7)
          go_roundw
          case rel => exact ⟨2, n + m, c7, A7, filS s n ++ filS t m, by omega, by go_num, rfl, by rw [List.length_append, filS_len, filS_len], by rw [List.flatMap_append, filS_flat t m]; exact ho7, fun h => by omega, fun h => by omega, fun _ => rfl, HB.out.grown hg7 hzr (fun j hj => own_lt HO.out j hj)⟩
          case measure => simp [intOf]
        · obtain rfl := hL2 rfl
          rw [List.length_append, filS_len, filS_len] at hLv
          subst hLv
          clear hL0 hL1 hL2
          go_wp2_with fail
          go_ret
          refine ⟨A', c', rfl, ?_, HB.out⟩
          unfold FileR
          rw [List.length_append, filS_len, filS_len]
          exact HO.out
end Go.Proofs.Ytdofpkdemmngeaa
