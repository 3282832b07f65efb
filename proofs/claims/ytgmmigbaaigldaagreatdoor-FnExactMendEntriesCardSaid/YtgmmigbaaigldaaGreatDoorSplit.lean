/-
  splitBlocks: bytes as blocks.
-/
import Derived.RangeFuncBox
import Derived.RangeFuncLeaves
import Derived.Shelf.Abstract
import Derived.WalkKit
import Derived.OwnWalkIn
import Derived.TacticsInMore
import Derived.LoopNIn
import Derived.LoopIn
import Derived.Maps.AppendAt
import Derived.RegionIn
import Derived.BigRegionIn
import Derived.Test.YtgmmigbaaigldaaGreatDoorChunk
import Derived.Deep.RegionWith
namespace Go.Proofs.YtgmmigbaaigldaaGreatDoor
open Go Go.RowKit Go.Shelf lib
set_option linter.unusedVariables false
set_option maxRecDepth 100000
attribute [local go_sem] Oper.semAt_some
theorem splitBlocks_in (n : Nat) (hn : 3 ≤ n) (g m z c N : Nat) (u : Nat → UInt8) (hN : m * z = N) (hz1 : 1 ≤ z) (hz : z ≤ 64) (hNb : N ≤ 65536) (hm : m ≤ 65536) (hcap : N ≤ c) (w : World)
    (hr : BRow w 5 g N u) :
    CallsIn Fence.wide n Tryz.prog 50 #[.slice (some ⟨g, 0, none⟩) N c, .int .i64 z] w fun e W' => ∃ A c', e = .returned (.slice A m c') ∧ W'.ownsRow w.heap.size 9 1 (.slice A m c') m ((List.range m).map fun i => .string (blkOf z u i)) ∧ Below w.heap.size w W' := by
  have h1 : 1 ≤ n := by omega
  obtain ⟨i0, hi, hz0, hzz1, hz2⟩ := info_parts (show (Tryz.prog.info? 9).map (fun i => (i.zero, i.size, i.bytes)) = some (some (.string .empty), 1, 16) by kernel_rfl)
  refine callsIn_of_wp_marks Tryz.func50 rfl trivial ?_ rfl
  simp only [Tryz.ntmps50, List.size_toArray, List.length_cons, List.length_nil, Nat.reduceAdd, Nat.reduceSub, Array.replicate_succ, Array.replicate_zero, List.push_toArray, List.append_toArray, List.nil_append, List.cons_append]
  gi_wp2_with (refine ⟨trivial, ?_⟩; gi_at_call 78; refine (chunk_in (n - 1) _ _ _ z hz1 _).mono ?_; rintro e w' ⟨rfl, rfl⟩)
  have bO := Boxed.new w 22 (.slice none 0 0)
  have bS := Boxed.new (w.alloc (.cells #[.slice none 0 0] 22)) 50 (.slice (some ⟨g, 0, none⟩) N c)
  have bZ := Boxed.new ((w.alloc (.cells #[.slice none 0 0] 22)).alloc (.cells #[.slice (some ⟨g, 0, none⟩) N c] 50)) 3 (.int .i64 z)
  rw [World.size_alloc] at bS
  rw [World.size_alloc, World.size_alloc] at bZ
  have hB0 : Below w.heap.size w (((w.alloc (.cells #[.slice none 0 0] 22)).alloc (.cells #[.slice (some ⟨g, 0, none⟩) N c] 50)).alloc (.cells #[.int .i64 z] 3)) := ((((Below.refl _ w).alloc (Nat.le_refl _) _).alloc (by simp) _).alloc (by simp; omega) _)
  have hmz : m ≤ m * z := Nat.le_mul_of_pos_right _ (by omega)
  have hro : Fence.wide.round = none := rfl
  refine wpIn_rangeFunc_ownG (ps := #[10]) hro h1 (gf := 98) (lb := #[.pointer (some ⟨w.heap.size + 1, 0, none⟩), .pointer (some ⟨w.heap.size + 1 + 1, 0, none⟩)]) rfl trivial (enters_of Tryz.func98 (by kernel_rfl) rfl)
    (chunk_stops (n - 1) (by omega) (w.heap.size + 1) w.heap.size g m z c N hN hz1 hz hNb hcap _ (by simp) (bS.alloc _) bZ) kpC_t (kpC_b (by simp; omega) (by simp)) (Below.refl _ _) (fun _ => rfl)
    (fun (pre : List (Off N z)) W => (∃ v, Boxed W w.heap.size 22 v ∧ W.ownsRow w.heap.size 9 1 v pre.length (pre.map fun x : Off N z => Value.string (bstr z fun j => u (x.1 + j))) ∧ True) ∧ Below w.heap.size w W)
    (fun _ _ _ => False)
    (OwnFrom.and (Own.from (holdsRow_own w.heap.size w.heap.size 22 9 1 (β := List (Off N z)) (fun pre : List (Off N z) => pre.length) (fun pre : List (Off N z) => pre.map fun x : Off N z => Value.string (bstr z fun j => u (x.1 + j))) (fun _ _ => True)) _) (ownFrom_below (Nat.le_refl _) (by simp; omega)))
    (fun _ _ _ _ _ hs _ _ => hs)
    ⟨⟨_, (bO.alloc _).alloc _, World.ownsRow_nil _ _ _ _, trivial⟩, hB0⟩
    (fun x => { tmps := #[.slice (some ⟨g, 0, none⟩) N c, .int .i64 z, undef, undef, .slice none 0 0, .pointer (some ⟨w.heap.size, 0, none⟩), .slice (some ⟨g, x.1, none⟩) z z, .slice (some ⟨g, 0, none⟩) N c, .int .i64 z, .func (.func 98) #[] #[.pointer (some ⟨w.heap.size + 1, 0, none⟩), .pointer (some ⟨w.heap.size + 1 + 1, 0, none⟩)], .slice (some ⟨g, x.1, none⟩) z z, undef, undef, undef, undef, undef, undef], defers := [] }) ?assign ?body ?done ?stop
  case assign =>
    intro l x W K hK
    gi_wp2
    exact hK
  case body =>
    rintro l pre x W ⟨⟨v, hv, hrow, _⟩, hB⟩ hlt
    have hc := hv.cell
    have hx := x.2
    have hrW := hr.below hB hr.lt
    have hcv : (convert 50 9 (.slice (some ⟨g, x.1, none⟩) z z)).run Tryz.prog W = .ok (.string (bstr z fun j => u (x.1 + j))) W :=
      run_bstr (P := Tryz.prog) (w := W) (B := W.heap.size) 50 9 5 Tryz.underlying50 Tryz.underlying5 Tryz.underlying9 (u := fun j => u (x.1 + j)) (fun i hi => ⟨g, x.1, rfl, hrW.lt, hrW.cell (i := x.1 + i) (by omega)⟩) (by simp)
    gi_wp2_with (gi_at_builtin; refine wpListIn_append_own _ rfl _ _ 22 rfl w.heap.size 9 i0 (.string .empty) 1 16 Tryz.underlying22 hi hz0 hzz1 hz2 rfl (by decide) _ _ _ rfl (hrow.alloc _) ⟨W.heap.size, 0, none⟩ 1 1 [.string (bstr z fun j => u (x.1 + j))] rfl rfl (cell_one_new _ _ _) (by simp [Value.oneCell']) (by simp only [maxLen]; omega) (by omega) (by have := hB.size; simp; omega) ?_; intro v' w1 hown' hgrow _; have hown2 := hown'; obtain ⟨g', cap', rfl⟩ := ownsRow_succ hown'; obtain ⟨hv1, hv2, hr2, hk2, hb2⟩ := hv.appended (by decide) hrow hB.size (Nat.le_refl _) hown' hgrow; have hc1 := hv1.cell; have hf1 := hv1.frozen)
    refine ⟨hk2.from _, ⟨hb2, fun q hq => ?_, fun q hq => ?_⟩, ⟨_, hv2, by simpa using hr2, trivial⟩, hB.trans hb2⟩
    · exact ((hq.alloc _).kept hgrow (hq.not_row (by decide) hrow)).kept (grownBy_setCell' _ _ _) (by simp <;> omega)
    · exact ((hq.alloc _).kept hgrow (hq.not_row (by decide) hrow)).kept (grownBy_setCell' _ _ _) (by simp <;> omega)
  case done =>
    rintro D ys W hD hys ⟨⟨v, hv, hrow, _⟩, hB⟩ hK
    have hc := hv.cell
    have hl : ys.length = m := by have := congrArg List.length hys; simpa using this
    have hcs : (ys.map fun x : Off N z => Value.string (bstr z fun j => u (x.1 + j))) = (List.range m).map fun i => Value.string (blkOf z u i) := by
      have h1 : (ys.map fun x : Off N z => Value.string (bstr z fun j => u (x.1 + j))) = (ys.map (·.1)).map fun x => Value.string (bstr z fun j => u (x + j)) := by rw [List.map_map]; rfl
      rw [h1, hys, List.map_map]
      rfl
    rw [hl, hcs] at hrow
    obtain ⟨A, c', rfl⟩ : ∃ A c', v = .slice A m c' := by
      rcases hrow.2 with ⟨rfl, h0⟩ | ⟨gg, cap, cur, rfl, _⟩
      · exact ⟨none, 0, by rw [h0]⟩
      · exact ⟨_, _, rfl⟩
    gi_wp2
    refine ⟨by simp, .inl ⟨_, _, rfl, run_takeDeferred hK, ?_⟩⟩
    exact ⟨_, results_tmp rfl _ _ _, A, c', rfl, ownsRow_putObj hrow _ hK rfl, hB.trans (belowK_b (w := w) (Nat.le_refl _) W D _ _ (by simp at hD; omega) hK rfl rfl)⟩
  case stop =>
    rintro D c pre W _ _ h _
    exact h.elim
theorem implDisk_any {w : World} {p g n z e d t N c : Nat} {u : Nat → UInt8} (h : ChW w p g n z e d t N c u) (hN : n * z = N) (hn : n ≤ 128) (hz : z ≤ 32) (hz1 : 1 ≤ z) (hcN : N ≤ c) :
    Calls Tryz.prog 28 #[.pointer (some ⟨p, 0, none⟩)] w fun r w' => ∃ A c, r = .returned (.slice A n c) ∧ w'.ownsRow w.heap.size 9 1 (.slice A n c) n ((List.range n).map fun i => .string (blkOf z u i)) ∧ Below w.heap.size w w' := by
  have hNb : N ≤ 4096 := by rw [← hN]; exact Nat.mul_le_mul hn hz
  have h1 := h.c1
  have h5 := h.c5
  have HN := Lib.hid hN
  clear hN
  go_enter Tryz.func28, Tryz.ntmps28
  go_wp2_with fail
  go_region_with (go_at_call 50; refine ((callsIn_wide (n := 3)).1 (splitBlocks_in 3 (by omega) g n z c N u HN.out hz1 (by omega) (by omega) (by omega) hcN _ h.row.drew)).mono ?_; rintro e w' ⟨A, c', rfl, ho, hb⟩)
  all_goals
    go_wp2
    go_ret
    exact ⟨A, c', rfl, ho, Below.trans (Below.refl _ _).drew hb⟩
end Go.Proofs.YtgmmigbaaigldaaGreatDoor
