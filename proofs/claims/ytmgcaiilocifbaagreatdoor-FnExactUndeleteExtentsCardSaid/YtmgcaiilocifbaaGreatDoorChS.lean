/-
  slices.Chunk over bytes, whole chunks alone; splitBlocks.
  splitBlocks: bytes as blocks.
-/
import Derived.RangeFuncBox
import Derived.RangeFuncLeaves
import Derived.Shelf.Abstract
import Derived.WalkKit
import Derived.OwnWalkIn
import Derived.TacticsInMore
import Derived.LoopNIn
import Derived.LoopIn
import Derived.Maps.AppendAt
import Derived.RegionIn
import Derived.BigRegionIn
import Derived.Test.YtmgcaiilocifbaaGreatDoorChA
import Derived.Deep.RegionWith
namespace Go.Proofs.YtmgcaiilocifbaaGreatDoor
open Go Go.RowKit Go.Shelf lib
set_option linter.unusedVariables false
set_option maxRecDepth 100000
attribute [local go_sem] Oper.semAt_some
theorem chunk_in (n : Nat) (a : Option Addr) (len cap z : Nat) (hz : 1 ≤ z) (w : World) :
    CallsIn Fence.wide n Tryz.prog 70 #[.slice a len cap, .int .i64 z] w fun e w' => e = .returned (.func (.func 86) #[] #[.pointer (some ⟨w.heap.size, 0, none⟩), .pointer (some ⟨w.heap.size + 1, 0, none⟩)]) ∧ w' = (w.alloc (.cells #[.slice a len cap] 49)).alloc (.cells #[.int .i64 z] 3) := by
  refine callsIn_of_wp Tryz.func70 rfl trivial ?_ rfl
  simp only [Tryz.ntmps70, List.size_toArray, List.length_cons, List.length_nil, Nat.reduceAdd, Nat.reduceSub, Array.replicate_succ, Array.replicate_zero, List.push_toArray, List.append_toArray, List.nil_append, List.cons_append]
  gi_wp2
  go_ret
  exact ⟨rfl, rfl⟩
/-- an offset of a whole chunk -/
abbrev Off (N z : Nat) : Type := { x : Nat // x + z ≤ N }
/-- what a round keeps: what lay below n₀, and the iterator's two boxes -/
def KpC (n₀ Bs : Nat) (A B : World) : Prop := Below n₀ A B ∧ (∀ u, Boxed A Bs 49 u → Boxed B Bs 49 u) ∧ (∀ u, Boxed A (Bs + 1) 3 u → Boxed B (Bs + 1) 3 u)
theorem KpC.refl (n₀ Bs : Nat) (A : World) : KpC n₀ Bs A A := ⟨Below.refl _ _, fun _ h => h, fun _ h => h⟩
theorem kpC_t {n₀ Bs : Nat} {A B C : World} (h : KpC n₀ Bs A B) (k : KpC n₀ Bs B C) : KpC n₀ Bs A C := ⟨h.1.trans k.1, fun u hu => k.2.1 u (h.2.1 u hu), fun u hu => k.2.2 u (h.2.2 u hu)⟩
theorem kpC_b {n₀ Bs : Nat} {w : World} (hn : n₀ ≤ w.heap.size) (hB : Bs + 1 < w.heap.size) (W : World) (l : Nat) (o o' : Obj) (hl : w.heap.size ≤ l) (h : W.heap[l]? = some o) (hc : o.isCells = false) (hw : o.isWalk = false) : KpC n₀ Bs W (W.putObj l o') :=
  ⟨belowK_b hn W l o o' hl h hc hw, fun u hu => hu.kept (grownBy_putObj' W l o') (by simp; omega), fun u hu => hu.kept (grownBy_putObj' W l o') (by simp; omega)⟩
set_option maxHeartbeats 2000000 in
theorem chunk1_in (n : Nat) (hn : 1 ≤ n) (l Bs n₀ g m z c N : Nat) (hN : m * z = N) (hz1 : 1 ≤ z) (hz : z ≤ 64) (hNb : N ≤ 65536) (hcap : N ≤ c) (J Jx : List (Off N z) → World → Prop) (hJd : ∀ s A, J s A → J s A.drew)
    (hY : ∀ pre x W, J pre W → pre.length < m → YieldAt Fence.wide (n - 1) Tryz.prog l #[.slice (some ⟨g, x.1, none⟩) z z] W fun e W' =>
      (e = .returned (.bool true) ∧ J (pre ++ [x]) W' ∧ KpC n₀ Bs W W') ∨ (e = .returned (.bool false) ∧ Jx (pre ++ [x]) W'))
    (W : World) (hBs : Boxed W Bs 49 (.slice (some ⟨g, 0, none⟩) N c)) (hB2 : Boxed W (Bs + 1) 3 (.int .i64 z)) (h0 : J [] W) :
    CallsIn Fence.wide n Tryz.prog 86 #[.func (.yield l) #[] #[], .pointer (some ⟨Bs, 0, none⟩), .pointer (some ⟨Bs + 1, 0, none⟩)] W fun e W' => (∃ v, e = .returned v) ∧
      ((∃ ys : List (Off N z), ys.map (·.1) = (List.range m).map (· * z) ∧ J ys W') ∨ (∃ pre, True ∧ Jx pre W')) := by
  refine callsIn_of_wp Tryz.func86 rfl trivial ?_ rfl
  simp only [Tryz.ntmps86, List.size_toArray, List.length_cons, List.length_nil, Nat.reduceAdd, Nat.reduceSub, Array.replicate_succ, Array.replicate_zero, List.push_toArray, List.append_toArray, List.nil_append, List.cons_append]
  gi_wp2
  gi_loopw [4] (fun i wr => ∃ (pre : List (Off N z)) (k i' : Nat), k ≤ m ∧ i' = k * z ∧ pre.map (·.1) = (List.range k).map (· * z) ∧ i = .int .i64 i' ∧ J pre wr ∧ KpC n₀ Bs W wr)
    (fun i _ => N - (intOf i).toNat)
  case atStart => exact ⟨[], 0, 0, Nat.zero_le _, by simp, rfl, rfl, h0, KpC.refl _ _ _⟩
  case round =>
    obtain ⟨pre, k, i', hk, ei, hpre, rfl, hJs, hnx⟩ := hrel
    have hc1 := (hnx.2.1 _ hBs).cell
    have hc2 := (hnx.2.2 _ hB2).cell
    have hpl : pre.length = k := by have := congrArg List.length hpre; simpa using this
    by_cases hlt : k < m
    · have hkz : i' + z ≤ N := by rw [← hN, ei]; have := Nat.mul_le_mul_right z (show k + 1 ≤ m by omega); rw [Nat.add_mul] at this; omega
      have EI := Lib.hid ei
      have HP := Lib.hid hpre
      have HN := Lib.hid hN
      clear ei hpre hN
      have hnx' : KpC n₀ Bs W wr.drew := ⟨hnx.1.drew, hnx.2.1, hnx.2.2⟩
      obtain ⟨fn, tmps, assign, body, hy, hR⟩ := hY pre ⟨i', hkz⟩ wr.drew (hJd _ _ hJs) (by omega)
      dsimp only at hy
      have e5 : (N - i' < z) = False := by simp; omega
      have e6 : (0 : Int) ≤ (i' : Int) + z := by omega
      have e7 : (i' : Int) + z ≤ c := by omega
      have e8 : ((i' : Int) + z).toNat = i' + z := by omega
      have e9 : i' ≤ i' + z := by omega
      have e10 : i' + z - i' = z := by omega
      have e11 : (c = i') = False := by simp; omega
      have e12 : min (z : Int) ((N : Int) - i') = z := by omega
      have e13 : (i' : Int) + z ≤ 9223372036854775807 := by omega
      gi_wp2
      gi_big_region
      gi_wp2
      refine hR.mono ?_
      rintro e W3 (⟨rfl, hJ3, hk3⟩ | ⟨rfl, hJx3⟩)
      · have hd2 := (hk3.2.2 _ (hnx'.2.2 _ hB2)).cell
        gi_wp2
        go_roundw
        case rel => exact ⟨_, k + 1, i' + z, by omega, by rw [EI.out, Nat.add_mul, Nat.one_mul], by rw [List.map_append, HP.out, List.range_succ, List.map_append]; simp [EI.out], by go_num, hJ3, kpC_t hnx' hk3⟩
        case measure => simp [intOf]; omega
      · gi_wp2
        refine bodyPost_ret (results_none rfl _ _ _) rfl ?_
        exact ⟨⟨_, rfl⟩, .inr ⟨_, trivial, hJx3⟩⟩
    · have hkm : k = m := by omega
      have hiN : i' = N := by rw [ei, hkm, hN]
      clear ei hN
      subst hkm hiN
      gi_wp2
      go_end0
      exact ⟨⟨_, rfl⟩, .inl ⟨_, hpre, hJs⟩⟩
theorem chunk_stops (n : Nat) (hn : 1 ≤ n) (Bs n₀ g m z c N : Nat) (hN : m * z = N) (hz1 : 1 ≤ z) (hz : z ≤ 64) (hNb : N ≤ 65536) (hcap : N ≤ c) (w : World) (hB : Bs + 1 < w.heap.size)
    (hBs : Boxed w Bs 49 (.slice (some ⟨g, 0, none⟩) N c)) (hB2 : Boxed w (Bs + 1) 3 (.int .i64 z)) :
    SeqStopsK Fence.wide n Tryz.prog 86 #[.pointer (some ⟨Bs, 0, none⟩), .pointer (some ⟨Bs + 1, 0, none⟩)] (fun x : Off N z => #[.slice (some ⟨g, x.1, none⟩) z z]) (KpC n₀ Bs)
      (fun ys => ys.map (·.1) = (List.range m).map (· * z)) (fun _ => True) m w := fun l J Jx W hW hJ _ hY h0 =>
  chunk1_in n hn l Bs n₀ g m z c N hN hz1 hz hNb hcap J Jx (fun s A h => hJ s A A.drew none h ⟨rfl, rfl, rfl, Nat.le_refl _, fun _ _ _ => rfl⟩ (by simp)) hY W ((hW.block Bs (by omega)).trans hBs) ((hW.block (Bs + 1) hB).trans hB2) h0
end Go.Proofs.YtmgcaiilocifbaaGreatDoor
namespace Go.Proofs.YtmgcaiilocifbaaGreatDoor
open Go Go.RowKit Go.Shelf lib
set_option linter.unusedVariables false
set_option maxRecDepth 100000
attribute [local go_sem] Oper.semAt_some
theorem splitBlocks_in (n : Nat) (hn : 3 ≤ n) (g m z c N : Nat) (u : Nat → UInt8) (hN : m * z = N) (hz1 : 1 ≤ z) (hz : z ≤ 64) (hNb : N ≤ 65536) (hm : m ≤ 65536) (hcap : N ≤ c) (w : World)
    (hr : BRow w 5 g N u) :
    CallsIn Fence.wide n Tryz.prog 50 #[.slice (some ⟨g, 0, none⟩) N c, .int .i64 z] w fun e W' => ∃ A c', e = .returned (.slice A m c') ∧ W'.ownsRow w.heap.size 9 1 (.slice A m c') m ((List.range m).map fun i => .string (blkOf z u i)) ∧ Below w.heap.size w W' := by
  have h1 : 1 ≤ n := by omega
  obtain ⟨i0, hi, hz0, hzz1, hz2⟩ := info_parts (show (Tryz.prog.info? 9).map (fun i => (i.zero, i.size, i.bytes)) = some (some (.string .empty), 1, 16) by kernel_rfl)
  refine callsIn_of_wp_marks Tryz.func50 rfl trivial ?_ rfl
  simp only [Tryz.ntmps50, List.size_toArray, List.length_cons, List.length_nil, Nat.reduceAdd, Nat.reduceSub, Array.replicate_succ, Array.replicate_zero, List.push_toArray, List.append_toArray, List.nil_append, List.cons_append]
  gi_wp2_with (refine ⟨trivial, ?_⟩; gi_at_call 70; refine (chunk_in (n - 1) _ _ _ z hz1 _).mono ?_; rintro e w' ⟨rfl, rfl⟩)
  have bO := Boxed.new w 22 (.slice none 0 0)
  have bS := Boxed.new (w.alloc (.cells #[.slice none 0 0] 22)) 49 (.slice (some ⟨g, 0, none⟩) N c)
  have bZ := Boxed.new ((w.alloc (.cells #[.slice none 0 0] 22)).alloc (.cells #[.slice (some ⟨g, 0, none⟩) N c] 49)) 3 (.int .i64 z)
  rw [World.size_alloc] at bS
  rw [World.size_alloc, World.size_alloc] at bZ
  have hB0 : Below w.heap.size w (((w.alloc (.cells #[.slice none 0 0] 22)).alloc (.cells #[.slice (some ⟨g, 0, none⟩) N c] 49)).alloc (.cells #[.int .i64 z] 3)) := ((((Below.refl _ w).alloc (Nat.le_refl _) _).alloc (by simp) _).alloc (by simp; omega) _)
  have hmz : m ≤ m * z := Nat.le_mul_of_pos_right _ (by omega)
  have hro : Fence.wide.round = none := rfl
  refine wpIn_rangeFunc_ownG (ps := #[10]) hro h1 (gf := 86) (lb := #[.pointer (some ⟨w.heap.size + 1, 0, none⟩), .pointer (some ⟨w.heap.size + 1 + 1, 0, none⟩)]) rfl trivial (enters_of Tryz.func86 (by kernel_rfl) rfl)
    (chunk_stops (n - 1) (by omega) (w.heap.size + 1) w.heap.size g m z c N hN hz1 hz hNb hcap _ (by simp) (bS.alloc _) bZ) kpC_t (kpC_b (by simp; omega) (by simp)) (Below.refl _ _) (fun _ => rfl)
    (fun (pre : List (Off N z)) W => (∃ v, Boxed W w.heap.size 22 v ∧ W.ownsRow w.heap.size 9 1 v pre.length (pre.map fun x : Off N z => Value.string (bstr z fun j => u (x.1 + j))) ∧ True) ∧ Below w.heap.size w W)
    (fun _ _ _ => False)
    (OwnFrom.and (Own.from (holdsRow_own w.heap.size w.heap.size 22 9 1 (β := List (Off N z)) (fun pre : List (Off N z) => pre.length) (fun pre : List (Off N z) => pre.map fun x : Off N z => Value.string (bstr z fun j => u (x.1 + j))) (fun _ _ => True)) _) (ownFrom_below (Nat.le_refl _) (by simp; omega)))
    (fun _ _ _ _ _ hs _ _ => hs)
    ⟨⟨_, (bO.alloc _).alloc _, World.ownsRow_nil _ _ _ _, trivial⟩, hB0⟩
    (fun x => { tmps := #[.slice (some ⟨g, 0, none⟩) N c, .int .i64 z, undef, undef, .slice none 0 0, .pointer (some ⟨w.heap.size, 0, none⟩), .slice (some ⟨g, x.1, none⟩) z z, .slice (some ⟨g, 0, none⟩) N c, .int .i64 z, .func (.func 86) #[] #[.pointer (some ⟨w.heap.size + 1, 0, none⟩), .pointer (some ⟨w.heap.size + 1 + 1, 0, none⟩)], .slice (some ⟨g, x.1, none⟩) z z, undef, undef, undef, undef, undef, undef], defers := [] }) ?assign ?body ?done ?stop
  case assign =>
    intro l x W K hK
    gi_wp2
    exact hK
  case body =>
    rintro l pre x W ⟨⟨v, hv, hrow, _⟩, hB⟩ hlt
    have hc := hv.cell
    have hx := x.2
    have hrW := hr.below hB hr.lt
    have hcv : (convert 49 9 (.slice (some ⟨g, x.1, none⟩) z z)).run Tryz.prog W = .ok (.string (bstr z fun j => u (x.1 + j))) W :=
      run_bstr (P := Tryz.prog) (w := W) (B := W.heap.size) 49 9 5 Tryz.underlying49 Tryz.underlying5 Tryz.underlying9 (u := fun j => u (x.1 + j)) (fun i hi => ⟨g, x.1, rfl, hrW.lt, hrW.cell (i := x.1 + i) (by omega)⟩) (by simp)
    gi_wp2_with (gi_at_builtin; refine wpListIn_append_own _ rfl _ _ 22 rfl w.heap.size 9 i0 (.string .empty) 1 16 Tryz.underlying22 hi hz0 hzz1 hz2 rfl (by decide) _ _ _ rfl (hrow.alloc _) ⟨W.heap.size, 0, none⟩ 1 1 [.string (bstr z fun j => u (x.1 + j))] rfl rfl (cell_one_new _ _ _) (by simp [Value.oneCell']) (by simp only [maxLen]; omega) (by omega) (by have := hB.size; simp; omega) ?_; intro v' w1 hown' hgrow _; have hown2 := hown'; obtain ⟨g', cap', rfl⟩ := ownsRow_succ hown'; obtain ⟨hv1, hv2, hr2, hk2, hb2⟩ := hv.appended (by decide) hrow hB.size (Nat.le_refl _) hown' hgrow; have hc1 := hv1.cell; have hf1 := hv1.frozen)
    refine ⟨hk2.from _, ⟨hb2, fun q hq => ?_, fun q hq => ?_⟩, ⟨_, hv2, by simpa using hr2, trivial⟩, hB.trans hb2⟩
    · exact ((hq.alloc _).kept hgrow (hq.not_row (by decide) hrow)).kept (grownBy_setCell' _ _ _) (by simp <;> omega)
    · exact ((hq.alloc _).kept hgrow (hq.not_row (by decide) hrow)).kept (grownBy_setCell' _ _ _) (by simp <;> omega)
  case done =>
    rintro D ys W hD hys ⟨⟨v, hv, hrow, _⟩, hB⟩ hK
    have hc := hv.cell
    have hl : ys.length = m := by have := congrArg List.length hys; simpa using this
    have hcs : (ys.map fun x : Off N z => Value.string (bstr z fun j => u (x.1 + j))) = (List.range m).map fun i => Value.string (blkOf z u i) := by
      have h1 : (ys.map fun x : Off N z => Value.string (bstr z fun j => u (x.1 + j))) = (ys.map (·.1)).map fun x => Value.string (bstr z fun j => u (x + j)) := by rw [List.map_map]; rfl
      rw [h1, hys, List.map_map]
      rfl
    rw [hl, hcs] at hrow
    obtain ⟨A, c', rfl⟩ : ∃ A c', v = .slice A m c' := by
      rcases hrow.2 with ⟨rfl, h0⟩ | ⟨gg, cap, cur, rfl, _⟩
      · exact ⟨none, 0, by rw [h0]⟩
      · exact ⟨_, _, rfl⟩
    gi_wp2
    refine ⟨by simp, .inl ⟨_, _, rfl, run_takeDeferred hK, ?_⟩⟩
    exact ⟨_, results_tmp rfl _ _ _, A, c', rfl, ownsRow_putObj hrow _ hK rfl, hB.trans (belowK_b (w := w) (Nat.le_refl _) W D _ _ (by simp at hD; omega) hK rfl rfl)⟩
  case stop =>
    rintro D c pre W _ _ h _
    exact h.elim
end Go.Proofs.YtmgcaiilocifbaaGreatDoor
