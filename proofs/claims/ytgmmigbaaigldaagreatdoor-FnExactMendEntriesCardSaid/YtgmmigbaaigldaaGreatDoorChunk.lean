/-
  slices.Chunk over bytes, whole chunks alone; splitBlocks.
-/
import Derived.RangeFuncBox
import Derived.RangeFuncLeaves
import Derived.Shelf.Abstract
import Derived.WalkKit
import Derived.OwnWalkIn
import Derived.TacticsInMore
import Derived.LoopNIn
import Derived.LoopIn
import Derived.Maps.AppendAt
import Derived.RegionIn
import Derived.BigRegionIn
import Derived.Test.YtgmmigbaaigldaaGreatDoorChainRec
import Derived.Deep.RegionWith
namespace Go.Proofs.YtgmmigbaaigldaaGreatDoor
open Go Go.RowKit Go.Shelf lib
set_option linter.unusedVariables false
set_option maxRecDepth 100000
attribute [local go_sem] Oper.semAt_some
theorem chunk_in (n : Nat) (a : Option Addr) (len cap z : Nat) (hz : 1 ≤ z) (w : World) :
    CallsIn Fence.wide n Tryz.prog 78 #[.slice a len cap, .int .i64 z] w fun e w' => e = .returned (.func (.func 98) #[] #[.pointer (some ⟨w.heap.size, 0, none⟩), .pointer (some ⟨w.heap.size + 1, 0, none⟩)]) ∧ w' = (w.alloc (.cells #[.slice a len cap] 50)).alloc (.cells #[.int .i64 z] 3) := by
  refine callsIn_of_wp Tryz.func78 rfl trivial ?_ rfl
  simp only [Tryz.ntmps78, List.size_toArray, List.length_cons, List.length_nil, Nat.reduceAdd, Nat.reduceSub, Array.replicate_succ, Array.replicate_zero, List.push_toArray, List.append_toArray, List.nil_append, List.cons_append]
  gi_wp2
  go_ret
  exact ⟨rfl, rfl⟩
/-- an offset of a whole chunk -/
abbrev Off (N z : Nat) : Type := { x : Nat // x + z ≤ N }
/-- what a round keeps: what lay below n₀, and the iterator's two boxes -/
def KpC (n₀ Bs : Nat) (A B : World) : Prop := Below n₀ A B ∧ (∀ u, Boxed A Bs 50 u → Boxed B Bs 50 u) ∧ (∀ u, Boxed A (Bs + 1) 3 u → Boxed B (Bs + 1) 3 u)
theorem KpC.refl (n₀ Bs : Nat) (A : World) : KpC n₀ Bs A A := ⟨Below.refl _ _, fun _ h => h, fun _ h => h⟩
theorem kpC_t {n₀ Bs : Nat} {A B C : World} (h : KpC n₀ Bs A B) (k : KpC n₀ Bs B C) : KpC n₀ Bs A C := ⟨h.1.trans k.1, fun u hu => k.2.1 u (h.2.1 u hu), fun u hu => k.2.2 u (h.2.2 u hu)⟩
theorem kpC_b {n₀ Bs : Nat} {w : World} (hn : n₀ ≤ w.heap.size) (hB : Bs + 1 < w.heap.size) (W : World) (l : Nat) (o o' : Obj) (hl : w.heap.size ≤ l) (h : W.heap[l]? = some o) (hc : o.isCells = false) (hw : o.isWalk = false) : KpC n₀ Bs W (W.putObj l o') :=
  ⟨belowK_b hn W l o o' hl h hc hw, fun u hu => hu.kept (grownBy_putObj' W l o') (by simp; omega), fun u hu => hu.kept (grownBy_putObj' W l o') (by simp; omega)⟩
set_option maxHeartbeats 2000000 in
theorem chunk1_in (n : Nat) (hn : 1 ≤ n) (l Bs n₀ g m z c N : Nat) (hN : m * z = N) (hz1 : 1 ≤ z) (hz : z ≤ 64) (hNb : N ≤ 65536) (hcap : N ≤ c) (J Jx : List (Off N z) → World → Prop) (hJd : ∀ s A, J s A → J s A.drew)
    (hY : ∀ pre x W, J pre W → pre.length < m → YieldAt Fence.wide (n - 1) Tryz.prog l #[.slice (some ⟨g, x.1, none⟩) z z] W fun e W' =>
      (e = .returned (.bool true) ∧ J (pre ++ [x]) W' ∧ KpC n₀ Bs W W') ∨ (e = .returned (.bool false) ∧ Jx (pre ++ [x]) W'))
    (W : World) (hBs : Boxed W Bs 50 (.slice (some ⟨g, 0, none⟩) N c)) (hB2 : Boxed W (Bs + 1) 3 (.int .i64 z)) (h0 : J [] W) :
    CallsIn Fence.wide n Tryz.prog 98 #[.func (.yield l) #[] #[], .pointer (some ⟨Bs, 0, none⟩), .pointer (some ⟨Bs + 1, 0, none⟩)] W fun e W' => (∃ v, e = .returned v) ∧
      ((∃ ys : List (Off N z), ys.map (·.1) = (List.range m).map (· * z) ∧ J ys W') ∨ (∃ pre, True ∧ Jx pre W')) := by
  refine callsIn_of_wp Tryz.func98 rfl trivial ?_ rfl
  simp only [Tryz.ntmps98, List.size_toArray, List.length_cons, List.length_nil, Nat.reduceAdd, Nat.reduceSub, Array.replicate_succ, Array.replicate_zero, List.push_toArray, List.append_toArray, List.nil_append, List.cons_append]
  gi_wp2
  gi_loopw [4] (fun i wr => ∃ (pre : List (Off N z)) (k i' : Nat), k ≤ m ∧ i' = k * z ∧ pre.map (·.1) = (List.range k).map (· * z) ∧ i = .int .i64 i' ∧ J pre wr ∧ KpC n₀ Bs W wr)
    (fun i _ => N - (intOf i).toNat)
  case atStart => exact ⟨[], 0, 0, Nat.zero_le _, by simp, rfl, rfl, h0, KpC.refl _ _ _⟩
  case round =>
    obtain ⟨pre, k, i', hk, ei, hpre, rfl, hJs, hnx⟩ := hrel
    have hc1 := (hnx.2.1 _ hBs).cell
    have hc2 := (hnx.2.2 _ hB2).cell
    have hpl : pre.length = k := by have := congrArg List.length hpre; simpa using this
    by_cases hlt : k < m
    · have hkz : i' + z ≤ N := by rw [← hN, ei]; have := Nat.mul_le_mul_right z (show k + 1 ≤ m by omega); rw [Nat.add_mul] at this; omega
      have EI := Lib.hid ei
      have HP := Lib.hid hpre
      have HN := Lib.hid hN
      clear ei hpre hN
      have hnx' : KpC n₀ Bs W wr.drew := ⟨hnx.1.drew, hnx.2.1, hnx.2.2⟩
      obtain ⟨fn, tmps, assign, body, hy, hR⟩ := hY pre ⟨i', hkz⟩ wr.drew (hJd _ _ hJs) (by omega)
      dsimp only at hy
      have e5 : (N - i' < z) = False := by simp; omega
      have e6 : (0 : Int) ≤ (i' : Int) + z := by omega
      have e7 : (i' : Int) + z ≤ c := by omega
      have e8 : ((i' : Int) + z).toNat = i' + z := by omega
      have e9 : i' ≤ i' + z := by omega
      have e10 : i' + z - i' = z := by omega
      have e11 : (c = i') = False := by simp; omega
      have e12 : min (z : Int) ((N : Int) - i') = z := by omega
      have e13 : (i' : Int) + z ≤ 9223372036854775807 := by omega
      gi_wp2
      gi_big_region
      gi_wp2
      refine hR.mono ?_
      rintro e W3 (⟨rfl, hJ3, hk3⟩ | ⟨rfl, hJx3⟩)
      · have hd2 := (hk3.2.2 _ (hnx'.2.2 _ hB2)).cell
        gi_wp2
        go_roundw
        case rel => exact ⟨_, k + 1, i' + z, by omega, by rw [EI.out, Nat.add_mul, Nat.one_mul], by rw [List.map_append, HP.out, List.range_succ, List.map_append]; simp [EI.out], by go_num, hJ3, kpC_t hnx' hk3⟩
        case measure => simp [intOf]; omega
      · gi_wp2
        refine bodyPost_ret (results_none rfl _ _ _) rfl ?_
        exact ⟨⟨_, rfl⟩, .inr ⟨_, trivial, hJx3⟩⟩
    · have hkm : k = m := by omega
      have hiN : i' = N := by rw [ei, hkm, hN]
      clear ei hN
      subst hkm hiN
      gi_wp2
      go_end0
      exact ⟨⟨_, rfl⟩, .inl ⟨_, hpre, hJs⟩⟩
theorem chunk_stops (n : Nat) (hn : 1 ≤ n) (Bs n₀ g m z c N : Nat) (hN : m * z = N) (hz1 : 1 ≤ z) (hz : z ≤ 64) (hNb : N ≤ 65536) (hcap : N ≤ c) (w : World) (hB : Bs + 1 < w.heap.size)
    (hBs : Boxed w Bs 50 (.slice (some ⟨g, 0, none⟩) N c)) (hB2 : Boxed w (Bs + 1) 3 (.int .i64 z)) :
    SeqStopsK Fence.wide n Tryz.prog 98 #[.pointer (some ⟨Bs, 0, none⟩), .pointer (some ⟨Bs + 1, 0, none⟩)] (fun x : Off N z => #[.slice (some ⟨g, x.1, none⟩) z z]) (KpC n₀ Bs)
      (fun ys => ys.map (·.1) = (List.range m).map (· * z)) (fun _ => True) m w := fun l J Jx W hW hJ _ hY h0 =>
  chunk1_in n hn l Bs n₀ g m z c N hN hz1 hz hNb hcap J Jx (fun s A h => hJ s A A.drew none h ⟨rfl, rfl, rfl, Nat.le_refl _, fun _ _ _ => rfl⟩ (by simp)) hY W ((hW.block Bs (by omega)).trans hBs) ((hW.block (Bs + 1) hB).trans hB2) h0
end Go.Proofs.YtgmmigbaaigldaaGreatDoor
