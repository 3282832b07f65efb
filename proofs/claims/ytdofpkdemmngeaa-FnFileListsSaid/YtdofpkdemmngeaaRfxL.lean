/-
  strings.Lines and its iterator; strings.Cut at one byte.
-/
import Derived.RangeFuncBox
import Derived.RangeFuncLeaves
import Derived.Shelf.Abstract
import Derived.WalkKit
import Derived.OwnWalkIn
import Derived.TacticsInMore
import Derived.LoopNIn
import Derived.LoopIn
import Derived.RegionIn
import Derived.BigRegionIn
import Derived.Deep.RegionWith
import Derived.Test.YtdofpkdemmngeaaRfxB
import Derived.Test.YtdofpkdemmngeaaRfxP
import Derived.Test.YtdofpkdemmngeaaShelf
namespace Go.Proofs.Ytdofpkdemmngeaa
open Go Go.RowKit Go.Shelf lib
set_option linter.unusedVariables false
set_option maxRecDepth 100000
attribute [local go_sem] Oper.semAt_some
theorem lines_in (n : Nat) (s : ByteArray) (w : World) :
    CallsIn Fence.wide n Try.prog 29 #[.string s] w fun e w' => e = .returned (.func (.func 46) #[] #[.pointer (some ⟨w.heap.size, 0, none⟩)]) ∧ w' = w.alloc (.cells #[.string s] 9) := by
  refine callsIn_of_wp Try.func29 rfl trivial ?_ rfl
  simp only [Try.ntmps29, List.size_toArray, List.length_cons, List.length_nil, Nat.reduceAdd, Nat.reduceSub, Array.replicate_succ, Array.replicate_zero, List.push_toArray, List.append_toArray, List.nil_append, List.cons_append]
  gi_wp2
  go_ret
  exact ⟨rfl, rfl⟩
/-- a text of a bounded length -/
abbrev Txt : Type := { x : ByteArray // x.size ≤ 1048576 }
def KpL (n₀ Bs : Nat) (A B : World) : Prop := Below n₀ A B ∧ (∀ u, Boxed A Bs 9 u → Boxed B Bs 9 u)
theorem KpL.refl (n₀ Bs : Nat) (A : World) : KpL n₀ Bs A A := ⟨Below.refl _ _, fun _ h => h⟩
theorem kpL_t {n₀ Bs : Nat} {A B C : World} (h : KpL n₀ Bs A B) (k : KpL n₀ Bs B C) : KpL n₀ Bs A C := ⟨h.1.trans k.1, fun u hu => k.2 u (h.2 u hu)⟩
theorem kpL_b {n₀ Bs : Nat} {w : World} (hn : n₀ ≤ w.heap.size) (hB : Bs < w.heap.size) (W : World) (l : Nat) (o o' : Obj) (hl : w.heap.size ≤ l) (h : W.heap[l]? = some o) (hc : o.isCells = false) (hw : o.isWalk = false) : KpL n₀ Bs W (W.putObj l o') :=
  ⟨belowK_b hn W l o o' hl h hc hw, fun u hu => hu.kept (grownBy_putObj' W l o') (by simp; omega)⟩
theorem stepB_set {Bs : Nat} {W : World} {t : TypeId} {u : Value} (h : Boxed W Bs t u) (v : Value) : StepB Bs t W (W.setCell ⟨Bs, 0, none⟩ v) := ⟨grownBy_setCell' W Bs v, _, h⟩
theorem stepB_drew {Bs : Nat} {W : World} {t : TypeId} {u : Value} (h : Boxed W Bs t u) : StepB Bs t W W.drew := ⟨⟨rfl, rfl, rfl, Nat.le_refl _, fun _ _ _ => rfl⟩, _, h⟩
set_option maxHeartbeats 2000000 in
theorem lines1_in (n : Nat) (hn : 1 ≤ n) (l Bs n₀ : Nat) (hnB : n₀ ≤ Bs) (s : ByteArray) (hs : s.size ≤ 1048576) (J Jx : List Txt → World → Prop) (hJs : ∀ q A B, StepB Bs 9 A B → J q A → J q B)
    (hY : ∀ pre x W, J pre W → pre.length < (linesL s.data.toList).length → YieldAt Fence.wide (n - 1) Try.prog l #[.string x.1] W fun e W' =>
      (e = .returned (.bool true) ∧ J (pre ++ [x]) W' ∧ KpL n₀ Bs W W') ∨ (e = .returned (.bool false) ∧ Jx (pre ++ [x]) W'))
    (W : World) (hBs : Boxed W Bs 9 (.string s)) (h0 : J [] W) :
    CallsIn Fence.wide n Try.prog 46 #[.func (.yield l) #[] #[], .pointer (some ⟨Bs, 0, none⟩)] W fun e W' => (∃ v, e = .returned v) ∧
      ((∃ ys : List Txt, ys.map (·.1.data.toList) = linesL s.data.toList ∧ J ys W') ∨ (∃ pre : List Txt, (∃ r, linesL s.data.toList = pre.map (·.1.data.toList) ++ r) ∧ Jx pre W')) := by
  refine callsIn_of_wp Try.func46 rfl trivial ?_ rfl
  simp only [Try.ntmps46, List.size_toArray, List.length_cons, List.length_nil, Nat.reduceAdd, Nat.reduceSub, Array.replicate_succ, Array.replicate_zero, List.push_toArray, List.append_toArray, List.nil_append, List.cons_append]
  gi_wp2
  gi_loopw [3] (fun _ wr => ∃ (pre : List Txt) (t : ByteArray), t.size ≤ 1048576 ∧ linesL s.data.toList = pre.map (·.1.data.toList) ++ linesL t.data.toList ∧ Boxed wr Bs 9 (.string t) ∧ J pre wr)
    (fun _ wr => match wr.cell? ⟨Bs, 0, none⟩ with | some (.string t) => t.size | _ => 0)
  case atStart => exact ⟨[], s, hs, by simp, hBs, h0⟩
  case round =>
    obtain ⟨pre, t, ht, hls, hbx, hJp⟩ := hrel
    have hc1 := hbx.cell
    have hf1 := hbx.frozen
    have hsz := Lib.hid (Lib.size_eq t)
    by_cases hlt : 0 < t.size
    · have hne : t.data.toList ≠ [] := by intro e; have q := hsz.out; rw [e, List.length_nil] at q; omega
      have hx1 := Lib.indexByte_ge t.data.toList 10
      by_cases hx : Lib.indexByte t.data.toList 10 = -1
      · have hl1 := linesL_miss _ hx hne
        have hpl : pre.length < (linesL s.data.toList).length := by rw [hls, hl1]; simp
        have hib : ∀ W', Calls Try.prog 47 #[.string t, .int .u8 10] W' fun e w' => e = .returned (.int .i64 (-1)) ∧ w' = W' := fun W' => by
          have := Try.strings_IndexByte t 10 W'
          rw [show ((10 : Int).toNat.toUInt8) = 10 from rfl, hx] at this
          exact this
        have hbx2 := hbx.set (.string ⟨#[]⟩)
        obtain ⟨fn, tmps, assign, body, hy, hR⟩ := hY pre ⟨t, ht⟩ _ (hJs _ _ _ (stepB_set hbx (.string ⟨#[]⟩)) hJp) hpl
        dsimp only at hy
        clear hx hx1 hJs hY
        have HLS := Lib.hid hls
        clear hls
        gi_wp2_with (refine ⟨trivial, ?_⟩; gi_at_call 47; refine (callsIn_wide.2 (hib _)).mono ?_; rintro e w' ⟨rfl, rfl⟩)
        refine hR.mono ?_
        rintro e W3 (⟨rfl, hJ3, hk3⟩ | ⟨rfl, hJx3⟩)
        · have hd := hk3.2 _ hbx2
          have hd1 := hd.cell
          gi_wp2
          go_roundw
          case rel => exact ⟨_, ⟨#[]⟩, Nat.zero_le _, by rw [HLS.out, hl1]; simp [linesL], hd, hJ3⟩
          case measure => rw [hd1, hbx.cell]; exact hlt
        · gi_wp2
          refine bodyPost_ret (results_none rfl _ _ _) rfl ?_
          exact ⟨⟨_, rfl⟩, .inr ⟨_, ⟨[], by rw [HLS.out, hl1]; simp [linesL]⟩, hJx3⟩⟩
      · obtain ⟨i, hi⟩ : ∃ i : Nat, Lib.indexByte t.data.toList 10 = i := ⟨(Lib.indexByte t.data.toList 10).toNat, by omega⟩
        obtain ⟨hl1, hil⟩ := linesL_hit _ i hi
        have hpl : pre.length < (linesL s.data.toList).length := by rw [hls, hl1]; simp
        have hib : ∀ W', Calls Try.prog 47 #[.string t, .int .u8 10] W' fun e w' => e = .returned (.int .i64 i) ∧ w' = W' := fun W' => by
          have := Try.strings_IndexByte t 10 W'
          rw [show ((10 : Int).toNat.toUInt8) = 10 from rfl, hi] at this
          exact this
        have hiz : i + 1 ≤ t.size := by rw [hsz.out]; exact hil
        have e1 : IntKind.i64.wrap ((i : Int) + 1) = (i : Int) + 1 := by rw [IntKind.wrap_i64]; omega
        have e2 : (0 : Int) ≤ (i : Int) + 1 := by omega
        have e3 : (i : Int) + 1 ≤ (t.size : Int) := by omega
        have e4 : ((i : Int) + 1).toNat = i + 1 := by omega
        have hbx1 := hbx.set (.string (t.extract (i + 1) t.size))
        have hbx2 : Boxed (wr.setCell ⟨Bs, 0, none⟩ (.string (t.extract (i + 1) t.size))).drew Bs 9 (.string (t.extract (i + 1) t.size)) := hbx1
        have hz2 : (t.extract (i + 1) t.size).size ≤ 1048576 := by rw [ByteArray.size_extract]; omega
        have hz3 := Lib.hid (show (t.extract (i + 1) t.size).size = t.size - (i + 1) by rw [ByteArray.size_extract]; omega)
        have hz4 : (t.extract 0 (i + 1)).size ≤ 1048576 := by rw [ByteArray.size_extract]; omega
        have hx3 := Lib.hid (Lib.extract_to_end t (i + 1))
        have hx4 := Lib.hid (Lib.extract_from_zero t (i + 1))
        obtain ⟨fn, tmps, assign, body, hy, hR⟩ := hY pre ⟨_, hz4⟩ _ (hJs _ _ _ (stepB_drew hbx1) (hJs _ _ _ (stepB_set hbx (.string (t.extract (i + 1) t.size))) hJp)) hpl
        dsimp only at hy
        replace hl1 := Lib.hid hl1
        clear hx hx1 hJs hY hil
        have HLS := Lib.hid hls
        clear hls
        gi_wp2_with (refine ⟨trivial, ?_⟩; gi_at_call 47; refine (callsIn_wide.2 (hib _)).mono ?_; rintro e w' ⟨rfl, rfl⟩)
        gi_big_region
        gi_wp2
        refine hR.mono ?_
        rintro e W3 (⟨rfl, hJ3, hk3⟩ | ⟨rfl, hJx3⟩)
        · have hd := hk3.2 _ hbx2
          have hd1 := hd.cell
          gi_wp2
          go_roundw
          case rel => exact ⟨_, _, hz2, by rw [HLS.out, hl1.out, hx3.out, List.map_append, List.append_assoc, List.map_cons, List.map_nil, hx4.out]; rfl, hd, hJ3⟩
          case measure =>
            rw [hd1, hbx.cell]
            show (t.extract (i + 1) t.size).size < t.size
            rw [hz3.out]
            omega
        · gi_wp2
          refine bodyPost_ret (results_none rfl _ _ _) rfl ?_
          exact ⟨⟨_, rfl⟩, .inr ⟨_, ⟨linesL (t.data.toList.drop (i + 1)), by rw [HLS.out, hl1.out, List.map_append, List.append_assoc, List.map_cons, List.map_nil, hx4.out]; rfl⟩, hJx3⟩⟩
    · have hz : t.size = 0 := by omega
      have hnil : t.data.toList = [] := by have q := hsz.out; rw [hz] at q; exact List.eq_nil_of_length_eq_zero q.symm
      gi_wp2
      go_end0
      exact ⟨⟨_, rfl⟩, .inl ⟨pre, by rw [hls, hnil]; simp [linesL], hJp⟩⟩
theorem lines_steps (n : Nat) (hn : 1 ≤ n) (Bs n₀ : Nat) (hnB : n₀ ≤ Bs) (s : ByteArray) (hs : s.size ≤ 1048576) (w : World) (hBs : Boxed w Bs 9 (.string s)) :
    SeqSteps Fence.wide n Try.prog 46 #[.pointer (some ⟨Bs, 0, none⟩)] Bs 9 (fun x : Txt => #[.string x.1]) (KpL n₀ Bs)
      (fun ys => ys.map (·.1.data.toList) = linesL s.data.toList) (fun pre => ∃ r, linesL s.data.toList = pre.map (·.1.data.toList) ++ r) (linesL s.data.toList).length w := fun l J Jx W hW hJ _ hY h0 =>
  lines1_in n hn l Bs n₀ hnB s hs J Jx hJ hY W ((hW.block Bs hBs.lt).trans hBs) h0
end Go.Proofs.Ytdofpkdemmngeaa
