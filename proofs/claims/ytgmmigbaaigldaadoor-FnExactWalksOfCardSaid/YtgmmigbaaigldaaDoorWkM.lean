/-
  The laws' own helpers on lists of walks.
-/
import Derived.Test.YtgmmigbaaigldaaDoorWkP
namespace Go.Proofs.YtgmmigbaaigldaaDoor
open Go Go.ChangeShapes Go.WideShapes Go.ChangeAt Go.RowKit lib
set_option linter.unusedVariables false
set_option maxRecDepth 100000
theorem eqChainWalk_same (A1 A2 : Option Addr) (n c1 c2 : Nat) (l : List Nat) (e b : Nat) (w : World) (hl : l.length = n) (hn : n ≤ 1048576) (h1 : Sl w w.heap.size A1 n (fun j => .int .i64 ((l.getD j 0 : Nat) : Int))) (h2 : Sl w w.heap.size A2 n (fun j => .int .i64 ((l.getD j 0 : Nat) : Int))) :
    Calls Tryd.prog 41 #[.agg #[.slice A1 n c1, .int .i64 e, .int .i64 b], .agg #[.slice A2 n c2, .int .i64 e, .int .i64 b]] w fun r w' => r = .returned (.bool true) ∧ Below w.heap.size w w' := by
  have hb := ((Below.refl w.heap.size w).alloc (Nat.le_refl _) (.cells #[.slice A1 n c1, .int .i64 e, .int .i64 b] 61)).alloc (by simp) (.cells #[.slice A2 n c2, .int .i64 e, .int .i64 b] 61)
  have HB := Lib.hid hb
  have HQ := Lib.hid (eqInt64S_same A1 A2 n c1 c2 _ _ _ hn ((h1.below hb).more hb.size) ((h2.below hb).more hb.size) (fun _ _ => rfl))
  have r1 := (Rw.new w 61 #[.slice A1 n c1, .int .i64 e, .int .i64 b]).alloc (.cells #[.slice A2 n c2, .int .i64 e, .int .i64 b] 61)
  have r2 := Rw.new (w.alloc (.cells #[.slice A1 n c1, .int .i64 e, .int .i64 b] 61)) 61 #[.slice A2 n c2, .int .i64 e, .int .i64 b]
  rw [World.size_alloc] at r2
  have R1 := Lib.hid r1
  have R2 := Lib.hid r2
  clear h1 h2 r1 r2 hb
  go_enter Tryd.func41, Tryd.ntmps41
  go_upto_region 1 with fail
  generalize (w.alloc (.cells #[.slice A1 n c1, .int .i64 e, .int .i64 b] 61)).alloc (.cells #[.slice A2 n c2, .int .i64 e, .int .i64 b] 61) = W1 at *
  have x0 := R1.out.cell 0; have y0 := R2.out.cell 0
  go_wp2_with (go_at_call 58; refine HQ.out.mono ?_; rintro r w2 ⟨rfl, hb2⟩; have hr1 := R1.out.below hb2 R1.out.lt; have hr2 := R2.out.below hb2 R2.out.lt; have x1 := hr1.cell 1; have x2 := hr1.cell 2; have y1 := hr2.cell 1; have y2 := hr2.cell 2)
  go_ret
  exact ⟨rfl, HB.out.trans (hb2.mono HB.out.size)⟩
theorem eqChainWalkS_same (A B : Option Addr) (n c d : Nat) (f : Nat → List Nat × Nat × Nat) (w : World) (hn : n ≤ 1048576) (hl : ∀ i, i < n → (f i).1.length ≤ 1048576) (hs : WS w.heap.size w A n f) (ht : WS w.heap.size w B n f) :
    Calls Tryd.prog 19 #[.slice A n c, .slice B n d] w fun e w' => e = .returned (.bool true) ∧ Below w.heap.size w w' := by
  go_enter Tryd.func19, Tryd.ntmps19
  go_wp2
  go_loopw [5] (fun s5 wr => ∃ k : Nat, k ≤ n ∧ s5 = .int .i64 k ∧ Below w.heap.size w wr) (fun i _ => n - (intOf i).toNat)
  case atStart => exact ⟨0, by omega, rfl, Below.refl _ _⟩
  case round =>
    obtain ⟨k, hk, rfl, hb⟩ := hrel
    by_cases hlt : k < n
    · obtain ⟨q, o, Ai, ci, rfl, hq, g0, g1, g2, gs⟩ := (hs.below hb) k hlt
      obtain ⟨q', o', Ai', ci', rfl, hq', g0', g1', g2', gs'⟩ := (ht.below hb) k hlt
      have hll := hl k hlt
      have hzz := hb.size
      obtain ⟨F, hF⟩ : ∃ F, f k = F := ⟨_, rfl⟩
      rw [hF] at g0 g1 g2 gs g0' g1' g2' gs' hll
      obtain ⟨l, e, b⟩ := F
      dsimp only at g0 g1 g2 gs g0' g1' g2' gs' hll
      have HQ := Lib.hid (eqChainWalk_same Ai Ai' l.length ci ci' l e b wr.drew rfl hll (gs.more hzz) (gs'.more hzz))
      clear hs ht hF gs gs' hl
      go_wp2_with fail
      go_region_law (go_simp; go_at_call 41; refine HQ.out.mono ?_; rintro e w2 ⟨rfl, hb2⟩)
      all_goals
        go_wp2_with fail
        go_roundw
        case rel => exact ⟨k + 1, by omega, by go_num, hb.drew.trans (hb2.mono hzz)⟩
        case measure => simp [intOf]; omega
    · go_wp2
      go_ret
      exact ⟨rfl, hb⟩
set_option maxHeartbeats 1000000 in
theorem markChainWalkS_any (A : Option Addr) (n c lo k0 : Nat) (f : Nat → List Nat × Nat × Nat) (w : World) (hn : n ≤ 16) (hl : ∀ i, i < n → (f i).1.length ≤ 128) (h0 : 1 ≤ k0) (h1 : k0 ≤ 1000000) (hlo : lo ≤ w.heap.size) (hg : GW lo w A n f) :
    Calls Tryd.prog 20 #[.slice A n c, .int .i64 (k0 : Int)] w fun e w' => e = .returned (.int .i64 ((kAt f k0 n : Nat) : Int)) ∧ GW lo w' A n (mkF f k0) ∧ Below lo w w' := by
  rcases hg with rfl | ⟨q, B, rfl, hq, hB, hw⟩
  · go_enter Tryd.func20, Tryd.ntmps20
    go_wp2
    go_loopw [1, 5] (fun s1 s5 wr => s1 = .int .i64 (k0 : Int) ∧ s5 = .int .i64 (0 : Int) ∧ Below lo w wr) (fun _ i _ => 0)
    case atStart => exact ⟨rfl, rfl, Below.refl _ _⟩
    case round =>
      obtain ⟨rfl, rfl, hb⟩ := hrel
      go_wp2
      go_ret
      exact ⟨rfl, .inl rfl, hb⟩
  · have HW := Lib.hid hw
    have HL := Lib.hid hl
    clear hw hl
    go_enter Tryd.func20, Tryd.ntmps20
    go_wp2
    go_loopw [1, 5] (fun s1 s5 wr => ∃ k : Nat, k ≤ n ∧ s5 = .int .i64 k ∧ s1 = .int .i64 ((kAt f k0 k : Nat) : Int) ∧ WRow B wr q n (fun j => if j < k then mkF f k0 j else f j) ∧ Below lo w wr) (fun _ i _ => n - (intOf i).toNat)
    case atStart => exact ⟨0, by omega, rfl, rfl, by simpa using HW.out, Below.refl _ _⟩
    case round =>
      obtain ⟨k, hk, rfl, rfl, hwr, hb⟩ := hrel
      have hz := hb.size
      by_cases hlt : k < n
      · obtain ⟨Ai, ci, g0, g1, g2, hi, hf, hnew⟩ := hwr.mark hlt
        have hll := HL.out k hlt
        have hka := kAt_le (f := f) (k0 := k0) k (fun i hi => HL.out i (by omega))
        have hkb := kAt_ge (f := f) (k0 := k0) k
        have hkn : k * 130 ≤ 16 * 130 := Nat.mul_le_mul_right 130 (by omega)
        have hif : (if k < k then mkF f k0 k else f k) = f k := if_neg (by omega)
        simp only [hif] at g0 g1 g2 hi hnew
        have HNX := Lib.hid (show kAt f k0 (k + 1) = kAt f k0 k + (f k).1.length + 2 from rfl)
        have HMF := Lib.hid (show mkF f k0 k = ((List.range (f k).1.length).map (kAt f k0 k + ·), kAt f k0 k + (f k).1.length, kAt f k0 k + (f k).1.length + 1) from rfl)
        obtain ⟨K, hK⟩ : ∃ K, kAt f k0 k = K := ⟨_, rfl⟩
        rw [hK] at hka hkb HNX HMF ⊢
        obtain ⟨nn, hnn⟩ : ∃ nn, (f k).1.length = nn := ⟨_, rfl⟩
        have hNN := Lib.hid hnn
        have hi' : wr.ownsRow B 2 1 (.slice Ai nn ci) nn ((f k).1.map fun (i : Nat) => Value.int .i64 (i : Int)) := by have := hi; unfold IntsR at this; rw [hnn] at this; exact this
        rw [hnn] at g0 hll HNX HMF
        have HMK := Lib.hid (markInt64S_any Ai nn ci B (K : Int) _ wr (by omega) (by omega) (by omega) hi')
        have hob := own_lt hi'
        have HNEW := Lib.hid hnew
        have HWR := Lib.hid hwr
        have HB := Lib.hid hb
        clear hwr hnew hi hi' hb hK hnn hif
        obtain ⟨M, hM⟩ : ∃ M, K + nn = M := ⟨_, rfl⟩
        have hMi : (K : Int) + nn = (M : Int) := by omega
        rw [hMi] at HMK
        rw [hM] at HMF HNX
        have hM9 : M ≤ 1100000 := by omega
        clear hMi
        go_upto_region 5 with (go_at_call 42; refine HMK.out.mono ?_; rintro e w2 ⟨rfl, ho2, hg2⟩)
        have hml : ((List.range nn).map (K + ·)).map (fun (i : Nat) => Value.int .i64 (i : Int)) = (List.range nn).map fun (i : Nat) => Value.int .i64 ((K : Int) + i) := by
          rw [List.map_map]
          apply List.map_congr_left
          intro i _
          simp
        have hw2 := HNEW.out w2 ((List.range nn).map (K + ·)) (by simp [hNN.out]) (by unfold IntsR; rw [hml]; simpa using ho2) (by rw [hNN.out]; exact hg2)
        have HW2 := Lib.hid hw2
        have HB2 := Lib.hid (HB.out.grown hg2 (Nat.le_trans hlo hz) (fun j hj => Nat.le_trans hB (hob j hj)))
        have hn3 := hw2.nums hlt M (M + 1)
        have HN3 := Lib.hid hn3
        obtain ⟨cs, A5, c5, r1, r2, r3, _, _⟩ := hw2
        obtain ⟨x0, x1, x2⟩ := r3 k hlt
        have y1 := r1.cell (k * 3 + 1)
        rw [x1] at y1
        have z1 := r1.frozen (k * 3 + 1)
        have r1' := r1.set (k * 3 + 1) (.int .i64 (M : Int))
        have y2 := r1'.cell (k * 3 + 2)
        rw [Array.getElem?_setIfInBounds_ne (by omega), x2] at y2
        have z2 := r1'.frozen (k * 3 + 2)
        have hy : ((M + 1 : Nat) : Int) = (M : Int) + 1 := by omega
        rw [hy] at HN3
        have HB3 := Lib.hid ((HB2.out.setCell (p := ⟨q, k * 3 + 1, none⟩) hq (.int .i64 (M : Int))).setCell (p := ⟨q, k * 3 + 2, none⟩) hq (.int .i64 ((M : Int) + 1)))
        have HEQ := Lib.hid (show (fun j => if j = k then ((if k = k then ((List.range nn).map (K + ·), (f k).2.1, (f k).2.2) else if k < k then mkF f k0 k else f k).1, M, M + 1) else if j = k then ((List.range nn).map (K + ·), (f k).2.1, (f k).2.2) else if j < k then mkF f k0 j else f j) = (fun j => if j < k + 1 then mkF f k0 j else f j) by
          funext j
          by_cases e : j = k
          · subst e
            simp [HMF.out]
          · rw [if_neg e, if_neg e]
            by_cases h : j < k
            · rw [if_pos h, if_pos (by omega)]
            · rw [if_neg h, if_neg (by omega)])
        rw [HEQ.out] at HN3
        clear r1 r2 r3 x0 x1 x2 r1' hn3 ho2 hg2 hml hy g0 g1 g2
        go_wp2_with fail
        go_roundw
        case rel => exact ⟨k + 1, by omega, by go_num, by rw [HNX.out]; go_num, HN3.out, HB3.out⟩
        case measure => simp [intOf]; omega
      · obtain rfl : k = n := by omega
        go_wp2
        go_ret
        refine ⟨rfl, .inr ⟨q, B, rfl, hq, hB, ?_⟩, hb⟩
        exact hwr.cong fun j hj => if_pos hj
theorem heldChainWalkS_any (A : Option Addr) (n c k0 : Nat) (f : Nat → List Nat × Nat × Nat) (w : World) (hn : n ≤ 16) (hl : ∀ i, i < n → (f i).1.length ≤ 128) (h0 : 1 ≤ k0) (h1 : k0 ≤ 1000000) (hs : WS w.heap.size w A n (mkF f k0)) :
    Calls Tryd.prog 21 #[.slice A n c, .int .i64 (k0 : Int)] w fun e w' => e = .returned (.int .i64 ((kAt f k0 n : Nat) : Int)) ∧ Below w.heap.size w w' := by
  have HL := Lib.hid hl
  have HS := Lib.hid hs
  clear hl hs
  go_enter Tryd.func21, Tryd.ntmps21
  go_wp2
  go_loopw [1, 5] (fun s1 s5 wr => ∃ k : Nat, k ≤ n ∧ s5 = .int .i64 k ∧ s1 = .int .i64 ((kAt f k0 k : Nat) : Int) ∧ Below w.heap.size w wr) (fun _ i _ => n - (intOf i).toNat)
  case atStart => exact ⟨0, by omega, rfl, rfl, Below.refl _ _⟩
  case round =>
    obtain ⟨k, hk, rfl, rfl, hb⟩ := hrel
    have hz := hb.size
    by_cases hlt : k < n
    · obtain ⟨q, o, Ai, ci, rfl, hq, g0, g1, g2, gs⟩ := (HS.out.below hb) k hlt
      have hll := HL.out k hlt
      have hka := kAt_le (f := f) (k0 := k0) k (fun i hi => HL.out i (by omega))
      have hkb := kAt_ge (f := f) (k0 := k0) k
      have hkn : k * 130 ≤ 16 * 130 := Nat.mul_le_mul_right 130 (by omega)
      have HNX := Lib.hid (show kAt f k0 (k + 1) = kAt f k0 k + (f k).1.length + 2 from rfl)
      have g1' : (mkF f k0 k).2.1 = kAt f k0 k + (f k).1.length := rfl
      have g2' : (mkF f k0 k).2.2 = kAt f k0 k + (f k).1.length + 1 := rfl
      rw [mkF_len] at g0 gs
      rw [g1'] at g1
      rw [g2'] at g2
      have gs' : Sl wr w.heap.size Ai (f k).1.length (fun j => .int .i64 (((kAt f k0 k : Nat) : Int) + j)) := gs.congr fun j hj => by rw [mkF_getD hj]; simp
      obtain ⟨K, hK⟩ : ∃ K, kAt f k0 k = K := ⟨_, rfl⟩
      rw [hK] at hka hkb HNX gs' g1 g2 ⊢
      obtain ⟨nn, hnn⟩ : ∃ nn, (f k).1.length = nn := ⟨_, rfl⟩
      rw [hnn] at g0 g1 g2 gs' hll HNX
      have HMK := Lib.hid (heldInt64S_any Ai nn ci (K : Int) wr (by omega) (by omega) (by omega) (gs'.more hz))
      obtain ⟨M, hM⟩ : ∃ M, K + nn = M := ⟨_, rfl⟩
      have hMi : (K : Int) + nn = (M : Int) := by omega
      rw [hMi] at HMK
      rw [hM] at HNX g1 g2
      have hM9 : M ≤ 1100000 := by omega
      have hM0 : ¬ (M : Int) < 0 := by omega
      have hy : ((M + 1 : Nat) : Int) = (M : Int) + 1 := by omega
      rw [hy] at g2
      have HB := Lib.hid hb
      clear hMi gs gs' g1' g2' hb hK hnn hy
      go_wp2_with (go_at_call 43; refine HMK.out.mono ?_; rintro e w2 ⟨rfl, hb2⟩; have e1 := (hb2.cell (p := ⟨q, o + k * 3 + 1, none⟩) (Nat.lt_of_lt_of_le hq hz)).trans g1; have e2 := (hb2.cell (p := ⟨q, o + k * 3 + 2, none⟩) (Nat.lt_of_lt_of_le hq hz)).trans g2)
      go_roundw
      case rel => exact ⟨k + 1, by omega, by go_num, by rw [HNX.out]; go_num, HB.out.trans (hb2.mono hz)⟩
      case measure => simp [intOf]; omega
    · obtain rfl : k = n := by omega
      go_wp2
      go_ret
      exact ⟨rfl, hb⟩
end Go.Proofs.YtgmmigbaaigldaaDoor
