/-
  Disks of chains: MendLengths, the reference's side.
-/
import Derived.Test.YtapkckpjeoedaaaGreatDoorLenTop
namespace Go.Proofs.YtapkckpjeoedaaaGreatDoor
open Go Go.ChangeShapes Go.WideShapes Go.ChangeAt Go.RowKit lib
set_option linter.unusedVariables false
set_option maxRecDepth 100000
set_option maxHeartbeats 4000000 in
theorem specMendLengths_any {w : World} {p g n z E d t N c : Nat} {u : Nat → UInt8} (h : ChW w p g n z E d t N c u) (hz : 0 < z) (hz2 : z ≤ 64) (hn : n ≤ 128) (ht : t ≤ n) (hNz : z + n ≤ N) (hN : N ≤ 4096) (hcN : N ≤ c) (hE : E ≤ 16) (hd : d = dirN n z) (hfit : ∀ k, k < E → d * z + k * 12 + 12 ≤ N) :
    Calls Tryz.prog 39 #[.pointer (some ⟨p, 0, none⟩)] w fun r w' => r = .returned (.int .i64 ((lenGo n z t u E).2 : Int)) ∧ ChW w' p g n z E d t N c (lenGo n z t u E).1 ∧ w.grownBy w' (some g) := by
  have HWK := Lib.hid (specWalks_any h hn hNz hN hcN hE hd hfit)
  have HFIT := Lib.hid hfit
  have HH := Lib.hid h
  have hgl := h.row.lt
  have hpl := h.plt
  clear h hfit
  go_enter Tryz.func39, Tryz.ntmps39
  go_wp2_with (go_at_call 67; refine HWK.out.mono ?_; rintro e1 w2 ⟨Aq, cq, xs, rfl, _, hw2, hb2⟩)
  have HW2 := Lib.hid hw2
  have HC2 := Lib.hid (HH.out.below hb2)
  have hw1z := hb2.size
  clear hw2
  go_loopw [3, 6] (fun s3 s7 wr => ∃ m : Nat, m ≤ E ∧ s3 = .int .i64 ((lenGo n z t u m).2 : Int) ∧ s7 = .int .i64 m ∧ ChW wr p g n z E d t N c (lenGo n z t u m).1 ∧ WOut (w.heap.size + 1) wr Aq cq E xs (walkN n z t u) ∧ w.grownBy wr (some g)) (fun _ s _ => E - (intOf s).toNat)
  case atStart => exact ⟨0, by omega, rfl, rfl, HC2.out, HW2.out, only_below hb2 (Nat.le_refl _) _⟩
  case round =>
    obtain ⟨m, hm, rfl, rfl, hc, hww, hg⟩ := hrel
    have HC3 := Lib.hid hc
    have HWW := Lib.hid hww
    have HG3 := Lib.hid hg
    have c2 := hc.c2
    have hwrz := hg.size
    clear hg
    by_cases hlt2 : m < E
    · have t1 := HFIT.out m hlt2
      have hcle := lenGo_le n z t u m
      have hcell := hww.cell hlt2
      have HWL := Lib.hid (walkN_chl n z t u m).1
      have HLS := Lib.hid (lenGo_succ n z t u m)
      have HKE := Lib.hid (lenGo_entry (n := n) (t := t) (u := u) hz m)
      obtain ⟨bq, Am, cm, hAq, y0, y1, y2, hii⟩ := hcell
      subst hAq
      obtain ⟨Wm, hWm⟩ : ∃ Wm, walkN n z t u m = Wm := ⟨_, rfl⟩
      rw [hWm] at y0 y1 y2 hii HLS HWL
      obtain ⟨l, e, bl⟩ := Wm
      dsimp only at *
      have HII := Lib.hid hii
      obtain ⟨r, hr⟩ : ∃ r, lenGo n z t u m = r := ⟨_, rfl⟩
      rw [hr] at hc HC3 hcle HLS HKE ⊢
      obtain ⟨u3, k3⟩ := r
      dsimp only at *
      have hlen := HWL.out.len
      clear hr hWm hww hc
      have e2 : IntKind.i64.wrap ((k3 : Int) + 1) = (k3 : Int) + 1 := by rw [IntKind.wrap_i64]; omega
      have hcA := HC3.out
      have HIA := HII
      have HWA := HWW
      have HGA := HG3
      go_upto_region 7 with (first
        | (go_at_call 68; refine (specEntry_any m _ hcA rfl t1 (by omega) hcN (by omega)).mono ?_; intro e2' w4 h2; obtain ⟨b, nm, f, ln, us, de, hb0, he0, rfl, hb4, n8, f8, l8, hbf⟩ := entOut_parts h2))
      have HEK := Lib.hid (show entK n z u m = ⟨nm, f, ln, us, de⟩ by rw [← HKE.out.2, ← hd, he0])
      rw [HEK.out] at HLS
      have hcase : (b = true ∧ us = true) ∨ (b = true ∧ us = false) ∨ (b = false ∧ us = false) := by
        cases b
        · exact .inr (.inr ⟨rfl, (hbf rfl).1⟩)
        · cases us <;> simp
      have HOKI := Lib.hid hb0
      have hal0 := hb4.alloc hb4.size (.cells #[.string nm, .int .i64 f, .int .i64 ln, .bool us, .bool de] 82)
      have HC5 := Lib.hid (hcA.below hal0)
      have HW5 := Lib.hid (HWA.out.below hal0)
      have HI5 := Lib.hid (HIA.out.below hal0)
      have HG5 := Lib.hid (only_trans HGA.out (only_below hal0 (Nat.le_refl _) (some g)))
      have rE := Rw.new w4 82 #[.string nm, .int .i64 f, .int .i64 ln, .bool us, .bool de]
      have q0 := rE.cell 0; have q1 := rE.cell 1; have q2 := rE.cell 2; have q3 := rE.cell 3; have q4 := rE.cell 4; have qf2 := rE.frozen 2
      have RE := Lib.hid rE
      have hbq : bq < wr.heap.size := World.block_lt_of_cell? _ _ y0
      have z0 := (hal0.cell (p := ⟨bq, m * 3, none⟩) hbq).trans y0
      have hqe : g ≠ w4.heap.size ∧ p ≠ w4.heap.size := by have := hb4.size; have := HC3.out.row.lt; have := HC3.out.plt; omega
      have hqe1 := hqe.1
      have hqe2 := hqe.2
      have hwq : w.heap.size ≤ w4.heap.size := by have := hb4.size; omega
      have c1 := HC5.out.c1
      clear hb0 he0 hbf h2 hal0 rE hqe hcA
      generalize hW5 : w4.alloc (.cells #[.string nm, .int .i64 f, .int .i64 ln, .bool us, .bool de] 82) = W5 at *
      clear hW5
      rcases hcase with ⟨rfl, rfl⟩ | ⟨rfl, rfl⟩ | ⟨rfl, rfl⟩
      · have HLS2 := Lib.hid (show lenGo n z t u (m + 1) = (if l.length < needN z ln then (putE u3 (dirN n z * z + m * 12) nm f (l.length * z) true de, k3 + 1) else if needN z ln < l.length then (cutU z (dirN n z * z + m * 12) u3 (l.take (needN z ln)), k3 + 1) else (u3, k3)) from HLS.out)
        obtain ⟨N1, hN1⟩ : ∃ N1, needN z ln = N1 := ⟨_, rfl⟩
        have hshort : l.length < N1 → l.length * z < ln := fun h => need_short hz (by rw [hN1]; exact h)
        have hNle : N1 ≤ 600 := by rw [← hN1]; have : needN z ln ≤ ln + z - 1 := Nat.div_le_self _ _; omega
        rw [hN1] at HLS2
        have HND := Lib.hid (specNeed_any ln HC5.out hz hz2 l8)
        rw [hN1] at HND
        rcases Nat.lt_trichotomy l.length N1 with hcmp | hcmp | hcmp
        · have hmz := hshort hcmp
          have HLX := Lib.hid (show lenGo n z t u (m + 1) = (putE u3 (dirN n z * z + m * 12) nm f (l.length * z) true de, k3 + 1) by rw [HLS2.out, if_pos hcmp])
          obtain ⟨M, hM⟩ : ∃ M, l.length * z = M := ⟨_, rfl⟩
          have hMi : (l.length : Int) * z = (M : Int) := by rw [← hM]; simp
          have hMw : IntKind.i64.wrap (M : Int) = (M : Int) := by rw [IntKind.wrap_i64]; omega
          rw [hM] at HLX hmz
          have i1 : (l.length : Int) < (N1 : Int) := by omega
          have i2 : ¬ (N1 : Int) < (l.length : Int) := by omega
          clear hcmp hN1 hM hshort
          have HSE := Lib.hid (fun (X : World) (hX : ChW X p g n z E d t N c u3) (hR : Rw X w4.heap.size 82 #[.string nm, .int .i64 f, .int .i64 (M : Int), .bool true, .bool de]) => specSetEntryG_any m _ nm f M true de n8 f8 (by omega) hX hR rfl t1 (by omega) hcN (by omega))
          go_wp2_with (first
            | (go_at_call 81; refine HND.out.mono ?_; rintro e6 w6 ⟨rfl, rfl⟩)
            | (go_at_call 52; refine (HSE.out _ ((chw_far HC5.out hqe2 hqe1 2 _).drew) (by simpa using (RE.out.set 2 (.int .i64 (M : Int))).drew)).mono ?_; rintro e7 w7 ⟨rfl, hc7, hb7, hg7⟩))
          go_roundw
          case rel => exact ⟨m + 1, by omega, by rw [HLX.out]; simp, by go_num, by rw [HLX.out, ← hd]; exact hc7, ((HW5.out.setT RE.out tE1 tE2 2 _).below (Below.refl _ _).drew).grownF hg7 (by omega), only_trans (only_drew (only_setCell HG5.out (.inr hwq) _)) hg7⟩
          case measure => simp [intOf]; omega
        · have HLX := Lib.hid (show lenGo n z t u (m + 1) = (u3, k3) by rw [HLS2.out, if_neg (by omega), if_neg (by omega)])
          have i1 : ¬ (l.length : Int) < (N1 : Int) := by omega
          have i2 : ¬ (N1 : Int) < (l.length : Int) := by omega
          clear hcmp hN1 hshort
          go_wp2_with (go_at_call 81; refine HND.out.mono ?_; rintro e6 w6 ⟨rfl, rfl⟩)
          go_roundw
          case rel => exact ⟨m + 1, by omega, by rw [HLX.out], by go_num, by rw [HLX.out]; exact HC5.out.drew, HW5.out.below (Below.refl _ _).drew, only_drew HG5.out⟩
          case measure => simp [intOf]; omega
        · have HLX := Lib.hid (show lenGo n z t u (m + 1) = (cutU z (dirN n z * z + m * 12) u3 (l.take N1), k3 + 1) by rw [HLS2.out, if_neg (by omega), if_pos hcmp])
          have i1 : ¬ (l.length : Int) < (N1 : Int) := by omega
          have i2 : (N1 : Int) < (l.length : Int) := by omega
          have HOK := Lib.hid (show okE (fun i' => u3 (d * z + m * 12 + i')) from HOKI.out.1 rfl)
          have hNl : N1 ≤ l.length := by omega
          clear hcmp hN1 hshort
          have HCT := Lib.hid (specCut2_any m _ HC5.out.drew HI5.out.drew HWL.out hn hNz hN hcN rfl t1 (by omega) HOK.out N1 hNl)
          go_wp2_with (first
            | (go_at_call 81; refine HND.out.mono ?_; rintro e6 w6 ⟨rfl, rfl⟩)
            | (go_at_call 80; refine HCT.out.mono ?_; rintro e8 w8 ⟨rfl, hc8, hg8⟩))
          go_roundw
          case rel => exact ⟨m + 1, by omega, by rw [HLX.out]; simp, by go_num, by rw [HLX.out, ← hd]; exact hc8, (HW5.out.below (Below.refl _ _).drew).grownF hg8 (by omega), only_trans (only_drew HG5.out) hg8⟩
          case measure => simp [intOf]; omega
      · have HLX := Lib.hid (show lenGo n z t u (m + 1) = (u3, k3) from HLS.out)
        go_wp2_with fail
        go_roundw
        case rel => exact ⟨m + 1, by omega, by rw [HLX.out], by go_num, by rw [HLX.out]; exact HC5.out, HW5.out, HG5.out⟩
        case measure => simp [intOf]; omega
      · have HLX := Lib.hid (show lenGo n z t u (m + 1) = (u3, k3) from HLS.out)
        go_wp2_with fail
        go_roundw
        case rel => exact ⟨m + 1, by omega, by rw [HLX.out], by go_num, by rw [HLX.out]; exact HC5.out, HW5.out, HG5.out⟩
        case measure => simp [intOf]; omega
    · obtain rfl : m = E := by omega
      clear hww
      go_wp2_with fail
      go_ret
      exact ⟨rfl, HC3.out, HG3.out⟩
end Go.Proofs.YtapkckpjeoedaaaGreatDoor
