/-
  Disks of chains: MendLengths, both sides.
-/
import Derived.Test.YtapkckpjeoedaaaGreatDoorLenP
namespace Go.Proofs.YtapkckpjeoedaaaGreatDoor
open Go Go.ChangeShapes Go.WideShapes Go.ChangeAt Go.RowKit lib
set_option linter.unusedVariables false
set_option maxRecDepth 100000
/-- a cell of a row of another type -/
theorem WRow.setT {B q' T : Nat} {w : World} {q E : Nat} {f : Nat → List Nat × Nat × Nat} {cs : Array Value} (h : WRow B w q E f) (hr : Rw w q' T cs) (h1 : 2 ≠ T) (hq : q ≠ q') (j : Nat) (x : Value) : WRow B (w.setCell ⟨q', j, none⟩ x) q E f := by
  obtain ⟨cs', A, c, g1, g2, g3, g4, g5⟩ := h
  exact ⟨cs', A, c, g1.far hq x, g2, g3, fun i hi => own_farR (g4 i hi) hr h1 j x, g5⟩
theorem WOut.setT {B q' T : Nat} {w : World} {Aq : Option Addr} {cq m : Nat} {xs : List Value} {f : Nat → List Nat × Nat × Nat} {cs : Array Value} (h : WOut B w Aq cq m xs f) (hr : Rw w q' T cs) (h1 : 2 ≠ T) (h2 : 103 ≠ T) (j : Nat) (x : Value) : WOut B (w.setCell ⟨q', j, none⟩ x) Aq cq m xs f := by
  obtain ⟨g1, A, c, g2⟩ := h
  exact ⟨own_farR g1 hr h2 j x, A, c, fun i hi => ⟨(g2 i hi).1, own_farR (g2 i hi).2 hr h1 j x⟩⟩
theorem tE2 : 103 ≠ 82 := by decide
set_option maxHeartbeats 4000000 in
theorem implMendLengths_any {w : World} {p g n z E d t N c : Nat} {u : Nat → UInt8} (h : ChW w p g n z E d t N c u) (hz : 0 < z) (hz2 : z ≤ 64) (hn : n ≤ 128) (ht : t ≤ n) (hNz : z + n ≤ N) (hN : N ≤ 4096) (hcN : N ≤ c) (hE : E ≤ 16) (hd : d = dirN n z) (hfit : ∀ k, k < E → d * z + k * 12 + 12 ≤ N) :
    Calls Tryz.prog 42 #[.pointer (some ⟨p, 0, none⟩)] w fun r w' => r = .returned (.int .i64 ((lenGo n z t u E).2 : Int)) ∧ ChW w' p g n z E d t N c (lenGo n z t u E).1 ∧ w.grownBy w' (some g) := by
  have HWK := Lib.hid (implWalks_any h hn hNz hN hcN hE hd hfit)
  have HFIT := Lib.hid hfit
  have HH := Lib.hid h
  have hgl := h.row.lt
  have hpl := h.plt
  clear h hfit
  go_enter Tryz.func42, Tryz.ntmps42
  go_wp2_with (go_at_call 71; refine HWK.out.mono ?_; rintro e1 w2 ⟨rfl, _, hw2, hb2⟩)
  have HW2 := Lib.hid hw2
  have HC2 := Lib.hid (HH.out.below hb2)
  have hw1z := hb2.size
  clear hw2
  go_loopw [3, 18] (fun s3 s7 wr => ∃ m : Nat, m ≤ E ∧ s3 = .int .i64 ((lenGo n z t u m).2 : Int) ∧ s7 = .int .i64 m ∧ ChW wr p g n z E d t N c (lenGo n z t u m).1 ∧ WRow (w.heap.size + 2) wr w.heap.size E (walkN n z t u) ∧ w.grownBy wr (some g)) (fun _ s _ => E - (intOf s).toNat)
  case atStart => exact ⟨0, by omega, rfl, rfl, HC2.out, HW2.out, only_below hb2 (Nat.le_refl _) _⟩
  case round =>
    obtain ⟨m, hm, rfl, rfl, hc, hww, hg⟩ := hrel
    have HC3 := Lib.hid hc
    have HWW := Lib.hid hww
    have HG3 := Lib.hid hg
    have c2 := hc.c2
    have hwrz := hg.size
    clear hg
    by_cases hlt2 : m < E
    · have t1 := HFIT.out m hlt2
      have hcle := lenGo_le n z t u m
      have hcell := hww.cell hlt2
      have HWL := Lib.hid (walkN_chl n z t u m).1
      have HLS := Lib.hid (lenGo_succ n z t u m)
      have HKE := Lib.hid (lenGo_entry (n := n) (t := t) (u := u) hz m)
      obtain ⟨Am, cm, y0, y1, y2, hii, _⟩ := hcell
      obtain ⟨Wm, hWm⟩ : ∃ Wm, walkN n z t u m = Wm := ⟨_, rfl⟩
      rw [hWm] at y0 y1 y2 hii HLS HWL
      obtain ⟨l, e, bl⟩ := Wm
      dsimp only at *
      have HII := Lib.hid hii
      obtain ⟨r, hr⟩ : ∃ r, lenGo n z t u m = r := ⟨_, rfl⟩
      rw [hr] at hc HC3 hcle HLS HKE ⊢
      obtain ⟨u3, k3⟩ := r
      dsimp only at *
      have hlen := HWL.out.len
      clear hr hWm hww hc
      have e2 : IntKind.i64.wrap ((k3 : Int) + 1) = (k3 : Int) + 1 := by rw [IntKind.wrap_i64]; omega
      have hbA := (Below.refl wr.heap.size wr).alloc (Nat.le_refl _) (.cells #[.slice Am l.length cm, .int .i64 (e : Int), .int .i64 (bl : Int)] 103)
      have hcA := HC3.out.below hbA
      have HIA := Lib.hid (HII.out.below hbA)
      have HWA := Lib.hid (HWW.out.below hbA)
      have HGA := Lib.hid (only_alloc HG3.out (.cells #[.slice Am l.length cm, .int .i64 (e : Int), .int .i64 (bl : Int)] 103))
      have rC := Rw.new wr 103 #[.slice Am l.length cm, .int .i64 (e : Int), .int .i64 (bl : Int)]
      go_upto_region 7 with (first
        | (go_at_call 72; refine (implEntry_any m _ hcA rfl t1 (by omega) hcN (by omega)).mono ?_; intro e2' w4 h2; obtain ⟨b, nm, f, ln, us, de, hb0, he0, rfl, hb4, n8, f8, l8, hbf⟩ := entOut_parts h2))
      have HEK := Lib.hid (show entK n z u m = ⟨nm, f, ln, us, de⟩ by rw [← HKE.out.2, ← hd, he0])
      rw [HEK.out] at HLS
      have hcase : (b = true ∧ us = true) ∨ (b = true ∧ us = false) ∨ (b = false ∧ us = false) := by
        cases b
        · exact .inr (.inr ⟨rfl, (hbf rfl).1⟩)
        · cases us <;> simp
      have HOKI := Lib.hid hb0
      have hal0 := hb4.alloc hb4.size (.cells #[.string nm, .int .i64 f, .int .i64 ln, .bool us, .bool de] 82)
      have HC5 := Lib.hid (hcA.below hal0)
      have HW5 := Lib.hid (HWA.out.below hal0)
      have HI5 := Lib.hid (HIA.out.below hal0)
      have HG5 := Lib.hid (only_trans HGA.out (only_below hal0 (Nat.le_refl _) (some g)))
      have rE := Rw.new w4 82 #[.string nm, .int .i64 f, .int .i64 ln, .bool us, .bool de]
      have q0 := rE.cell 0; have q1 := rE.cell 1; have q2 := rE.cell 2; have q3 := rE.cell 3; have q4 := rE.cell 4; have qf2 := rE.frozen 2
      have RE := Lib.hid rE
      have rC5 := rC.below hal0 rC.lt
      have x0 := rC5.cell 0
      have hwr4 : wr.heap.size < w4.heap.size := by have := hb4.size; simp at this; omega
      have hqe : g ≠ w4.heap.size ∧ p ≠ w4.heap.size := by have := hb4.size; have := HC3.out.row.lt; have := HC3.out.plt; omega
      have hqe1 := hqe.1
      have hqe2 := hqe.2
      have hwq : w.heap.size ≤ w4.heap.size := by have := hb4.size; omega
      have c1 := HC5.out.c1
      clear hb0 he0 hbf h2 hal0 rE hqe hcA
      generalize hW5 : w4.alloc (.cells #[.string nm, .int .i64 f, .int .i64 ln, .bool us, .bool de] 82) = W5 at *
      clear hW5
      rcases hcase with ⟨rfl, rfl⟩ | ⟨rfl, rfl⟩ | ⟨rfl, rfl⟩
      · have HLS2 := Lib.hid (show lenGo n z t u (m + 1) = (if l.length < needN z ln then (putE u3 (dirN n z * z + m * 12) nm f (l.length * z) true de, k3 + 1) else if needN z ln < l.length then (cutU z (dirN n z * z + m * 12) u3 (l.take (needN z ln)), k3 + 1) else (u3, k3)) from HLS.out)
        obtain ⟨N1, hN1⟩ : ∃ N1, needN z ln = N1 := ⟨_, rfl⟩
        have hshort : l.length < N1 → l.length * z < ln := fun h => need_short hz (by rw [hN1]; exact h)
        have hNle : N1 ≤ 600 := by rw [← hN1]; have : needN z ln ≤ ln + z - 1 := Nat.div_le_self _ _; omega
        rw [hN1] at HLS2
        have hceil : ((ln : Int) + z - 1) / z = (N1 : Int) := by
          rw [← hN1]
          unfold needN
          rw [show (ln : Int) + z - 1 = ((ln + z - 1 : Nat) : Int) by omega]
          rfl
        have HCE := Lib.hid (fun W => ceiling_any (ln : Int) (z : Int) (N1 : Int) W hceil (by omega) (by omega) (by omega) (by omega))
        clear hceil
        go_upto_region 8 with fail
        go_cut [10] (fun s10 wx => s10 = .int .i64 (N1 : Int) ∧ wx = W5.drew)
        case first =>
          go_region_law (go_simp; go_at_call 83; refine (HCE.out _).mono ?_; rintro e6 w6 ⟨rfl, rfl⟩)
          all_goals
            go_wp2_with fail
            go_meet
            exact ⟨rfl, rfl⟩
        case rest =>
        obtain ⟨rfl, rfl⟩ := hcut
        rcases Nat.lt_trichotomy l.length N1 with hcmp | hcmp | hcmp
        · have hmz := hshort hcmp
          have HLX := Lib.hid (show lenGo n z t u (m + 1) = (putE u3 (dirN n z * z + m * 12) nm f (l.length * z) true de, k3 + 1) by rw [HLS2.out, if_pos hcmp])
          obtain ⟨M, hM⟩ : ∃ M, l.length * z = M := ⟨_, rfl⟩
          have hMi : (l.length : Int) * z = (M : Int) := by rw [← hM]; simp
          have hMw : IntKind.i64.wrap (M : Int) = (M : Int) := by rw [IntKind.wrap_i64]; omega
          rw [hM] at HLX hmz
          have i1 : (l.length : Int) < (N1 : Int) := by omega
          have i2 : ¬ (N1 : Int) < (l.length : Int) := by omega
          clear hcmp hN1 hM hshort
          obtain ⟨at', hat⟩ : ∃ a, d * z + m * 12 = a := ⟨_, rfl⟩
          have HAT := Lib.hid hat
          have ht1 : at' + 12 ≤ N := by omega
          rw [← hd, hat] at HLX
          clear hat
          have HPE := Lib.hid (fun W => implPut_any nm f M true de n8 f8 (by omega) W)
          unfold entV at HPE
          unfold putE at HLX
          generalize entB nm f M true de = V at *
          go_upto_region 10 with (go_at_call 60; refine (sizeI_any _ _ _ _ (by omega)).mono ?_; rintro e7 w7 ⟨rfl, rfl⟩)
          go_cut [10] (fun s10 wx => s10 = .int .i64 (N1 : Int) ∧ Rw wx w4.heap.size 82 #[.string nm, .int .i64 f, .int .i64 (M : Int), .bool true, .bool de] ∧ ChW wx p g n z E d t N c u3 ∧ WRow (w.heap.size + 2) wx w.heap.size E (walkN n z t u) ∧ w.grownBy wx (some g) ∧ wx.cell? ⟨wr.heap.size, 0, none⟩ = some (.slice Am l.length cm))
          case first =>
            go_region_law (go_simp; go_at_call 60; refine (sizeI_any _ _ _ _ (by omega)).mono ?_; rintro e7 w7 ⟨rfl, rfl⟩)
            all_goals
              go_wp2_with fail
              go_meet
              exact ⟨rfl, by simpa using (RE.out.set 2 (.int .i64 (M : Int))).drew.drew, (chw_far HC5.out hqe2 hqe1 2 _).drew.drew, (HW5.out.setT RE.out tE1 (by omega) 2 _).below ((Below.refl _ _).drew.drew), only_drew (only_drew (only_setCell HG5.out (.inr hwq) _)), by simp [World.cell?_setCell_other _ _ _ _ (show (⟨w4.heap.size, 2, none⟩ : Addr) ≠ ⟨wr.heap.size, 0, none⟩ from fun q => by injection q; omega), x0]⟩
          case rest =>
          obtain ⟨rfl, hrx, hcx, hwx, hgx, x0x⟩ := hcut
          have zz0 := hrx.cell 0; have zz1 := hrx.cell 1; have zz2 := hrx.cell 2; have zz3 := hrx.cell 3; have zz4 := hrx.cell 4
          have HCX := Lib.hid hcx
          have HWX := Lib.hid hwx
          go_upto_region 11 with fail
          go_cut [10] (fun s10 wx => s10 = .int .i64 (N1 : Int) ∧ ChW wx p g n z E d t N c (putU u3 at' ((List.range 12).map V)) ∧ WRow (w.heap.size + 2) wx w.heap.size E (walkN n z t u) ∧ w.grownBy wx (some g) ∧ wx.cell? ⟨wr.heap.size, 0, none⟩ = some (.slice Am l.length cm))
          case first =>
            go_region_law (first
              | (go_simp; go_at_call 63; refine (implEntryBytes_any m at' HCX.out.drew HAT.out ht1 (by omega) hcN (by omega)).mono ?_; rintro e8 w8 ⟨rfl, rfl⟩)
              | (go_simp; go_at_call 64; refine (HPE.out _).mono ?_; rintro e9 w9 ⟨g2, rfl, hb9, hg2, hbb9⟩; have HC9 := HCX.out.drew.drew.below hbb9; have x09 := (hbb9.cell (p := ⟨wr.heap.size, 0, none⟩) (World.block_lt_of_cell? _ _ x0x)).trans x0x)
              | (refine step_copy_bytes rfl (.tmp 62) (.tmp 64) 63 63 rfl 5 Tryz.underlying63 size8 g at' 12 (c - at') (by rfl) g2 12 12 V (by rfl) (by omega) hb9 (fun j hj => by rw [HC9.row.cell (by omega)]; rfl) (fun j hj => HC9.row.frozen (by omega)) ?_))
            all_goals
              have HC10 := Lib.hid (HC9.puts at' ((List.range 12).map V))
              have hB10 := (only_below hbb9 (Nat.le_refl _) (some g))
              have HG10 := Lib.hid (fun LL : List Value => only_setCells LL at' _ (only_trans (only_drew (only_drew hgx)) hB10))
              have hgq : wr.heap.size ≠ g := by have := HC3.out.row.lt; omega
              have HX10 := Lib.hid (fun LL : List Value => (World.cell?_of_block (a := ⟨wr.heap.size, 0, none⟩) (heap_setCells_other hgq LL at' w9)).trans x09)
              have HW9 := HWX.out.below (((Below.refl _ _).drew.drew).trans hbb9)
              have HW10 := Lib.hid (fun LL : List Value => HW9.grown (only_setCells LL at' w9 (only_refl w9 (some g))) (show w.heap.size ≠ g by omega) (show g < w.heap.size + 2 by omega))
              go_wp2_with fail
              go_meet
              exact ⟨rfl, HC10.out, HW10.out _, HG10.out _, HX10.out _⟩
          case rest =>
          obtain ⟨rfl, HC10, HW10, hg10, x0y⟩ := hcut
          go_wp2_with (go_at_call 60; refine (sizeI_any _ _ _ _ (by omega)).mono ?_; rintro e7 w7 ⟨rfl, rfl⟩)
          go_roundw
          case rel => exact ⟨m + 1, by omega, by rw [HLX.out]; simp, by go_num, by rw [HLX.out]; exact HC10, HW10, hg10⟩
          case measure => simp [intOf]; omega
        · have HLX := Lib.hid (show lenGo n z t u (m + 1) = (u3, k3) by rw [HLS2.out, if_neg (by omega), if_neg (by omega)])
          have i1 : ¬ (l.length : Int) < (N1 : Int) := by omega
          have i2 : ¬ (N1 : Int) < (l.length : Int) := by omega
          clear hcmp hN1 hshort
          go_wp2_with (go_at_call 60; refine (sizeI_any _ _ _ _ (by omega)).mono ?_; rintro e7 w7 ⟨rfl, rfl⟩)
          go_roundw
          case rel => exact ⟨m + 1, by omega, by rw [HLX.out], by go_num, by rw [HLX.out]; exact HC5.out.drew, HW5.out.below (Below.refl _ _).drew, only_drew HG5.out⟩
          case measure => simp [intOf]; omega
        · have HLX := Lib.hid (show lenGo n z t u (m + 1) = (cutU z (dirN n z * z + m * 12) u3 (l.take N1), k3 + 1) by rw [HLS2.out, if_neg (by omega), if_pos hcmp])
          have i1 : ¬ (l.length : Int) < (N1 : Int) := by omega
          have i2 : (N1 : Int) < (l.length : Int) := by omega
          have HOK := Lib.hid (show okE (fun i' => u3 (d * z + m * 12 + i')) from HOKI.out.1 rfl)
          have hNl : N1 ≤ l.length := by omega
          clear hcmp hN1 hshort
          have hTl : (l.take N1).length = N1 := by simp; omega
          have HCT := Lib.hid (implCut_any m _ HC5.out.drew (HI5.out.drew.take hNl) (HWL.out.take N1) hn hNz hN hcN rfl t1 (by omega))
          rw [hTl] at HCT
          have k1 : (N1 : Int) ≤ (cm : Int) := by have := HI5.out.cap; omega
          go_wp2_with (first
            | (go_at_call 60; refine (sizeI_any _ _ _ _ (by omega)).mono ?_; rintro e7 w7 ⟨rfl, rfl⟩)
            | (go_at_call 82; refine HCT.out.mono ?_; rintro e8 w8 ⟨rfl, hc8, hg8⟩))
          go_roundw
          case rel => exact ⟨m + 1, by omega, by rw [HLX.out]; simp, by go_num, by rw [HLX.out, ← hd]; exact hc8, (HW5.out.below (Below.refl _ _).drew).grown hg8 (by omega) (by omega), only_trans (only_drew HG5.out) hg8⟩
          case measure => simp [intOf]; omega
      · have HLX := Lib.hid (show lenGo n z t u (m + 1) = (u3, k3) from HLS.out)
        go_wp2_with fail
        go_roundw
        case rel => exact ⟨m + 1, by omega, by rw [HLX.out], by go_num, by rw [HLX.out]; exact HC5.out, HW5.out, HG5.out⟩
        case measure => simp [intOf]; omega
      · have HLX := Lib.hid (show lenGo n z t u (m + 1) = (u3, k3) from HLS.out)
        go_wp2_with fail
        go_roundw
        case rel => exact ⟨m + 1, by omega, by rw [HLX.out], by go_num, by rw [HLX.out]; exact HC5.out, HW5.out, HG5.out⟩
        case measure => simp [intOf]; omega
    · obtain rfl : m = E := by omega
      clear hww
      go_wp2_with fail
      go_ret
      exact ⟨rfl, HC3.out, HG3.out⟩
end Go.Proofs.YtapkckpjeoedaaaGreatDoor
