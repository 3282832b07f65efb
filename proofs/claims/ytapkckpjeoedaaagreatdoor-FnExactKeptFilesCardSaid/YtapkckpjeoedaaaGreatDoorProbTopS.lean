/-
  Disks of chains: the problems of an entry, the reference's side.
-/
import Derived.Test.YtapkckpjeoedaaaGreatDoorProbTop
import Derived.Deep.CutBlock
namespace Go.Proofs.YtapkckpjeoedaaaGreatDoor
open Go Go.ChangeShapes Go.WideShapes Go.ChangeAt Go.RowKit lib
set_option linter.unusedVariables false
set_option maxRecDepth 100000
theorem news3 (w : World) (e : Nat) (x y z : Value) : ∀ (j : Nat) (q : Value), [x, y, z][j]? = some q → ((w.alloc (.cells #[x, y, z] e)).drew).cell? ((⟨w.heap.size, 0, none⟩ : Addr).add j) = some q := by
  intro j q h
  match j with
  | 0 => simp at h; subst h; exact World.cell?_alloc_new w #[x, y, z] e 0
  | 1 => simp at h; subst h; exact World.cell?_alloc_new w #[x, y, z] e 1
  | 2 => simp at h; subst h; exact World.cell?_alloc_new w #[x, y, z] e 2
  | j + 3 => simp at h
theorem tE3 : 142 ≠ 82 := by decide
theorem own_nil3 (w : World) (e : Nat) : (w.alloc (.cells #[] e)).ownsRow w.heap.size e 3 (.slice (some ⟨w.heap.size, 0, none⟩) 0 0) 0 [] := ⟨rfl, .inr ⟨w.heap.size, 0, #[], rfl, Nat.le_refl _, heap_alloc_new w _, Nat.le_refl _, by simp [maxLen], rfl, rfl⟩⟩
open Classical in
set_option maxHeartbeats 4000000 in
theorem specProblems_any {w : World} {p g n z E d t N c gw kw : Nat} {u : Nat → UInt8} (h : ChW w p g n z E d t N c u) (hz : 0 < z) (hz2 : z ≤ 64) (hN : N ≤ 4096) (hcN : N ≤ c) (hE : E ≤ 16) (hd : d = dirN n z) (hfit : ∀ k, k < E → d * z + k * 12 + 12 ≤ N) (k : Nat) (hk : k < E) {Aw : Option Addr} {cw : Nat} (l : List Nat) (e b : Nat) (hlw : l.length ≤ 128) (hgw : gw < w.heap.size)
    (wc0 : w.cell? ⟨gw, kw, none⟩ = some (.slice Aw l.length cw)) (wc1 : w.cell? ⟨gw, kw + 1, none⟩ = some (.int .i64 e)) (wc2 : w.cell? ⟨gw, kw + 2, none⟩ = some (.int .i64 b)) :
    Calls Tryz.prog 69 #[.pointer (some ⟨p, 0, none⟩), .int .i64 k, .pointer (some ⟨gw, kw, none⟩)] w fun r w' => ∃ A c', r = .returned (.slice A (probsN n z u k (l, e, b)).length c') ∧ PRow w.heap.size w' A c' k (probsN n z u k (l, e, b)) ∧ Below w.heap.size w w' := by
  have hfk := hfit k hk
  obtain ⟨lw, hlw2⟩ : ∃ lw, l.length = lw := ⟨_, rfl⟩
  have HPR := Lib.hid (show probsN n z u k (l, e, b) = if okE (fun i => u (d * z + k * 12 + i)) then if (entryOf (fun i => u (d * z + k * 12 + i))).us = true then (pro1 n z u (entryOf (fun i => u (d * z + k * 12 + i))).nm k ++ pro2 e b) ++ pro3 lw (needN z (entryOf (fun i => u (d * z + k * 12 + i))).l) else [] else [(2, 0)] by rw [hd, ← hlw2]; rfl)
  rw [hlw2] at hlw wc0
  obtain ⟨PR, hPR⟩ : ∃ PR, probsN n z u k (l, e, b) = PR := ⟨_, rfl⟩
  rw [hPR] at HPR ⊢
  have HD := Lib.hid hd
  have HFIT := Lib.hid hfit
  have HH := Lib.hid h
  have HWC := Lib.hid (fun (W : World) (hW : Below w.heap.size w W) => (⟨(hW.cell (p := ⟨gw, kw, none⟩) hgw).trans wc0, (hW.cell (p := ⟨gw, kw + 1, none⟩) hgw).trans wc1, (hW.cell (p := ⟨gw, kw + 2, none⟩) hgw).trans wc2⟩ : W.cell? ⟨gw, kw, none⟩ = some (.slice Aw lw cw) ∧ W.cell? ⟨gw, kw + 1, none⟩ = some (.int .i64 e) ∧ W.cell? ⟨gw, kw + 2, none⟩ = some (.int .i64 b)))
  have hbA := (Below.refl w.heap.size w).alloc (Nat.le_refl _) (.cells #[] 142)
  have HC1 := Lib.hid (h.below hbA)
  have HB1 := Lib.hid hbA
  have HO1 := Lib.hid (own_nil3 w 142)
  obtain ⟨i0, hi0, hi1, hi2, hi3⟩ := info_parts infoCP
  clear hPR hlw2 hfit h hbA hd wc0 wc1 wc2
  go_enter Tryz.func69, Tryz.ntmps69
  go_upto_region 2 with fail
  have hz1 := HB1.out.size
  generalize w.alloc (.cells #[] 142) = W1 at *
  go_upto_region 3 with (go_at_call 68; refine (specEntry_any k _ HC1.out rfl hfk (by omega) hcN (by omega)).mono ?_; intro e2' w2 h2; obtain ⟨ok, nm, f, ln, us, de, hb0, he0, rfl, hb2, n8, f8, l8, hbf⟩ := entOut_parts h2)
  have hal0 := hb2.alloc hb2.size (.cells #[.string nm, .int .i64 f, .int .i64 ln, .bool us, .bool de] 82)
  have HO2 := Lib.hid (own_below HO1.out hal0)
  have RE2 := Lib.hid (Rw.new w2 82 #[.string nm, .int .i64 f, .int .i64 ln, .bool us, .bool de])
  have HB2 := Lib.hid (HB1.out.trans (hal0.mono hz1))
  obtain ⟨qe, hqe⟩ : ∃ qe, w2.heap.size = qe := ⟨_, rfl⟩
  have hqe1 : W1.heap.size ≤ qe := by have := hb2.size; omega
  rw [he0] at HPR
  have HOKI := Lib.hid hb0
  rw [hqe] at RE2
  clear h2 hal0 hb0 he0 hb2
  generalize hW2 : w2.alloc (.cells #[.string nm, .int .i64 f, .int .i64 ln, .bool us, .bool de] 82) = W2 at *
  clear hW2
  rw [hqe]
  clear hqe
  have hz2' := HB2.out.size
  have q3 := RE2.out.cell 3
  have hcase : ok = false ∨ (ok = true ∧ us = false) ∨ (ok = true ∧ us = true) := by cases ok <;> cases us <;> simp
  rcases hcase with rfl | ⟨rfl, rfl⟩ | ⟨rfl, rfl⟩
  · have HX := Lib.hid (show PR = [(2, 0)] by rw [HPR.out, if_neg (fun q => by have := HOKI.out.2 q; cases this)])
    clear hbf
    go_wp2_with (at_builtin; refine wpList_push3 (.tmp 23) (.tmp 26) 99 w.heap.size 142 (.agg #[.int .i64 0, .int .i64 0, .int .i64 0]) _ _ _ 24 _ 0 _ HO2.out rfl rfl Tryz.underlying99 infoCP rfl rfl rfl rfl rfl rfl rfl (by omega) (by omega) hz2' ?_; intro A9 c9 w9 ho9 hg9)
    go_ret
    rw [HX.out]
    exact ⟨some A9, c9, rfl, pRow_snoc (l := []) (a := 2) (b := 0) ho9, HB2.out.grown hg9 hz2' (own_lt HO2.out)⟩
  · have HX := Lib.hid (show PR = [] by rw [HPR.out, if_pos (HOKI.out.1 rfl)]; rfl)
    clear hbf
    go_wp2_with fail
    go_ret
    rw [HX.out]
    exact ⟨_, 0, rfl, HO2.out, HB2.out⟩
  · have HX := Lib.hid (show PR = (pro1 n z u nm k ++ pro2 e b) ++ pro3 lw (needN z ln) by rw [HPR.out, if_pos (HOKI.out.1 rfl)]; rfl)
    clear hbf q3 HPR
    obtain ⟨N1, hN1⟩ : ∃ N1, needN z ln = N1 := ⟨_, rfl⟩
    have hNle : N1 ≤ 600 := by rw [← hN1]; have : needN z ln ≤ ln + z - 1 := Nat.div_le_self _ _; omega
    have HND := Lib.hid (fun (W : World) (hW : ChW W p g n z E d t N c u) => specNeed_any ln hW hz hz2 l8)
    rw [hN1] at HX HND
    clear hN1
    have q3 := RE2.out.cell 3
    go_upto_block 0 with fail
    go_cut [7] (fun s7 wx => ∃ A c', s7 = .slice A (pro1 n z u nm k).length c' ∧ PRow w.heap.size wx A c' k (pro1 n z u nm k) ∧ Rw wx qe 82 #[.string nm, .int .i64 f, .int .i64 ln, .bool true, .bool de] ∧ Below w.heap.size w wx)
    case first =>
      go_wp2_with fail
      go_loopw [7, 10] (fun s7 s10 wr => ∃ m : Nat, m ≤ k ∧ s7 = .slice (some ⟨w.heap.size, 0, none⟩) 0 0 ∧ s10 = .int .i64 m ∧ ¬ namedTo n z u nm m ∧ Below W2.heap.size W2 wr) (fun _ s _ => k - (intOf s).toNat)
      case atStart => exact ⟨0, by omega, rfl, rfl, fun ⟨i, hi, _⟩ => absurd hi (by omega), Below.refl _ _⟩
      case round =>
        obtain ⟨m, hm, rfl, rfl, hnot, hb⟩ := hrel
        have HNOT := Lib.hid hnot
        have HB := Lib.hid hb
        have HBW := Lib.hid (HB2.out.trans (hb.mono hz2'))
        have HC := Lib.hid (HH.out.below HBW.out)
        have HR := Lib.hid (RE2.out.below hb RE2.out.lt)
        have hbz' := hb.size
        clear hnot hb q3
        by_cases hlt : m < k
        · have t1 := HFIT.out m (by omega)
          go_upto_region 11 with (go_at_call 68; refine (specEntry_any m _ HC.out rfl t1 (by omega) hcN (by omega)).mono ?_; intro e2' w3 h2; obtain ⟨ok', nm', f', ln', us', de', hb0, he0, rfl, hb2, n8', f8', l8', hbf⟩ := entOut_parts h2)
          have HEK := Lib.hid (show entK n z u m = ⟨nm', f', ln', us', de'⟩ by unfold entK; rw [← HD.out, he0])
          have hal := hb2.alloc hb2.size (.cells #[.string nm', .int .i64 f', .int .i64 ln', .bool us', .bool de'] 82)
          have HR3 := HR.out.below hal HR.out.lt
          have hrr := Rw.new w3 82 #[.string nm', .int .i64 f', .int .i64 ln', .bool us', .bool de']
          have q0 := hrr.cell 0; have q3 := hrr.cell 3
          have k0 := HR3.cell 0
          have HBA := Lib.hid (HB.out.trans (hal.mono hbz'))
          have HRA := Lib.hid HR3
          clear hrr HR3 hal he0 hb0 h2
          generalize hWW : w3.alloc (.cells #[.string nm', .int .i64 f', .int .i64 ln', .bool us', .bool de'] 82) = W3 at *
          clear hWW
          have hcase : ok' = false ∨ (ok' = true ∧ us' = false) ∨ (ok' = true ∧ us' = true ∧ nm' ≠ nm) ∨ (ok' = true ∧ us' = true ∧ nm' = nm) := by
            cases ok'
            · exact .inl rfl
            · cases us'
              · exact .inr (.inl ⟨rfl, rfl⟩)
              · by_cases h : nm' = nm
                · exact .inr (.inr (.inr ⟨rfl, rfl, h⟩))
                · exact .inr (.inr (.inl ⟨rfl, rfl, h⟩))
          rcases hcase with rfl | ⟨rfl, rfl⟩ | ⟨rfl, rfl, hne⟩ | ⟨rfl, rfl, hnm⟩
          · have hus := (hbf rfl).1
            have HN2 := Lib.hid (namedTo_succ HNOT.out (by rw [HEK.out]; simp only; rw [hus]; exact fun q => by cases q.1))
            clear hbf hus
            go_wp2_with fail
            go_roundw
            case rel => exact ⟨m + 1, by omega, rfl, by go_num, HN2.out, HBA.out⟩
            case measure => simp [intOf]; omega
          · have HN2 := Lib.hid (namedTo_succ HNOT.out (by rw [HEK.out]; exact fun q => by cases q.1))
            clear hbf
            go_wp2_with fail
            go_roundw
            case rel => exact ⟨m + 1, by omega, rfl, by go_num, HN2.out, HBA.out⟩
            case measure => simp [intOf]; omega
          · have e1 := str_eq_false hne
            have HN2 := Lib.hid (namedTo_succ HNOT.out (by rw [HEK.out]; exact fun q => hne q.2))
            clear hbf hne
            go_wp2_with fail
            go_roundw
            case rel => exact ⟨m + 1, by omega, rfl, by go_num, HN2.out, HBA.out⟩
            case measure => simp [intOf]; omega
          · have e1 := str_eq_true hnm
            have HYES := Lib.hid (show pro1 n z u nm k = [(3, 0)] from if_pos ⟨m, hlt, by rw [HEK.out], by rw [HEK.out]; exact hnm⟩)
            clear hbf hnm
            have HOA := Lib.hid (own_below HO2.out HBA.out)
            have HBZ := Lib.hid (HB2.out.trans (HBA.out.mono hz2'))
            have hbz := HBZ.out.size
            go_wp2_with (at_builtin; refine wpList_push3 (.tmp 55) (.tmp 58) 99 w.heap.size 142 (.agg #[.int .i64 0, .int .i64 0, .int .i64 0]) _ _ _ 24 _ 0 _ HOA.out rfl rfl Tryz.underlying99 infoCP rfl rfl rfl rfl rfl rfl rfl (by omega) (by omega) hbz ?_; intro A9 c9 w9 ho9 hg9)
            go_meet
            exact ⟨some A9, c9, by rw [HYES.out]; rfl, by rw [HYES.out]; exact pRow_snoc (l := []) (a := 3) (b := 0) ho9, rw_grown HRA.out hg9 (own_ne HOA.out HRA.out tE3), HBZ.out.grown hg9 hbz (own_lt HOA.out)⟩
        · obtain rfl : m = k := by omega
          have HNO := Lib.hid (show pro1 n z u nm m = [] from if_neg HNOT.out)
          go_wp2_with fail
          go_meet
          exact ⟨some ⟨w.heap.size, 0, none⟩, 0, by rw [HNO.out]; rfl, by rw [HNO.out]; exact own_below HO2.out HB.out, HR.out, HBW.out⟩
    case rest =>
    obtain ⟨A1, c1, rfl, hp1, hr1, hb1⟩ := hcut
    have HP1 := Lib.hid hp1
    have HBx := Lib.hid hb1
    have HR1 := Lib.hid hr1
    have hl3 := pro1_le n z u nm k
    obtain ⟨L1, hL1⟩ : ∃ L1, pro1 n z u nm k = L1 := ⟨_, rfl⟩
    rw [hL1] at HX HP1 hl3
    rw [hL1]
    obtain ⟨y0, y1, y2⟩ := HWC.out _ hb1
    clear hp1 hb1 hr1 hL1 q3
    have hbz2 := HBx.out.size
    obtain ⟨eb, heb⟩ : ∃ eb : Bool, ((e : Int) != 0) = eb := ⟨_, rfl⟩
    go_upto_if 64 with fail
    go_cut [7] (fun s7 wx => ∃ A c', s7 = .slice A (L1 ++ pro2 e b).length c' ∧ PRow w.heap.size wx A c' k (L1 ++ pro2 e b) ∧ Rw wx qe 82 #[.string nm, .int .i64 f, .int .i64 ln, .bool true, .bool de] ∧ Below w.heap.size w wx)
    case first =>
      by_cases he : e = 0
      · obtain rfl : eb = false := by rw [← heb]; simp; omega
        have HN := Lib.hid (show L1 ++ pro2 e b = L1 by rw [show pro2 e b = [] from if_pos he, List.append_nil])
        clear he
        go_wp2_with fail
        go_meet
        rw [HN.out]
        exact ⟨A1, c1, rfl, HP1.out, HR1.out, HBx.out⟩
      · obtain rfl : eb = true := by rw [← heb]; simp; omega
        have HN := Lib.hid (show L1 ++ pro2 e b = L1 ++ [(e, b)] by rw [show pro2 e b = [(e, b)] from if_neg he])
        clear he heb
        go_upto_region 14 with fail
        go_region_law (refine step_append_lies _ (by rfl) _ _ _ (by rfl) w.heap.size 142 i0 _ 3 24 Tryz.underlying99 hi0 hi1 hi2 hi3 rfl (by omega) (.slice A1 L1.length c1) L1.length _ (by rfl) (((HP1.out.alloc _)).drew) ⟨_, 0, none⟩ 1 1 [.int .i64 (e : Int), .int .i64 (k : Int), .int .i64 (b : Int)] (by rfl) (by rfl) (news3 _ _ _ _ _) (by simp [Value.oneCell']) (by omega) (by simp only [maxLen]; omega) (by omega) (by simp; omega) _ rfl ?_; intro gg cap w3 ho3 hgrow hat hlt3)
        all_goals
          go_wp2_with fail
          go_meet
          rw [HN.out]
          exact ⟨_, cap, by simp, pRow_snoc ho3, rw_grown ((HR1.out.alloc (.cells #[.int .i64 (e : Int), .int .i64 (k : Int), .int .i64 (b : Int)] 142)).drew) hgrow (own_ne ((HP1.out.alloc (.cells #[.int .i64 (e : Int), .int .i64 (k : Int), .int .i64 (b : Int)] 142)).drew) ((HR1.out.alloc (.cells #[.int .i64 (e : Int), .int .i64 (k : Int), .int .i64 (b : Int)] 142)).drew) tE3), ((HBx.out.alloc hbz2 (.cells #[.int .i64 (e : Int), .int .i64 (k : Int), .int .i64 (b : Int)] 142)).drew).grown hgrow (by simp; omega) (own_lt HP1.out)⟩
    case rest =>
    obtain ⟨A2, c2', rfl, hp2, hr2, hb2⟩ := hcut
    clear y0 y1 y2 HP1 HBx HR1 hbz2 heb
    have HPX := Lib.hid hp2
    have HBX := Lib.hid hb2
    have HRX := Lib.hid hr2
    obtain ⟨L2, hL2⟩ : ∃ L2, L1 ++ pro2 e b = L2 := ⟨_, rfl⟩
    have hl4 : L2.length ≤ 2 := by have := pro2_le e b; rw [← hL2, List.length_append]; omega
    rw [hL2] at HX HPX
    rw [hL2]
    obtain ⟨y0, y1, y2⟩ := HWC.out _ hb2
    have hbz3 := hb2.size
    have k2 := HRX.out.cell 2
    clear y1 y2 hp2 hr2 hb2 hL2
    rcases Nat.lt_trichotomy lw N1 with hcmp | hcmp | hcmp
    · have i1 : (lw : Int) < N1 := by omega
      have i2 : ¬ (lw : Int) > N1 := by omega
      have HN := Lib.hid (show PR = L2 ++ [(8, 0)] by rw [HX.out]; unfold pro3; rw [if_pos hcmp])
      clear hcmp
      go_upto_region 18 with (first | (go_at_call 81; refine (HND.out _ (by first | exact HH.out.below HBX.out | exact HH.out.below HBX.out.drew)).mono ?_; rintro e6 w6 ⟨rfl, rfl⟩) | (at_builtin; refine wpList_push3 (.tmp 89) (.tmp 92) 99 w.heap.size 142 (.agg #[.int .i64 0, .int .i64 0, .int .i64 0]) _ _ _ 24 _ L2.length _ HPX.out.drew rfl rfl Tryz.underlying99 infoCP rfl rfl rfl rfl rfl rfl rfl (by omega) (by omega) hbz3 ?_; intro A9 c9 w9 ho9 hg9))
      have HB9 := Lib.hid (HBX.out.drew.grown hg9 hbz3 (own_lt HPX.out))
      have HR9 := Lib.hid (rw_grown HRX.out.drew hg9 (own_ne HPX.out.drew HRX.out.drew tE3))
      have HO9 := Lib.hid (show PRow w.heap.size w9 (some A9) c9 k (L2 ++ [(8, 0)]) from pRow_snoc ho9)
      have k3 := HR9.out.cell 2
      clear ho9 hg9 k2 y0
      go_wp2_with (go_at_call 81; refine (HND.out _ (HH.out.below HB9.out)).mono ?_; rintro e6 w6 ⟨rfl, rfl⟩)
      go_ret
      rw [HN.out]
      exact ⟨some A9, c9, by simp, HO9.out.drew, HB9.out.drew⟩
    · have i1 : ¬ (lw : Int) < N1 := by omega
      have i2 : ¬ (lw : Int) > N1 := by omega
      have HN := Lib.hid (show PR = L2 by rw [HX.out]; unfold pro3; rw [if_neg (by omega), if_neg (by omega), List.append_nil])
      clear hcmp
      go_wp2_with (go_at_call 81; refine (HND.out _ (by first | exact HH.out.below HBX.out | exact HH.out.below HBX.out.drew)).mono ?_; rintro e6 w6 ⟨rfl, rfl⟩)
      go_ret
      rw [HN.out]
      exact ⟨A2, c2', rfl, HPX.out.drew.drew, HBX.out.drew.drew⟩
    · have i1 : ¬ (lw : Int) < N1 := by omega
      have i2 : (lw : Int) > N1 := by omega
      have HN := Lib.hid (show PR = L2 ++ [(9, 0)] by rw [HX.out]; unfold pro3; rw [if_neg (by omega), if_pos hcmp])
      clear hcmp
      go_wp2_with (first | (go_at_call 81; refine (HND.out _ (by first | exact HH.out.below HBX.out | exact HH.out.below HBX.out.drew)).mono ?_; rintro e6 w6 ⟨rfl, rfl⟩) | (at_builtin; refine wpList_push3 (.tmp 100) (.tmp 103) 99 w.heap.size 142 (.agg #[.int .i64 0, .int .i64 0, .int .i64 0]) _ _ _ 24 _ L2.length _ HPX.out.drew.drew rfl rfl Tryz.underlying99 infoCP rfl rfl rfl rfl rfl rfl rfl (by omega) (by omega) hbz3 ?_; intro A9 c9 w9 ho9 hg9))
      go_ret
      rw [HN.out]
      exact ⟨some A9, c9, by simp, pRow_snoc ho9, HBX.out.drew.drew.grown hg9 hbz3 (own_lt HPX.out)⟩
end Go.Proofs.YtapkckpjeoedaaaGreatDoor
