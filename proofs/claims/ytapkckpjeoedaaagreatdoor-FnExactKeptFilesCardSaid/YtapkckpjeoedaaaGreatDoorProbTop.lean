/-
  Disks of chains: the problems of an entry, the program's side.
-/
import Derived.Test.YtapkckpjeoedaaaGreatDoorProbP
import Derived.Deep.CutBlock
namespace Go.Proofs.YtapkckpjeoedaaaGreatDoor
open Go Go.ChangeShapes Go.WideShapes Go.ChangeAt Go.RowKit lib
set_option linter.unusedVariables false
set_option maxRecDepth 100000
open Classical in
set_option maxHeartbeats 4000000 in
theorem implProblems_any {w : World} {p g n z E d t N c : Nat} {u : Nat → UInt8} (h : ChW w p g n z E d t N c u) (hz : 0 < z) (hz2 : z ≤ 64) (hN : N ≤ 4096) (hcN : N ≤ c) (hE : E ≤ 16) (hd : d = dirN n z) (hfit : ∀ k, k < E → d * z + k * 12 + 12 ≤ N) (k : Nat) (hk : k < E) {Aw : Option Addr} {cw : Nat} (l : List Nat) (e b : Nat) (hlw : l.length ≤ 128) :
    Calls Tryz.prog 73 #[.pointer (some ⟨p, 0, none⟩), .int .i64 k, .agg #[.slice Aw l.length cw, .int .i64 e, .int .i64 b]] w fun r w' => ∃ A c', r = .returned (.slice A (probsN n z u k (l, e, b)).length c') ∧ PRow w.heap.size w' A c' k (probsN n z u k (l, e, b)) ∧ Below w.heap.size w w' := by
  have hfk := hfit k hk
  obtain ⟨lw, hlw2⟩ : ∃ lw, l.length = lw := ⟨_, rfl⟩
  have HPR := Lib.hid (show probsN n z u k (l, e, b) = if okE (fun i => u (d * z + k * 12 + i)) then if (entryOf (fun i => u (d * z + k * 12 + i))).us = true then (pro1 n z u (entryOf (fun i => u (d * z + k * 12 + i))).nm k ++ pro2 e b) ++ pro3 lw (needN z (entryOf (fun i => u (d * z + k * 12 + i))).l) else [] else [(2, 0)] by rw [hd, ← hlw2]; rfl)
  rw [hlw2] at hlw ⊢
  obtain ⟨PR, hPR⟩ : ∃ PR, probsN n z u k (l, e, b) = PR := ⟨_, rfl⟩
  rw [hPR] at HPR ⊢
  have HD := Lib.hid hd
  have HFIT := Lib.hid hfit
  have hbA := (Below.refl w.heap.size w).alloc (Nat.le_refl _) (.cells #[.slice Aw lw cw, .int .i64 e, .int .i64 b] 103)
  have HC1 := Lib.hid (h.below hbA)
  have HB1 := Lib.hid hbA
  have RB := Lib.hid (Rw.new w 103 #[.slice Aw lw cw, .int .i64 e, .int .i64 b])
  clear hPR hlw2 hfit h hbA hd
  go_enter Tryz.func73, Tryz.ntmps73
  go_upto_region 1 with fail
  generalize w.alloc (.cells #[.slice Aw lw cw, .int .i64 e, .int .i64 b] 103) = W1 at *
  have hz1 := HB1.out.size
  have hwq : w.heap.size < W1.heap.size := RB.out.lt
  go_upto_region 2 with (first
    | (go_at_call 72; refine (implEntry_any k _ HC1.out rfl hfk (by omega) hcN (by omega)).mono ?_; intro e2' w2 h2; obtain ⟨ok, nm, f, ln, us, de, hb0, he0, rfl, hb2, n8, f8, l8, hbf⟩ := entOut_parts h2))
  have hal0 := hb2.alloc hb2.size (.cells #[.string nm, .int .i64 f, .int .i64 ln, .bool us, .bool de] 82)
  have HC2 := Lib.hid (HC1.out.below hal0)
  have RB2 := Lib.hid (RB.out.below hal0 RB.out.lt)
  have RE2 := Lib.hid (Rw.new w2 82 #[.string nm, .int .i64 f, .int .i64 ln, .bool us, .bool de])
  have HB2 := Lib.hid (HB1.out.trans (hal0.mono hz1))
  obtain ⟨qe, hqe⟩ : ∃ qe, w2.heap.size = qe := ⟨_, rfl⟩
  have hqe1 : W1.heap.size ≤ qe := by have := hb2.size; omega
  have hqz : w2.heap.size < (w2.alloc (.cells #[.string nm, .int .i64 f, .int .i64 ln, .bool us, .bool de] 82)).heap.size := by simp
  rw [he0] at HPR
  have HOKI := Lib.hid hb0
  rw [hqe] at RE2 hqz
  clear h2 hal0 hb0 he0 hb2
  generalize hW2 : w2.alloc (.cells #[.string nm, .int .i64 f, .int .i64 ln, .bool us, .bool de] 82) = W2 at *
  clear hW2
  rw [hqe]
  clear hqe
  have hz2' := HB2.out.size
  have q3 := RE2.out.cell 3
  have hcase : ok = false ∨ (ok = true ∧ us = false) ∨ (ok = true ∧ us = true) := by cases ok <;> cases us <;> simp
  rcases hcase with rfl | ⟨rfl, rfl⟩ | ⟨rfl, rfl⟩
  · have HX := Lib.hid (show PR = [(2, 0)] by rw [HPR.out, if_neg (fun q => by have := HOKI.out.2 q; cases this)])
    have HP1 := Lib.hid (pRow_one W2 k 2 0)
    have HBX := Lib.hid (HB2.out.alloc hz2' (.cells #[.int .i64 (2 : Nat), .int .i64 (k : Int), .int .i64 (0 : Nat)] 142))
    clear hbf
    go_wp2_with fail
    go_ret
    rw [HX.out]
    exact ⟨_, 1, rfl, own_base HP1.out hz2', HBX.out⟩
  · have HX := Lib.hid (show PR = [] by rw [HPR.out, if_pos (HOKI.out.1 rfl)]; rfl)
    clear hbf
    go_wp2_with fail
    go_ret
    rw [HX.out]
    exact ⟨none, 0, rfl, World.ownsRow_nil _ _ _ _, HB2.out⟩
  · have HX := Lib.hid (show PR = (pro1 n z u nm k ++ pro2 e b) ++ pro3 lw (needN z ln) by rw [HPR.out, if_pos (HOKI.out.1 rfl)]; rfl)
    clear hbf q3 HPR
    obtain ⟨N1, hN1⟩ : ∃ N1, needN z ln = N1 := ⟨_, rfl⟩
    have hNle : N1 ≤ 600 := by rw [← hN1]; have : needN z ln ≤ ln + z - 1 := Nat.div_le_self _ _; omega
    rw [hN1] at HX
    have hceil : ((ln : Int) + z - 1) / z = (N1 : Int) := by
      rw [← hN1]
      unfold needN
      rw [show (ln : Int) + z - 1 = ((ln + z - 1 : Nat) : Int) by omega]
      rfl
    have HKL := Lib.hid (fun W => ceiling_any (ln : Int) (z : Int) (N1 : Int) W hceil (by omega) (by omega) (by omega) (by omega))
    clear hceil hN1
    have q3 := RE2.out.cell 3
    go_upto_block 0 with fail
    go_cut [9] (fun s9 wx => ∃ A c', s9 = .slice A (pro1 n z u nm k).length c' ∧ PRow W2.heap.size wx A c' k (pro1 n z u nm k) ∧ Below W2.heap.size W2 wx)
    case first =>
      go_wp2_with fail
      go_loopw [9, 29] (fun s9 s29 wr => ∃ m : Nat, m ≤ k ∧ s9 = .slice none 0 0 ∧ s29 = .int .i64 m ∧ ¬ namedTo n z u nm m ∧ Below W2.heap.size W2 wr) (fun _ s _ => k - (intOf s).toNat)
      case atStart => exact ⟨0, by omega, rfl, rfl, fun ⟨i, hi, _⟩ => absurd hi (by omega), Below.refl _ _⟩
      case round =>
        obtain ⟨m, hm, rfl, rfl, hnot, hb⟩ := hrel
        have HNOT := Lib.hid hnot
        have HB := Lib.hid hb
        have HC := Lib.hid (HC2.out.below hb)
        have HR := Lib.hid (RE2.out.below hb hqz)
        have hbz' := hb.size
        clear hnot hb q3
        by_cases hlt : m < k
        · have t1 := HFIT.out m (by omega)
          go_upto_region 11 with (first
            | (go_at_call 72; refine (implEntry_any m _ HC.out rfl t1 (by omega) hcN (by omega)).mono ?_; intro e2' w3 h2; obtain ⟨ok', nm', f', ln', us', de', hb0, he0, rfl, hb2, n8', f8', l8', hbf⟩ := entOut_parts h2))
          have HEK := Lib.hid (show entK n z u m = ⟨nm', f', ln', us', de'⟩ by unfold entK; rw [← HD.out, he0])
          have hal := hb2.alloc hb2.size (.cells #[.string nm', .int .i64 f', .int .i64 ln', .bool us', .bool de'] 82)
          have HR3 := HR.out.below hal HR.out.lt
          have hrr := Rw.new w3 82 #[.string nm', .int .i64 f', .int .i64 ln', .bool us', .bool de']
          have q0 := hrr.cell 0; have q3 := hrr.cell 3
          have k0 := HR3.cell 0
          have HBA := Lib.hid (HB.out.trans (hal.mono hbz'))
          clear hrr HR3 hal he0 hb0 h2
          generalize hWW : w3.alloc (.cells #[.string nm', .int .i64 f', .int .i64 ln', .bool us', .bool de'] 82) = W3 at *
          clear hWW
          have hcase : ok' = false ∨ (ok' = true ∧ us' = false) ∨ (ok' = true ∧ us' = true ∧ nm' ≠ nm) ∨ (ok' = true ∧ us' = true ∧ nm' = nm) := by
            cases ok'
            · exact .inl rfl
            · cases us'
              · exact .inr (.inl ⟨rfl, rfl⟩)
              · by_cases h : nm' = nm
                · exact .inr (.inr (.inr ⟨rfl, rfl, h⟩))
                · exact .inr (.inr (.inl ⟨rfl, rfl, h⟩))
          rcases hcase with rfl | ⟨rfl, rfl⟩ | ⟨rfl, rfl, hne⟩ | ⟨rfl, rfl, hnm⟩
          · have hus := (hbf rfl).1
            have HN2 := Lib.hid (namedTo_succ HNOT.out (by rw [HEK.out]; simp only; rw [hus]; exact fun q => by cases q.1))
            clear hbf hus
            go_wp2_with fail
            go_roundw
            case rel => exact ⟨m + 1, by omega, rfl, by go_num, HN2.out, HBA.out⟩
            case measure => simp [intOf]; omega
          · have HN2 := Lib.hid (namedTo_succ HNOT.out (by rw [HEK.out]; exact fun q => by cases q.1))
            clear hbf
            go_wp2_with fail
            go_roundw
            case rel => exact ⟨m + 1, by omega, rfl, by go_num, HN2.out, HBA.out⟩
            case measure => simp [intOf]; omega
          · have e1 := str_eq_false hne
            have HN2 := Lib.hid (namedTo_succ HNOT.out (by rw [HEK.out]; exact fun q => hne q.2))
            clear hbf hne
            go_wp2_with fail
            go_roundw
            case rel => exact ⟨m + 1, by omega, rfl, by go_num, HN2.out, HBA.out⟩
            case measure => simp [intOf]; omega
          · have e1 := str_eq_true hnm
            have HYES := Lib.hid (show pro1 n z u nm k = [(3, 0)] from if_pos ⟨m, hlt, by rw [HEK.out], by rw [HEK.out]; exact hnm⟩)
            clear hbf hnm
            have hbz := HBA.out.size
            have HNIL := Lib.hid (World.ownsRow_nil W3 W2.heap.size 142 3)
            go_wp2_with (at_builtin; refine wpList_push3 (.tmp 50) (.tmp 53) 99 W2.heap.size 142 (.agg #[.int .i64 0, .int .i64 0, .int .i64 0]) _ _ _ 24 _ 0 _ HNIL.out rfl rfl Tryz.underlying99 infoCP rfl rfl rfl rfl rfl rfl rfl (by omega) (by omega) hbz ?_; intro A' c2 w4 ho4 hg4)
            go_meet
            exact ⟨some A', c2, by rw [HYES.out]; rfl, by rw [HYES.out]; exact pRow_snoc (l := []) (a := 3) (b := 0) ho4, HBA.out.trans (below_grown hg4 (fun _ q => by cases q) hbz)⟩
        · obtain rfl : m = k := by omega
          have HNO := Lib.hid (show pro1 n z u nm m = [] from if_neg HNOT.out)
          go_wp2_with fail
          go_meet
          exact ⟨none, 0, by rw [HNO.out]; rfl, by rw [HNO.out]; exact World.ownsRow_nil _ _ _ _, HB.out⟩
    case rest =>
    obtain ⟨A1, c1, rfl, hp1, hb1⟩ := hcut
    have HP1 := Lib.hid hp1
    have HBx := Lib.hid hb1
    have hl3 := pro1_le n z u nm k
    obtain ⟨L1, hL1⟩ : ∃ L1, pro1 n z u nm k = L1 := ⟨_, rfl⟩
    rw [hL1] at HX HP1 hl3
    rw [hL1]
    clear hp1 hb1 hL1
    have RBx := RB2.out.below HBx.out RB2.out.lt
    have y1 := RBx.cell 1; have y2 := RBx.cell 2
    have HP2 := HP1
    have hbz2 := HBx.out.size
    obtain ⟨eb, heb⟩ : ∃ eb : Bool, ((e : Int) != 0) = eb := ⟨_, rfl⟩
    go_upto_if 58 with fail
    go_cut [9] (fun s9 wx => ∃ A c', s9 = .slice A (L1 ++ pro2 e b).length c' ∧ PRow W2.heap.size wx A c' k (L1 ++ pro2 e b) ∧ Below W2.heap.size W2 wx)
    case first =>
      by_cases he : e = 0
      · obtain rfl : eb = false := by rw [← heb]; simp; omega
        have HN := Lib.hid (show L1 ++ pro2 e b = L1 by rw [show pro2 e b = [] from if_pos he, List.append_nil])
        clear he
        go_wp2_with fail
        go_meet
        rw [HN.out]
        exact ⟨A1, c1, rfl, HP1.out, HBx.out⟩
      · obtain rfl : eb = true := by rw [← heb]; simp; omega
        have HN := Lib.hid (show L1 ++ pro2 e b = L1 ++ [(e, b)] by rw [show pro2 e b = [(e, b)] from if_neg he])
        clear he
        go_wp2_with (at_builtin; refine wpList_push3 (.tmp 59) (.tmp 66) 99 W2.heap.size 142 (.agg #[.int .i64 0, .int .i64 0, .int .i64 0]) _ _ _ 24 _ L1.length _ HP2.out rfl rfl Tryz.underlying99 infoCP rfl rfl rfl rfl rfl rfl rfl (by omega) (by omega) hbz2 ?_; intro A9 c9 w9 ho9 hg9)
        go_meet
        rw [HN.out]
        exact ⟨some A9, c9, by simp, pRow_snoc (l := L1) ho9, HBx.out.grown hg9 hbz2 (own_lt HP2.out)⟩
    case rest =>
    obtain ⟨A2, c2', rfl, hp2, hb2⟩ := hcut
    have HPX := Lib.hid hp2
    have HBX := Lib.hid hb2
    have RBX := Lib.hid (RB2.out.below hb2 RB2.out.lt)
    have REX := Lib.hid (RE2.out.below hb2 hqz)
    have HCX := Lib.hid (HC2.out.below hb2)
    have hbz3 := hb2.size
    clear y1 y2 hp2 hb2 RBx HP1 HP2 HBx
    obtain ⟨L2, hL2⟩ : ∃ L2, L1 ++ pro2 e b = L2 := ⟨_, rfl⟩
    have hl4 : L2.length ≤ 2 := by have := pro2_le e b; rw [← hL2, List.length_append]; omega
    rw [hL2] at HX HPX
    rw [hL2]
    clear hL2
    have k2 := REX.out.cell 2
    have k1 := HCX.out.c1
    have y0 := RBX.out.cell 0
    go_upto_region 16 with fail
    go_cut [13] (fun s13 wx => s13 = .int .i64 (N1 : Int) ∧ Rw wx w.heap.size 103 #[.slice Aw lw cw, .int .i64 e, .int .i64 b] ∧ PRow W2.heap.size wx A2 c2' k L2 ∧ Below W2.heap.size W2 wx)
    case first =>
      go_region_law (go_simp; go_at_call 83; refine (HKL.out _).mono ?_; rintro e6 w6 ⟨rfl, rfl⟩)
      all_goals
        go_wp2_with fail
        go_meet
        exact ⟨rfl, RBX.out.drew, HPX.out.drew, HBX.out.drew⟩
    case rest =>
    obtain ⟨rfl, hr4, hp4, hb4⟩ := hcut
    clear k2 k1 y0 HPX HBX RBX REX HCX hbz3
    have HPX := Lib.hid hp4
    have HBX := Lib.hid hb4
    have y0 := hr4.cell 0
    have hbz3 := hb4.size
    have HBW := Lib.hid (HB2.out.trans (hb4.mono hz2'))
    have HPB := Lib.hid (own_base hp4 hz2')
    clear hr4 hp4 hb4
    rcases Nat.lt_trichotomy lw N1 with hcmp | hcmp | hcmp
    · have i1 : (lw : Int) < N1 := by omega
      have i2 : ¬ (lw : Int) > N1 := by omega
      have HN := Lib.hid (show PR = L2 ++ [(8, 0)] by rw [HX.out]; unfold pro3; rw [if_pos hcmp])
      clear hcmp
      go_wp2_with (first | (go_at_call 60; refine (sizeI_any _ _ _ _ (by omega)).mono ?_; rintro e7 w7 ⟨rfl, rfl⟩) | (at_builtin; refine wpList_push3 (.tmp 82) (.tmp 85) 99 W2.heap.size 142 (.agg #[.int .i64 0, .int .i64 0, .int .i64 0]) _ _ _ 24 _ L2.length _ HPX.out rfl rfl Tryz.underlying99 infoCP rfl rfl rfl rfl rfl rfl rfl (by omega) (by omega) hbz3 ?_; intro A9 c9 w9 ho9 hg9))
      go_ret
      rw [HN.out]
      exact ⟨some A9, c9, by simp, own_base (pRow_snoc ho9) hz2', HBW.out.grown hg9 (Nat.le_trans HB2.out.size hbz3) (fun j hj => Nat.le_trans hz2' (own_lt HPX.out j hj))⟩
    · have i1 : ¬ (lw : Int) < N1 := by omega
      have i2 : ¬ (lw : Int) > N1 := by omega
      have HN := Lib.hid (show PR = L2 by rw [HX.out]; unfold pro3; rw [if_neg (by omega), if_neg (by omega), List.append_nil])
      clear hcmp
      go_wp2_with (go_at_call 60; refine (sizeI_any _ _ _ _ (by omega)).mono ?_; rintro e7 w7 ⟨rfl, rfl⟩)
      go_ret
      rw [HN.out]
      exact ⟨A2, c2', rfl, HPB.out, HBW.out⟩
    · have i1 : ¬ (lw : Int) < N1 := by omega
      have i2 : (lw : Int) > N1 := by omega
      have HN := Lib.hid (show PR = L2 ++ [(9, 0)] by rw [HX.out]; unfold pro3; rw [if_neg (by omega), if_pos hcmp])
      clear hcmp
      go_wp2_with (first | (go_at_call 60; refine (sizeI_any _ _ _ _ (by omega)).mono ?_; rintro e7 w7 ⟨rfl, rfl⟩) | (at_builtin; refine wpList_push3 (.tmp 93) (.tmp 96) 99 W2.heap.size 142 (.agg #[.int .i64 0, .int .i64 0, .int .i64 0]) _ _ _ 24 _ L2.length _ HPX.out rfl rfl Tryz.underlying99 infoCP rfl rfl rfl rfl rfl rfl rfl (by omega) (by omega) hbz3 ?_; intro A9 c9 w9 ho9 hg9))
      go_ret
      rw [HN.out]
      exact ⟨some A9, c9, by simp, own_base (pRow_snoc ho9) hz2', HBW.out.grown hg9 (Nat.le_trans HB2.out.size hbz3) (fun j hj => Nat.le_trans hz2' (own_lt HPX.out j hj))⟩
end Go.Proofs.YtapkckpjeoedaaaGreatDoor
