/-
  A problem read back: the program's side.
-/
import Derived.Test.YtcbiaeniagacfaaDoorRpI
import Derived.Test.YtcbiaeniagacfaaDoorRfxC
import Derived.Deep.DeepCutAuto
import Derived.Deep.CutBlock
namespace Go.Proofs.YtcbiaeniagacfaaDoor
open Go Go.ChangeShapes Go.WideShapes Go.ChangeAt Go.RowKit Go.Joins lib
set_option linter.unusedVariables false
set_option maxRecDepth 100000
theorem idx_word : ∀ k, k < 11 → Lib.idxOfS wordsB (wordAt k) = (k : Int) := by decide +kernel
theorem implPb_of (a b c : Int) (w : World) (hw : RpW w) : Calls Tryd.prog 14 #[cpV a b c] w fun r w' => r = .returned (.string (pbOf a b c)) ∧ Below w.heap.size w w' := by
  by_cases h : pbOk a b c
  · have e : pbOf a b c = pbT a.toNat b.toNat c.toNat := by unfold pbOf; rw [if_pos h]
    rw [e]
    clear e
    obtain ⟨⟨x1, x2⟩, ⟨x3, x4⟩, ⟨x5, x6⟩⟩ := h
    obtain ⟨k, rfl⟩ := Int.eq_ofNat_of_zero_le (show 0 ≤ a by omega)
    obtain ⟨e, rfl⟩ := Int.eq_ofNat_of_zero_le x3
    obtain ⟨f, rfl⟩ := Int.eq_ofNat_of_zero_le x5
    exact implPb_ok k e f (by omega) (by omega) (by omega) (by omega) w hw.tab hw.words
  · have e : pbOf a b c = ⟨#[]⟩ := by unfold pbOf; rw [if_neg h]
    rw [e]
    exact implPb_bad a b c h w
theorem IsPb.prog {s : ByteArray} {k e b : Nat} (h : IsPb s k e b) : Lib.idxOfS wordsB (cutAS 32 s) = (k : Int) ∧ (piecesT 32 (cutZS 32 s)).map rdT = [some (e : Int), some (b : Int)] := by
  obtain ⟨h1, h2⟩ := h.cut
  obtain ⟨h3, h4, h5, _⟩ := h
  have e1 : cutAS 32 s = wordAt k := by unfold cutAS; rw [h1]; rfl
  refine ⟨by rw [e1]; exact idx_word k (by omega), ?_⟩
  have e2 : piecesT 32 (cutZS 32 s) = [⟨(dec3 e).toArray⟩, ⟨(dec3 b).toArray⟩] := by
    unfold piecesT cutZS
    rw [h2]
    rfl
  rw [e2]
  show [rdI (dec3 e), rdI (dec3 b)] = _
  rw [rdI_dec (by omega), rdI_dec (by omega)]
theorem idx_nil : Lib.idxOfS wordsB (cutAS 32 ⟨#[]⟩) = 0 := by decide +kernel
set_option maxHeartbeats 4000000 in
theorem implReadProblem_any {w : World} {s : ByteArray} (hs : s.size ≤ 1048576) (hw : RpW w) : Calls Tryd.prog 5 #[.string s] w fun r w' => RpOut s r w w' := by
  have HPR := Lib.hid (fun k e b => IsPb.prog (s := s) (k := k) (e := e) (b := b))
  have HC := Lib.hid (fun W' : World => (cut_one s 32 hs W').mono (fun e w' (h : CutOut 32 s e W' w') => show (∃ b : Bool, e = .returned (.tuple #[.string (cutAS 32 s), .string (cutZS 32 s), .bool b])) ∧ Below W'.heap.size W' w' from ⟨h.1, by
    rcases h.2 with e | e
    · rw [e]; exact Below.refl _ _
    · rw [e]; exact (Below.refl _ _).drew⟩))
  have hzs := Nat.le_trans (cutZS_size 32 s) hs
  have hne : s = ⟨#[]⟩ → Lib.idxOfS wordsB (cutAS 32 s) = 0 := fun e => by rw [e]; exact idx_nil
  obtain ⟨M, hM⟩ : ∃ M, cutAS 32 s = M := ⟨_, rfl⟩
  obtain ⟨T, hT⟩ : ∃ T, cutZS 32 s = T := ⟨_, rfl⟩
  rw [hM] at HC HPR hne
  rw [hT] at HC HPR hzs
  have hSN := fun (W : World) (hb : Below w.heap.size w W) => splitNumbers_any (w := W) hzs (hw.below hb)
  have hIX := fun (W : World) (hb : Below w.heap.size w W) => Tryd.slices_Index_string 0 0 11 11 wordsB M W (by decide) (by omega) (fun j hj => by
    rw [Nat.zero_add, World.var?_cell (P := Tryd.prog) (n := "loop.example/g00899/impl.problemWords") (by kernel_rfl) (hw.below hb).words j]
    have hj : j < 11 := hj
    rw [List.getElem?_toArray, List.getElem?_map, List.getD_eq_getElem?_getD, List.getElem?_eq_getElem hj]
    rfl)
  obtain ⟨ix, hix⟩ : ∃ ix, Lib.idxOfS wordsB M = ix := ⟨_, rfl⟩
  have htk : wordsB.take 11 = wordsB := by decide
  rw [htk, hix] at hIX
  rw [hix] at HPR hne
  have HPB := Lib.hid (fun (a b c : Int) (W : World) (hb : Below w.heap.size w W) => implPb_of a b c W (hw.below hb))
  have HIX := Lib.hid hIX
  have HNE := Lib.hid hne
  clear hM hT hix htk hIX hne
  generalize piecesT 32 T = N at *
  have R0 := Rw.new w 23 #[.int .i64 0, .int .i64 0, .int .i64 0]
  have B0 := (Below.refl w.heap.size w).alloc (Nat.le_refl _) (.cells #[.int .i64 0, .int .i64 0, .int .i64 0] 23)
  have HR0 := Lib.hid R0
  have HB0 := Lib.hid B0
  clear R0 B0
  by_cases hall : ∃ L : List Int, N.map rdT = L.map some
  · obtain ⟨L, hL⟩ := hall
    have HSN := Lib.hid (fun (W : World) (hb : Below w.heap.size w W) => (hSN W hb).mono (fun e w' (h : SnOut N e W w') => show ∃ A c, e = .returned (.tuple #[.slice A L.length c, .bool true]) ∧ Sl w' w'.heap.size A L.length (fun i => .int .i64 (L.getD i 0)) ∧ Below W.heap.size W w' from by
      obtain ⟨⟨L', A, c, h1, h2, h3⟩ | ⟨⟨p, hp, h1⟩, _⟩, hb⟩ := h
      · obtain rfl : L' = L := (List.map_inj_right (fun a b e => Option.some.inj e)).1 (h1.symm.trans hL)
        exact ⟨A, c, h2, h3, hb⟩
      · have : rdT p ∈ N.map rdT := List.mem_map.2 ⟨p, hp, rfl⟩
        rw [hL, h1] at this
        obtain ⟨y, _, hy⟩ := List.mem_map.1 this
        cases hy))
    have HNL := Lib.hid (show ∀ k e b, IsPb s k e b → ix = (k : Int) ∧ L = [(e : Int), (b : Int)] from fun k e b h => by
      obtain ⟨h1, h2⟩ := HPR.out k e b h
      refine ⟨h1, ?_⟩
      rw [hL] at h2
      exact (List.map_inj_right (fun a b e => Option.some.inj e)).1 (h2.trans (show _ = [(e : Int), (b : Int)].map some from rfl)))
    clear hSN hL hw
    by_cases hl2 : L.length = 2
    · obtain ⟨x1, x2, rfl⟩ : ∃ x1 x2, L = [x1, x2] := by
        match L, hl2 with
        | [a, b], _ => exact ⟨a, b, rfl⟩
      have HSN2 := Lib.hid (show ∀ (W : World) (hb : Below w.heap.size w W), Calls Tryd.prog 12 #[.string T, .string ⟨#[32]⟩] W fun e w' => ∃ A c, e = .returned (.tuple #[.slice A 2 c, .bool true]) ∧ Sl w' w'.heap.size A 2 (fun i => .int .i64 ([x1, x2].getD i 0)) ∧ Below W.heap.size W w' from HSN.out)
      clear HSN hl2
      by_cases h1 : ix < 1
      · have t1 : decide (ix < 1) = true := by simpa using h1
        have HNO := Lib.hid (show ∀ k e b, ¬ IsPb s k e b from fun k e b h => by
          obtain ⟨h2, _⟩ := HNL.out k e b h
          have := h.1
          omega)
        go_enter Tryd.func5, Tryd.ntmps5
        go_wp2_with (first
        | (go_at_call 11; refine (HC.out _).mono ?_; rintro e w1 ⟨⟨bb, rfl⟩, hb1⟩; have hr1 := HR0.out.below hb1 HR0.out.lt; have hb1 := HB0.out.trans (hb1.mono HB0.out.size))
        | (go_at_call 12; refine (HSN2.out _ hb1).mono ?_; rintro e w2 ⟨A, c, rfl, hsl, hb2⟩; have hr2 := hr1.below hb2 hr1.lt; have hb2 := hb1.trans (hb2.mono hb1.size); have c0 := hr2.cell 0; have c1 := hr2.cell 1; have c2 := hr2.cell 2; have f0 := hr2.frozen 0; have f1 := hr2.frozen 1; have f2 := hr2.frozen 2)
        | (go_at_call 13; refine (HIX.out _ hb2).mono ?_; rintro e w' ⟨rfl, hw'⟩; rw [hw']; clear hw' w'))
        obtain ⟨k0, k1, k2⟩ := rows3 hr2 (.int .i64 0) (.int .i64 0) (.int .i64 0)
        exact bodyPost_ret (v := .tuple #[.agg #[.int .i64 0, .int .i64 0, .int .i64 0], .bool false]) (by simp [results, Tryd.results5, go_sem, k0, k1, k2]) rfl (RpOut.bad HNO.out (((hb2.setCell (p := ⟨w.heap.size, 0, none⟩) (Nat.le_refl _) _).setCell (p := ⟨w.heap.size, 1, none⟩) (Nat.le_refl _) _).setCell (p := ⟨w.heap.size, 2, none⟩) (Nat.le_refl _) _))
      · have t1 : decide (ix < 1) = false := by simpa using h1
        have t1' : (ix < 1) = False := by simpa using h1
        go_enter Tryd.func5, Tryd.ntmps5
        go_upto_region 6 with (first
        | (go_at_call 11; refine (HC.out _).mono ?_; rintro e w1 ⟨⟨bb, rfl⟩, hb1⟩; have hr1 := HR0.out.below hb1 HR0.out.lt; have hb1 := HB0.out.trans (hb1.mono HB0.out.size))
        | (go_at_call 12; refine (HSN2.out _ hb1).mono ?_; rintro e w2 ⟨A, c, rfl, hsl, hb2⟩; have hr2 := hr1.below hb2 hr1.lt; have hb2 := hb1.trans (hb2.mono hb1.size); have c0 := hr2.cell 0; have c1 := hr2.cell 1; have c2 := hr2.cell 2; have f0 := hr2.frozen 0; have f1 := hr2.frozen 1; have f2 := hr2.frozen 2)
        | (go_at_call 13; refine (HIX.out _ hb2).mono ?_; rintro e w' ⟨rfl, hw'⟩; rw [hw']; clear hw' w'))
        obtain ⟨ba, oa, hA, hbl, ha0⟩ := hsl 0 (by omega)
        obtain ⟨ba', oa', hA', hbl', ha1⟩ := hsl 1 (by omega)
        subst hA
        simp only [Option.some.injEq, Addr.mk.injEq] at hA'
        obtain ⟨rfl, rfl, _⟩ := hA'
        simp only [Nat.add_zero] at ha0
        dsimp only [List.getD_cons_zero, List.getD_cons_succ] at ha0 ha1
        clear hsl
        have hal := (Below.refl w2.heap.size w2).alloc (Nat.le_refl _) (.cells #[.int .i64 0, .int .i64 0, .int .i64 0] 23)
        have ha2 : (w2.alloc (.cells #[.int .i64 0, .int .i64 0, .int .i64 0] 23)).cell? ⟨ba, oa, none⟩ = some (.int .i64 x1) := by rw [hal.cell (p := ⟨ba, oa, none⟩) hbl]; exact ha0
        have ha3 : (w2.alloc (.cells #[.int .i64 0, .int .i64 0, .int .i64 0] 23)).cell? ⟨ba, oa + 1, none⟩ = some (.int .i64 x2) := by rw [hal.cell (p := ⟨ba, oa + 1, none⟩) hbl]; exact ha1
        clear hal
        go_cut [10] (fun s10 wx => s10 = .pointer (some ⟨w2.heap.size, 0, none⟩) ∧ Rw wx w2.heap.size 23 #[.int .i64 ix, .int .i64 x1, .int .i64 x2] ∧ Below w2.heap.size w2 wx)
        case first =>
          go_region_law (fail)
          all_goals (go_wp2_with fail)
          all_goals (go_meet; exact ⟨rfl, (Rw.new w2 _ _).drew, ((Below.refl w2.heap.size w2).alloc (Nat.le_refl _) _).drew⟩)
        case rest =>
          obtain ⟨rfl, hrx, hbx⟩ := hcut
          have hr3 := hr2.below hbx hr2.lt
          have hbw := hb2.trans (hbx.mono hb2.size)
          have hP := HPB.out ix x1 x2 wc hbw
          have d0 := hrx.cell 0
          have d1 := hrx.cell 1
          have d2 := hrx.cell 2
          obtain ⟨F, hF⟩ : ∃ F, pbOf ix x1 x2 = F := ⟨_, rfl⟩
          rw [hF] at hP
          have HP := Lib.hid hP
          have hql := hrx.lt
          clear hP c0 c1 c2 f0 f1 f2 ha0 ha1 ha2 ha3
          by_cases hFs : F = s
          · have hcmp : (F.toList == s.toList) = true := by rw [hFs]; simp
            obtain ⟨k, e, b, rfl, rfl, rfl, hip⟩ := pbOf_is (hF.trans hFs) (fun e => by have := HNE.out e; omega)
            have HIP := Lib.hid hip
            clear hF hFs hip
            unfold cpV at HP
            go_wp2_with (go_at_call 14; refine HP.out.mono ?_; rintro e' w5 ⟨rfl, hb5⟩; have hr5 := hr3.below hb5 hr3.lt; have hrx5 := hrx.below hb5 hrx.lt; have c0 := hr5.cell 0; have c1 := hr5.cell 1; have c2 := hr5.cell 2; have f0 := hr5.frozen 0; have f1 := hr5.frozen 1; have f2 := hr5.frozen 2; have g0 := hrx5.cell 0; have g1 := hrx5.cell 1; have g2 := hrx5.cell 2)
            have hb6 := hbw.trans (hb5.mono hbw.size)
            obtain ⟨k0, k1, k2⟩ := rows3 hr5 (.int .i64 (k : Int)) (.int .i64 (e : Int)) (.int .i64 (b : Int))
            exact bodyPost_ret (v := .tuple #[.agg #[.int .i64 (k : Int), .int .i64 (e : Int), .int .i64 (b : Int)], .bool true]) (by simp [results, Tryd.results5, go_sem, k0, k1, k2]) rfl (RpOut.good HIP.out (((hb6.setCell (p := ⟨w.heap.size, 0, none⟩) (Nat.le_refl _) _).setCell (p := ⟨w.heap.size, 1, none⟩) (Nat.le_refl _) _).setCell (p := ⟨w.heap.size, 2, none⟩) (Nat.le_refl _) _))
          · have hcmp : (F.toList == s.toList) = false := by
              rw [beq_eq_false_iff_ne]
              intro e
              rw [Lib.toList_data, Lib.toList_data] at e
              exact hFs (by rw [bytes_eq e])
            have HNO := Lib.hid (show ∀ k e b, ¬ IsPb s k e b from fun k e b h => by
              obtain ⟨h2, h3⟩ := HNL.out k e b h
              injection h3 with h3 h4
              injection h4 with h4 _
              subst h2 h3 h4
              exact hFs (by rw [← hF, pbOf_nat ⟨h.1, h.2.1, h.2.2.1⟩]; exact h.2.2.2))
            clear hF hFs
            unfold cpV at HP
            go_wp2_with (go_at_call 14; refine HP.out.mono ?_; rintro e' w5 ⟨rfl, hb5⟩; have hr2 := hr3.below hb5 hr3.lt; have c0 := hr2.cell 0; have c1 := hr2.cell 1; have c2 := hr2.cell 2; have f0 := hr2.frozen 0; have f1 := hr2.frozen 1; have f2 := hr2.frozen 2)
            have hb2 := hbw.trans (hb5.mono hbw.size)
            obtain ⟨k0, k1, k2⟩ := rows3 hr2 (.int .i64 0) (.int .i64 0) (.int .i64 0)
            exact bodyPost_ret (v := .tuple #[.agg #[.int .i64 0, .int .i64 0, .int .i64 0], .bool false]) (by simp [results, Tryd.results5, go_sem, k0, k1, k2]) rfl (RpOut.bad HNO.out (((hb2.setCell (p := ⟨w.heap.size, 0, none⟩) (Nat.le_refl _) _).setCell (p := ⟨w.heap.size, 1, none⟩) (Nat.le_refl _) _).setCell (p := ⟨w.heap.size, 2, none⟩) (Nat.le_refl _) _))
    · have t1 : ((L.length : Int) != 2) = true := by simp; omega
      have t2 : ((L.length : Int) == 2) = false := by simp; omega
      have HNO := Lib.hid (show ∀ k e b, ¬ IsPb s k e b from fun k e b h => by
        obtain ⟨_, h2⟩ := HNL.out k e b h
        rw [h2] at hl2
        exact hl2 rfl)
      clear hl2
      obtain ⟨n, hn⟩ : ∃ n, L.length = n := ⟨_, rfl⟩
      rw [hn] at HSN t1 t2
      clear hn
      go_enter Tryd.func5, Tryd.ntmps5
      go_wp2_with (first
      | (go_at_call 11; refine (HC.out _).mono ?_; rintro e w1 ⟨⟨bb, rfl⟩, hb1⟩; have hr1 := HR0.out.below hb1 HR0.out.lt; have hb1 := HB0.out.trans (hb1.mono HB0.out.size))
      | (go_at_call 12; refine (HSN.out _ hb1).mono ?_; rintro e w2 ⟨A, c, rfl, hsl, hb2⟩; have hr2 := hr1.below hb2 hr1.lt; have hb2 := hb1.trans (hb2.mono hb1.size); have c0 := hr2.cell 0; have c1 := hr2.cell 1; have c2 := hr2.cell 2; have f0 := hr2.frozen 0; have f1 := hr2.frozen 1; have f2 := hr2.frozen 2)
      | (go_at_call 13; refine (HIX.out _ hb2).mono ?_; rintro e w' ⟨rfl, hw'⟩; rw [hw']; clear hw' w'))
      obtain ⟨k0, k1, k2⟩ := rows3 hr2 (.int .i64 0) (.int .i64 0) (.int .i64 0)
      exact bodyPost_ret (v := .tuple #[.agg #[.int .i64 0, .int .i64 0, .int .i64 0], .bool false]) (by simp [results, Tryd.results5, go_sem, k0, k1, k2]) rfl (RpOut.bad HNO.out (((hb2.setCell (p := ⟨w.heap.size, 0, none⟩) (Nat.le_refl _) _).setCell (p := ⟨w.heap.size, 1, none⟩) (Nat.le_refl _) _).setCell (p := ⟨w.heap.size, 2, none⟩) (Nat.le_refl _) _))
  · have HSN := Lib.hid (fun (W : World) (hb : Below w.heap.size w W) => (hSN W hb).mono (fun e w' (h : SnOut N e W w') => show e = .returned (.tuple #[.slice none 0 0, .bool false]) ∧ Below W.heap.size W w' from by
      obtain ⟨⟨L', A, c, h1, h2, h3⟩ | ⟨_, h1⟩, hb⟩ := h
      · exact absurd ⟨L', h1⟩ hall
      · exact ⟨h1, hb⟩))
    have HNO := Lib.hid (show ∀ k e b, ¬ IsPb s k e b from fun k e b h => hall ⟨[(e : Int), (b : Int)], (HPR.out k e b h).2⟩)
    clear hSN hall hw
    go_enter Tryd.func5, Tryd.ntmps5
    go_wp2_with (first
      | (go_at_call 11; refine (HC.out _).mono ?_; rintro e w1 ⟨⟨bb, rfl⟩, hb1⟩; have hr1 := HR0.out.below hb1 HR0.out.lt; have hb1 := HB0.out.trans (hb1.mono HB0.out.size))
      | (go_at_call 12; refine (HSN.out _ hb1).mono ?_; rintro e w2 ⟨rfl, hb2⟩; have hr2 := hr1.below hb2 hr1.lt; have hb2 := hb1.trans (hb2.mono hb1.size); have c0 := hr2.cell 0; have c1 := hr2.cell 1; have c2 := hr2.cell 2; have f0 := hr2.frozen 0; have f1 := hr2.frozen 1; have f2 := hr2.frozen 2)
      | (go_at_call 13; refine (HIX.out _ hb2).mono ?_; rintro e w' ⟨rfl, hw'⟩; rw [hw']; clear hw' w'))
    obtain ⟨k0, k1, k2⟩ := rows3 hr2 (.int .i64 0) (.int .i64 0) (.int .i64 0)
    exact bodyPost_ret (v := .tuple #[.agg #[.int .i64 0, .int .i64 0, .int .i64 0], .bool false]) (by simp [results, Tryd.results5, go_sem, k0, k1, k2]) rfl (RpOut.bad HNO.out (((hb2.setCell (p := ⟨w.heap.size, 0, none⟩) (Nat.le_refl _) _).setCell (p := ⟨w.heap.size, 1, none⟩) (Nat.le_refl _) _).setCell (p := ⟨w.heap.size, 2, none⟩) (Nat.le_refl _) _))
end Go.Proofs.YtcbiaeniagacfaaDoor
