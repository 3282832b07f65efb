/-
  A problem read back: the reference's side.
-/
import Derived.Test.YtcbiaeniagacfaaDoorRpN
import Derived.Deep.RegionHeld3
namespace Go.Proofs.YtcbiaeniagacfaaDoor
open Go Go.ChangeShapes Go.WideShapes Go.ChangeAt Go.RowKit lib
set_option linter.unusedVariables false
set_option linter.unusedSimpArgs false
set_option maxRecDepth 100000
theorem l19Words_at (w : World) : Calls Tryd.prog 9 #[] w fun e w' => e = .returned (.slice (some ⟨w.heap.size, 0, none⟩) 11 11) ∧ (∀ k, k < 11 → w'.cell? ⟨w.heap.size, k, none⟩ = some (.string (wordAt k))) ∧ Below w.heap.size w w' := by
  go_enter Tryd.func9, Tryd.ntmps9
  go_wp2_with fail
  go_ret
  refine ⟨rfl, fun k hk => ?_, (Below.refl _ _).alloc (Nat.le_refl _) _⟩
  have : k = 0 ∨ k = 1 ∨ k = 2 ∨ k = 3 ∨ k = 4 ∨ k = 5 ∨ k = 6 ∨ k = 7 ∨ k = 8 ∨ k = 9 ∨ k = 10 := by omega
  rcases this with rfl | rfl | rfl | rfl | rfl | rfl | rfl | rfl | rfl | rfl | rfl <;> (rw [World.cell?_alloc_new]; rfl)
theorem specPb_of (a b c : Int) (w : World) : Calls Tryd.prog 10 #[cpV a b c] w fun r w' => r = .returned (.string (pbOf a b c)) ∧ Below w.heap.size w w' := by
  by_cases h : pbOk a b c
  · have e : pbOf a b c = pbT a.toNat b.toNat c.toNat := by unfold pbOf; rw [if_pos h]
    rw [e]
    clear e
    obtain ⟨⟨x1, x2⟩, ⟨x3, x4⟩, ⟨x5, x6⟩⟩ := h
    obtain ⟨k, rfl⟩ := Int.eq_ofNat_of_zero_le (show 0 ≤ a by omega)
    obtain ⟨e, rfl⟩ := Int.eq_ofNat_of_zero_le x3
    obtain ⟨f, rfl⟩ := Int.eq_ofNat_of_zero_le x5
    exact specPb_ok k e f (by omega) (by omega) (by omega) (by omega) w
  · have e : pbOf a b c = ⟨#[]⟩ := by unfold pbOf; rw [if_neg h]
    rw [e]
    exact specPb_bad a b c h w
theorem cell_farP (w : World) {p a : Addr} (h : a.block ≠ p.block) (u : Value) : (w.setCell p u).cell? a = w.cell? a := by
  unfold World.cell?
  rw [Below.heap_setCell w p u a.block h]
/-- the kind found among the first words -/
def KInv (x : ByteArray) (K k : Nat) : Prop := (K = 0 ∧ ∀ j, 1 ≤ j → j < k → wordAt j ≠ x) ∨ (1 ≤ K ∧ K < k ∧ wordAt K = x)
theorem KInv.is {x : ByteArray} {K k j : Nat} (h : KInv x K k) (hk : k = 11) (h1 : 1 ≤ j) (h2 : j ≤ 10) (hj : wordAt j = x) : K = j := by
  rcases h with ⟨_, h⟩ | ⟨h3, h4, h5⟩
  · exact absurd hj (h j h1 (by omega))
  · exact wordL_inj K (by omega) j (by omega) (by unfold wordL; rw [h5, hj])
theorem splitB_piecesP (c : UInt8) (s : ByteArray) : (piecesT c s).map (·.data.toList) = splitB c s.data.toList := by
  unfold piecesT
  rw [List.map_map]
  exact List.map_id' _
theorem IsPb.ref {s : ByteArray} {k e b : Nat} (h : IsPb s k e b) : (piecesT 32 s).length = 3 ∧ (piecesT 32 s).getD 0 ⟨#[]⟩ = wordAt k ∧ num3 ((piecesT 32 s).getD 1 ⟨#[]⟩).data.toList = e ∧ num3 ((piecesT 32 s).getD 2 ⟨#[]⟩).data.toList = b := by
  have h1 := h.split
  have e1 : piecesT 32 s = [wordAt k, ⟨(dec3 e).toArray⟩, ⟨(dec3 b).toArray⟩] := by
    unfold piecesT
    rw [h1]
    rfl
  rw [e1]
  obtain ⟨_, h3, h4, _⟩ := h
  exact ⟨rfl, rfl, num3_dec e (by omega), num3_dec b (by omega)⟩
theorem piece_szP {c : UInt8} {s : ByteArray} (i : Nat) (hi : i < (piecesT c s).length) : ((piecesT c s).getD i ⟨#[]⟩).size ≤ s.size := by
  have key : ∀ (l p : List UInt8), p ∈ splitB c l → p.length ≤ l.length := by
    intro l
    induction l with
    | nil => intro p h; simp [splitB] at h; subst h; simp
    | cons y r ih =>
      intro p h
      by_cases hy : y = c
      · subst hy
        rw [splitB_hit] at h
        rcases List.mem_cons.1 h with rfl | h
        · simp
        · have := ih p h; simp; omega
      · obtain ⟨a, q, hs⟩ : ∃ a q, splitB c r = a :: q := by
          cases hs : splitB c r with
          | nil => exact absurd hs (splitB_ne _ _)
          | cons a q => exact ⟨a, q, rfl⟩
        rw [hs] at ih
        rw [splitB_miss hy hs] at h
        rcases List.mem_cons.1 h with rfl | h
        · have := ih a List.mem_cons_self; simp; omega
        · have := ih p (List.mem_cons_of_mem _ h); simp; omega
  rw [List.getD_eq_getElem?_getD, List.getElem?_eq_getElem hi]
  have hm : (piecesT c s)[i] ∈ piecesT c s := List.getElem_mem hi
  unfold piecesT at hm
  obtain ⟨l, hl, he⟩ := List.mem_map.1 hm
  have := key _ l hl
  show (piecesT c s)[i].size ≤ s.data.size
  have e2 : (piecesT c s)[i].size = l.length := by
    have : (piecesT c s)[i] = ⟨l.toArray⟩ := he.symm
    rw [this]
    show l.toArray.size = _
    simp
  rw [e2]
  simpa using this
theorem IsPb.ne {s : ByteArray} {k e b : Nat} (h : IsPb s k e b) : s.size ≠ 0 := by
  obtain ⟨_, h2, h3, rfl⟩ := h
  rw [Lib.size_eq, pbT_list (by omega) (by omega), List.length_append, List.length_cons]
  omega
theorem emptyT {d : ByteArray} : d.toList.isEmpty = decide (d.size = 0) := by
  rw [Lib.toList_data, Lib.size_eq]
  cases d.data.toList with
  | nil => rfl
  | cons a b => simp
theorem slPP {w : World} {B e n c : Nat} {A : Option Addr} {N : List ByteArray} (h : w.ownsRow B e 1 (.slice A n c) n (N.map Value.string)) (hn : n = N.length) : Sl w w.heap.size A n (fun i => .string (N.getD i ⟨#[]⟩)) := by
  have h1 := own_sl h
  rw [Nat.mul_one] at h1
  refine h1.congr fun i hi => ?_
  rw [List.getD_eq_getElem?_getD, List.getD_eq_getElem?_getD, List.getElem?_map]
  have : i < N.length := by omega
  rw [List.getElem?_eq_getElem this]
  rfl
set_option maxHeartbeats 8000000 in
theorem specReadProblem_any {w : World} {s : ByteArray} (hs : s.size ≤ 1048576) : Calls Tryd.prog 4 #[.string s] w fun r w' => RpOut s r w w' := by
  have HSP := Lib.hid (fun W : World => l19Split_any (w := W) (s := s) hs)
  have href := fun k e b => IsPb.ref (s := s) (k := k) (e := e) (b := b)
  have hsz := fun i hi => Nat.le_trans (piece_szP (c := 32) (s := s) i hi) hs
  obtain ⟨N, hN⟩ : ∃ N, piecesT 32 s = N := ⟨_, rfl⟩
  simp only [hN] at HSP href hsz
  obtain ⟨m, hm⟩ : ∃ m, N.length = m := ⟨_, rfl⟩
  rw [hm] at HSP
  have HREF := Lib.hid href
  have HM := Lib.hid hm
  clear hN href
  have HR0 := Lib.hid (Rw.new w 23 #[.int .i64 0, .int .i64 0, .int .i64 0])
  have HB0 := Lib.hid ((Below.refl w.heap.size w).alloc (Nat.le_refl _) (.cells #[.int .i64 0, .int .i64 0, .int .i64 0] 23))
  by_cases h3 : m = 3
  · subst h3
    have hz0 := hsz 0 (by omega)
    have hz1 := hsz 1 (by omega)
    have hz2 := hsz 2 (by omega)
    clear hsz
    go_enter Tryd.func4, Tryd.ntmps4
    go_upto_region 4 with (go_at_call 7; refine (HSP.out _).mono ?_; rintro e w2 ⟨A, d, rfl, ho, hb2⟩; have hr2 := HR0.out.below hb2 HR0.out.lt; have hb2 := HB0.out.trans (hb2.mono HB0.out.size))
    have hsl := slPP ho HM.out.symm
    obtain ⟨ba, oa, hA, hbl, ha0⟩ := hsl 0 (by omega)
    obtain ⟨ba', oa', hA', hbl', ha1⟩ := hsl 1 (by omega)
    obtain ⟨ba2, oa2, hA2, hbl2, ha2⟩ := hsl 2 (by omega)
    subst hA
    simp only [Option.some.injEq, Addr.mk.injEq] at hA' hA2
    obtain ⟨rfl, rfl, _⟩ := hA'
    obtain ⟨rfl, rfl, _⟩ := hA2
    simp only [Nat.add_zero] at ha0
    dsimp only at ha1 ha2
    clear hsl ho
    obtain ⟨x0, hx0⟩ : ∃ x0, N.getD 0 ⟨#[]⟩ = x0 := ⟨_, rfl⟩
    obtain ⟨x1, hx1⟩ : ∃ x1, N.getD 1 ⟨#[]⟩ = x1 := ⟨_, rfl⟩
    obtain ⟨x2, hx2⟩ : ∃ x2, N.getD 2 ⟨#[]⟩ = x2 := ⟨_, rfl⟩
    rw [hx0] at ha0
    rw [hx1] at ha1 hz1
    rw [hx2] at ha2 hz2
    simp only [hx0, hx1, hx2] at HREF
    obtain ⟨n1, hn1⟩ : ∃ n1, num3 x1.data.toList = n1 := ⟨_, rfl⟩
    obtain ⟨n2, hn2⟩ : ∃ n2, num3 x2.data.toList = n2 := ⟨_, rfl⟩
    have HL1 := Lib.hid (fun (x : ByteArray) (W : World) (hx : x = x1) => show Calls Tryd.prog 8 #[.string x] W fun r w' => r = .returned (.int .i64 (num3 x1.data.toList)) ∧ w' = W from by rw [hx]; exact l19Number_any x1 hz1 W)
    have HL2 := Lib.hid (fun (x : ByteArray) (W : World) (hx : x = x2) => show Calls Tryd.prog 8 #[.string x] W fun r w' => r = .returned (.int .i64 (num3 x2.data.toList)) ∧ w' = W from by rw [hx]; exact l19Number_any x2 hz2 W)
    rw [hn1] at HL1
    rw [hn2] at HL2
    simp only [hn1, hn2] at HREF
    clear hx0 hx1 hx2 hn1 hn2 hz0 hz1 hz2
    have HD := Lib.hid (fun O : Obj => show (w2.alloc O).cell? ⟨ba, oa + 1, none⟩ = some (.string x1) ∧ (w2.alloc O).cell? ⟨ba, oa + 2, none⟩ = some (.string x2) from by
      have hal := (Below.refl w2.heap.size w2).alloc (Nat.le_refl _) O
      rw [hal.cell (p := ⟨ba, oa + 1, none⟩) hbl, hal.cell (p := ⟨ba, oa + 2, none⟩) hbl]
      exact ⟨ha1, ha2⟩)
    go_cut [5] (fun s5 wx => s5 = .pointer (some ⟨w2.heap.size, 0, none⟩) ∧ Rw wx w2.heap.size 23 #[.int .i64 0, .int .i64 n1, .int .i64 n2] ∧ Below w2.heap.size w2 wx)
    case first =>
      go_region_held3 (fun w' => w'.cell? ⟨ba, oa + 1, none⟩ = some (.string x1) ∧ w'.cell? ⟨ba, oa + 2, none⟩ = some (.string x2))
        (first | exact ⟨ha1, ha2⟩ | exact HD.out _ | exact ha1 | exact ha2 | exact (HD.out _).1 | exact (HD.out _).2)
        (first
          | (go_at_call 8; refine (HL1.out _ _ (by with_reducible rfl)).mono ?_; rintro e w' ⟨rfl, rfl⟩)
          | (go_at_call 8; refine (HL2.out _ _ (by with_reducible rfl)).mono ?_; rintro e w' ⟨rfl, rfl⟩))
      all_goals (go_wp2_with fail)
      all_goals (go_meet; exact ⟨rfl, (Rw.new w2 _ _).drew, ((Below.refl w2.heap.size w2).alloc (Nat.le_refl _) _).drew⟩)
    case rest =>
      obtain ⟨rfl, hrx, hbx⟩ := hcut
      have hr3 := hr2.below hbx hr2.lt
      have hbw := hb2.trans (hbx.mono hb2.size)
      have ha3 : wc.cell? ⟨ba, oa, none⟩ = some (.string x0) := by rw [hbx.cell (p := ⟨ba, oa, none⟩) hbl]; exact ha0
      have hq0 : w.heap.size < w2.heap.size := hr2.lt
      have hq1 := hrx.lt
      clear HD ha0 ha1 ha2 hbx hr2 hbl' hbl2
      generalize w2.heap.size = q at *
      go_upto_region 6 with (go_at_call 9; refine (l19Words_at _).mono ?_; rintro e w4 ⟨rfl, hws, hb4⟩)
      have HRZ4 := Lib.hid (hr3.below hb4 hr3.lt)
      have HRQ4 := Lib.hid (hrx.below hb4 hrx.lt)
      have HA4 := Lib.hid (show w4.cell? ⟨ba, oa, none⟩ = some (.string x0) by rw [hb4.cell (p := ⟨ba, oa, none⟩) (by show ba < _; omega)]; exact ha3)
      have HB4 := Lib.hid (hbw.trans (hb4.mono hbw.size))
      have HWS4 := Lib.hid hws
      clear hr3 hrx ha3 hbw hb4 hws
      generalize wc.heap.size = pw at *
      go_wp2_with fail
      go_loopw [7] (fun s7 wr => ∃ k K : Nat, 1 ≤ k ∧ k ≤ 11 ∧ s7 = .int .i64 (k : Int) ∧ KInv x0 K k ∧ Rw wr q 23 #[.int .i64 (K : Int), .int .i64 n1, .int .i64 n2] ∧ Rw wr w.heap.size 23 #[.int .i64 0, .int .i64 0, .int .i64 0] ∧ (∀ j, j < 11 → wr.cell? ⟨pw, j, none⟩ = some (.string (wordAt j))) ∧ wr.cell? ⟨ba, oa, none⟩ = some (.string x0) ∧ Below w.heap.size w wr) (fun k _ => 11 - (intOf k).toNat)
      case atStart => exact ⟨1, 0, by omega, by omega, rfl, .inl ⟨rfl, fun j h1 h2 => by omega⟩, HRQ4.out, HRZ4.out, HWS4.out, HA4.out, HB4.out⟩
      case round =>
        obtain ⟨k, K, hk1, hk, rfl, hK, hrq, hrz, hws, ha, hb⟩ := hrel
        have HRQ := Lib.hid hrq
        have HRZ := Lib.hid hrz
        have HWS := Lib.hid hws
        have HA := Lib.hid ha
        have HB := Lib.hid hb
        have HK := Lib.hid hK
        clear hws hb hK
        by_cases hlt : k < 11
        · have hki : (k : Int) < 11 := by omega
          have hwk := HWS.out k hlt
          obtain ⟨y, hy⟩ : ∃ y, wordAt k = y := ⟨_, rfl⟩
          rw [hy] at hwk
          have HY := Lib.hid hy
          have u0 := hrq.cell 0
          have v0 := hrq.frozen 0
          clear hy hrq hrz
          by_cases he : y = x0
          · have hcmp : (y.toList == x0.toList) = true := by rw [he]; simp
            have HE := Lib.hid he
            clear he
            go_wp2_with fail
            go_quiet (fail)
            go_wp2_with fail
            go_roundw
            case rel => exact ⟨k + 1, k, by omega, by omega, by go_num, .inr ⟨hk1, by omega, HY.out.trans HE.out⟩, (HRQ.out.drewN nq).set 0 _, (HRZ.out.drewN nq).far (by show w.heap.size ≠ q; omega) _, fun j hj => by rw [cell_farP _ (by show pw ≠ q; omega)]; exact HWS.out j hj, by rw [cell_farP _ (by show ba ≠ q; omega)]; exact HA.out, (HB.out.drewN nq).setCell (p := ⟨q, 0, none⟩) (by show _ ≤ q; omega) _⟩
            case measure => simp [intOf]; omega
          · have hcmp : (y.toList == x0.toList) = false := by
              rw [beq_eq_false_iff_ne]
              intro e
              rw [Lib.toList_data, Lib.toList_data] at e
              exact he (ByteArray.ext (Array.ext' e))
            have HE := Lib.hid he
            clear he
            go_wp2_with fail
            go_quiet (fail)
            go_wp2_with fail
            go_roundw
            case rel => exact ⟨k + 1, K, by omega, by omega, by go_num, (by
              rcases HK.out with ⟨h1, h2⟩ | ⟨h1, h2, h3⟩
              · refine .inl ⟨h1, fun j h3 h4 => ?_⟩
                rcases Nat.lt_succ_iff_lt_or_eq.1 h4 with h5 | rfl
                · exact h2 j h3 h5
                · rw [HY.out]; exact HE.out
              · exact .inr ⟨h1, by omega, h3⟩), HRQ.out.drewN nq, HRZ.out.drewN nq, fun j hj => HWS.out j hj, HA.out, HB.out.drewN nq⟩
            case measure => simp [intOf]; omega
        · obtain rfl : k = 11 := by omega
          obtain ⟨F, hF⟩ : ∃ F, pbOf (K : Int) n1 n2 = F := ⟨_, rfl⟩
          have hP := specPb_of (K : Int) n1 n2 wr
          rw [hF] at hP
          unfold cpV at hP
          have HP := Lib.hid hP
          have d0 := hrq.cell 0
          have d1 := hrq.cell 1
          have d2 := hrq.cell 2
          have hes := emptyT (d := s)
          clear hP hrq hrz
          by_cases hFs : F = s
          · have hcmp : (F.toList == s.toList) = true := by rw [hFs]; simp
            by_cases hs0 : s.size = 0
            · have he2 : s.toList.isEmpty = true := by rw [hes]; simp [hs0]
              have HNO := Lib.hid (show ∀ k e b, ¬ IsPb s k e b from fun k e b h => h.ne hs0)
              clear hes hFs hF
              go_wp2_with (go_at_call 10; refine HP.out.mono ?_; rintro e' w6 ⟨rfl, hb6⟩; have hr6 := HRZ.out.below hb6 HRZ.out.lt; have hq6 := HRQ.out.below hb6 HRQ.out.lt; have hb6 := HB.out.trans (hb6.mono HB.out.size); have c0 := hr6.cell 0; have c1 := hr6.cell 1; have c2 := hr6.cell 2; have f0 := hr6.frozen 0; have f1 := hr6.frozen 1; have f2 := hr6.frozen 2; have g0 := hq6.cell 0; have g1 := hq6.cell 1; have g2 := hq6.cell 2)
              obtain ⟨k0, k1, k2⟩ := rows3 hr6 (.int .i64 0) (.int .i64 0) (.int .i64 0)
              exact bodyPost_ret (v := .tuple #[.agg #[.int .i64 0, .int .i64 0, .int .i64 0], .bool false]) (by simp [results, Tryd.results4, go_sem, k0, k1, k2]) rfl (RpOut.bad HNO.out (((hb6.setCell (p := ⟨w.heap.size, 0, none⟩) (Nat.le_refl _) _).setCell (p := ⟨w.heap.size, 1, none⟩) (Nat.le_refl _) _).setCell (p := ⟨w.heap.size, 2, none⟩) (Nat.le_refl _) _))
            · have he2 : s.toList.isEmpty = false := by rw [hes]; simp [hs0]
              obtain ⟨k', e, b, hk', rfl, rfl, hip⟩ := pbOf_is (hF.trans hFs) (fun e => hs0 (by rw [e]; rfl))
              obtain rfl : K = k' := by omega
              have HIP := Lib.hid hip
              clear hes hFs hF hip hk'
              go_wp2_with (go_at_call 10; refine HP.out.mono ?_; rintro e' w6 ⟨rfl, hb6⟩; have hr6 := HRZ.out.below hb6 HRZ.out.lt; have hq6 := HRQ.out.below hb6 HRQ.out.lt; have hb6 := HB.out.trans (hb6.mono HB.out.size); have c0 := hr6.cell 0; have c1 := hr6.cell 1; have c2 := hr6.cell 2; have f0 := hr6.frozen 0; have f1 := hr6.frozen 1; have f2 := hr6.frozen 2; have g0 := hq6.cell 0; have g1 := hq6.cell 1; have g2 := hq6.cell 2)
              obtain ⟨k0, k1, k2⟩ := rows3 hr6 (.int .i64 (K : Int)) (.int .i64 (e : Int)) (.int .i64 (b : Int))
              exact bodyPost_ret (v := .tuple #[.agg #[.int .i64 (K : Int), .int .i64 (e : Int), .int .i64 (b : Int)], .bool true]) (by simp [results, Tryd.results4, go_sem, k0, k1, k2]) rfl (RpOut.good HIP.out (((hb6.setCell (p := ⟨w.heap.size, 0, none⟩) (Nat.le_refl _) _).setCell (p := ⟨w.heap.size, 1, none⟩) (Nat.le_refl _) _).setCell (p := ⟨w.heap.size, 2, none⟩) (Nat.le_refl _) _))
          · have hcmp : (F.toList == s.toList) = false := by
              rw [beq_eq_false_iff_ne]
              intro e
              rw [Lib.toList_data, Lib.toList_data] at e
              exact hFs (ByteArray.ext (Array.ext' e))
            have HNO := Lib.hid (show ∀ k e b, ¬ IsPb s k e b from fun k' e b h => by
              obtain ⟨_, h1, h2, h3⟩ := HREF.out k' e b h
              have h4 := HK.out.is rfl h.1.1 h.1.2 h1.symm
              subst h2 h3 h4
              exact hFs (by rw [← hF, pbOf_nat ⟨h.1, h.2.1, h.2.2.1⟩]; exact h.2.2.2))
            clear hes hFs hF
            go_wp2_with (go_at_call 10; refine HP.out.mono ?_; rintro e' w6 ⟨rfl, hb6⟩; have hr6 := HRZ.out.below hb6 HRZ.out.lt; have hq6 := HRQ.out.below hb6 HRQ.out.lt; have hb6 := HB.out.trans (hb6.mono HB.out.size); have c0 := hr6.cell 0; have c1 := hr6.cell 1; have c2 := hr6.cell 2; have f0 := hr6.frozen 0; have f1 := hr6.frozen 1; have f2 := hr6.frozen 2; have g0 := hq6.cell 0; have g1 := hq6.cell 1; have g2 := hq6.cell 2)
            obtain ⟨k0, k1, k2⟩ := rows3 hr6 (.int .i64 0) (.int .i64 0) (.int .i64 0)
            exact bodyPost_ret (v := .tuple #[.agg #[.int .i64 0, .int .i64 0, .int .i64 0], .bool false]) (by simp [results, Tryd.results4, go_sem, k0, k1, k2]) rfl (RpOut.bad HNO.out (((hb6.setCell (p := ⟨w.heap.size, 0, none⟩) (Nat.le_refl _) _).setCell (p := ⟨w.heap.size, 1, none⟩) (Nat.le_refl _) _).setCell (p := ⟨w.heap.size, 2, none⟩) (Nat.le_refl _) _))
  · have t1 : ((m : Int) != 3) = true := by simp; omega
    have t2 : ((m : Int) == 3) = false := by simp; omega
    have HNO := Lib.hid (show ∀ k e b, ¬ IsPb s k e b from fun k e b h => h3 (by rw [← HM.out]; exact (HREF.out k e b h).1))
    clear hsz h3
    go_enter Tryd.func4, Tryd.ntmps4
    go_wp2_with (go_at_call 7; refine (HSP.out _).mono ?_; rintro e w2 ⟨A, d, rfl, ho, hb2⟩; have hr2 := HR0.out.below hb2 HR0.out.lt; have hb2 := HB0.out.trans (hb2.mono HB0.out.size); have c0 := hr2.cell 0; have c1 := hr2.cell 1; have c2 := hr2.cell 2; have f0 := hr2.frozen 0; have f1 := hr2.frozen 1; have f2 := hr2.frozen 2)
    obtain ⟨k0, k1, k2⟩ := rows3 hr2 (.int .i64 0) (.int .i64 0) (.int .i64 0)
    exact bodyPost_ret (v := .tuple #[.agg #[.int .i64 0, .int .i64 0, .int .i64 0], .bool false]) (by simp [results, Tryd.results4, go_sem, k0, k1, k2]) rfl (RpOut.bad HNO.out (((hb2.setCell (p := ⟨w.heap.size, 0, none⟩) (Nat.le_refl _) _).setCell (p := ⟨w.heap.size, 1, none⟩) (Nat.le_refl _) _).setCell (p := ⟨w.heap.size, 2, none⟩) (Nat.le_refl _) _))
end Go.Proofs.YtcbiaeniagacfaaDoor
