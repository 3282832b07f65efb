/-
  Disks of extents: an entry is read: the reference's side.
-/
import Derived.Test.YtmgcaiilocifbaaGreatDoorXnT
import Derived.Test.YtmgcaiilocifbaaGreatDoorXvS
import Derived.Test.YtmgcaiilocifbaaGreatDoorXoS
import Derived.Deep.DeepCutAuto
import Derived.Deep.CutBlock
namespace Go.Proofs.YtmgcaiilocifbaaGreatDoor
open Go Go.ChangeShapes Go.WideShapes Go.ChangeAt Go.RowKit lib
set_option linter.unusedVariables false
set_option linter.unusedSimpArgs false
set_option maxRecDepth 100000
/-- the texts of sixteen bytes are one -/
theorem bstr_beqX (m : Nat) (x y : Nat → UInt8) (B : Bool) (h : B = true ↔ ∀ i, i < m → x i = y i) : ((bstr m x).toList == (bstr m y).toList) = B := by
  cases B with
  | true => exact str_eq_true (bsx_congr (h.1 rfl))
  | false =>
    refine str_eq_false fun he => ?_
    have : false = true := h.2 fun i hi => by
      have := congrArg (fun s => byteAt s i) he
      simpa only [bsx_at hi] using this
    cases this
set_option maxHeartbeats 4000000 in
theorem specEntryX_any {w : World} {n c q z k : Nat} {n0 E0 t0 : Value} {A : Option Addr} {s : Nat → ByteArray} (hs : Sl w w.heap.size A n (fun i => .string (s i))) (hsz : ∀ i, i < n → (s i).size = z) (hr : Rw w q 30 #[n0, .int .i64 z, E0, t0]) (hz8 : 8 ≤ z) (hz32 : z ≤ 32) (hn : n ≤ 128) (hk : z + k * 16 + 16 ≤ n * z) :
    Calls Tryz.prog 17 #[.slice A n c, .pointer (some ⟨q, 0, none⟩), .int .i64 k] w fun r w' => XEnt r w w' z (xby z (joinU z s) k) := by
  have hx0 := Rw.new w 38 #[.int .i64 0, .string ⟨#[]⟩, .int .i64 0, .int .i64 0, .slice none 0 0]
  have hb0 := (Below.refl w.heap.size w).alloc (Nat.le_refl _) (.cells #[.int .i64 0, .string ⟨#[]⟩, .int .i64 0, .int .i64 0, .slice none 0 0] 38)
  have hs1 : Sl (w.alloc (.cells #[.int .i64 0, .string ⟨#[]⟩, .int .i64 0, .int .i64 0, .slice none 0 0] 38)) (w.alloc (.cells #[.int .i64 0, .string ⟨#[]⟩, .int .i64 0, .int .i64 0, .slice none 0 0] 38)).heap.size A n (fun i => .string (s i)) := (hs.below hb0).more hb0.size
  have HRAW := Lib.hid (l17Raw_any (c := c) hs1 hsz (hr.below hb0 hr.lt) hz8 hz32 hn hk)
  have HR := Lib.hid hr
  have hql := hr.lt
  generalize xby z (joinU z s) k = v at *
  have HX0 := Lib.hid hx0
  have HB0 := Lib.hid hb0
  clear hs1 hs hsz hr hx0 hb0
  obtain ⟨i0, hi0, hi1, hi2, hi3⟩ := info_parts (show (Tryz.prog.info? 2).map (fun i => (i.zero, i.size, i.bytes)) = some (some (.int .i64 0), 1, 8) by kernel_rfl)
  have I0 := Lib.hid hi0
  have I1 := Lib.hid hi1
  have I2 := Lib.hid hi2
  have I3 := Lib.hid hi3
  clear hi0 hi1 hi2 hi3
  obtain ⟨x0, hq0⟩ : ∃ x, x = (v 0).toNat := ⟨_, rfl⟩
  have x0b : x0 < 256 := by rw [hq0]; exact (v 0).toNat_lt
  have w0 : IntKind.i64.wrap (x0 : Int) = (x0 : Int) := by rw [IntKind.wrap_i64]; omega
  have HQ0 := Lib.hid hq0
  clear hq0
  have hpar0 : (v 0).toNat = 0 → xPar v = xe0 := fun h => by unfold xPar; rw [if_pos h]
  obtain ⟨M, hM⟩ : ∃ M, M = min (v 11).toNat 4 := ⟨_, rfl⟩
  have hM4 : M ≤ 4 := by omega
  obtain ⟨X, hX⟩ : ∃ X, X = bstr (trimLen 32 8 (fun i => v (1 + i))) (fun i => v (1 + i)) := ⟨_, rfl⟩
  have hpar1 : (v 0).toNat ≠ 0 → xPar v = ⟨((v 0).toNat : Int), X, ((v 9).toNat : Int), ((v 10).toNat : Int), xBl v M⟩ := fun h => by unfold xPar; rw [if_neg h, ← hX, ← hM]; rfl
  have HTI := Lib.hid (fun w : World => l28Title_any 8 (fun i => v (1 + i)) w (by omega))
  rw [← hX] at HTI
  have HP0 := Lib.hid hpar0
  have HP1 := Lib.hid hpar1
  have HM := Lib.hid hM
  clear hX hpar0 hpar1 hM
  go_enter Tryz.func17, Tryz.ntmps17
  go_upto_region 2 with (go_at_call 35; refine HRAW.out.mono ?_; rintro e1 w1 ⟨gb, cb, rfl, hcb, hbr, hgb, hb1⟩)
  have hW1 := HB0.out.trans (hb1.mono HB0.out.size)
  have hz1 := HX0.out.below hb1 HX0.out.lt
  have hgl := hbr.lt
  have hszw : w.heap.size + 1 ≤ w1.heap.size := by have := hb1.size; rwa [World.size_alloc] at this
  have hgb1 : w.heap.size + 1 ≤ gb := by rwa [World.size_alloc] at hgb
  have c0 := hbr.cell (i := 0) (by omega)
  rw [← HQ0.out] at c0
  have ic0 : (0 : Int) < (cb : Int) := by omega
  have hy2 := Rw.new w1 38 #[.int .i64 (x0 : Int), .string ⟨#[]⟩, .int .i64 0, .int .i64 0, .slice none 0 0]
  have hz2 := hz1.alloc (.cells #[.int .i64 (x0 : Int), .string ⟨#[]⟩, .int .i64 0, .int .i64 0, .slice none 0 0] 38)
  have hg2 := hbr.alloc (.cells #[.int .i64 (x0 : Int), .string ⟨#[]⟩, .int .i64 0, .int .i64 0, .slice none 0 0] 38)
  have hb2 := hW1.alloc hW1.size (.cells #[.int .i64 (x0 : Int), .string ⟨#[]⟩, .int .i64 0, .int .i64 0, .slice none 0 0] 38)
  have hs2 : (w1.alloc (.cells #[.int .i64 (x0 : Int), .string ⟨#[]⟩, .int .i64 0, .int .i64 0, .slice none 0 0] 38)).heap.size = w1.heap.size + 1 := World.size_alloc _ _
  obtain ⟨eb, heb⟩ : ∃ eb, w1.heap.size = eb := ⟨_, rfl⟩
  rw [heb] at hy2 hs2 hszw hgl
  go_upto_region 3 with fail
  generalize w1.alloc (.cells #[.int .i64 (x0 : Int), .string ⟨#[]⟩, .int .i64 0, .int .i64 0, .slice none 0 0] 38) = W2 at *
  have HY := Lib.hid hy2
  have HZ := Lib.hid hz2
  have HG := Lib.hid hg2
  have HB := Lib.hid hb2
  have y0 := hy2.cell 0
  have ic16 : (16 : Int) ≤ (cb : Int) := by omega
  clear c0 hy2 hz2 hg2 hb2 hb1 hz1 hbr hW1 heb ic0
  have hne : gb ≠ eb := by omega
  have hwne : w.heap.size ≠ eb := by omega
  go_upto_if 22 with fail
  go_cut [] (fun wx => ∃ (A : Option Addr) (c : Nat), Rw wx w.heap.size 38 #[.int .i64 0, .string ⟨#[]⟩, .int .i64 0, .int .i64 0, .slice none 0 0] ∧ Rw wx eb 38 #[.int .i64 (xPar v).st, .string (xPar v).nm, .int .i64 (xPar v).no, .int .i64 (xPar v).tl, .slice A (xPar v).bl.length c] ∧ IntR (eb + 1) wx A c (xPar v).bl ∧ BRow wx 5 gb 16 v ∧ Below w.heap.size w wx)
  case first =>
    by_cases h0 : x0 = 0
    · have hp := HP0.out (by rw [← HQ0.out]; exact h0)
      subst h0
      go_wp2_with fail
      go_meet
      rw [hp]
      exact ⟨none, 0, HZ.out, HY.out, intR_nil _ _, HG.out, HB.out⟩
    · have hp := HP1.out (by rw [← HQ0.out]; exact h0)
      have e0 : ((x0 : Int) != 0) = true := by simp; omega
      have e0' : ((x0 : Int) = 0) = False := by simp; omega
      have HPE := Lib.hid hp
      have hsl : ∀ W : World, BRow W 5 gb 16 v → (convert 49 9 (.slice (some ⟨gb, 1, none⟩) 8 (cb - 1))).run Tryz.prog W = .ok (.string (bstr 8 (fun i => v (1 + i)))) W := fun W hW =>
        run_bstr (P := Tryz.prog) (w := W) (B := W.heap.size) 49 9 5 Tryz.underlying49 Tryz.underlying5 Tryz.underlying9 (u := fun i => v (1 + i)) (fun i hi => ⟨gb, 1, rfl, hW.lt, by rw [hW.cell (i := 1 + i) (by omega)]⟩) (by simp)
      have hcv := hsl W2 HG.out
      have hC9 : (9 : Int) ≤ (cb : Int) := by omega
      have i6 : (cb = 1) = False := by simp; omega
      have y1 := HY.out.cell 1
      have fy1 := HY.out.frozen 1
      clear hsl hp
      go_upto_region 5 with (go_at_call 36; refine (HTI.out _).mono ?_; rintro e w' ⟨rfl, hw'⟩; (first | (rw [← hw']) | (rw [hw'])); clear hw' w')
      have hr5 := HY.out.set 1 (.string X)
      have hz5 := HZ.out.far (p := ⟨eb, 1, none⟩) hwne (.string X)
      have hg5 := HG.out.far (p := ⟨eb, 1, none⟩) hne (.string X)
      have hb5 := HB.out.setCell (p := ⟨eb, 1, none⟩) (by show w.heap.size ≤ eb; omega) (.string X)
      generalize W2.setCell ⟨eb, 1, none⟩ (.string X) = W5 at *
      change Rw W5 _ _ #[.int .i64 (x0 : Int), .string X, .int .i64 0, .int .i64 0, .slice none 0 0] at hr5
      obtain ⟨x9, h9⟩ : ∃ x, x = (v 9).toNat := ⟨_, rfl⟩
      obtain ⟨x10, h10⟩ : ∃ x, x = (v 10).toNat := ⟨_, rfl⟩
      obtain ⟨x11, h11⟩ : ∃ x, x = (v 11).toNat := ⟨_, rfl⟩
      have b9 : x9 < 256 := by rw [h9]; exact (v 9).toNat_lt
      have b10 : x10 < 256 := by rw [h10]; exact (v 10).toNat_lt
      have b11 : x11 < 256 := by rw [h11]; exact (v 11).toNat_lt
      have q9 := hg5.cell (i := 9) (by omega)
      have q10 := (hg5.far (p := ⟨eb, 2, none⟩) hne (.int .i64 (x9 : Int))).cell (i := 10) (by omega)
      have q10b := hg5.cell (i := 10) (by omega)
      rw [← h9] at q9
      rw [← h10] at q10 q10b
      have w9 : IntKind.i64.wrap (x9 : Int) = (x9 : Int) := by rw [IntKind.wrap_i64]; omega
      have w10 : IntKind.i64.wrap (x10 : Int) = (x10 : Int) := by rw [IntKind.wrap_i64]; omega
      have ic9 : (9 : Int) < (cb : Int) := by omega
      have ic10 : (10 : Int) < (cb : Int) := by omega
      have y2 := hr5.cell 2
      have fy2 := hr5.frozen 2
      have y3 := hr5.cell 3
      have fy3 := hr5.frozen 3
      have H9 := Lib.hid h9
      have H10 := Lib.hid h10
      have H11 := Lib.hid h11
      clear y0 y1 fy1 hcv h9 h10 h11
      go_upto_region 7 with fail
      have hr6 := ((hr5.set 2 (.int .i64 (x9 : Int))).set 3 (.int .i64 (x10 : Int)))
      have hz6 := ((hz5.far (p := ⟨eb, 2, none⟩) hwne (.int .i64 (x9 : Int))).far (p := ⟨eb, 3, none⟩) hwne (.int .i64 (x10 : Int)))
      have hg6 := ((hg5.far (p := ⟨eb, 2, none⟩) hne (.int .i64 (x9 : Int))).far (p := ⟨eb, 3, none⟩) hne (.int .i64 (x10 : Int)))
      have hb6 := ((hb5.setCell (p := ⟨eb, 2, none⟩) (by show w.heap.size ≤ eb; omega) (.int .i64 (x9 : Int))).setCell (p := ⟨eb, 3, none⟩) (by show w.heap.size ≤ eb; omega) (.int .i64 (x10 : Int)))
      generalize ((W5.setCell ⟨eb, 2, none⟩ (.int .i64 (x9 : Int))).setCell ⟨eb, 3, none⟩ (.int .i64 (x10 : Int))) = W6 at *
      change Rw W6 _ _ #[.int .i64 (x0 : Int), .string X, .int .i64 (x9 : Int), .int .i64 (x10 : Int), .slice none 0 0] at hr6
      have ic11 : (11 : Int) < (cb : Int) := by omega
      have hMx : M = min x11 4 := by rw [HM.out, ← H11.out]
      clear hz5 hg5 hb5 hr5 y2 fy2 y3 fy3 q9 q10 q10b
      have hfin : xPar v = ⟨(x0 : Int), X, (x9 : Int), (x10 : Int), xBl v M⟩ := by rw [HPE.out, ← HQ0.out, ← H9.out, ← H10.out]
      have HFI := Lib.hid hfin
      have HMX := Lib.hid hMx
      clear hfin hMx
      go_wp2_with fail
      go_loopw [10] (fun s10 wr => ∃ (j c' : Nat) (A' : Option Addr), j ≤ M ∧ s10 = .int .u8 j ∧ Rw wr eb 38 #[.int .i64 (x0 : Int), .string X, .int .i64 (x9 : Int), .int .i64 (x10 : Int), .slice A' j c'] ∧ wr.ownsRow (eb + 1) 2 1 (.slice A' j c') j ((xBl v j).map (Value.int .i64)) ∧ Rw wr w.heap.size 38 #[.int .i64 0, .string ⟨#[]⟩, .int .i64 0, .int .i64 0, .slice none 0 0] ∧ BRow wr 5 gb 16 v ∧ Below w.heap.size w wr) (fun i _ => M - (intOf i).toNat)
      case atStart => exact ⟨0, 0, none, Nat.zero_le _, rfl, hr6, World.ownsRow_nil _ _ _ _, hz6, hg6, hb6⟩
      case round =>
        obtain ⟨j, c', A', hj, rfl, hr, ho, hzr, hgr, hb⟩ := hrel
        have hwr := hb.size
        have hmq := HMX.out
        have q11 := hgr.cell (i := 11) (by omega)
        rw [← H11.out] at q11
        by_cases hlt : j < M
        · have hrl := hr.lt
          have hj11 : j < x11 := by omega
          have hj4 : j < 4 := by omega
          have hj11i : ((j : Int) < (x11 : Int)) = True := by simp; omega
          have hj4i : ((j : Int) < 4) = True := by simp; omega
          have qj := hgr.cell (i := 12 + j) (by omega)
          obtain ⟨xj, hxj⟩ : ∃ x, x = (v (12 + j)).toNat := ⟨_, rfl⟩
          rw [← hxj] at qj
          have bj : xj < 256 := by rw [hxj]; exact (v (12 + j)).toNat_lt
          have wj : IntKind.i64.wrap (xj : Int) = (xj : Int) := by rw [IntKind.wrap_i64]; omega
          have w12 : IntKind.u8.wrap (12 + (j : Int)) = 12 + (j : Int) := by rw [IntKind.wrap_u8]; omega
          have wj1 : IntKind.u8.wrap ((j : Int) + 1) = (j : Int) + 1 := by rw [IntKind.wrap_u8]; omega
          have n12 : (12 + (j : Int)).toNat = 12 + j := by omega
          have ic12 : 12 + (j : Int) < 16 := by omega
          have icz : (0 : Int) ≤ 12 + (j : Int) := by omega
          have ic12b : 12 + (j : Int) < (cb : Int) := by omega
          have y4 := hr.cell 4
          have fy4 := hr.frozen 4
          have HO := Lib.hid ho
          have HXJ := Lib.hid hxj
          clear ho hxj hmq
          go_wp2_with fail
          go_region_law (first | (refine step_append_lies _ (by rfl) _ _ _ (by rfl) (eb + 1) 2 i0 _ 1 8 Tryz.underlying33 I0.out I1.out I2.out I3.out rfl (by omega) (.slice A' j c') j _ (by rfl) ((HO.out.alloc _).drew) ⟨wr.heap.size, 0, none⟩ 1 1 [.int .i64 (xj : Int)] (by rfl) (by rfl) (news1 _ _ _) (by simp [Value.oneCell']) (by omega) (by simp only [maxLen]; omega) (by omega) (by simp; omega) (wr.heap.size + 1) (by simp) ?_; intro gg cap w3 ho3 hgrow hat hlt3; have hr3 := rwGrown ((hr.alloc _).drew) hgrow (fun e => by have := own_lt HO.out _ e.symm; omega); have y5 := hr3.cell 4; have fy5 := hr3.frozen 4))
          all_goals
            go_wp2_with fail
            go_roundw
            case rel =>
              have hz3 := rwGrown ((hzr.alloc _).drew) hgrow (fun e => by have := own_lt HO.out _ e.symm; omega)
              have hg3 := ((hgr.alloc _).drew).grown hgrow (fun e => by have := own_lt HO.out _ e.symm; omega)
              have hb3 : Below w.heap.size wr w3 := (((Below.refl _ _).alloc hwr _).drew.grown hgrow (by simp; omega) (fun j hj => by have := own_lt HO.out j hj; omega))
              refine ⟨j + 1, cap, some ⟨gg, 0, none⟩, by omega, by go_num, hr3.set 4 _, ?_, hz3.far (p := ⟨eb, 4, none⟩) hwne _, hg3.far (p := ⟨eb, 4, none⟩) hne _, (hb.trans hb3).setCell (p := ⟨eb, 4, none⟩) (by show w.heap.size ≤ eb; omega) _⟩
              rw [xBl_more, List.map_append, ← HXJ.out]
              exact ho3.kept (only_setCell (g := eb) (only_refl w3 _) (.inl rfl) _) (.inr (fun e => by have := own_lt ho3 eb e; omega))
            case measure => simp [intOf]; omega
        · obtain rfl : j = M := by omega
          have hcase : (j < x11 ∧ j = 4) ∨ (¬ j < x11) := by omega
          rcases hcase with ⟨h1, h2⟩ | h1
          · have hj11i : ((j : Int) < (x11 : Int)) = True := by simp; omega
            have hj4i : ((j : Int) < 4) = False := by simp; omega
            clear hmq
            go_wp2_with fail
            go_meet
            rw [HFI.out]
            refine ⟨A', c', hzr, ?_, ?_, hgr, hb⟩
            · show Rw wr eb _ #[_, _, _, _, .slice A' (xBl v j).length c']
              rw [xBl_len]
              exact hr
            · show wr.ownsRow _ _ 1 (.slice A' (xBl v j).length c') (xBl v j).length _
              rw [xBl_len]
              exact ho
          · have hj11i : ((j : Int) < (x11 : Int)) = False := by simp; omega
            clear hmq
            go_wp2_with fail
            go_meet
            rw [HFI.out]
            refine ⟨A', c', hzr, ?_, ?_, hgr, hb⟩
            · show Rw wr eb _ #[_, _, _, _, .slice A' (xBl v j).length c']
              rw [xBl_len]
              exact hr
            · show wr.ownsRow _ _ 1 (.slice A' (xBl v j).length c') (xBl v j).length _
              rw [xBl_len]
              exact ho
  case rest =>
    obtain ⟨A2, c2, hr1, hr2, hi, hg, hB⟩ := hcut
    clear y0
    have hb00 := hB.size
    obtain ⟨e, he⟩ : ∃ e, e = xPar v := ⟨_, rfl⟩
    rw [← he] at hr2 hi
    have key : ∀ B : Bool, (B = true ↔ ∀ i, i < 16 → e.byte i = v i) → e.ok z → (B = true ↔ xGood z v) ∧ xent z v = if B then e else xe0 := fun B hB ho => by
      have hok : xGood z v ↔ B = true := by
        unfold xGood
        rw [← he]
        exact ⟨fun q => hB.2 q.2, fun q => ⟨ho, hB.1 q⟩⟩
      cases hBB : B with
      | true => exact ⟨by rw [hok, hBB], by rw [xent_good (hok.2 hBB), ← he]; rfl⟩
      | false =>
        have h1 : ¬ xGood z v := fun q => by have := hok.1 q; rw [hBB] at this; cases this
        exact ⟨by simpa using h1, by rw [xent_bad h1]; rfl⟩
    have hnm8 : e.nm.size ≤ 8 := by
      rw [he]
      by_cases h0 : (v 0).toNat = 0
      · rw [HP0.out h0]; exact Nat.zero_le _
      · unfold xPar
        rw [if_neg h0]
        show (bstr _ _).size ≤ 8
        rw [bsx_size]
        exact (trimLen_at _ _ _).le
    have hbl4 : e.bl.length ≤ 4 := by
      rw [he]
      by_cases h0 : (v 0).toNat = 0
      · rw [HP0.out h0]; exact Nat.zero_le _
      · unfold xPar
        rw [if_neg h0]
        simp
        omega
    have hbad : ¬ e.ok z → ¬ xGood z v ∧ xent z v = xe0 := fun hn => by
      have h1 : ¬ xGood z v := fun q => hn (by rw [he]; exact q.1)
      exact ⟨h1, xent_bad h1⟩
    have hzq := (HR.out.below hB hql).cell 1
    have q0 := hr2.cell 0; have q1 := hr2.cell 1; have q2 := hr2.cell 2; have q3 := hr2.cell 3; have q4 := hr2.cell 4
    have k0 := hr1.cell 0; have f0 := hr1.frozen 0; have k1 := hr1.cell 1; have f1 := hr1.frozen 1; have k2 := hr1.cell 2; have f2 := hr1.frozen 2; have k3 := hr1.cell 3; have f3 := hr1.frozen 3; have k4 := hr1.cell 4; have f4 := hr1.frozen 4
    have hpw : ∀ W : World, Below wc.heap.size wc W → BRow W 5 gb 16 v ∧ IntR (eb + 1) W A2 c2 e.bl ∧ Rw W w.heap.size 38 #[.int .i64 0, .string ⟨#[]⟩, .int .i64 0, .int .i64 0, .slice none 0 0] ∧ Rw W eb 38 #[.int .i64 e.st, .string e.nm, .int .i64 e.no, .int .i64 e.tl, .slice A2 e.bl.length c2] := fun W hW => ⟨hg.below hW hg.lt, hi.below hW, hr1.below hW hr1.lt, hr2.below hW hr2.lt⟩
    have HPW := Lib.hid hpw
    have HKEY := Lib.hid key
    have HBAD := Lib.hid hbad
    have HE := Lib.hid he
    clear hpw key hbad he
    have hslB : ∀ (W : World) (g C : Nat) (V : Nat → UInt8), BRow W 5 g 16 V → (convert 49 9 (.slice (some ⟨g, 0, none⟩) 16 C)).run Tryz.prog W = .ok (.string (bstr 16 V)) W := fun W g C V hW =>
      run_bstr (P := Tryz.prog) (w := W) (B := W.heap.size) 49 9 5 Tryz.underlying49 Tryz.underlying5 Tryz.underlying9 (u := V) (fun i hi => ⟨g, 0, rfl, hW.lt, by rw [Nat.zero_add, hW.cell hi]⟩) (by simp)
    have HSB := Lib.hid hslB
    clear hslB
    by_cases hV : e.ok z
    · have HV := Lib.hid (fun (W : World) (hW : Below wc.heap.size wc W) => specValidX_any eb z e A2 c2 W true (by simpa using hV) (by omega) (by omega) (HPW.out W hW).2.2.2 (HPW.out W hW).2.1.sl)
      have HPE := Lib.hid (fun (W : World) (hW : Below wc.heap.size wc W) => specPutXE (z := z) (by omega) eb e hV A2 c2 W (HPW.out W hW).2.1.sl (HPW.out W hW).2.2.2)
      have HVV := Lib.hid hV
      clear hV
      obtain ⟨B, hBq⟩ : ∃ B : Bool, (B = true ↔ ∀ i, i < 16 → e.byte i = v i) := by
        open Classical in
        exact ⟨decide _, decide_eq_true_iff⟩
      have HK := Lib.hid (HKEY.out B hBq HVV.out)
      have HBQ := Lib.hid (bstr_beqX 16 _ _ B hBq)
      clear hBq
      generalize e.byte = V at *
      have hq16 := HBQ.out
      have hk0 := HSB.out wc.drew gb cb v hg.drew
      go_wp2_with fail
      go_region_with (first
        | (go_at_call 37; refine (HV.out _ (Below.refl _ _).drew).mono ?_; rintro e1 w1 ⟨rfl, hw1⟩; rw [hw1]; clear hw1 w1)
        | (go_at_call 38; refine (HPE.out _ (Below.refl _ _).drew).mono ?_; rintro e2 w2 ⟨g2, rfl, hp2, hg2, hb2⟩; have hb12 : Below wc.heap.size wc w2 := (Below.refl _ wc).drew.trans hb2; have hk2 := HSB.out w2 gb cb v (HPW.out _ hb12).1; have hk3 := HSB.out w2 g2 16 V hp2; have hr13 := (HPW.out _ hb12).2.2.1; have hr23 := (HPW.out _ hb12).2.2.2; have qc0 := hr23.cell 0; have qc1 := hr23.cell 1; have qc2 := hr23.cell 2; have qc3 := hr23.cell 3; have qc4 := hr23.cell 4; have kc0 := hr13.cell 0; have fc0 := hr13.frozen 0; have kc1 := hr13.cell 1; have fc1 := hr13.frozen 1; have kc2 := hr13.cell 2; have fc2 := hr13.frozen 2; have kc3 := hr13.cell 3; have fc3 := hr13.frozen 3; have kc4 := hr13.cell 4; have fc4 := hr13.frozen 4))
      all_goals
        have hB3 := hB.trans (hb12.mono hb00)
        have hI3 := (HPW.out _ hb12).2.1
        cases B
        · go_wp2_with fail
          obtain ⟨ka, kb⟩ := HK.out
          have hrs := rowset5X hr13 (.int .i64 0) (.string ⟨#[]⟩) (.int .i64 0) (.int .i64 0) (.slice none 0 0)
          refine bodyPost_ret (v := .tuple #[xe0.val none 0, .bool false]) (by simp [results, Tryz.results17, go_sem, XE.val, xe0, hrs]) rfl ⟨false, none, 0, by simpa using ka, by rw [kb]; rfl, by rw [kb]; exact intR_nil _ _, ?_⟩
          exact ((((hB3.setCell (Nat.le_refl _) _).setCell (Nat.le_refl _) _).setCell (Nat.le_refl _) _).setCell (Nat.le_refl _) _).setCell (Nat.le_refl _) _
        · go_wp2_with fail
          obtain ⟨ka, kb⟩ := HK.out
          have hrs := rowset5X hr13 (.int .i64 e.st) (.string e.nm) (.int .i64 e.no) (.int .i64 e.tl) (.slice A2 e.bl.length c2)
          have hI4 := ((((hI3.farX (p := ⟨w.heap.size, 0, none⟩) (by show w.heap.size < eb + 1; omega) (.int .i64 e.st)).farX (p := ⟨w.heap.size, 1, none⟩) (by show w.heap.size < eb + 1; omega) (.string e.nm)).farX (p := ⟨w.heap.size, 2, none⟩) (by show w.heap.size < eb + 1; omega) (.int .i64 e.no)).farX (p := ⟨w.heap.size, 3, none⟩) (by show w.heap.size < eb + 1; omega) (.int .i64 e.tl)).farX (p := ⟨w.heap.size, 4, none⟩) (by show w.heap.size < eb + 1; omega) (.slice A2 e.bl.length c2)
          refine bodyPost_ret (v := .tuple #[e.val A2 c2, .bool true]) (by simp [results, Tryz.results17, go_sem, XE.val, hrs]) rfl ⟨true, A2, c2, by simpa using ka, by rw [kb]; rfl, by rw [kb]; exact hI4.base (by omega), ?_⟩
          exact ((((hB3.setCell (Nat.le_refl _) _).setCell (Nat.le_refl _) _).setCell (Nat.le_refl _) _).setCell (Nat.le_refl _) _).setCell (Nat.le_refl _) _
    · have HV := Lib.hid (fun (W : World) (hW : Below wc.heap.size wc W) => specValidX_any eb z e A2 c2 W false (by simpa using hV) (by omega) (by omega) (HPW.out W hW).2.2.2 (HPW.out W hW).2.1.sl)
      have HVV := Lib.hid hV
      clear hV
      go_wp2_with fail
      go_quiet ((go_at_call 37; exact Calls.quiet_of_same (HV.out _ ((Below.refl _ _).drewN _))))
      go_wp2_with fail
      have hB3 := hB.drewN nq
      obtain ⟨ka, kb⟩ := HBAD.out HVV.out
      have hrs := rowset5X (hr1.drewN nq) (.int .i64 0) (.string ⟨#[]⟩) (.int .i64 0) (.int .i64 0) (.slice none 0 0)
      refine bodyPost_ret (v := .tuple #[xe0.val none 0, .bool false]) (by simp [results, Tryz.results17, go_sem, XE.val, xe0, hrs]) rfl ⟨false, none, 0, by simpa using ka, by rw [kb], by rw [kb]; exact intR_nil _ _, ?_⟩
      exact ((((hB3.setCell (Nat.le_refl _) _).setCell (Nat.le_refl _) _).setCell (Nat.le_refl _) _).setCell (Nat.le_refl _) _).setCell (Nat.le_refl _) _
end Go.Proofs.YtmgcaiilocifbaaGreatDoor
