/-
  Disks of chains: files made of lost chains, the reference's mendLost.
-/
import Derived.Test.YtapkckpjeoedaaaGreatDoorMlTopS
namespace Go.Proofs.YtapkckpjeoedaaaGreatDoor
open Go Go.ChangeShapes Go.WideShapes Go.ChangeAt Go.RowKit lib
set_option linter.unusedVariables false
set_option maxRecDepth 100000
theorem LK.at {w : World} {g q o i qi ci : Nat} {l : List Nat} (h : LK w g (some ⟨q, o, none⟩) i l qi ci) : w.cell? ⟨q, o + i, none⟩ = some (.slice (some ⟨qi, 0, none⟩) l.length ci) ∧ ISl w g (some ⟨qi, 0, none⟩) l ∧ q < w.heap.size := by
  obtain ⟨q', o', h1, h2, h3, h4, h5, h6⟩ := h
  injection h1 with h1
  injection h1 with h1 h1' _
  subst h1 h1'
  exact ⟨h4, h5, h3⟩
theorem LK.at0 {w : World} {g i qi ci : Nat} {A : Option Addr} {l : List Nat} (h : LK w g A i l qi ci) : ∃ q o, A = some ⟨q, o, none⟩ := by
  obtain ⟨q', o', h1, _⟩ := h
  exact ⟨q', o', h1⟩
open Classical in
set_option maxHeartbeats 4000000 in
theorem specMendLost_any {w : World} {p g n z E d t N c : Nat} {u : Nat → UInt8} (h : ChW w p g n z E d t N c u) (hn : n ≤ 128) (hz : 8 ≤ z) (hz2 : z ≤ 64) (hNz : z + n ≤ N) (hN : N ≤ 4096) (hcN : N ≤ c) (hE : E ≤ 16) (hd : d = dirN n z) (ht : t ≤ n) (hfit : ∀ k, k < E → d * z + k * 12 + 12 ≤ N) :
    Calls Tryz.prog 25 #[.pointer (some ⟨p, 0, none⟩)] w fun r w' => r = .returned (.tuple #[.int .i64 ((mlRun n z E (chainsC (lostN (ownsN n z t u E) u z t (n - t)) (lkN z u)) u 0 0).2.1 : Int), .int .i64 ((mlRun n z E (chainsC (lostN (ownsN n z t u E) u z t (n - t)) (lkN z u)) u 0 0).2.2.1 : Int), .bool (mlRun n z E (chainsC (lostN (ownsN n z t u E) u z t (n - t)) (lkN z u)) u 0 0).2.2.2]) ∧ ChW w' p g n z E d t N c (mlRun n z E (chainsC (lostN (ownsN n z t u E) u z t (n - t)) (lkN z u)) u 0 0).1 ∧ w.grownBy w' (some g) := by
  have hLn : ∀ x, x ∈ lostN (ownsN n z t u E) u z t (n - t) → x < n := fun x hx => by have := lostN_ltL _ _ hx; omega
  have hLl : (lostN (ownsN n z t u E) u z t (n - t)).length ≤ 128 := Nat.le_trans (lostN_le _ _ _ _ _) (by omega)
  have HLC := Lib.hid (specChains_any h hn hNz hN hcN hE hd ht hfit hLn hLl)
  have hall := chainsC_all (lk := lkN z u) hLn
  have hlen := sB_ok (lk := lkN z u) hLn 2
  have hL1 : (chainsC (lostN (ownsN n z t u E) u z t (n - t)) (lkN z u)).length ≤ n := hlen.bound.2
  have hL2 : ∀ l, l ∈ chainsC (lostN (ownsN n z t u E) u z t (n - t)) (lkN z u) → l.length ≤ n := hlen.each
  have hL3 : ∀ l, l ∈ chainsC (lostN (ownsN n z t u E) u z t (n - t)) (lkN z u) → 0 < l.length ∧ (∀ x, x ∈ l → x < n) := fun l hl => ⟨(hall l hl).1, fun x hx => hLn x ((hall l hl).2 x hx)⟩
  obtain ⟨Ls, hLs⟩ : ∃ Ls, chainsC (lostN (ownsN n z t u E) u z t (n - t)) (lkN z u) = Ls := ⟨_, rfl⟩
  rw [hLs] at HLC hL1 hL2 hL3 ⊢
  obtain ⟨R, hR⟩ : ∃ R, mlRun n z E Ls u 0 0 = R := ⟨_, rfl⟩
  rw [hR]
  have HR := Lib.hid hR
  have HL2 := Lib.hid hL2
  have HL3 := Lib.hid hL3
  have HH := Lib.hid h
  have HFIT := Lib.hid hfit
  have HD := Lib.hid hd
  have hgw := h.row.lt
  have hz0 : 0 < z := by omega
  obtain ⟨m0, hm0⟩ : ∃ m0, 512 / z = m0 := ⟨_, rfl⟩
  have hm1 : 1 ≤ m0 := by rw [← hm0]; exact (Nat.le_div_iff_mul_le hz0).2 (by omega)
  have hm2 : m0 * z ≤ 512 := by rw [← hm0]; exact Nat.div_mul_le_self _ _
  have hm3 : m0 ≤ 512 := by rw [← hm0]; exact Nat.div_le_self _ _
  have hq1 : (512 : Int) / (z : Int) = (m0 : Int) := by rw [← hm0]; simp
  have hq2 : Int.tdiv (512 : Int) (z : Int) = (m0 : Int) := by rw [Int.tdiv_eq_ediv_of_nonneg (by omega)]; exact hq1
  have e0 : ¬ ((z : Int) = 0) := by omega
  have ez : ¬ (z = 0) := by omega
  have eq4 : IntKind.i64.wrap (m0 : Int) = (m0 : Int) := by rw [IntKind.wrap_i64]; omega
  have HM0 := Lib.hid hm0
  clear h hfit hd hR hLn hLl hall hlen hLs hL2 hL3 hm0
  go_enter Tryz.func25, Tryz.ntmps25
  go_wp2_with (go_at_call 46; refine HLC.out.mono ?_; rintro r w1 ⟨A, cA, rfl, ho1, hb1⟩)
  have HO1 := Lib.hid ho1
  have HB1 := Lib.hid hb1
  have HC1 := Lib.hid (HH.out.below hb1)
  have HG1 := Lib.hid (only_below hb1 (Nat.le_refl _) (some g))
  clear ho1 hb1
  go_loopw [5, 6, 8] (fun s5 s6 s17 wr => ∃ (i fo fr : Nat) (U : Nat → UInt8), i ≤ Ls.length ∧ s5 = .int .i64 fo ∧ s6 = .int .i64 fr ∧ s17 = .int .i64 i ∧ fo ≤ i ∧ fr ≤ i * 128 ∧ ChW wr p g n z E d t N c U ∧ w1.grownBy wr (some g) ∧ mlRun n z E (Ls.drop i) U fo fr = R) (fun _ _ s _ => Ls.length - (intOf s).toNat)
  case atStart => exact ⟨0, 0, 0, u, by omega, rfl, rfl, rfl, by omega, by omega, HC1.out, only_refl _ _, by rw [List.drop_zero]; exact HR.out⟩
  case round =>
    obtain ⟨i, fo, fr, U, hi, rfl, rfl, rfl, hfo, hfr, hc2, hg2, hrun⟩ := hrel
    have HC2 := Lib.hid hc2
    have HG2 := Lib.hid hg2
    have HRN := Lib.hid hrun
    have c1 := hc2.c1
    have HO2 := Lib.hid (HO1.out.grown hg2 (fun o e => .inl (by injection e with e; omega)))
    clear hc2 hg2 hrun
    by_cases hlt : i < Ls.length
    · have hl2 := HL2.out _ (getD_memLs hlt)
      have hl3 := HL3.out _ (getD_memLs hlt)
      have HLA := Lib.hid hl3.2
      have hl4 := hl3.1
      obtain ⟨qi, ci, hlk⟩ := HO2.out.look hgw hlt hl4
      have hdr := drop_getD hlt
      obtain ⟨l, hl⟩ : ∃ l, Ls.getD i [] = l := ⟨_, rfl⟩
      rw [hl] at hl2 hl3 HLA hl4 hlk hdr
      have HDR := Lib.hid hdr
      have hcl : l.length ≤ ci := by obtain ⟨_, _, _, _, _, _, _, h6⟩ := hlk; exact h6
      obtain ⟨q, o, rfl⟩ := hlk.at0
      have HLK := Lib.hid hlk
      obtain ⟨m, hm⟩ : ∃ m, min l.length m0 = m := ⟨_, rfl⟩
      have hmv : (min (l.length : Int) (m0 : Int)) = (m : Int) := by omega
      have hmp : 1 ≤ m := by omega
      have hml : m ≤ l.length := by omega
      have hmz : m * z ≤ 512 := Nat.le_trans (Nat.mul_le_mul_right z (by omega : m ≤ m0)) hm2
      have HKP := Lib.hid (fun a : Nat => (show keepN z l (some a) = m by unfold keepN; rw [HM0.out, hm]))
      have hmM := Lib.hid (show min l.length (512 / z) = m by rw [HM0.out, hm])
      have HVN := Lib.hid (fun fo fr => mlRun_none (n := n) (z := z) (E := E) (l := l) (Ls := Ls.drop (i + 1)) (U := U) (fo := fo) (fr := fr))
      have HVS := Lib.hid (fun a fo fr => mlRun_some (n := n) (z := z) (E := E) (l := l) (Ls := Ls.drop (i + 1)) (U := U) (fo := fo) (fr := fr) (a := a))
      have HVA := Lib.hid (specPlace_any HC2.out hN hcN hE HD.out HFIT.out)
      have hvlt := fun a => vacN_lt (n := n) (z := z) (U := U) (E := E) (a := a)
      clear hdr hl hlk
      obtain ⟨V, hV⟩ : ∃ V, vacN n z U E = V := ⟨_, rfl⟩
      rw [hV] at HVN HVS HVA hvlt
      clear hV
      go_upto_region 8 with (go_at_call 47; refine HVA.out.mono ?_; intro r w3 h3; obtain ⟨vx, vb, rfl, hvn, hvs, hb3⟩ := h3.parts)
      have HC3 := Lib.hid (HC2.out.below hb3)
      have HG3 := Lib.hid (only_trans HG2.out (only_below hb3 (Nat.le_refl _) (some g)))
      have HLK3 := Lib.hid (HLK.out.grown (only_below hb3 (Nat.le_refl _) (some g)))
      clear hb3 h3
      cases V with
      | none =>
        obtain rfl := hvn rfl
        clear hvn hvs
        have HN := Lib.hid (show (U, 0, 0, false) = R by rw [← HVN.out fo fr rfl, ← HDR.out, HRN.out])
        go_wp2_with fail
        refine bodyPost_ret (v := .tuple #[.int .i64 0, .int .i64 0, .bool false]) (by simp [results, Tryz.results25, go_sem]) rfl ?_
        rw [← HN.out]
        exact ⟨rfl, HC3.out, only_trans HG1.out HG3.out⟩
      | some a =>
        obtain ⟨rfl, rfl⟩ := hvs a rfl
        clear hvn hvs
        have c1 := HC3.out.c1
        obtain ⟨m1, hm1e⟩ : ∃ m1, m = m1 + 1 := ⟨m - 1, by omega⟩
        have hm1l : m1 < m := by omega
        have hm0p : 0 < m := by omega
        have em1 : IntKind.i64.wrap ((m : Int) - 1) = (m1 : Int) := by rw [IntKind.wrap_i64]; omega
        have HM1 := Lib.hid (show m - 1 = m1 by omega)
        have hci : m ≤ ci := by omega
        have em0 : ¬ ((m : Int) = 0) := by omega
        have hcell := HLK3.out.at.1
        clear hm1e hm
        go_upto_region 10 with fail
        go_cut [11] (fun s11 wx => s11 = .int .i64 (m : Int) ∧ wx = w3.drew)
        case first =>
          go_region_law (go_simp; go_at_call 48; refine (l00Min_any _ _ _).mono ?_; rintro e7 w7 ⟨rfl, rfl⟩)
          all_goals
            go_wp2_with fail
            go_meet
            exact ⟨rfl, rfl⟩
        case rest =>
        obtain ⟨rfl, rfl⟩ := hcut
        have HLK4 := Lib.hid (HLK3.out.grown (only_drew (only_refl w3 (some g))))
        cases a with
        | none =>
          have HRL := Lib.hid (specRelS_any (cl := ci) HC3.out.drew HLK4.out.at.2.1 rfl HLA.out (by omega) hNz hN)
          have HN := Lib.hid (show mlRun n z E (Ls.drop (i + 1)) (frU z U l) fo (fr + l.length) = R by rw [← HRN.out, HDR.out, HVS.out none fo fr rfl]; rfl)
          have ea : decide (atI none < 0) = true := rfl
          go_upto_region 14 with (go_at_call 49; refine HRL.out.mono ?_; rintro r4 w4 ⟨rfl, hc4, hg4⟩)
          have hcell4 := (HLK4.out.grown hg4).at.1
          have HC4 := Lib.hid hc4
          have HG4 := Lib.hid (only_trans (only_drew HG3.out) hg4)
          clear hc4 hg4 hcell
          go_wp2_with fail
          go_roundw
          case rel => exact ⟨i + 1, fo, fr + l.length, frU z U l, by omega, by rfl, by go_num, by go_num, by omega, by omega, HC4.out, HG4.out, HN.out⟩
          case measure => simp [intOf]; omega
        | some k =>
          have hk := hvlt k rfl
          have t1 := HFIT.out k hk
          obtain ⟨at', hat⟩ : ∃ a, d * z + k * 12 = a := ⟨_, rfl⟩
          have HAT := Lib.hid hat
          rw [hat] at t1
          obtain ⟨U2, hU2⟩ : ∃ U2, frU z U (l.drop m) = U2 := ⟨_, rfl⟩
          obtain ⟨x0, hx0⟩ : ∃ x, l.getD 0 0 = x := ⟨_, rfl⟩
          obtain ⟨y, hyy⟩ : ∃ y, l.getD m1 0 = y := ⟨_, rfl⟩
          obtain ⟨U3, hU3⟩ : ∃ U3, upd U2 (z + y) 255 = U3 := ⟨_, rfl⟩
          obtain ⟨NM, hNM⟩ : ∃ x, lstN n z U3 E = x := ⟨_, rfl⟩
          have hx8 : NM.size ≤ 8 := by rw [← hNM]; exact lstN_size _ _ _ _
          obtain ⟨M, hM⟩ : ∃ M, m * z = M := ⟨_, rfl⟩
          have hMi : (m : Int) * z = (M : Int) := by rw [← hM]; simp
          rw [hM] at hmz
          have hMw : IntKind.i64.wrap (M : Int) = (M : Int) := by rw [IntKind.wrap_i64]; omega
          have hx0n : x0 < n := by rw [← hx0]; exact HLA.out _ (getD_memL (by omega))
          have hyn : y < n := by rw [← hyy]; exact HLA.out _ (getD_memL (by omega))
          have HX0 := Lib.hid hx0
          have HYY := Lib.hid hyy
          have HLI := Lib.hid (show mlU n z E U l (some k) = putE U3 at' NM x0 M true false by unfold mlU; dsimp only; rw [hmM.out]; unfold lnkd; rw [HM1.out, hyy, hU2, hU3, hNM, hM, hx0, ← HD.out, hat])
          have HN := Lib.hid (show mlRun n z E (Ls.drop (i + 1)) (putE U3 at' NM x0 M true false) (fo + 1) (fr + (l.length - m)) = R by rw [← HRN.out, HDR.out, HVS.out (some k) fo fr rfl, HKP.out k, HLI.out]; rfl)
          have hisl := HLK4.out.at.2.1
          have hrlA := fun (e : ci = m) => specRelS_any (cl := 0) (A := some ⟨qi, 0, none⟩) (l := l.drop m) HC3.out.drew (fun j hj => absurd hj (by simp; omega)) (show (l.drop m).length = 0 by simp; omega) (fun x hx => HLA.out x (List.mem_of_mem_drop hx)) (by omega) hNz hN
          have hrlB := specRelS_any (cl := ci - m) HC3.out.drew (ISl.drop (m := m) hisl) (show (l.drop m).length = l.length - m by simp) (fun x hx => HLA.out x (List.mem_of_mem_drop hx)) (by omega) hNz hN
          rw [hU2, Nat.zero_add] at hrlB
          have HRB := Lib.hid hrlB
          have HRA := Lib.hid (fun e : ci = m => (by have := hrlA e; rw [hU2] at this; exact this))
          have HNM := Lib.hid hNM
          have HU3 := Lib.hid hU3
          have ea : decide (atI (some k) < 0) = false := by show decide ((k : Int) < 0) = false; simp
          clear hat hU2 hNM hM hx0 hyy hrlA hrlB hisl hU3
          go_upto_region 13 with fail
          go_cut [] (fun wx => ChW wx p g n z E d t N c U2 ∧ w3.drew.grownBy wx (some g))
          case first =>
            by_cases hcm : ci = m
            · have HRX := Lib.hid (HRA.out hcm)
              subst hcm
              go_wp2_with (go_at_call 49; refine HRX.out.mono ?_; rintro r4 w4 ⟨rfl, hc4, hg4⟩)
              go_meet
              exact ⟨hc4, hg4⟩
            · go_wp2_with (go_at_call 49; refine HRB.out.mono ?_; rintro r4 w4 ⟨rfl, hc4, hg4⟩)
              go_meet
              exact ⟨hc4, hg4⟩
          case rest =>
          obtain ⟨hc4, hg4⟩ := hcut
          have HC4 := Lib.hid hc4
          have HG4 := Lib.hid (only_trans (only_drew HG3.out) hg4)
          have HLK5 := Lib.hid (HLK4.out.grown hg4)
          have hcell5 := HLK5.out.at.1
          obtain ⟨_, _, hA0, _, _, hcc1⟩ := HLK5.out.at.2.1 m1 (by omega)
          injection hA0 with hA0
          injection hA0 with hA1 hA2 _
          subst hA1 hA2
          rw [HYY.out, Nat.zero_add] at hcc1
          clear hc4 hg4 hcell
          go_upto_region 17 with (go_at_call 50; refine (specSetLink_any y 255 HC4.out (by omega) (by omega)).mono ?_; rintro r5 w5 ⟨rfl, hw5⟩; have HW5 := Lib.hid hw5; clear hw5)
          have hg5 : wc.grownBy w5 (some g) := by rw [HW5.out]; exact only_drew (only_setCell (only_refl _ _) (.inl rfl) _)
          have hc5 : ChW w5 p g n z E d t N c U3 := by rw [HW5.out, ← HU3.out]; exact (HC4.out.put (z + y) 255 rfl).drew
          have HC5 := Lib.hid hc5
          have HG5 := Lib.hid (only_trans HG4.out hg5)
          have HLK6 := Lib.hid (HLK5.out.grown hg5)
          have HSP : Calls Tryz.prog 51 #[.pointer (some ⟨p, 0, none⟩), .string LOST] w5 fun r w' => ∃ b, r = .returned (.tuple #[.string NM, .bool b]) ∧ Below w5.heap.size w5 w' := by
            rw [← HNM.out]
            exact (specSpare_any LOST (by decide) hc5 hN hcN hE HD.out HFIT.out).mono fun r w5 h5 => spOut_getD h5
          have HSP := Lib.hid HSP
          clear hc5 hg5 hcell5 hcc1
          go_upto_region 18 with (go_at_call 51; refine HSP.out.mono ?_; rintro r w6 ⟨bsp, rfl, hb6⟩)
          have HC6 := Lib.hid (HC5.out.below hb6)
          have HG6 := Lib.hid (only_trans HG5.out (only_below hb6 (Nat.le_refl _) (some g)))
          have HLK7 := Lib.hid (HLK6.out.grown (only_below hb6 (Nat.le_refl _) (some g)))
          have hcell7 := HLK7.out.at.1
          obtain ⟨_, _, hA0, _, _, hcc0⟩ := HLK7.out.at.2.1 0 hl4
          injection hA0 with hA0
          injection hA0 with hA1 hA2 _
          subst hA1 hA2
          rw [HX0.out] at hcc0
          have c1 := HC6.out.c1
          clear hb6
          go_cut [11] (fun s11 wx => s11 = .int .i64 (m : Int) ∧ ChW wx p g n z E d t N c (putE U3 at' NM x0 M true false) ∧ w1.grownBy wx (some g))
          case first =>
            have HB7 := (Below.refl w6.heap.size w6).alloc (Nat.le_refl _) (.cells #[.string NM, .int .i64 x0, .int .i64 M, .bool true, .bool false] 82)
            have HSE := Lib.hid (specSetEntryG_any k at' NM x0 M true false hx8 (by omega) (by omega) (HC6.out.below HB7).drew (Rw.new w6 82 #[.string NM, .int .i64 x0, .int .i64 M, .bool true, .bool false]).drew HAT.out t1 (by omega) hcN (by omega))
            have HG7 := Lib.hid (only_drew (only_trans HG6.out (only_below HB7 (Nat.le_refl _) (some g))))
            clear HB7
            go_region_law (go_simp; go_at_call 52; refine HSE.out.mono ?_; rintro e7 w7 ⟨rfl, hc7, _, hg7⟩)
            all_goals
              go_wp2_with fail
              go_meet
              exact ⟨rfl, hc7, only_trans HG7.out hg7⟩
          case rest =>
          obtain ⟨rfl, hc8, hg8⟩ := hcut
          have HC8 := Lib.hid hc8
          have HG8 := Lib.hid hg8
          clear hcell7 hcc0 hg8 hc8
          go_wp2_with fail
          go_roundw
          case rel => exact ⟨i + 1, fo + 1, fr + (l.length - m), _, by omega, by go_num, by go_num, by go_num, by omega, by omega, HC8.out, HG8.out, HN.out⟩
          case measure => simp [intOf]; omega
    · obtain rfl : i = Ls.length := by omega
      have HN := Lib.hid (show (U, fo, fr, true) = R by rw [← HRN.out, List.drop_length]; rfl)
      clear hgw
      go_wp2_with fail
      refine bodyPost_ret (v := .tuple #[.int .i64 (fo : Int), .int .i64 (fr : Int), .bool true]) (by simp [results, Tryz.results25, go_sem]) rfl ?_
      rw [← HN.out]
      exact ⟨rfl, HC2.out, only_trans HG1.out HG2.out⟩
end Go.Proofs.YtapkckpjeoedaaaGreatDoor
