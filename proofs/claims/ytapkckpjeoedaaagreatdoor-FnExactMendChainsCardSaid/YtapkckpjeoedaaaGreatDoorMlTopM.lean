/-
  Disks of chains: files made of lost chains, the program's mendLost.
-/
import Derived.Test.YtapkckpjeoedaaaGreatDoorMlTop
namespace Go.Proofs.YtapkckpjeoedaaaGreatDoor
open Go Go.ChangeShapes Go.WideShapes Go.ChangeAt Go.RowKit lib
set_option linter.unusedVariables false
set_option maxRecDepth 100000
open Classical in
set_option maxHeartbeats 4000000 in
theorem implMendLost_any {w : World} {p g n z E d t N c : Nat} {u : Nat → UInt8} (h : ChW w p g n z E d t N c u) (hn : n ≤ 128) (hz : 8 ≤ z) (hz2 : z ≤ 64) (hNz : z + n ≤ N) (hN : N ≤ 4096) (hcN : N ≤ c) (hE : E ≤ 16) (hd : d = dirN n z) (ht : t ≤ n) (hfit : ∀ k, k < E → d * z + k * 12 + 12 ≤ N) :
    Calls Tryz.prog 28 #[.pointer (some ⟨p, 0, none⟩)] w fun r w' => r = .returned (.tuple #[.int .i64 ((mlRun n z E (chainsC (lostN (ownsN n z t u E) u z t (n - t)) (lkN z u)) u 0 0).2.1 : Int), .int .i64 ((mlRun n z E (chainsC (lostN (ownsN n z t u E) u z t (n - t)) (lkN z u)) u 0 0).2.2.1 : Int), .bool (mlRun n z E (chainsC (lostN (ownsN n z t u E) u z t (n - t)) (lkN z u)) u 0 0).2.2.2]) ∧ ChW w' p g n z E d t N c (mlRun n z E (chainsC (lostN (ownsN n z t u E) u z t (n - t)) (lkN z u)) u 0 0).1 ∧ w.grownBy w' (some g) := by
  have hLn : ∀ x, x ∈ lostN (ownsN n z t u E) u z t (n - t) → x < n := fun x hx => by have := lostN_ltL _ _ hx; omega
  have hLl : (lostN (ownsN n z t u E) u z t (n - t)).length ≤ 128 := Nat.le_trans (lostN_le _ _ _ _ _) (by omega)
  have HLC := Lib.hid (implLostChains_any h hn hNz hN hcN hE hd ht hfit hLn hLl)
  have hall := chainsC_all (lk := lkN z u) hLn
  have hlen := sB_ok (lk := lkN z u) hLn 2
  have hL1 : (chainsC (lostN (ownsN n z t u E) u z t (n - t)) (lkN z u)).length ≤ n := hlen.bound.2
  have hL2 : ∀ l, l ∈ chainsC (lostN (ownsN n z t u E) u z t (n - t)) (lkN z u) → l.length ≤ n := hlen.each
  have hL3 : ∀ l, l ∈ chainsC (lostN (ownsN n z t u E) u z t (n - t)) (lkN z u) → 0 < l.length ∧ (∀ x, x ∈ l → x < n) := fun l hl => ⟨(hall l hl).1, fun x hx => hLn x ((hall l hl).2 x hx)⟩
  obtain ⟨Ls, hLs⟩ : ∃ Ls, chainsC (lostN (ownsN n z t u E) u z t (n - t)) (lkN z u) = Ls := ⟨_, rfl⟩
  rw [hLs] at HLC hL1 hL2 hL3 ⊢
  obtain ⟨R, hR⟩ : ∃ R, mlRun n z E Ls u 0 0 = R := ⟨_, rfl⟩
  rw [hR]
  have HR := Lib.hid hR
  have HL2 := Lib.hid hL2
  have HL3 := Lib.hid hL3
  have HH := Lib.hid h
  have HFIT := Lib.hid hfit
  have HD := Lib.hid hd
  have hgw := h.row.lt
  have hz0 : 0 < z := by omega
  obtain ⟨m0, hm0⟩ : ∃ m0, 512 / z = m0 := ⟨_, rfl⟩
  have hm1 : 1 ≤ m0 := by rw [← hm0]; exact (Nat.le_div_iff_mul_le hz0).2 (by omega)
  have hm2 : m0 * z ≤ 512 := by rw [← hm0]; exact Nat.div_mul_le_self _ _
  have hm3 : m0 ≤ 512 := by rw [← hm0]; exact Nat.div_le_self _ _
  have hq1 : (512 : Int) / (z : Int) = (m0 : Int) := by rw [← hm0]; simp
  have hq2 : Int.tdiv (512 : Int) (z : Int) = (m0 : Int) := by rw [Int.tdiv_eq_ediv_of_nonneg (by omega)]; exact hq1
  have e0 : ¬ ((z : Int) = 0) := by omega
  have ez : ¬ (z = 0) := by omega
  have eq4 : IntKind.i64.wrap (m0 : Int) = (m0 : Int) := by rw [IntKind.wrap_i64]; omega
  have HM0 := Lib.hid hm0
  clear h hfit hd hR hLn hLl hall hlen hLs hL2 hL3 hm0
  go_enter Tryz.func28, Tryz.ntmps28
  go_wp2_with (go_at_call 58; refine HLC.out.mono ?_; rintro r w1 ⟨A, cA, rfl, ho1, hb1⟩)
  have HO1 := Lib.hid ho1
  have HB1 := Lib.hid hb1
  have HC1 := Lib.hid (HH.out.below hb1)
  have HG1 := Lib.hid (only_below hb1 (Nat.le_refl _) (some g))
  clear ho1 hb1
  go_loopw [5, 6, 17] (fun s5 s6 s17 wr => ∃ (i fo fr : Nat) (U : Nat → UInt8), i ≤ Ls.length ∧ s5 = .int .i64 fo ∧ s6 = .int .i64 fr ∧ s17 = .int .i64 i ∧ fo ≤ i ∧ fr ≤ i * 128 ∧ ChW wr p g n z E d t N c U ∧ w1.grownBy wr (some g) ∧ mlRun n z E (Ls.drop i) U fo fr = R) (fun _ _ s _ => Ls.length - (intOf s).toNat)
  case atStart => exact ⟨0, 0, 0, u, by omega, rfl, rfl, rfl, by omega, by omega, HC1.out, only_refl _ _, by rw [List.drop_zero]; exact HR.out⟩
  case round =>
    obtain ⟨i, fo, fr, U, hi, rfl, rfl, rfl, hfo, hfr, hc2, hg2, hrun⟩ := hrel
    have HC2 := Lib.hid hc2
    have HG2 := Lib.hid hg2
    have HRN := Lib.hid hrun
    have c1 := hc2.c1
    have HO2 := Lib.hid (HO1.out.grown hg2 (fun o e => .inl (by injection e with e; omega)))
    clear hc2 hg2 hrun
    by_cases hlt : i < Ls.length
    · have hl2 := HL2.out _ (getD_memLs hlt)
      have hl3 := HL3.out _ (getD_memLs hlt)
      have HLA := Lib.hid hl3.2
      have hl4 := hl3.1
      obtain ⟨qi, ci, hlk⟩ := HO2.out.look hgw hlt hl4
      have hdr := drop_getD hlt
      obtain ⟨l, hl⟩ : ∃ l, Ls.getD i [] = l := ⟨_, rfl⟩
      rw [hl] at hl2 hl3 HLA hl4 hlk hdr
      have HDR := Lib.hid hdr
      obtain ⟨q, o, rfl, hqg, hqw, hcell, hisl, hcl⟩ := hlk
      have HISL := Lib.hid hisl
      obtain ⟨m, hm⟩ : ∃ m, min l.length m0 = m := ⟨_, rfl⟩
      have hmv : (min (l.length : Int) (m0 : Int)) = (m : Int) := by omega
      have hmp : 1 ≤ m := by omega
      have hml : m ≤ l.length := by omega
      have hmz : m * z ≤ 512 := Nat.le_trans (Nat.mul_le_mul_right z (by omega : m ≤ m0)) hm2
      have HKP := Lib.hid (fun a : Nat => (show keepN z l (some a) = m by unfold keepN; rw [HM0.out, hm]))
      have hmI := Lib.hid (fun a : Nat => mlU_impl (E := E) (a := a) (U := U) (n := n) hz0 (show min l.length (512 / z) = m by rw [HM0.out, hm]) (HLA.out _ (getD_memL (L := l) (i := m - 1) (by omega))))
      have HVN := Lib.hid (fun fo fr => mlRun_none (n := n) (z := z) (E := E) (l := l) (Ls := Ls.drop (i + 1)) (U := U) (fo := fo) (fr := fr))
      have HVS := Lib.hid (fun a fo fr => mlRun_some (n := n) (z := z) (E := E) (l := l) (Ls := Ls.drop (i + 1)) (U := U) (fo := fo) (fr := fr) (a := a))
      have HVA := Lib.hid (implVacant_any HC2.out hN hcN hE HD.out HFIT.out)
      have hvlt := fun a => vacN_lt (n := n) (z := z) (U := U) (E := E) (a := a)
      clear hdr hl hisl
      obtain ⟨V, hV⟩ : ∃ V, vacN n z U E = V := ⟨_, rfl⟩
      rw [hV] at HVN HVS HVA hvlt
      clear hV
      go_upto_region 6 with (go_at_call 59; refine HVA.out.mono ?_; intro r w3 h3; obtain ⟨vx, vb, rfl, hvn, hvs, hb3⟩ := h3.parts)
      have HC3 := Lib.hid (HC2.out.below hb3)
      have HG3 := Lib.hid (only_trans HG2.out (only_below hb3 (Nat.le_refl _) (some g)))
      have HLK3 := Lib.hid (HISL.out.grown (only_below hb3 (Nat.le_refl _) (some g)))
      clear hb3 h3 hcell
      cases V with
      | none =>
        obtain rfl := hvn rfl
        clear hvn hvs
        have HN := Lib.hid (show (U, 0, 0, false) = R by rw [← HVN.out fo fr rfl, ← HDR.out, HRN.out])
        go_wp2_with fail
        refine bodyPost_ret (v := .tuple #[.int .i64 0, .int .i64 0, .bool false]) (by simp [results, Tryz.results28, go_sem]) rfl ?_
        rw [← HN.out]
        exact ⟨rfl, HC3.out, only_trans HG1.out HG3.out⟩
      | some a =>
        obtain ⟨rfl, rfl⟩ := hvs a rfl
        clear hvn hvs
        have c1 := HC3.out.c1
        obtain ⟨m1, hm1e⟩ : ∃ m1, m = m1 + 1 := ⟨m - 1, by omega⟩
        have hm1l : m1 < m := by omega
        have hm0p : 0 < m := by omega
        have em1 : IntKind.i64.wrap ((m : Int) - 1) = (m1 : Int) := by rw [IntKind.wrap_i64]; omega
        have HM1 := Lib.hid (show m - 1 = m1 by omega)
        have hci : m ≤ ci := by omega
        clear hm1e hm
        go_upto_region 8 with fail
        go_cut [11] (fun s11 wx => s11 = .slice (some ⟨qi, 0, none⟩) m ci ∧ wx = w3.drew)
        case first =>
          go_region_law (go_simp; go_at_call 60; refine (sizeI_any _ _ _ _ (by omega)).mono ?_; rintro e7 w7 ⟨rfl, rfl⟩)
          all_goals
            go_wp2_with fail
            go_meet
            exact ⟨rfl, rfl⟩
        case rest =>
        obtain ⟨rfl, rfl⟩ := hcut
        cases a with
        | none =>
          have HRL := Lib.hid (implRelS_any (cl := ci) HC3.out.drew (HLK3.out.grown (only_drew (only_refl _ _))) rfl HLA.out (by omega) hNz hN)
          have HN := Lib.hid (show mlRun n z E (Ls.drop (i + 1)) (frU z U l) fo (fr + l.length) = R by rw [← HRN.out, HDR.out, HVS.out none fo fr rfl]; rfl)
          have ea : decide (atI none < 0) = true := rfl
          go_wp2_with (go_at_call 61; refine HRL.out.mono ?_; rintro r4 w4 ⟨rfl, hc4, hg4⟩)
          go_roundw
          case rel => exact ⟨i + 1, fo, fr + l.length, frU z U l, by omega, by rfl, by go_num, by go_num, by omega, by omega, hc4, only_trans (only_drew HG3.out) hg4, HN.out⟩
          case measure => simp [intOf]; omega
        | some k =>
          have hk := hvlt k rfl
          have t1 := HFIT.out k hk
          obtain ⟨at', hat⟩ : ∃ a, d * z + k * 12 = a := ⟨_, rfl⟩
          have HAT := Lib.hid hat
          rw [hat] at t1
          obtain ⟨U2, hU2⟩ : ∃ U2, frU z U (l.drop m) = U2 := ⟨_, rfl⟩
          obtain ⟨NM, hNM⟩ : ∃ x, lstN n z U2 E = x := ⟨_, rfl⟩
          have hx8 : NM.size ≤ 8 := by rw [← hNM]; exact lstN_size _ _ _ _
          obtain ⟨M, hM⟩ : ∃ M, m * z = M := ⟨_, rfl⟩
          have hMi : (m : Int) * z = (M : Int) := by rw [← hM]; simp
          rw [hM] at hmz
          have hMw : IntKind.i64.wrap (M : Int) = (M : Int) := by rw [IntKind.wrap_i64]; omega
          obtain ⟨x0, hx0⟩ : ∃ x, l.getD 0 0 = x := ⟨_, rfl⟩
          obtain ⟨y, hyy⟩ : ∃ y, l.getD m1 0 = y := ⟨_, rfl⟩
          have hx0n : x0 < n := by rw [← hx0]; exact HLA.out _ (getD_memL (by omega))
          have hyn : y < n := by rw [← hyy]; exact HLA.out _ (getD_memL (by omega))
          have HX0 := Lib.hid hx0
          have HYY := Lib.hid hyy
          have HLI := Lib.hid (show mlU n z E U l (some k) = upd (putE U2 at' NM x0 M true false) (z + y) 255 by rw [hmI.out k, hU2, hNM, hM, hx0, HM1.out, hyy, ← HD.out, hat])
          have HN := Lib.hid (show mlRun n z E (Ls.drop (i + 1)) (upd (putE U2 at' NM x0 M true false) (z + y) 255) (fo + 1) (fr + (l.length - m)) = R by rw [← HRN.out, HDR.out, HVS.out (some k) fo fr rfl, HKP.out k, HLI.out]; rfl)
          have hisl := (HLK3.out.grown (only_drew (only_refl _ _)))
          have hrlA := fun (e : ci = m) => implRelS_any (cl := 0) (A := some ⟨qi, 0, none⟩) (l := l.drop m) HC3.out.drew (fun j hj => absurd hj (by simp; omega)) (show (l.drop m).length = 0 by simp; omega) (fun x hx => HLA.out x (List.mem_of_mem_drop hx)) (by omega) hNz hN
          have hrlB := implRelS_any (cl := ci - m) HC3.out.drew (ISl.drop (m := m) hisl) (show (l.drop m).length = l.length - m by simp) (fun x hx => HLA.out x (List.mem_of_mem_drop hx)) (by omega) hNz hN
          rw [hU2, Nat.zero_add] at hrlB
          have HRB := Lib.hid hrlB
          have HRA := Lib.hid (fun e : ci = m => (by have := hrlA e; rw [hU2] at this; exact this))
          have HNM := Lib.hid hNM
          have ea : decide (atI (some k) < 0) = false := by show decide ((k : Int) < 0) = false; simp
          clear hat hU2 hNM hM hx0 hyy hrlA hrlB hisl
          go_upto_region 11 with fail
          go_cut [] (fun wx => ChW wx p g n z E d t N c U2 ∧ w3.drew.grownBy wx (some g))
          case first =>
            by_cases hcm : ci = m
            · have HRX := Lib.hid (HRA.out hcm)
              subst hcm
              go_wp2_with (go_at_call 61; refine HRX.out.mono ?_; rintro r4 w4 ⟨rfl, hc4, hg4⟩)
              go_meet
              exact ⟨hc4, hg4⟩
            · go_wp2_with (go_at_call 61; refine HRB.out.mono ?_; rintro r4 w4 ⟨rfl, hc4, hg4⟩)
              go_meet
              exact ⟨hc4, hg4⟩
          case rest =>
          obtain ⟨hc4, hg4⟩ := hcut
          have HC4 := Lib.hid hc4
          have HG4 := Lib.hid (only_trans (only_drew HG3.out) hg4)
          have HI4 := Lib.hid ((HLK3.out.grown (only_drew (only_refl _ _))).grown hg4)
          have HSP : Calls Tryz.prog 62 #[.pointer (some ⟨p, 0, none⟩), .string LOST] wc fun r w' => ∃ b, r = .returned (.tuple #[.string NM, .bool b]) ∧ Below wc.heap.size wc w' := by
            rw [← HNM.out]
            exact (implSpare_any LOST (by decide) hc4 hN hcN hE HD.out HFIT.out).mono fun r w5 h5 => spOut_getD h5
          have HSP := Lib.hid HSP
          have HPE := Lib.hid (fun W => implPut_any NM x0 M true false hx8 (by omega) (by omega) W)
          unfold entV at HPE
          unfold putE at HN
          generalize entB NM x0 M true false = V at *
          clear hc4 hg4
          go_upto_region 15 with (go_at_call 62; refine HSP.out.mono ?_; rintro r w5 ⟨bsp, rfl, hb5⟩)
          have HC5 := Lib.hid (HC4.out.below hb5)
          have HG5 := Lib.hid (only_trans HG4.out (only_below hb5 (Nat.le_refl _) (some g)))
          have HI5 := Lib.hid (HI4.out.grown (only_below hb5 (Nat.le_refl _) (some g)))
          obtain ⟨_, _, hA0, _, _, hcc0⟩ := HI5.out 0 hl4
          injection hA0 with hA0
          injection hA0 with hA1 hA2 _
          subst hA1 hA2
          rw [HX0.out] at hcc0
          have c1 := HC5.out.c1
          clear hb5
          go_cut [11] (fun s11 wx => s11 = .slice (some ⟨qi, 0, none⟩) m ci ∧ ChW wx p g n z E d t N c (putU U2 at' ((List.range 12).map V)) ∧ w1.grownBy wx (some g) ∧ ISl wx g (some ⟨qi, 0, none⟩) l)
          case first =>
            go_region_law (first
              | (go_simp; go_at_call 60; refine (sizeI_any _ _ _ _ (by omega)).mono ?_; rintro e7 w7 ⟨rfl, rfl⟩)
              | (go_simp; go_at_call 63; refine (implEntryBytes_any k at' HC5.out.drew HAT.out t1 (by omega) hcN (by omega)).mono ?_; rintro e8 w8 ⟨rfl, rfl⟩)
              | (go_simp; go_at_call 64; refine (HPE.out _).mono ?_; rintro e9 w9 ⟨g2, rfl, hb9, hg2, hbb9⟩; have HC9 := HC5.out.drew.drew.below hbb9)
              | (refine step_copy_bytes rfl (.tmp 63) (.tmp 77) 63 63 rfl 5 Tryz.underlying63 size8 g at' 12 (c - at') (by rfl) g2 12 12 V (by rfl) (by omega) hb9 (fun j hj => by rw [HC9.row.cell (by omega)]; rfl) (fun j hj => HC9.row.frozen (by omega)) ?_))
            all_goals
              have HC10 := Lib.hid (HC9.puts at' ((List.range 12).map V))
              have hB10 := only_trans (only_drew (only_drew (only_refl w5 (some g)))) (only_below hbb9 (Nat.le_refl _) (some g))
              have HB10 := Lib.hid (fun LL : List Value => only_setCells LL at' _ hB10)
              go_wp2_with fail
              go_meet
              exact ⟨rfl, HC10.out, only_trans HG5.out (HB10.out _), HI5.out.grown (HB10.out _)⟩
          case rest =>
          obtain ⟨rfl, hc6, hg6, his6⟩ := hcut
          obtain ⟨_, _, hA0, _, _, hcc1⟩ := his6 m1 (by omega)
          injection hA0 with hA0
          injection hA0 with hA1 hA2 _
          subst hA1 hA2
          rw [HYY.out, Nat.zero_add] at hcc1
          have gc := hc6.row.cell (i := z + y) (by omega)
          have gf := hc6.row.frozen (i := z + y) (by omega)
          have HC6 := Lib.hid hc6
          have HG6 := Lib.hid hg6
          clear hcc0 hg6
          go_wp2_with (go_at_call 65; refine (implLink_any y hc6 (by omega) (by omega)).mono ?_; rintro e3 w3 ⟨rfl, rfl⟩)
          go_roundw
          case rel => exact ⟨i + 1, fo + 1, fr + (l.length - m), _, by omega, by go_num, by go_num, by go_num, by omega, by omega, (HC6.out.put (z + y) 255 rfl).drew, only_drew (only_setCell HG6.out (.inl rfl) _), HN.out⟩
          case measure => simp [intOf]; omega
    · obtain rfl : i = Ls.length := by omega
      have HN := Lib.hid (show (U, fo, fr, true) = R by rw [← HRN.out, List.drop_length]; rfl)
      clear hgw
      go_wp2_with fail
      refine bodyPost_ret (v := .tuple #[.int .i64 (fo : Int), .int .i64 (fr : Int), .bool true]) (by simp [results, Tryz.results28, go_sem]) rfl ?_
      rw [← HN.out]
      exact ⟨rfl, HC2.out, only_trans HG1.out HG2.out⟩
end Go.Proofs.YtapkckpjeoedaaaGreatDoor
