/-
  Disks of chains: the files without problems, the reference's side.
-/
import Derived.Test.YtapkckpjeoedaaaGreatDoorSndP
import Derived.Test.YtapkckpjeoedaaaGreatDoorFSort
import Derived.Test.YtapkckpjeoedaaaGreatDoorProbTopS
import Derived.Test.YtapkckpjeoedaaaGreatDoorReadTop
import Derived.Test.YtapkckpjeoedaaaGreatDoorAppR
import Derived.Deep.CutBlock
namespace Go.Proofs.YtapkckpjeoedaaaGreatDoor
open Go Go.ChangeShapes Go.WideShapes Go.ChangeAt Go.RowKit lib
set_option linter.unusedVariables false
set_option maxRecDepth 100000
theorem wout_cellF {B : Nat} {w : World} {Aq : Option Addr} {cq m : Nat} {xs : List Value} {f : Nat → List Nat × Nat × Nat} (h : WOut B w Aq cq m xs f) {i : Nat} (hi : i < m) :
    ∃ gw, gw < w.heap.size ∧ ∃ Aw cw, Aq = some ⟨gw, 0, none⟩ ∧ w.cell? ⟨gw, i * 3, none⟩ = some (.slice Aw (f i).1.length cw) ∧ w.cell? ⟨gw, i * 3 + 1, none⟩ = some (.int .i64 ((f i).2.1 : Int)) ∧ w.cell? ⟨gw, i * 3 + 2, none⟩ = some (.int .i64 ((f i).2.2 : Int)) := by
  obtain ⟨h1, A, c, h2⟩ := h
  obtain ⟨⟨x0, x1, x2⟩, _⟩ := h2 i hi
  have hlen := h1.1
  have hsl := own_sl h1
  have key : ∀ j q, j < 3 → xs[i * 3 + j]? = some q → ∃ g, Aq = some ⟨g, 0, none⟩ ∧ g < w.heap.size ∧ w.cell? ⟨g, i * 3 + j, none⟩ = some q := by
    intro j q hj hq
    obtain ⟨b, o, hA, hb, hc⟩ := hsl (i * 3 + j) (by omega)
    rcases h1.2 with ⟨hv, h0⟩ | ⟨g, cap, cur, hv, _⟩
    · omega
    · injection hv with hv
      rw [hv] at hA
      injection hA with hA
      injection hA with hA1 hA2
      subst hA1 hA2
      refine ⟨_, hv, hb, ?_⟩
      rw [Nat.zero_add] at hc
      rw [hc]
      dsimp only
      rw [List.getD_eq_getElem?_getD, hq]
      rfl
  obtain ⟨g, e0, hg, c0⟩ := key 0 _ (by omega) x0
  obtain ⟨g1, e1, _, c1⟩ := key 1 _ (by omega) x1
  obtain ⟨g2, e2, _, c2⟩ := key 2 _ (by omega) x2
  rw [e0] at e1 e2
  injection e1 with e1
  injection e1 with e1
  injection e2 with e2
  injection e2 with e2
  subst e1 e2
  exact ⟨g, hg, _, _, e0, c0, c1, c2⟩
theorem walkN_lenT {n z t : Nat} {U : Nat → UInt8} (k : Nat) (ht : t ≤ n) : (walkN n z t U k).1.length ≤ n := by
  unfold walkN
  split
  · exact (walkOf_ok _ _ _ _ _).1.len
  · exact Nat.zero_le _
theorem own_cap2 {w : World} {B e n c k : Nat} {A : Option Addr} {xs : List Value} (h : w.ownsRow B e k (.slice A n c) n xs) : n ≤ c := by
  rcases h.2 with ⟨hv, h0⟩ | ⟨g, cap, cur, hv, hb, hg, hnc, _⟩
  · omega
  · injection hv with _ _ h3
    omega
theorem infoFlS : (Tryz.prog.info? 54).map (fun i => (i.zero, i.size, i.bytes)) = some (some (.agg #[.string .empty, .string .empty]), 2, 32) := by kernel_rfl
theorem take_encF (L : List (ByteArray × ByteArray)) (i : Nat) (h : i ≤ L.length) : (List.range (i * 2)).map (fun (j : Nat) => Value.string (fAt L j)) = (L.take i).flatMap encF := by
  rw [encF_range, List.length_take, Nat.min_eq_left h]
  apply List.map_congr_left
  intro j hj
  have hj : j < i * 2 := by simpa using hj
  unfold fAt
  rw [List.getD_eq_getElem?_getD, List.getD_eq_getElem?_getD, List.getElem?_take_of_lt (show j / 2 < i by omega)]
theorem drop_encF (L : List (ByteArray × ByteArray)) (i : Nat) : (List.range ((L.length - i) * 2)).map (fun (j : Nat) => Value.string (fAt L (i * 2 + j))) = (L.drop i).flatMap encF := by
  rw [encF_range, List.length_drop]
  apply List.map_congr_left
  intro j hj
  unfold fAt
  rw [show (i * 2 + j) % 2 = j % 2 by omega, show (i * 2 + j) / 2 = i + j / 2 by omega, List.getD_eq_getElem?_getD, List.getD_eq_getElem?_getD, List.getElem?_drop]
theorem put_encF {L : List (ByteArray × ByteArray)} {i : Nat} {x : ByteArray × ByteArray} (h : i ≤ L.length) (hp : putF x L = L.take i ++ x :: L.drop i) :
    (((List.range (i * 2)).map (fun (j : Nat) => Value.string (fAt L j)) ++ [.string x.1, .string x.2]) ++ (List.range ((L.length - i) * 2)).map fun (j : Nat) => Value.string (fAt L (i * 2 + j))) = (putF x L).flatMap encF := by
  rw [take_encF L i h, drop_encF, hp, List.flatMap_append, List.flatMap_cons]
  simp [encF]
set_option maxHeartbeats 8000000 in
theorem specSound_any {w : World} {p g n z E d t N c : Nat} {u : Nat → UInt8} (h : ChW w p g n z E d t N c u) (hz : 8 ≤ z) (hz2 : z ≤ 64) (hn : n ≤ 128) (ht : t ≤ n) (hNz : z + n ≤ N) (hNe : N = n * z) (hN : N ≤ 4096) (hcN : N ≤ c) (hE : E ≤ 16) (hd : d = dirN n z) (hfit : ∀ k, k < E → d * z + k * 12 + 12 ≤ N) :
    Calls Tryz.prog 31 #[.pointer (some ⟨p, 0, none⟩)] w fun r w' => ∃ A c', r = .returned (.slice A (sndS n z t u E).length c') ∧ FileR w.heap.size w' A c' (sndS n z t u E) ∧ Below w.heap.size w w' := by
  have HFIT := Lib.hid hfit
  have HD := Lib.hid hd
  have hz0 : 0 < z := by omega
  have HWL := Lib.hid (fun k => walkN_lenT (n := n) (z := z) (t := t) (U := u) k ht)
  obtain ⟨i0, hi0, hi1, hi2, hi3⟩ := info_parts infoFlS
  have hal0 := (Below.refl w.heap.size w).alloc (Nat.le_refl _) (.cells #[] 54)
  have HC1 := Lib.hid (h.below hal0)
  have HB1 := Lib.hid hal0
  have HN1 := Lib.hid (own_nilE w 54 2 w.heap.size (Nat.le_refl _))
  clear h hfit hd hal0
  go_enter Tryz.func31, Tryz.ntmps31
  go_upto_region 2 with fail
  obtain ⟨q0, hq0⟩ : ∃ q, w.heap.size = q := ⟨_, rfl⟩
  rw [hq0] at HN1 ⊢
  have HQ0 := Lib.hid hq0
  generalize w.alloc (.cells #[] 54) = W1 at *
  clear hq0
  have HW := Lib.hid (specWalks_any HC1.out hn hNz hN hcN hE HD.out HFIT.out)
  have hz1 := HB1.out.size
  go_upto_region 3 with (go_at_call 67; refine HW.out.mono ?_; rintro r w2 ⟨Aq, cq, xs, rfl, _, hw2, hb2⟩)
  have HR2 := Lib.hid hw2
  have HB2 := Lib.hid (HB1.out.trans (hb2.mono hz1))
  have HC2 := Lib.hid (HC1.out.below hb2)
  have HN2 := Lib.hid (own_below HN1.out hb2)
  have hz2s := HB2.out.size
  clear hw2 hb2
  go_wp2_with fail
  go_loopw [3, 6] (fun s3 s6 wr => ∃ (k ga c' : Nat), k ≤ E ∧ s3 = .slice (some ⟨ga, 0, none⟩) (sndS n z t u k).length c' ∧ s6 = .int .i64 k ∧ FileR q0 wr (some ⟨ga, 0, none⟩) c' (sndS n z t u k) ∧ Below w.heap.size w wr ∧ WOut (W1.heap.size + 1) wr Aq cq E xs (walkN n z t u) ∧ ChW wr p g n z E d t N c u) (fun _ s _ => E - (intOf s).toNat)
  case atStart => exact ⟨0, _, 0, by omega, rfl, rfl, HN2.out, HB2.out, HR2.out, HC2.out⟩
  case round =>
    obtain ⟨k, ga, c', hk, rfl, rfl, ho, hb, hw, hc⟩ := hrel
    have HOR := Lib.hid ho
    have HBR := Lib.hid hb
    have HWR := Lib.hid hw
    have HCR := Lib.hid hc
    have hbz := hb.size
    have c2 := hc.c2
    by_cases hlt : k < E
    · have hln := sndL_len (n := n) (z := z) (t := t) (U := u) k
      rw [← sndS_len] at hln
      have HHIT := Lib.hid (fun h => sndS_hit (n := n) (z := z) (t := t) (U := u) (k := k) h)
      have HMISS := Lib.hid (fun h => sndS_miss (n := n) (z := z) (t := t) (U := u) (k := k) h)
      have hwl := HWL.out k
      obtain ⟨WK, hWK⟩ : ∃ WK, walkN n z t u k = WK := ⟨_, rfl⟩
      have HWK := Lib.hid hWK
      rw [hWK] at hwl
      obtain ⟨l, e, b⟩ := WK
      dsimp only at hwl
      obtain ⟨PR, hPR⟩ : ∃ PR, probsN n z u k (l, e, b) = PR := ⟨_, rfl⟩
      have HPR := Lib.hid hPR
      obtain ⟨L, hL⟩ : ∃ L, sndS n z t u k = L := ⟨_, rfl⟩
      rw [hL] at HOR HHIT HMISS hln ⊢
      have kE : (k : Int) < E := by omega
      have hfk := HFIT.out k hlt
      clear ho hb hWK hPR hL hw hc
      go_upto_region 7 with (go_at_call 68; refine (specEntry_any k _ (by first | exact HCR.out.drew | exact HCR.out) rfl hfk (by omega) hcN (by omega)).mono ?_; intro e2' w4 h2; obtain ⟨ok, nm, f, ln, us, de, hb0, he0, rfl, hb4, n8, f8, l8, hbf⟩ := entOut_parts h2)
      have hal := hb4.alloc hb4.size (.cells #[.string nm, .int .i64 f, .int .i64 ln, .bool us, .bool de] 82)
      have RE := Lib.hid (Rw.new w4 82 #[.string nm, .int .i64 f, .int .i64 ln, .bool us, .bool de])
      have HB5 := Lib.hid (HBR.out.trans (hal.mono hbz))
      have HC5 := Lib.hid (HCR.out.below hal)
      have HO5 := Lib.hid (HOR.out.below hal)
      have HW5 := Lib.hid (HWR.out.below hal)
      have HEK := Lib.hid (show entK n z u k = ⟨nm, f, ln, us, de⟩ by unfold entK; rw [← HD.out]; exact he0)
      have HOK := Lib.hid (show ok = true ↔ okE (fun i => u (dirN n z * z + k * 12 + i)) by rw [← HD.out]; exact hb0)
      obtain ⟨q2, hq2⟩ : ∃ q2, w4.heap.size = q2 := ⟨_, rfl⟩
      rw [hq2] at RE
      rw [hq2]
      clear h2 hb0 he0 hal hb4 hbf c2
      generalize hW5 : w4.alloc (.cells #[.string nm, .int .i64 f, .int .i64 ln, .bool us, .bool de] 82) = W5 at *
      clear hW5 hq2
      have hz5 := HB5.out.size
      have x3 := RE.out.cell 3
      have HSB := Lib.hid (show sndB n z t u k = (ok && us && PR.isEmpty) by
        unfold sndB
        rw [HWK.out, HPR.out, HEK.out]
        congr 2
        rw [Bool.eq_iff_iff, HOK.out]
        simp)
      have hcase : ok = false ∨ (ok = true ∧ us = false) ∨ (ok = true ∧ us = true) := by cases ok <;> cases us <;> simp
      rcases hcase with rfl | ⟨rfl, rfl⟩ | ⟨rfl, rfl⟩
      · have HN := Lib.hid (HMISS.out (by rw [HSB.out]; rfl))
        go_wp2_with fail
        go_roundw
        case rel => exact ⟨k + 1, ga, c', by omega, by rw [HN.out], by go_num, by rw [HN.out]; exact HO5.out, HB5.out, HW5.out, HC5.out⟩
        case measure => simp [intOf]; omega
      · have HN := Lib.hid (HMISS.out (by rw [HSB.out]; rfl))
        go_wp2_with fail
        go_roundw
        case rel => exact ⟨k + 1, ga, c', by omega, by rw [HN.out], by go_num, by rw [HN.out]; exact HO5.out, HB5.out, HW5.out, HC5.out⟩
        case measure => simp [intOf]; omega
      · obtain ⟨gw, hgw, Aw, cw, rfl, y0, y1, y2⟩ := wout_cellF HW5.out hlt
        rw [HWK.out] at y0 y1 y2
        dsimp only at y0 y1 y2
        have HIP := Lib.hid (specProblems_any HC5.out hz0 hz2 hN hcN hE HD.out HFIT.out k hlt l e b (by omega) hgw y0 y1 y2)
        rw [HPR.out] at HIP
        have hkn : (k : Int) * 3 = ((k * 3 : Nat) : Int) := by simp
        clear y0 y1 y2
        by_cases hpr : PR = []
        · subst hpr
          have HSBT := Lib.hid (show sndB n z t u k = true by rw [HSB.out]; rfl)
          have HN := Lib.hid (HHIT.out HSBT.out)
          have HF := Lib.hid (show sndF n z t u k = (nm, bstr ln (chB z u l)) by unfold sndF; rw [HEK.out, HWK.out])
          have hlz := sndB_len HSBT.out
          rw [HWK.out, HEK.out] at hlz
          dsimp only at hlz
          have hch := sndB_chain HSBT.out
          rw [HEK.out, HWK.out] at hch
          dsimp only at hch
          have HFI := Lib.hid (fun (W : World) (hW : ChW W p g n z E d t N c u) (hR : Rw W q2 82 #[.string nm, .int .i64 f, .int .i64 ln, .bool true, .bool de]) => specFile_any hW hR hz hz2 hn hNz hN hNe hcN f8 l8)
          rw [hch] at HFI
          have HLZ := Lib.hid hlz
          clear hlz hch
          go_upto_region 8 with (go_at_call 69; refine HIP.out.mono ?_; rintro r w6 ⟨A6, c6, rfl, _, hb6⟩)
          have RE6 := Lib.hid (RE.out.below hb6 RE.out.lt)
          have HB6 := Lib.hid (HB5.out.trans (hb6.mono hz5))
          have HC6 := Lib.hid (HC5.out.below hb6)
          have HW6 := Lib.hid (HW5.out.below hb6)
          have HO6 := Lib.hid (HO5.out.below hb6)
          have hz6 := HB6.out.size
          clear hb6 x3
          go_upto_region 9 with (go_at_call 70; refine (HFI.out _ (by first | exact HC6.out | exact HC6.out.drew) (by first | exact RE6.out | exact RE6.out.drew)).mono ?_; rintro r w7 ⟨hb7, _, _, h7⟩; have h7' := h7 rfl HLZ.out; clear h7; subst h7')
          have RE7 := Lib.hid (RE6.out.below hb7 RE6.out.lt)
          have HB7 := Lib.hid (HB6.out.trans (hb7.mono hz6))
          have HC7 := Lib.hid (HC6.out.below hb7)
          have HW7 := Lib.hid (HW6.out.below hb7)
          have HO7 := Lib.hid (HO6.out.below hb7)
          have hz7 := HB7.out.size
          clear hb7
          obtain ⟨D, hD⟩ : ∃ D, bstr ln (chB z u l) = D := ⟨_, rfl⟩
          rw [hD] at HF ⊢
          clear hD
          go_wp2_with fail
          obtain ⟨wo, rfl⟩ : ∃ wo : World, wo = w7 := ⟨_, rfl⟩
          go_loopw [11] (fun s11 wx => ∃ i : Nat, i ≤ L.length ∧ s11 = .int .i64 i ∧ (∀ j, j < i → ltB (L.getD j (⟨#[]⟩, ⟨#[]⟩)).1 nm = true) ∧ Below wo.heap.size wo wx) (fun s _ => L.length - (intOf s).toNat)
          case atStart => exact ⟨0, by omega, rfl, fun j hj => by omega, Below.refl _ _⟩
          case round =>
            obtain ⟨i, hi, rfl, hlts, hbx⟩ := hrel
            have HLTS := Lib.hid hlts
            have REX := Lib.hid (RE7.out.below hbx RE7.out.lt)
            have HOX := Lib.hid (HO7.out.below hbx)
            have HBX := Lib.hid (HB7.out.trans (hbx.mono hz7))
            have HCX := Lib.hid (HC7.out.below hbx)
            have HWX := Lib.hid (HW7.out.below hbx)
            have HBXO := Lib.hid hbx
            have hzx := HBX.out.size
            have v0 := REX.out.cell 0
            clear hlts hbx
            by_cases hgo : i < L.length ∧ ltB (L.getD i (⟨#[]⟩, ⟨#[]⟩)).1 nm = true
            · obtain ⟨hil, hlt2⟩ := hgo
              have HL2 := Lib.hid hlt2
              have hil' : (i : Int) < L.length := by omega
              obtain ⟨b3, o3, e3, _, h0, _⟩ := HOX.out.sl.two hil
              injection e3 with e3
              injection e3 with e3 e4 _
              subst e3 e4
              rw [fAt_name, Nat.zero_add] at h0
              obtain ⟨y, hy⟩ : ∃ y, (L.getD i (⟨#[]⟩, ⟨#[]⟩)).1 = y := ⟨_, rfl⟩
              rw [hy] at h0 hlt2
              unfold ltB at hlt2
              clear hy
              go_wp2_with fail
              go_quiet (fail)
              go_wp2_with fail
              go_roundw
              case rel => exact ⟨i + 1, by omega, by go_num, fun j hj => (by
                rcases Nat.lt_or_ge j i with h | h
                · exact HLTS.out j h
                · obtain rfl : j = i := by omega
                  exact HL2.out), HBXO.out.drewN _⟩
              case measure => simp [intOf]; omega
            · have HPUT := Lib.hid (show putF (nm, D) L = L.take i ++ (nm, D) :: L.drop i from putF_at L i hi HLTS.out (by
                by_cases h : i = L.length
                · exact .inl h
                · right
                  cases hb : ltB (L.getD i (⟨#[]⟩, ⟨#[]⟩)).1 nm
                  · rfl
                  · exact absurd ⟨by omega, hb⟩ hgo))
              have HGO := Lib.hid hgo
              clear hgo
              by_cases hil : i < L.length
              · have hlt2 : ltB (L.getD i (⟨#[]⟩, ⟨#[]⟩)).1 nm = false := by
                  cases hb : ltB (L.getD i (⟨#[]⟩, ⟨#[]⟩)).1 nm
                  · rfl
                  · exact absurd ⟨hil, hb⟩ HGO.out
                have hil' : (i : Int) < L.length := by omega
                obtain ⟨b3, o3, e3, _, h0, _⟩ := HOX.out.sl.two hil
                injection e3 with e3
                injection e3 with e3 e4 _
                subst e3 e4
                rw [fAt_name, Nat.zero_add] at h0
                obtain ⟨y, hy⟩ : ∃ y, (L.getD i (⟨#[]⟩, ⟨#[]⟩)).1 = y := ⟨_, rfl⟩
                rw [hy] at h0 hlt2
                unfold ltB at hlt2
                clear hy
                go_wp2_with fail
                go_quiet (fail)
                clear h0 hlt2 hil'
                rename_i nq
                have hbD := (Below.refl wr.heap.size wr).drewN nq
                have HO8 := Lib.hid (HOX.out.below hbD)
                have HB8 := Lib.hid (HBX.out.drewN nq)
                have HC8 := Lib.hid (HCX.out.below hbD)
                have HW8 := Lib.hid (HWX.out.below hbD)
                have RE8 := Lib.hid (REX.out.below hbD REX.out.lt)
                clear hbD v0
                generalize wr.drewN nq = W8 at *
                have hz8 := HB8.out.size
                have hnilE := own_nilE W8 54 2 W8.heap.size (Nat.le_refl _)
                have halE := (Below.refl W8.heap.size W8).alloc (Nat.le_refl _) (.cells #[] 54)
                have HSL := Lib.hid ((HO8.out.below halE).sl)
                have HNE := Lib.hid hnilE
                have HALE := Lib.hid halE
                have hcap := own_cap2 HO8.out
                have hi2' : (i : Int) ≤ c' := by omega
                have hi3' : i ≤ c' := by omega
                clear hnilE halE
                go_upto_region 14 with (at_builtin; refine wpList_appR rfl (.tmp 74) (.tmp 77) 29 rfl W8.heap.size 54 i0 _ 2 32 Tryz.underlying29 hi0 hi1 hi2 hi3 rfl (by omega) (.slice (some ⟨W8.heap.size, 0, none⟩) 0 0) 0 [] rfl HNE.out (some ⟨ga, 0, none⟩) i c' _ (fun j => .string (fAt L j)) rfl (HSL.out.less (by omega)) (fun _ => rfl) (by simp only [maxLen]; omega) (by omega) (by simp) ?_; intro A9 c9 w9 ho9 hg9 hn9)
                rw [Nat.zero_add, List.nil_append] at ho9
                have hb9 := HALE.out.grown hg9 (by simp) (own_lt HNE.out)
                have HO9 := Lib.hid ho9
                have RE9 := Lib.hid (RE8.out.below hb9 RE8.out.lt)
                have HBB9 := Lib.hid hb9
                have v0 := RE9.out.cell 0
                have hz9 : W8.heap.size ≤ w9.heap.size := hb9.size
                have hal9 := hb9.alloc hb9.size (.cells #[.string nm, .string D] 54)
                have HAL9 := Lib.hid hal9
                have HSN := Lib.hid ((Rw.new w9 54 #[.string nm, .string D]).sl (n := 1 * 2) (f := fun j => .string (if j = 0 then nm else D)) (by
                  intro j hj
                  have h2 : j = 0 ∨ j = 1 := by omega
                  rcases h2 with rfl | rfl <;> rfl))
                clear ho9 hg9 hn9 hb9 hal9
                go_upto_region 15 with (at_builtin; refine wpList_appR rfl (.tmp 79) (.tmp 84) 29 rfl W8.heap.size 54 i0 _ 2 32 Tryz.underlying29 hi0 hi1 hi2 hi3 rfl (by omega) (.slice A9 i c9) i _ rfl (HO9.out.alloc _) (some ⟨w9.heap.size, 0, none⟩) 1 1 _ (fun j => .string (if j = 0 then nm else D)) rfl HSN.out (fun _ => rfl) (by simp only [maxLen]; omega) (by omega) (by simp; omega) ?_; intro A10 c10 w10 ho10 hg10 hn10)
                have hb10 := HAL9.out.grown hg10 (by simp; omega) (own_lt HO9.out)
                have HO10 := Lib.hid ho10
                have HBB10 := Lib.hid hb10
                have HOO := Lib.hid (HO8.out.below hb10)
                have hz10 : W8.heap.size ≤ w10.heap.size := hb10.size
                clear ho10 hg10 hn10 hb10 v0
                have HPE := Lib.hid (put_encF hi HPUT.out)
                have HPL := Lib.hid (putF_len (x := (nm, D)) L)
                have HLN2 := Lib.hid (show i + 1 + (L.length - i) = L.length + 1 by omega)
                have hli : L.length - i ≤ c' - i := by omega
                by_cases hci : c' = i
                · have hci2 : (c' = i) = True := by simp [hci]
                  have HS11 := Lib.hid (show Sl w10 w10.heap.size (some ⟨ga, 0, none⟩) ((L.length - i) * 2) (fun j => .string (fAt L (i * 2 + j))) by
                    rw [show L.length - i = 0 by omega, Nat.zero_mul]; exact Sl.nil)
                  clear hci
                  have hqw : q0 ≤ W8.heap.size := by have := HQ0.out; omega
                  go_wp2_with (at_builtin; refine wpList_appR rfl (.tmp 86) (.tmp 89) 29 rfl W8.heap.size 54 i0 _ 2 32 Tryz.underlying29 hi0 hi1 hi2 hi3 rfl (by omega) (.slice A10 (i + 1) c10) (i + 1) _ rfl HO10.out (some ⟨ga, 0, none⟩) (L.length - i) (c' - i) _ (fun j => .string (fAt L (i * 2 + j))) rfl HS11.out (fun _ => rfl) (by simp only [maxLen]; omega) (by omega) (by omega) ?_; intro A11 c11 w11 ho11 hg11 hn11; obtain ⟨g11, cap11, hv11, _, _⟩ := ho11.form (by omega); injection hv11 with hA11 _ hC11; subst hA11 hC11)
                  have hb11 := HBB10.out.grown hg11 hz10 (own_lt HO10.out)
                  have HO11 := Lib.hid ho11
                  clear ho11 hg11 hn11
                  go_roundw
                  case rel =>
                    refine ⟨k + 1, g11, c11, by omega, by rw [HN.out, HF.out, HPL.out]; first | rfl | rw [HLN2.out], by go_num, ?_, HB8.out.trans (hb11.mono hz8), HW8.out.below hb11, HC8.out.below hb11⟩
                    have h11 := HO11.out
                    have e2 : (List.range (1 * 2)).map (fun j : Nat => Value.string (if j = 0 then nm else D)) = [.string nm, .string D] := rfl
                    rw [e2, HPE.out, HLN2.out] at h11
                    unfold FileR
                    rw [HN.out, HF.out, HPL.out]
                    exact own_base h11 hqw
                  case measure => simp [intOf]; omega
                · have hci2 : (c' = i) = False := by simp [hci]
                  have HS11 := Lib.hid (show Sl w10 w10.heap.size (some ⟨ga, i * 2, none⟩) ((L.length - i) * 2) (fun j => .string (fAt L (i * 2 + j))) by
                    have := Sl.drop (k := i * 2) HOO.out.sl
                    rw [Nat.zero_add, ← Nat.sub_mul] at this
                    exact this)
                  clear hci
                  have hqw : q0 ≤ W8.heap.size := by have := HQ0.out; omega
                  go_wp2_with (at_builtin; refine wpList_appR rfl (.tmp 86) (.tmp 89) 29 rfl W8.heap.size 54 i0 _ 2 32 Tryz.underlying29 hi0 hi1 hi2 hi3 rfl (by omega) (.slice A10 (i + 1) c10) (i + 1) _ rfl HO10.out (some ⟨ga, i * 2, none⟩) (L.length - i) (c' - i) _ (fun j => .string (fAt L (i * 2 + j))) rfl HS11.out (fun _ => rfl) (by simp only [maxLen]; omega) (by omega) (by omega) ?_; intro A11 c11 w11 ho11 hg11 hn11; obtain ⟨g11, cap11, hv11, _, _⟩ := ho11.form (by omega); injection hv11 with hA11 _ hC11; subst hA11 hC11)
                  have hb11 := HBB10.out.grown hg11 hz10 (own_lt HO10.out)
                  have HO11 := Lib.hid ho11
                  clear ho11 hg11 hn11
                  go_roundw
                  case rel =>
                    refine ⟨k + 1, g11, c11, by omega, by rw [HN.out, HF.out, HPL.out]; first | rfl | rw [HLN2.out], by go_num, ?_, HB8.out.trans (hb11.mono hz8), HW8.out.below hb11, HC8.out.below hb11⟩
                    have h11 := HO11.out
                    have e2 : (List.range (1 * 2)).map (fun j : Nat => Value.string (if j = 0 then nm else D)) = [.string nm, .string D] := rfl
                    rw [e2, HPE.out, HLN2.out] at h11
                    unfold FileR
                    rw [HN.out, HF.out, HPL.out]
                    exact own_base h11 hqw
                  case measure => simp [intOf]; omega
              · have hil' : decide ((i : Int) < L.length) = false := by simp; omega
                go_wp2_with fail
                go_quiet (fail)
                clear hil'
                rename_i nq
                have hbD := (Below.refl wr.heap.size wr).drewN nq
                have HO8 := Lib.hid (HOX.out.below hbD)
                have HB8 := Lib.hid (HBX.out.drewN nq)
                have HC8 := Lib.hid (HCX.out.below hbD)
                have HW8 := Lib.hid (HWX.out.below hbD)
                have RE8 := Lib.hid (REX.out.below hbD REX.out.lt)
                clear hbD v0
                generalize wr.drewN nq = W8 at *
                have hz8 := HB8.out.size
                have hnilE := own_nilE W8 54 2 W8.heap.size (Nat.le_refl _)
                have halE := (Below.refl W8.heap.size W8).alloc (Nat.le_refl _) (.cells #[] 54)
                have HSL := Lib.hid ((HO8.out.below halE).sl)
                have HNE := Lib.hid hnilE
                have HALE := Lib.hid halE
                have hcap := own_cap2 HO8.out
                have hi2' : (i : Int) ≤ c' := by omega
                have hi3' : i ≤ c' := by omega
                clear hnilE halE
                go_upto_region 14 with (at_builtin; refine wpList_appR rfl (.tmp 74) (.tmp 77) 29 rfl W8.heap.size 54 i0 _ 2 32 Tryz.underlying29 hi0 hi1 hi2 hi3 rfl (by omega) (.slice (some ⟨W8.heap.size, 0, none⟩) 0 0) 0 [] rfl HNE.out (some ⟨ga, 0, none⟩) i c' _ (fun j => .string (fAt L j)) rfl (HSL.out.less (by omega)) (fun _ => rfl) (by simp only [maxLen]; omega) (by omega) (by simp) ?_; intro A9 c9 w9 ho9 hg9 hn9)
                rw [Nat.zero_add, List.nil_append] at ho9
                have hb9 := HALE.out.grown hg9 (by simp) (own_lt HNE.out)
                have HO9 := Lib.hid ho9
                have RE9 := Lib.hid (RE8.out.below hb9 RE8.out.lt)
                have HBB9 := Lib.hid hb9
                have v0 := RE9.out.cell 0
                have hz9 : W8.heap.size ≤ w9.heap.size := hb9.size
                have hal9 := hb9.alloc hb9.size (.cells #[.string nm, .string D] 54)
                have HAL9 := Lib.hid hal9
                have HSN := Lib.hid ((Rw.new w9 54 #[.string nm, .string D]).sl (n := 1 * 2) (f := fun j => .string (if j = 0 then nm else D)) (by
                  intro j hj
                  have h2 : j = 0 ∨ j = 1 := by omega
                  rcases h2 with rfl | rfl <;> rfl))
                clear ho9 hg9 hn9 hb9 hal9
                go_upto_region 15 with (at_builtin; refine wpList_appR rfl (.tmp 79) (.tmp 84) 29 rfl W8.heap.size 54 i0 _ 2 32 Tryz.underlying29 hi0 hi1 hi2 hi3 rfl (by omega) (.slice A9 i c9) i _ rfl (HO9.out.alloc _) (some ⟨w9.heap.size, 0, none⟩) 1 1 _ (fun j => .string (if j = 0 then nm else D)) rfl HSN.out (fun _ => rfl) (by simp only [maxLen]; omega) (by omega) (by simp; omega) ?_; intro A10 c10 w10 ho10 hg10 hn10)
                have hb10 := HAL9.out.grown hg10 (by simp; omega) (own_lt HO9.out)
                have HO10 := Lib.hid ho10
                have HBB10 := Lib.hid hb10
                have HOO := Lib.hid (HO8.out.below hb10)
                have hz10 : W8.heap.size ≤ w10.heap.size := hb10.size
                clear ho10 hg10 hn10 hb10 v0
                have HPE := Lib.hid (put_encF hi HPUT.out)
                have HPL := Lib.hid (putF_len (x := (nm, D)) L)
                have HLN2 := Lib.hid (show i + 1 + (L.length - i) = L.length + 1 by omega)
                have hli : L.length - i ≤ c' - i := by omega
                by_cases hci : c' = i
                · have hci2 : (c' = i) = True := by simp [hci]
                  have HS11 := Lib.hid (show Sl w10 w10.heap.size (some ⟨ga, 0, none⟩) ((L.length - i) * 2) (fun j => .string (fAt L (i * 2 + j))) by
                    rw [show L.length - i = 0 by omega, Nat.zero_mul]; exact Sl.nil)
                  clear hci
                  have hqw : q0 ≤ W8.heap.size := by have := HQ0.out; omega
                  go_wp2_with (at_builtin; refine wpList_appR rfl (.tmp 86) (.tmp 89) 29 rfl W8.heap.size 54 i0 _ 2 32 Tryz.underlying29 hi0 hi1 hi2 hi3 rfl (by omega) (.slice A10 (i + 1) c10) (i + 1) _ rfl HO10.out (some ⟨ga, 0, none⟩) (L.length - i) (c' - i) _ (fun j => .string (fAt L (i * 2 + j))) rfl HS11.out (fun _ => rfl) (by simp only [maxLen]; omega) (by omega) (by omega) ?_; intro A11 c11 w11 ho11 hg11 hn11; obtain ⟨g11, cap11, hv11, _, _⟩ := ho11.form (by omega); injection hv11 with hA11 _ hC11; subst hA11 hC11)
                  have hb11 := HBB10.out.grown hg11 hz10 (own_lt HO10.out)
                  have HO11 := Lib.hid ho11
                  clear ho11 hg11 hn11
                  go_roundw
                  case rel =>
                    refine ⟨k + 1, g11, c11, by omega, by rw [HN.out, HF.out, HPL.out]; first | rfl | rw [HLN2.out], by go_num, ?_, HB8.out.trans (hb11.mono hz8), HW8.out.below hb11, HC8.out.below hb11⟩
                    have h11 := HO11.out
                    have e2 : (List.range (1 * 2)).map (fun j : Nat => Value.string (if j = 0 then nm else D)) = [.string nm, .string D] := rfl
                    rw [e2, HPE.out, HLN2.out] at h11
                    unfold FileR
                    rw [HN.out, HF.out, HPL.out]
                    exact own_base h11 hqw
                  case measure => simp [intOf]; omega
                · have hci2 : (c' = i) = False := by simp [hci]
                  have HS11 := Lib.hid (show Sl w10 w10.heap.size (some ⟨ga, i * 2, none⟩) ((L.length - i) * 2) (fun j => .string (fAt L (i * 2 + j))) by
                    have := Sl.drop (k := i * 2) HOO.out.sl
                    rw [Nat.zero_add, ← Nat.sub_mul] at this
                    exact this)
                  clear hci
                  have hqw : q0 ≤ W8.heap.size := by have := HQ0.out; omega
                  go_wp2_with (at_builtin; refine wpList_appR rfl (.tmp 86) (.tmp 89) 29 rfl W8.heap.size 54 i0 _ 2 32 Tryz.underlying29 hi0 hi1 hi2 hi3 rfl (by omega) (.slice A10 (i + 1) c10) (i + 1) _ rfl HO10.out (some ⟨ga, i * 2, none⟩) (L.length - i) (c' - i) _ (fun j => .string (fAt L (i * 2 + j))) rfl HS11.out (fun _ => rfl) (by simp only [maxLen]; omega) (by omega) (by omega) ?_; intro A11 c11 w11 ho11 hg11 hn11; obtain ⟨g11, cap11, hv11, _, _⟩ := ho11.form (by omega); injection hv11 with hA11 _ hC11; subst hA11 hC11)
                  have hb11 := HBB10.out.grown hg11 hz10 (own_lt HO10.out)
                  have HO11 := Lib.hid ho11
                  clear ho11 hg11 hn11
                  go_roundw
                  case rel =>
                    refine ⟨k + 1, g11, c11, by omega, by rw [HN.out, HF.out, HPL.out]; first | rfl | rw [HLN2.out], by go_num, ?_, HB8.out.trans (hb11.mono hz8), HW8.out.below hb11, HC8.out.below hb11⟩
                    have h11 := HO11.out
                    have e2 : (List.range (1 * 2)).map (fun j : Nat => Value.string (if j = 0 then nm else D)) = [.string nm, .string D] := rfl
                    rw [e2, HPE.out, HLN2.out] at h11
                    unfold FileR
                    rw [HN.out, HF.out, HPL.out]
                    exact own_base h11 hqw
                  case measure => simp [intOf]; omega
        · have HSBF := Lib.hid (show sndB n z t u k = false by rw [HSB.out]; cases PR with | nil => exact absurd rfl hpr | cons a r => rfl)
          have HN := Lib.hid (HMISS.out HSBF.out)
          have hpl : decide ((PR.length : Int) > 0) = true := by cases PR with | nil => exact absurd rfl hpr | cons a r => simp
          have hpl2 : 0 < PR.length := by cases PR with | nil => exact absurd rfl hpr | cons a r => simp
          clear hpr
          go_wp2_with (go_at_call 69; refine HIP.out.mono ?_; rintro r w6 ⟨A6, c6, rfl, _, hb6⟩)
          go_roundw
          case rel => exact ⟨k + 1, ga, c', by omega, by rw [HN.out], by go_num, by rw [HN.out]; exact HO5.out.below hb6, HB5.out.trans (hb6.mono hz5), HW5.out.below hb6, HC5.out.below hb6⟩
          case measure => simp [intOf]; omega
    · obtain rfl : k = E := by omega
      go_wp2_with fail
      go_ret
      exact ⟨_, c', rfl, HOR.out.base (by have := HQ0.out; omega), HBR.out⟩
end Go.Proofs.YtapkckpjeoedaaaGreatDoor
