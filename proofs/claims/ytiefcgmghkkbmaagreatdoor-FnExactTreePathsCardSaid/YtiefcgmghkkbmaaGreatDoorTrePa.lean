/-
  Trees: the paths of all files: the reference's side.
-/
import Derived.Test.YtiefcgmghkkbmaaGreatDoorTrePn
namespace Go.Proofs.YtiefcgmghkkbmaaGreatDoor
open Go Go.ChangeShapes Go.WideShapes Go.ChangeAt Go.RowKit lib
set_option linter.unusedVariables false
set_option linter.unusedSimpArgs false
set_option maxRecDepth 100000
/-- the paths from the first chains of a directory -/
noncomputable def aPk (u : Nat → Nat → UInt8) (pre : ByteArray) (d k : Nat) : List ByteArray := (List.range k).flatMap fun h => aPc u pre (u d (tTab d + h)).toNat
theorem aPk_succ (u : Nat → Nat → UInt8) (pre : ByteArray) (d k : Nat) : aPk u pre d (k + 1) = aPk u pre d k ++ aPc u pre (u d (tTab d + k)).toNat := by
  unfold aPk
  rw [List.range_succ, List.flatMap_append, List.flatMap_cons, List.flatMap_nil, List.append_nil]
theorem aPk_le (u : Nat → Nat → UInt8) (pre : ByteArray) (d k : Nat) : ∀ j, (aPk u pre d k).length ≤ (aPk u pre d (k + j)).length
  | 0 => Nat.le_refl _
  | j + 1 => by
    rw [← Nat.add_assoc, aPk_succ, List.length_append]
    have := aPk_le u pre d k j
    omega
set_option maxHeartbeats 32000000 in
theorem l18All_any {p n c : Nat} {A : Option Addr} {s : Nat → ByteArray} {u : Nat → Nat → UInt8} (hu : ∀ i, u i = byteAt (s i)) (hn : n ≤ 128) (h32 : ∀ i, i < n → (s i).size = 32) : ∀ (g : Nat) (w : World) (d : Nat) (pre : ByteArray) (gl cl B : Nat) (L : List ByteArray), SpR w p n A c s → d < n → DSnd n u g d (tTab d) → g ≤ 299 → pre.size + 10 * g ≤ 10000 → TxR B w gl cl L → B ≤ w.heap.size → L.length + (aP u pre d).length ≤ 100000 →
    Calls Tryz.prog 47 #[.pointer (some ⟨p, 0, none⟩), .int .i64 (d : Int), .string pre, .slice (some ⟨gl, 0, none⟩) L.length cl] w fun e w' => ∃ g' c', e = .returned (.slice (some ⟨g', 0, none⟩) (putL L (aP u pre d)).length c') ∧ TxR B w' g' c' (putL L (aP u pre d)) ∧ Below w.heap.size w w' := by
  intro g
  induction g with
  | zero => intro w d pre gl cl B L _ _ h; exact h.elim
  | succ G ih =>
    intro w d pre gl cl B L ht hdn hds hg hpre hr hBw hlen
    have HIH := Lib.hid ih
    have hT := tTab_le d
    have HTB := Lib.hid (fun W => specTable_any d W)
    have haP := aP_eq hg hds pre
    have haP2 : aP u pre d = aPk u pre d 8 := haP
    rw [haP2] at hlen ⊢
    have HKS := Lib.hid (aPk_succ u pre d)
    have HKL := Lib.hid (show ∀ k, k ≤ 8 → (aPk u pre d k).length ≤ (aPk u pre d 8).length from fun k hk => by
      have := aPk_le u pre d k (8 - k)
      rwa [show k + (8 - k) = 8 by omega] at this)
    have HDS := Lib.hid hds
    obtain ⟨t, ht'⟩ : ∃ t, tTab d = t := ⟨_, rfl⟩
    rw [ht'] at HTB hT HDS HKS
    obtain ⟨ba, oa, hA, _, _⟩ := ht.2 d hdn
    subst hA
    have hz := h32 d hdn
    obtain ⟨x, hx⟩ : ∃ x, s d = x := ⟨_, rfl⟩
    rw [hx] at hz
    have HX := Lib.hid hx
    have HG := Lib.hid (byteAt_get x)
    have hszx : ((x.size : Nat) : Int) = 32 := by omega
    have hdi : (d : Int) < (n : Int) := by omega
    have HT := Lib.hid ht
    have H32 := Lib.hid h32
    have HU := Lib.hid hu
    have HR0 := Lib.hid hr
    have hLl : L.length ≤ 100000 := by omega
    obtain ⟨m00, hm00⟩ : ∃ m, L.length = m := ⟨_, rfl⟩
    have HM00 := Lib.hid hm00
    rw [hm00]
    clear ht ht' hds hx haP haP2 hr ih hm00
    go_enter Tryz.func47, Tryz.ntmps47
    go_wp2_with fail
    go_loopw [3, 9] (fun s3 s9 wr => ∃ (h g c' : Nat), h ≤ 8 ∧ s9 = .int .i64 (h : Int) ∧ s3 = .slice (some ⟨g, 0, none⟩) (putL L (aPk u pre d h)).length c' ∧ TxR B wr g c' (putL L (aPk u pre d h)) ∧ Below w.heap.size w wr) (fun _ s _ => 8 - (intOf s).toNat)
    case atStart => exact ⟨0, gl, cl, by omega, rfl, by rw [show putL L (aPk u pre d 0) = L from rfl, HM00.out], HR0.out, Below.refl _ _⟩
    case round =>
      obtain ⟨h, g, c', hh, rfl, rfl, hr, hb⟩ := hrel
      have HR := Lib.hid hr
      have HB := Lib.hid hb
      have htr := HT.out.below hb
      have HTR := Lib.hid htr
      clear hr hb
      by_cases hlt : h < 8
      · have hhi : (h : Int) < 8 := by omega
        obtain ⟨l0, hl0, _, hl2⟩ := HDS.out h hlt
        have hls := HKS.out h
        have hle := HKL.out (h + 1) (by omega)
        rw [HU.out d, HX.out] at hl0 hls
        obtain ⟨q, hqe⟩ : ∃ q, t + h = q := ⟨_, rfl⟩
        have hth : q < x.size := by omega
        rw [hqe] at hl0 hls
        have hg' := HG.out q hth
        obtain ⟨b0, hb0⟩ : ∃ b, (byteAt x q).toNat = b := ⟨_, rfl⟩
        have hb1 : b0 < 256 := by rw [← hb0]; exact UInt8.toNat_lt _
        rw [hb0] at hl0 hls
        have eqb : IntKind.i64.wrap (b0 : Int) = (b0 : Int) := by rw [IntKind.wrap_i64]; omega
        have hqi : (q : Int) < 32 := by omega
        have eq1 : (t : Int) + (h : Int) = (q : Int) := by omega
        have eqw : IntKind.i64.wrap (q : Int) = (q : Int) := by rw [IntKind.wrap_i64]; omega
        obtain ⟨cur0, hc0⟩ : ∃ l, putL L (aPk u pre d h) = l := ⟨_, rfl⟩
        rw [hc0] at HR ⊢
        obtain ⟨T, hTT⟩ : ∃ T, putL L (aPk u pre d (h + 1)) = T := ⟨_, rfl⟩
        have hTl : T.length ≤ 100000 := by rw [← hTT, putL_len]; omega
        have hput : putL cur0 (l0.flatMap (aPx u pre)) = T := by
          rw [← hTT, hls, putL_app, hc0]
          unfold aPc
          rw [lkL_eq (show Lnk (nx2 u) b0 l0 from hl0)]
        have HTT := Lib.hid hTT
        have HL := Lib.hid (show ∃ l, Lnk (nx2 u) b0 l ∧ (∀ x ∈ l, x < n ∧ NameS (tnm (u x)) ∧ (u x 0 = 4 → DSnd n u G x (tTab x))) ∧ putL cur0 (l.flatMap (aPx u pre)) = T from ⟨l0, hl0, fun x hx => ⟨(hl2 x hx).1, (hl2 x hx).2.2.2.1.2.1, fun q4 => by
          have hx0 := Lnk.ne hl0 x hx
          unfold tTab
          rw [if_neg hx0]
          exact (hl2 x hx).2.2.2.2.2.1 q4⟩, hput⟩)
        have c1 := htr.ptr
        obtain ⟨_, _, e1, _, hca⟩ := htr.2 d hdn
        simp only [Option.some.injEq, Addr.mk.injEq, and_true] at e1
        obtain ⟨rfl, rfl⟩ := e1
        dsimp only at hca
        rw [HX.out] at hca
        clear hl0 hl2 hls hle hqe hput hTT hc0 htr
        obtain ⟨m0, hm0⟩ : ∃ m, cur0.length = m := ⟨_, rfl⟩
        have HM0 := Lib.hid hm0
        rw [hm0]
        clear hm0
        go_wp2_with fail
        go_cut [10] (fun s10 wx => s10 = .int .i64 (b0 : Int) ∧ wx = wr.drew)
        case first =>
          go_region_law (first | (go_simp; go_at_call 69; refine (HTB.out _).mono ?_; rintro e w' ⟨rfl, hw'⟩; rw [← hw']; clear hw' w'))
          all_goals
            go_wp2_with fail
            go_meet
            exact ⟨rfl, rfl⟩
        case rest =>
          obtain ⟨rfl, rfl⟩ := hcut
          have HR1 := Lib.hid (show TxR B wr.drew g c' cur0 from HR.out.below (Below.refl _ _).drew)
          have HB1' := Lib.hid (HB.out.drew)
          clear c1 hca
          generalize wr.drew = W1 at *
          go_wp2_with fail
          go_loopw [3, 10] (fun s3 s10 wy => ∃ (b g2 c2 : Nat) (l : List Nat) (cur : List ByteArray), b < 256 ∧ s10 = .int .i64 (b : Int) ∧ Lnk (nx2 u) b l ∧ (∀ x ∈ l, x < n ∧ NameS (tnm (u x)) ∧ (u x 0 = 4 → DSnd n u G x (tTab x))) ∧ putL cur (l.flatMap (aPx u pre)) = T ∧ s3 = .slice (some ⟨g2, 0, none⟩) cur.length c2 ∧ TxR B wy g2 c2 cur ∧ Below w.heap.size w wy) (fun _ s _ => (lkL (nx2 u) (intOf s).toNat).length)
          case atStart =>
            obtain ⟨l, h1, h2, h3⟩ := HL.out
            exact ⟨b0, g, c', l, cur0, hb1, rfl, h1, h2, h3, by rw [HM0.out], HR1.out, HB1'.out⟩
          case round =>
            obtain ⟨b, g2, c2, l, cur, hb, rfl, h1, h2, h3, rfl, hr, hbw⟩ := hrel
            have HB2 := Lib.hid hbw
            have HR2 := Lib.hid hr
            have HTY := Lib.hid (HT.out.below hbw)
            have hcl : cur.length + (l.flatMap (aPx u pre)).length = T.length := by rw [← h3, putL_len]
            have hcm : cur.length ≤ 100000 := by omega
            obtain ⟨m2, hm2⟩ : ∃ m, cur.length = m := ⟨_, rfl⟩
            have HM2 := Lib.hid hm2
            rw [hm2] at hcm ⊢
            clear hr hbw hm2
            by_cases h0 : b = 0
            · subst h0
              obtain rfl := h1.zero
              have h4 : cur = T := h3
              clear h1 h2 h3 hcl
              have H4 := Lib.hid h4
              clear h4
              go_wp2_with fail
              go_roundw
              case rel =>
                have e4 := H4.out
                subst e4
                exact ⟨h + 1, g2, c2, by omega, by go_num, by rw [HTT.out, HM2.out], by rw [HTT.out]; exact HR2.out, HB2.out⟩
              case measure => simp [intOf]; omega
            · obtain ⟨l', rfl, h5⟩ := h1.step h0
              obtain ⟨hbn, hnok, hdir⟩ := h2 b List.mem_cons_self
              have k1 := HTY.out.ptr
              obtain ⟨_, _, e1, _, k2⟩ := HTY.out.2 b hbn
              simp only [Option.some.injEq, Addr.mk.injEq, and_true] at e1
              obtain ⟨rfl, rfl⟩ := e1
              dsimp only at k2
              have hzb := H32.out b hbn
              have hub := HU.out b
              have HNA := Lib.hid (fun W => specName_any (s b) hzb W)
              have hns : tnmS (byteAt (s b)) = tnm (u b) := by rw [← hub]; exact tnmS_ok hnok
              rw [hns] at HNA
              obtain ⟨xb, hxb⟩ : ∃ x, s b = x := ⟨_, rfl⟩
              have HXB := Lib.hid hxb
              rw [hxb] at k2 hzb hub HNA
              have hz2 : 2 < xb.size := by omega
              have hg2 := byteAt_get xb 2 hz2
              have hz0 : 0 < xb.size := by omega
              have hg0 := byteAt_get xb 0 hz0
              obtain ⟨b2, hb2⟩ : ∃ b', (byteAt xb 2).toNat = b' := ⟨_, rfl⟩
              have hb3 : b2 < 256 := by rw [← hb2]; exact UInt8.toNat_lt _
              have eqb2 : IntKind.i64.wrap (b2 : Int) = (b2 : Int) := by rw [IntKind.wrap_i64]; omega
              have hnx : nx2 u b = b2 := by unfold nx2; rw [hub]; exact hb2
              rw [hnx] at h5
              have hszb : ((xb.size : Nat) : Int) = 32 := by omega
              have t0 : ((b : Int) != 0) = true := by simp; omega
              have hki : (b : Int) < (n : Int) := by omega
              have hysz : (tnm (u b)).size ≤ 8 := by rw [tnm_size]; exact tN_le _
              have h6 : putL (putL cur (aPx u pre b)) (l'.flatMap (aPx u pre)) = T := by
                rw [← h3, List.flatMap_cons, putL_app]
              rw [List.flatMap_cons, List.length_append] at hcl
              obtain ⟨y0, hy0⟩ : ∃ y, (byteAt xb 0).toNat = y := ⟨_, rfl⟩
              have hy2 : y0 < 256 := by rw [← hy0]; exact UInt8.toNat_lt _
              have HG2 := Lib.hid (show ∀ x ∈ l', x < n ∧ NameS (tnm (u x)) ∧ (u x 0 = 4 → DSnd n u G x (tTab x)) from fun x hx => h2 x (List.mem_cons_of_mem _ hx))
              have H5 := Lib.hid h5
              have H1 := Lib.hid h1
              have hadd : ∀ W : World, (Op.stringOp .add pre (tnm (u b))).run Tryz.prog W = .ok (.string (pre ++ tnm (u b))) W := fun W => run_string_add_sum _ _ _ (by omega)
              have hpz : (pre ++ tnm (u b)).size ≤ pre.size + 8 := by rw [ByteArray.size_append]; omega
              by_cases h4 : u b 0 = 4
              · have hy4 : y0 = 4 := by rw [← hy0, ← hub, h4]; first | done | rfl
                have t4 : ((y0 : Int) == 4) = true := by simp; omega
                have hln : aPx u pre b = aP u (pre ++ tnm (u b) ++ slashB) b := if_pos h4
                rw [hln] at h6 hcl
                have HDB := Lib.hid (hdir h4)
                obtain ⟨y, hy⟩ : ∃ y, tnm (u b) = y := ⟨_, rfl⟩
                rw [hy] at HNA hysz h6 hcl hadd hpz
                obtain ⟨v, hv⟩ : ∃ v, pre ++ y = v := ⟨_, rfl⟩
                rw [hv] at hadd h6 hcl hpz
                have hadd2 : ∀ W : World, (Op.stringOp .add v ⟨#[47]⟩).run Tryz.prog W = .ok (.string (v ++ ⟨#[47]⟩)) W := fun W => run_string_add_sum _ _ _ (by have : (⟨#[47]⟩ : ByteArray).size = 1 := rfl; omega)
                have hvz : (v ++ (⟨#[47]⟩ : ByteArray)).size ≤ pre.size + 9 := by rw [ByteArray.size_append]; have : (⟨#[47]⟩ : ByteArray).size = 1 := rfl; omega
                obtain ⟨z, hz'⟩ : ∃ z, v ++ (⟨#[47]⟩ : ByteArray) = z := ⟨_, rfl⟩
                rw [hz'] at hadd2 hvz
                have hz'' : v ++ slashB = z := hz'
                rw [hz''] at h6 hcl
                have H6 := Lib.hid h6
                have hcl2 : cur.length + (aP u z b).length ≤ 100000 := by omega
                clear h1 h2 h3 h5 hub hnok hy h6 hns hnx hxb hy4 h4 hln hz' hz'' hdir hv hcl
                go_upto_region 9 with (go_at_call 71; refine (HNA.out _).mono ?_; rintro e w3 ⟨rfl, hb3'⟩; have hw3 := HTY.out.below hb3'; have k1 := hw3.ptr; obtain ⟨_, _, e1, _, k2⟩ := hw3.2 b hbn; simp only [Option.some.injEq, Addr.mk.injEq, and_true] at e1; obtain ⟨rfl, rfl⟩ := e1; dsimp only at k2; rw [HXB.out] at k2)
                have HB3 := Lib.hid (HB2.out.trans (hb3'.mono HB2.out.size))
                have HPU := Lib.hid (HIH.out w3 b z g2 c2 B cur hw3 hbn HDB.out (by omega) (by omega) (HR2.out.below hb3') (by have := HB3.out.size; omega) hcl2)
                rw [HM2.out] at HPU
                clear hb3' k1 k2
                go_upto_region 6 with (go_at_call 47; refine HPU.out.mono ?_; rintro e w4 ⟨g4, c4, rfl, hr4, hb4⟩; have hw4 := hw3.below hb4; have k1 := hw4.ptr; obtain ⟨_, _, e1, _, k2⟩ := hw4.2 b hbn; simp only [Option.some.injEq, Addr.mk.injEq, and_true] at e1; obtain ⟨rfl, rfl⟩ := e1; dsimp only at k2; rw [HXB.out] at k2)
                have HR4 := Lib.hid hr4
                have HB4 := Lib.hid (HB3.out.trans (hb4.mono HB3.out.size))
                clear hr4 hb4 hw3 hw4
                go_wp2_with fail
                go_roundw
                case rel => exact ⟨b2, g4, c4, l', putL cur (aP u z b), hb3, by go_num, H5.out, HG2.out, H6.out, rfl, HR4.out, HB4.out⟩
                case measure =>
                  show (lkL (nx2 u) b2).length < (lkL (nx2 u) b).length
                  rw [lkL_eq H1.out, lkL_eq H5.out, List.length_cons]
                  omega
              · have hy4 : y0 ≠ 4 := fun e => h4 ((u8_is 4 (by rw [hub]; exact hy0)).2 e)
                have t4 : ((y0 : Int) == 4) = false := by simp; omega
                have hln : aPx u pre b = [pre ++ tnm (u b)] := if_neg h4
                rw [hln] at h6
                obtain ⟨y, hy⟩ : ∃ y, tnm (u b) = y := ⟨_, rfl⟩
                rw [hy] at HNA hysz h6 hadd
                obtain ⟨z, hv⟩ : ∃ v, pre ++ y = v := ⟨_, rfl⟩
                rw [hv] at hadd h6
                have H6 := Lib.hid (show putL (putS z cur) (l'.flatMap (aPx u pre)) = T from h6)
                clear h1 h2 h3 h5 hub hnok hy h6 hns hnx hxb h4 hln hdir hv hcl hpz
                go_upto_region 10 with (go_at_call 71; refine (HNA.out _).mono ?_; rintro e w3 ⟨rfl, hb3'⟩; have hw3 := HTY.out.below hb3'; have k1 := hw3.ptr; obtain ⟨_, _, e1, _, k2⟩ := hw3.2 b hbn; simp only [Option.some.injEq, Addr.mk.injEq, and_true] at e1; obtain ⟨rfl, rfl⟩ := e1; dsimp only at k2; rw [HXB.out] at k2)
                have HPU := Lib.hid (l18Put_any (x := z) (HR2.out.below hb3') (by rw [HM2.out]; omega))
                rw [HM2.out] at HPU
                have HB3 := Lib.hid (HB2.out.trans (hb3'.mono HB2.out.size))
                clear hb3' k1 k2
                go_upto_region 6 with (go_at_call 94; refine HPU.out.mono ?_; rintro e w4 ⟨g4, c4, rfl, hr4, hb4⟩; have hw4 := hw3.below hb4; have k1 := hw4.ptr; obtain ⟨_, _, e1, _, k2⟩ := hw4.2 b hbn; simp only [Option.some.injEq, Addr.mk.injEq, and_true] at e1; obtain ⟨rfl, rfl⟩ := e1; dsimp only at k2; rw [HXB.out] at k2)
                have HR4 := Lib.hid (hr4.base (show B ≤ w3.heap.size by have := HB3.out.size; omega))
                have HB4 := Lib.hid (HB3.out.trans (hb4.mono HB3.out.size))
                clear hr4 hb4 hw3 hw4
                go_wp2_with fail
                go_roundw
                case rel => exact ⟨b2, g4, c4, l', putS z cur, hb3, by go_num, H5.out, HG2.out, H6.out, rfl, HR4.out, HB4.out⟩
                case measure =>
                  show (lkL (nx2 u) b2).length < (lkL (nx2 u) b).length
                  rw [lkL_eq H1.out, lkL_eq H5.out, List.length_cons]
                  omega
      · obtain rfl : h = 8 := by omega
        go_wp2_with fail
        go_ret
        exact ⟨g, c', rfl, HR.out, HB.out⟩
end Go.Proofs.YtiefcgmghkkbmaaGreatDoor
