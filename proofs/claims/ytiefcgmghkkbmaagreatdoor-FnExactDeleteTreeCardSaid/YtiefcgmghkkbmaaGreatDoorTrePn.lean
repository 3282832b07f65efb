/-
  Trees: the names of a directory in order: the reference's side.
-/
import Derived.Test.YtiefcgmghkkbmaaGreatDoorTrePt
namespace Go.Proofs.YtiefcgmghkkbmaaGreatDoor
open Go Go.ChangeShapes Go.WideShapes Go.ChangeAt Go.RowKit lib
set_option linter.unusedVariables false
set_option linter.unusedSimpArgs false
set_option maxRecDepth 100000
theorem TxR.base {B B' c g : Nat} {w : World} {L : List ByteArray} (h : TxR B w g c L) (hB : B' ≤ B) : TxR B' w g c L := own_base h hB
set_option maxHeartbeats 16000000 in
theorem l18Names_any {w : World} {p n c d : Nat} {A : Option Addr} {s : Nat → ByteArray} {u : Nat → Nat → UInt8} (hu : ∀ i, u i = byteAt (s i)) (ht : SpR w p n A c s) (hn : n ≤ 128) (h32 : ∀ i, i < n → (s i).size = 32) (hd : DD n u d) :
    Calls Tryz.prog 50 #[.pointer (some ⟨p, 0, none⟩), .int .i64 (d : Int)] w fun e w' => ∃ g c', e = .returned (.slice (some ⟨g, 0, none⟩) (putL [] (lsD u d 8)).length c') ∧ TxR w.heap.size w' g c' (putL [] (lsD u d 8)) ∧ Below w.heap.size w w' := by
  have hdn := hd.1
  have hT := tTab_le d
  have HTB := Lib.hid (fun W => specTable_any d W)
  have HCH := Lib.hid (fun (k : Nat) (hk : k < 8) => hd.chain hk)
  have HLS := Lib.hid (lsD_succ u d)
  have HLE := Lib.hid (lsD_len hd)
  obtain ⟨t, ht'⟩ : ∃ t, tTab d = t := ⟨_, rfl⟩
  rw [ht'] at HTB hT HCH HLS
  obtain ⟨ba, oa, hA, _, _⟩ := ht.2 d hdn
  subst hA
  have hz := h32 d hdn
  obtain ⟨x, hx⟩ : ∃ x, s d = x := ⟨_, rfl⟩
  rw [hx] at hz
  have HX := Lib.hid hx
  have HG := Lib.hid (byteAt_get x)
  have hszx : ((x.size : Nat) : Int) = 32 := by omega
  have hdi : (d : Int) < (n : Int) := by omega
  have hb1 := (Below.refl w.heap.size w).alloc (Nat.le_refl _) (.cells #[] 9)
  have HB1 := Lib.hid hb1
  have HO1 := Lib.hid (show TxR w.heap.size (w.alloc (.cells #[] 9)) w.heap.size 0 (putL [] (lsD u d 0)) from own_nilE w 9 1 w.heap.size (Nat.le_refl _))
  have HT := Lib.hid ht
  have H32 := Lib.hid h32
  have HU := Lib.hid hu
  clear ht ht' hd hx h32 hu hb1
  go_enter Tryz.func50, Tryz.ntmps50
  go_wp2_with fail
  go_loopw [5, 6] (fun s5 s6 wr => ∃ (h g c' : Nat), h ≤ 8 ∧ s6 = .int .i64 (h : Int) ∧ s5 = .slice (some ⟨g, 0, none⟩) (putL [] (lsD u d h)).length c' ∧ TxR w.heap.size wr g c' (putL [] (lsD u d h)) ∧ Below w.heap.size w wr) (fun _ s _ => 8 - (intOf s).toNat)
  case atStart => exact ⟨0, w.heap.size, 0, by omega, rfl, rfl, HO1.out, HB1.out⟩
  case round =>
    obtain ⟨h, g, c', hh, rfl, rfl, hr, hb⟩ := hrel
    have HR := Lib.hid hr
    have HB := Lib.hid hb
    have htr := HT.out.below hb
    have HTR := Lib.hid htr
    clear hr hb
    by_cases hlt : h < 8
    · have hhi : (h : Int) < 8 := by omega
      obtain ⟨l0, hl0, _, hl2⟩ := HCH.out h hlt
      have hls := HLS.out h
      have hle := HLE.out (h + 1) (by omega)
      rw [HU.out d, HX.out] at hl0 hls
      obtain ⟨q, hqe⟩ : ∃ q, t + h = q := ⟨_, rfl⟩
      have hth : q < x.size := by omega
      rw [hqe] at hl0 hls
      have hg := HG.out q hth
      obtain ⟨b0, hb0⟩ : ∃ b, (byteAt x q).toNat = b := ⟨_, rfl⟩
      have hb1 : b0 < 256 := by rw [← hb0]; exact UInt8.toNat_lt _
      rw [hb0] at hl0 hls
      have eqb : IntKind.i64.wrap (b0 : Int) = (b0 : Int) := by rw [IntKind.wrap_i64]; omega
      have hqi : (q : Int) < 32 := by omega
      have eq1 : (t : Int) + (h : Int) = (q : Int) := by omega
      have eqw : IntKind.i64.wrap (q : Int) = (q : Int) := by rw [IntKind.wrap_i64]; omega
      obtain ⟨cur0, hc0⟩ : ∃ l, putL [] (lsD u d h) = l := ⟨_, rfl⟩
      rw [hc0] at HR ⊢
      obtain ⟨T, hTT⟩ : ∃ T, putL [] (lsD u d (h + 1)) = T := ⟨_, rfl⟩
      have hTl : T.length ≤ 3000 := by rw [← hTT, putL_len]; simp; omega
      have hput : putL cur0 (l0.map fun x => lsName (u x)) = T := by
        rw [← hTT, hls, putL_app, hc0]
        unfold lsC
        rw [lkL_eq hl0]
      have HTT := Lib.hid hTT
      have HL := Lib.hid (show ∃ l, Lnk (nx2 u) b0 l ∧ (∀ x ∈ l, EE n u d x) ∧ putL cur0 (l.map fun x => lsName (u x)) = T from ⟨l0, hl0, fun x hx => (hl2 x hx).1, hput⟩)
      have c1 := htr.ptr
      obtain ⟨_, _, e1, _, hca⟩ := htr.2 d hdn
      simp only [Option.some.injEq, Addr.mk.injEq, and_true] at e1
      obtain ⟨rfl, rfl⟩ := e1
      dsimp only at hca
      rw [HX.out] at hca
      clear hl0 hl2 hls hle hqe hput hTT hc0 htr
      obtain ⟨m0, hm0⟩ : ∃ m, cur0.length = m := ⟨_, rfl⟩
      have HM0 := Lib.hid hm0
      rw [hm0]
      clear hm0
      go_wp2_with fail
      go_cut [7] (fun s7 wx => s7 = .int .i64 (b0 : Int) ∧ wx = wr.drew)
      case first =>
        go_region_law (first | (go_simp; go_at_call 69; refine (HTB.out _).mono ?_; rintro e w' ⟨rfl, hw'⟩; rw [← hw']; clear hw' w'))
        all_goals
          go_wp2_with fail
          go_meet
          exact ⟨rfl, rfl⟩
      case rest =>
        obtain ⟨rfl, rfl⟩ := hcut
        have HR1 := Lib.hid (show TxR w.heap.size wr.drew g c' cur0 from HR.out.below (Below.refl _ _).drew)
        have HB1' := Lib.hid (HB.out.drew)
        have HTR1 := Lib.hid (HTR.out.below (Below.refl _ _).drew)
        clear c1 hca
        generalize wr.drew = W1 at *
        go_wp2_with fail
        go_loopw [5, 7] (fun s5 s7 wy => ∃ (b g2 c2 : Nat) (l cur : List _), b < 256 ∧ s7 = .int .i64 (b : Int) ∧ Lnk (nx2 u) b l ∧ (∀ x ∈ l, EE n u d x) ∧ putL cur (l.map fun x => lsName (u x)) = T ∧ s5 = .slice (some ⟨g2, 0, none⟩) cur.length c2 ∧ TxR w.heap.size wy g2 c2 cur ∧ Below w.heap.size w wy) (fun _ s _ => (lkL (nx2 u) (intOf s).toNat).length)
        case atStart =>
          obtain ⟨l, h1, h2, h3⟩ := HL.out
          exact ⟨b0, g, c', l, cur0, hb1, rfl, h1, h2, h3, by rw [HM0.out], HR1.out, HB1'.out⟩
        case round =>
          obtain ⟨b, g2, c2, l, cur, hb, rfl, h1, h2, h3, rfl, hr, hbw⟩ := hrel
          have HB2 := Lib.hid hbw
          have HR2 := Lib.hid hr
          have HTY := Lib.hid (HT.out.below hbw)
          have hcl : cur.length + l.length = T.length := by rw [← h3, putL_len, List.length_map]
          have hcm : cur.length ≤ 3000 := by omega
          obtain ⟨m2, hm2⟩ : ∃ m, cur.length = m := ⟨_, rfl⟩
          have HM2 := Lib.hid hm2
          rw [hm2] at hcm ⊢
          clear hr hbw hcl hm2
          by_cases h0 : b = 0
          · subst h0
            obtain rfl := h1.zero
            have h4 : cur = T := h3
            clear h1 h2 h3
            have H4 := Lib.hid h4
            clear h4
            go_wp2_with fail
            go_roundw
            case rel =>
              have e4 := H4.out
              subst e4
              exact ⟨h + 1, g2, c2, by omega, by go_num, by rw [HTT.out, HM2.out], by rw [HTT.out]; exact HR2.out, HB2.out⟩
            case measure => simp [intOf]; omega
          · obtain ⟨l', rfl, h5⟩ := h1.step h0
            have hE := h2 b List.mem_cons_self
            have hbn := hE.lt
            have k1 := HTY.out.ptr
            obtain ⟨_, _, e1, _, k2⟩ := HTY.out.2 b hbn
            simp only [Option.some.injEq, Addr.mk.injEq, and_true] at e1
            obtain ⟨rfl, rfl⟩ := e1
            dsimp only at k2
            have hzb := H32.out b hbn
            have hub := HU.out b
            have hnok := hE.ent.2.1
            have HNA := Lib.hid (fun W => specName_any (s b) hzb W)
            have hns : tnmS (byteAt (s b)) = tnm (u b) := by rw [← hub]; exact tnmS_ok hnok
            rw [hns] at HNA
            obtain ⟨xb, hxb⟩ : ∃ x, s b = x := ⟨_, rfl⟩
            have HXB := Lib.hid hxb
            rw [hxb] at k2 hzb hub HNA
            have hz2 : 2 < xb.size := by omega
            have hg2 := byteAt_get xb 2 hz2
            have hz0 : 0 < xb.size := by omega
            have hg0 := byteAt_get xb 0 hz0
            obtain ⟨b2, hb2⟩ : ∃ b', (byteAt xb 2).toNat = b' := ⟨_, rfl⟩
            have hb3 : b2 < 256 := by rw [← hb2]; exact UInt8.toNat_lt _
            have eqb2 : IntKind.i64.wrap (b2 : Int) = (b2 : Int) := by rw [IntKind.wrap_i64]; omega
            have hnx : nx2 u b = b2 := by unfold nx2; rw [hub]; exact hb2
            rw [hnx] at h5
            have hszb : ((xb.size : Nat) : Int) = 32 := by omega
            have t0 : ((b : Int) != 0) = true := by simp; omega
            have hki : (b : Int) < (n : Int) := by omega
            have hysz : (tnm (u b)).size ≤ 8 := by rw [tnm_size]; exact tN_le _
            have h6 : putL (putS (lsName (u b)) cur) (l'.map fun x => lsName (u x)) = T := h3
            obtain ⟨y0, hy0⟩ : ∃ y, (byteAt xb 0).toNat = y := ⟨_, rfl⟩
            have hy2 : y0 < 256 := by rw [← hy0]; exact UInt8.toNat_lt _
            have HG2 := Lib.hid (show ∀ x ∈ l', EE n u d x from fun x hx => h2 x (List.mem_cons_of_mem _ hx))
            have H5 := Lib.hid h5
            have H1 := Lib.hid h1
            have HLP := Lib.hid (putS_len (x := lsName (u b)) cur)
            by_cases h4 : u b 0 = 4
            · have hy4 : y0 = 4 := by rw [← hy0, ← hub, h4]; first | done | rfl
              have t4 : ((y0 : Int) == 4) = true := by simp; omega
              have hln : lsName (u b) = tnm (u b) ++ slashB := if_pos h4
              rw [hln] at h6 HLP
              obtain ⟨y, hy⟩ : ∃ y, tnm (u b) = y := ⟨_, rfl⟩
              rw [hy] at HNA hysz h6 HLP
              have hadd : ∀ W : World, (Op.stringOp .add y ⟨#[47]⟩).run Tryz.prog W = .ok (.string (y ++ ⟨#[47]⟩)) W := fun W => run_string_add_sum _ _ _ (by have : (⟨#[47]⟩ : ByteArray).size = 1 := rfl; omega)
              obtain ⟨z, hz'⟩ : ∃ z, y ++ (⟨#[47]⟩ : ByteArray) = z := ⟨_, rfl⟩
              rw [hz'] at hadd
              have hz'' : y ++ slashB = z := hz'
              rw [hz''] at h6 HLP
              have H6 := Lib.hid h6
              clear h1 h2 h3 h5 hE hub hnok hy h6 hns hnx hxb hy4 h4 hln hz' hz''
              go_upto_region 11 with (go_at_call 71; refine (HNA.out _).mono ?_; rintro e w3 ⟨rfl, hb3'⟩; have hw3 := HTY.out.below hb3'; have k1 := hw3.ptr; obtain ⟨_, _, e1, _, k2⟩ := hw3.2 b hbn; simp only [Option.some.injEq, Addr.mk.injEq, and_true] at e1; obtain ⟨rfl, rfl⟩ := e1; dsimp only at k2; rw [HXB.out] at k2)
              have HPU := Lib.hid (l18Put_any (x := z) (HR2.out.below hb3') (by rw [HM2.out]; omega))
              rw [HM2.out] at HPU
              have HB3 := Lib.hid (HB2.out.trans (hb3'.mono HB2.out.size))
              clear hb3' k1 k2
              go_upto_region 7 with (go_at_call 94; refine HPU.out.mono ?_; rintro e w4 ⟨g4, c4, rfl, hr4, hb4⟩; have hw4 := hw3.below hb4; have k1 := hw4.ptr; obtain ⟨_, _, e1, _, k2⟩ := hw4.2 b hbn; simp only [Option.some.injEq, Addr.mk.injEq, and_true] at e1; obtain ⟨rfl, rfl⟩ := e1; dsimp only at k2; rw [HXB.out] at k2)
              have HR4 := Lib.hid (hr4.base HB3.out.size)
              have HB4 := Lib.hid (HB3.out.trans (hb4.mono HB3.out.size))
              clear hr4 hb4 hw3 hw4
              go_wp2_with fail
              go_roundw
              case rel => exact ⟨b2, g4, c4, l', putS z cur, hb3, by go_num, H5.out, HG2.out, H6.out, rfl, HR4.out, HB4.out⟩
              case measure =>
                rw [lkLen H1.out]
                have := lkLen H5.out
                simp only [this, List.length_cons]
                omega
            · have hy4 : y0 ≠ 4 := fun e => h4 ((u8_is 4 (by rw [hub]; exact hy0)).2 e)
              have t4 : ((y0 : Int) == 4) = false := by simp; omega
              have hln : lsName (u b) = tnm (u b) := if_neg h4
              rw [hln] at h6 HLP
              obtain ⟨z, hy⟩ : ∃ y, tnm (u b) = y := ⟨_, rfl⟩
              rw [hy] at HNA hysz h6 HLP
              have H6 := Lib.hid h6
              clear h1 h2 h3 h5 hE hub hnok hy h6 hns hnx hxb h4 hln
              go_upto_region 11 with (go_at_call 71; refine (HNA.out _).mono ?_; rintro e w3 ⟨rfl, hb3'⟩; have hw3 := HTY.out.below hb3'; have k1 := hw3.ptr; obtain ⟨_, _, e1, _, k2⟩ := hw3.2 b hbn; simp only [Option.some.injEq, Addr.mk.injEq, and_true] at e1; obtain ⟨rfl, rfl⟩ := e1; dsimp only at k2; rw [HXB.out] at k2)
              have HPU := Lib.hid (l18Put_any (x := z) (HR2.out.below hb3') (by rw [HM2.out]; omega))
              rw [HM2.out] at HPU
              have HB3 := Lib.hid (HB2.out.trans (hb3'.mono HB2.out.size))
              clear hb3' k1 k2
              go_upto_region 7 with (go_at_call 94; refine HPU.out.mono ?_; rintro e w4 ⟨g4, c4, rfl, hr4, hb4⟩; have hw4 := hw3.below hb4; have k1 := hw4.ptr; obtain ⟨_, _, e1, _, k2⟩ := hw4.2 b hbn; simp only [Option.some.injEq, Addr.mk.injEq, and_true] at e1; obtain ⟨rfl, rfl⟩ := e1; dsimp only at k2; rw [HXB.out] at k2)
              have HR4 := Lib.hid (hr4.base HB3.out.size)
              have HB4 := Lib.hid (HB3.out.trans (hb4.mono HB3.out.size))
              clear hr4 hb4 hw3 hw4
              go_wp2_with fail
              go_roundw
              case rel => exact ⟨b2, g4, c4, l', putS z cur, hb3, by go_num, H5.out, HG2.out, H6.out, rfl, HR4.out, HB4.out⟩
              case measure =>
                rw [lkLen H1.out]
                have := lkLen H5.out
                simp only [this, List.length_cons]
                omega
    · obtain rfl : h = 8 := by omega
      go_wp2_with fail
      go_ret
      exact ⟨g, c', rfl, HR.out, HB.out⟩
end Go.Proofs.YtiefcgmghkkbmaaGreatDoor
