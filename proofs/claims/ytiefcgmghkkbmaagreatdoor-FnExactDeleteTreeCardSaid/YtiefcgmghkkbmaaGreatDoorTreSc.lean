/-
  Trees: ReadTree: the reference's side.
-/
import Derived.Test.YtiefcgmghkkbmaaGreatDoorTreSb
namespace Go.Proofs.YtiefcgmghkkbmaaGreatDoor
open Go Go.ChangeShapes Go.WideShapes Go.ChangeAt Go.RowKit lib
set_option linter.unusedVariables false
set_option linter.unusedSimpArgs false
set_option maxRecDepth 100000
set_option maxHeartbeats 8000000 in
theorem l18Read_any {w : World} {p n c x : Nat} {A : Option Addr} {s : Nat → ByteArray} {u : Nat → Nat → UInt8} (hu : ∀ i, u i = byteAt (s i)) (ht : SpR w p n A c s) (hn : n ≤ 128) (h32 : ∀ i, i < n → (s i).size = 32) (hx : x < n) (hf : FSnd n u x) :
    Calls Tryz.prog 28 #[.pointer (some ⟨p, 0, none⟩), .int .i64 (x : Int)] w fun e w' => e = .returned (.string (tData u x)) ∧ Below w.heap.size w w' := by
  obtain ⟨l, l1, l2, l3, l4⟩ := hf
  have hD : tData u x = catB (l.map fun y => tDat (u y)) := by
    unfold tData
    rw [lkL_eq (show Lnk (nx4 u) _ l from l1)]
  have hln : ∀ y ∈ l, y < n ∧ 1 ≤ (u y 5).toNat ∧ (u y 5).toNat ≤ 26 := fun y hy => by
    obtain ⟨i, hi, rfl⟩ := List.getElem_of_mem hy
    obtain ⟨a1, a2, _⟩ := l3 i hi
    exact ⟨a1, a2.2.2.2.1, a2.2.2.2.2.1⟩
  have HLN := Lib.hid hln
  have HDD := Lib.hid hD
  have c1 := ht.ptr
  obtain ⟨ba, oa, hA, _, hca⟩ := ht.2 x hx
  subst hA
  dsimp only at hca
  have hz := h32 x hx
  have hl1 : Lnk (nx4 u) (u x 14).toNat l := l1
  rw [hu x] at hl1
  obtain ⟨xb, hxb⟩ : ∃ y, s x = y := ⟨_, rfl⟩
  rw [hxb] at hca hz hl1
  have hz14 : 14 < xb.size := by omega
  have hg := byteAt_get xb 14 hz14
  obtain ⟨b0, hb0⟩ : ∃ b, (byteAt xb 14).toNat = b := ⟨_, rfl⟩
  have hb1 : b0 < 256 := by rw [← hb0]; exact UInt8.toNat_lt _
  rw [hb0] at hl1
  have hszx : ((xb.size : Nat) : Int) = 32 := by omega
  have hxi : (x : Int) < (n : Int) := by omega
  have HL1 := Lib.hid hl1
  have HT := Lib.hid ht
  have H32 := Lib.hid h32
  have HU := Lib.hid hu
  have HL2 := Lib.hid l2
  clear l1 l2 l3 l4 hD hln hl1 ht h32 hu hxb
  go_enter Tryz.func28, Tryz.ntmps28
  go_wp2_with fail
  go_loopw [5, 6] (fun s5 s6 wr => ∃ (b : Nat) (D E : List Nat), l = D ++ E ∧ Lnk (nx4 u) b E ∧ b < 256 ∧ s6 = .int .i64 (b : Int) ∧ s5 = .string (catB (D.map fun y => tDat (u y))) ∧ Below w.heap.size w wr) (fun _ s _ => (lkL (nx4 u) (intOf s).toNat).length)
  case atStart => exact ⟨b0, [], l, rfl, HL1.out, hb1, rfl, rfl, Below.refl _ _⟩
  case round =>
    obtain ⟨b, D, E, hDE, hE, hb, rfl, rfl, hbw⟩ := hrel
    have HB := Lib.hid hbw
    have htr := HT.out.below hbw
    by_cases h0 : b = 0
    · subst h0
      have hE0 := hE.zero
      subst hE0
      rw [List.append_nil] at hDE
      subst hDE
      clear hE hbw htr hca c1
      go_wp2_with fail
      go_ret
      rw [HDD.out]
      exact ⟨rfl, HB.out⟩
    · obtain ⟨E', rfl, h5⟩ := hE.step h0
      have hbm : b ∈ l := by rw [hDE]; simp
      obtain ⟨hbn, hy1, hy26⟩ := HLN.out b hbm
      have hDl : D.length ≤ 256 := by have := congrArg List.length hDE; rw [List.length_append] at this; have := HL2.out; omega
      have t0 : ((b : Int) != 0) = true := by simp; omega
      have k1 := htr.ptr
      obtain ⟨_, _, e1, _, k2⟩ := htr.2 b hbn
      simp only [Option.some.injEq, Addr.mk.injEq, and_true] at e1
      obtain ⟨rfl, rfl⟩ := e1
      dsimp only at k2
      have hzb := H32.out b hbn
      have hub := HU.out b
      obtain ⟨y, hy⟩ : ∃ x, s b = x := ⟨_, rfl⟩
      rw [hy] at k2 hzb hub
      have hz4 : 4 < y.size := by omega
      have hz5 : 5 < y.size := by omega
      have hg4 := byteAt_get y 4 hz4
      have hg5 := byteAt_get y 5 hz5
      rw [hub] at hy1 hy26
      obtain ⟨x5, h5'⟩ : ∃ z, (byteAt y 5).toNat = z := ⟨_, rfl⟩
      obtain ⟨x4, h4'⟩ : ∃ z, (byteAt y 4).toNat = z := ⟨_, rfl⟩
      have b4 : x4 < 256 := by rw [← h4']; exact UInt8.toNat_lt _
      rw [h5'] at hy1 hy26
      have hnx : nx4 u b = x4 := by unfold nx4; rw [hub]; exact h4'
      rw [hnx] at h5
      have hszy : ((y.size : Nat) : Int) = 32 := by omega
      have hki : (b : Int) < (n : Int) := by omega
      have hsl := fun W => slTx y 6 (6 + x5) 6 (6 + (x5 : Int)) rfl (by omega) (by omega) (by omega) (by omega) W
      have hDt2 : (bstr (6 + x5 - 6) fun i => byteAt y (6 + i)) = tDat (u b) := by rw [hub]; unfold tDat; rw [h5', show 6 + x5 - 6 = x5 by omega]
      have hcat : catB ((D ++ [b]).map fun y => tDat (u y)) = catB (D.map fun y => tDat (u y)) ++ tDat (u b) := by
        rw [List.map_append, catB_app]
        show _ ++ (tDat (u b) ++ catB []) = _
        rw [show catB [] = ⟨#[]⟩ from rfl]
        exact congrArg _ (ByteArray.append_empty (b := tDat (u b)))
      have hosz : (catB (D.map fun y => tDat (u y))).size ≤ 100000 := by
        have h1 := catB_size_le (D.map fun y => tDat (u y)) 255 (fun z hz => by
          obtain ⟨v, _, rfl⟩ := List.mem_map.1 hz
          unfold tDat
          rw [bsT_size]
          have := (u v 5).toNat_lt
          omega)
        rw [List.length_map] at h1
        omega
      have hdsz : (tDat (u b)).size ≤ 26 := by rw [hub]; unfold tDat; rw [bsT_size, h5']; exact hy26
      obtain ⟨Dt, hDt⟩ : ∃ o, tDat (u b) = o := ⟨_, rfl⟩
      obtain ⟨out, hout⟩ : ∃ o, catB (D.map fun y => tDat (u y)) = o := ⟨_, rfl⟩
      rw [hDt] at hDt2 hcat hdsz
      rw [hout] at hcat hosz
      simp only [hDt2] at hsl
      have hadd : ∀ W : World, (Op.stringOp .add out Dt).run Tryz.prog W = .ok (.string (out ++ Dt)) W := fun W => run_string_add_sum _ _ _ (by omega)
      have e5 : IntKind.i64.wrap (6 + (x5 : Int)) = 6 + (x5 : Int) := by rw [IntKind.wrap_i64]; omega
      have e5' : IntKind.i64.wrap (x5 : Int) = (x5 : Int) := by rw [IntKind.wrap_i64]; omega
      have e4' : IntKind.i64.wrap (x4 : Int) = (x4 : Int) := by rw [IntKind.wrap_i64]; omega
      have HTR := Lib.hid htr
      have HH := Lib.hid hE
      have H5 := Lib.hid h5
      have HDE := Lib.hid hDE
      have HCAT := Lib.hid hcat
      rw [hout]
      clear hE h5 hDE hbw htr hub hnx hDt2 hcat hDt hout hca c1
      have HY := Lib.hid hy
      clear hy
      go_upto_region 5 with fail
      go_quiet (fail)
      have hw2 := HTR.out.below ((Below.refl _ _).drewN nq)
      have HB3 := Lib.hid (HB.out.drewN nq)
      clear k1 k2
      generalize wr.drewN nq = W2 at *
      have k1 := hw2.ptr
      obtain ⟨_, _, e1, _, k2⟩ := hw2.2 b hbn
      simp only [Option.some.injEq, Addr.mk.injEq, and_true] at e1
      obtain ⟨rfl, rfl⟩ := e1
      dsimp only at k2
      rw [HY.out] at k2
      clear hw2
      go_wp2_with fail
      go_roundw
      case rel => exact ⟨x4, D ++ [b], E', by rw [HDE.out]; simp, H5.out, b4, by go_num, by rw [HCAT.out], HB3.out⟩
      case measure =>
        rw [lkLen4 HH.out]
        have := lkLen4 H5.out
        simp only [this, List.length_cons]
        omega
theorem SaOut.bad' {n : Nat} {s : Nat → ByteArray} {p : ByteArray} {w w' : World} {e : Ending} (h : SaOut n s p w e w') (h0 : (askT n s p).1 ≠ 0) : e = .returned (.tuple #[.pointer none, .int .i64 0, .string ⟨#[]⟩, .int .i64 ((askT n s p).1 : Nat)]) ∧ Below w.heap.size w w' := by
  obtain ⟨hb, ⟨_, h⟩ | ⟨h, _⟩⟩ := h
  · exact ⟨h, hb⟩
  · exact absurd h h0
theorem SaOut.good' {n : Nat} {s : Nat → ByteArray} {p : ByteArray} {w w' : World} {e : Ending} (h : SaOut n s p w e w') (h0 : (askT n s p).1 = 0) : ∃ (q : Nat) (A : Option Addr) (c : Nat), e = .returned (.tuple #[.pointer (some ⟨q, 0, none⟩), .int .i64 ((askT n s p).2.1 : Nat), .string (askT n s p).2.2, .int .i64 0]) ∧ Row w' q 40 #[.slice A n c] ∧ w'.ownsRow w.heap.size 9 1 (.slice A n c) n ((List.range n).map fun (i : Nat) => Value.string (s i)) ∧ Below w.heap.size w w' := by
  obtain ⟨hb, ⟨h, _⟩ | ⟨_, q, A, c, h1, h2, h3⟩⟩ := h
  · exact absurd h0 h
  · exact ⟨q, A, c, h1, h2, h3, hb⟩
set_option maxHeartbeats 4000000 in
theorem specReadTree_any {w : World} {A : Option Addr} {n c : Nat} {s : Nat → ByteArray} {p : ByteArray} (hm : n ≤ 1048576) (hp : p.size ≤ 1048576) (hs : Sl w w.heap.size A n (fun i => .string (s i))) :
    Calls Tryz.prog 10 #[.slice A n c, .string p] w fun e w' => e = .returned (.tuple #[.string (readT n s p).1, .int .i64 ((readT n s p).2 : Nat)]) ∧ Below w.heap.size w w' := by
  have hop := l18Ask_any (c := c) hm hp hs
  have hle := askT_le n s p
  by_cases h0 : (askT n s p).1 = 0
  · rw [readT_ok h0]
    obtain ⟨hc, hdd, hnm⟩ := askT_zero h0
    obtain ⟨⟨h4, hn, h32⟩, _⟩ := tCode_zero hc
    have HOP := Lib.hid (hop.mono (R' := fun e w' => _) (fun e w' h => h.good' h0))
    obtain ⟨u, hu⟩ : ∃ u : Nat → Nat → UInt8, (fun i => byteAt (s i)) = u := ⟨_, rfl⟩
    have HU := Lib.hid (show ∀ i, u i = byteAt (s i) from fun i => by rw [← hu])
    rw [hu] at hdd ⊢
    obtain ⟨d, hd⟩ : ∃ d, (askT n s p).2.1 = d := ⟨_, rfl⟩
    obtain ⟨nm, hnm'⟩ : ∃ d, (askT n s p).2.2 = d := ⟨_, rfl⟩
    rw [hd] at hdd HOP ⊢
    rw [hnm'] at hnm HOP ⊢
    have hee := lookU_ee hdd nm
    have hr0 := readU_none (u := u) (d := d) (nm := nm)
    have hr1 := readU_ok (u := u) (d := d) (nm := nm)
    have hr2 := readU_bad (u := u) (d := d) (nm := nm)
    obtain ⟨R, hR⟩ : ∃ R, readU u d nm = R := ⟨_, rfl⟩
    rw [hR] at hr0 hr1 hr2 ⊢
    have H32 := Lib.hid h32
    have HFI := Lib.hid (fun (W : World) (q c2 : Nat) (A2 : Option Addr) (hW : SpR W q n A2 c2 s) => find_any HU.out hW hn H32.out hdd hnm)
    obtain ⟨b, hb⟩ : ∃ b, lookU u d nm = b := ⟨_, rfl⟩
    rw [hb] at HFI hee hr0 hr1 hr2
    clear hop hle h0 hc hs hu hd hnm' hR hb hdd hnm h32
    by_cases hb0 : b = 0
    · have hRR := hr0 hb0
      rw [show fndI b = -1 from if_pos hb0] at HFI
      subst hRR
      clear hee hr1 hr2 hr0 hb0
      go_enter Tryz.func10, Tryz.ntmps10
      go_upto_region 4 with (go_at_call 26; refine HOP.out.mono ?_; rintro e w2 ⟨q, A2, c2, rfl, hr, ho, hb2⟩)
      have HT := Lib.hid (show SpR w2 q n A2 c2 s from ⟨hr, own_slR ho⟩)
      have HB2 := Lib.hid hb2
      clear hr ho hb2
      go_wp2_with (go_at_call 27; refine (HFI.out _ _ _ _ HT.out).mono ?_; rintro e w3 ⟨rfl, hb3⟩)
      go_ret2
      exact ⟨rfl, HB2.out.trans (hb3.mono HB2.out.size)⟩
    · have hE : EE n u d b := hee.resolve_left hb0
      rw [show fndI b = (b : Int) from if_neg hb0] at HFI
      have hbn := hE.lt
      have t0 : decide ((b : Int) < 0) = false := by rw [decide_eq_false_iff_not]; omega
      have hbi : (b : Int) < (n : Int) := by omega
      have hub := HU.out b
      have hzb := H32.out b hbn
      obtain ⟨xb, hxb⟩ : ∃ x, s b = x := ⟨_, rfl⟩
      have HXB := Lib.hid hxb
      rw [hxb] at hub hzb
      have hz2 : 0 < xb.size := by omega
      have hg2 := byteAt_get xb 0 hz2
      have hszb : ((xb.size : Nat) : Int) = 32 := by omega
      obtain ⟨y, hy⟩ : ∃ y, (byteAt xb 0).toNat = y := ⟨_, rfl⟩
      have hy2 : y < 256 := by rw [← hy]; exact UInt8.toNat_lt _
      by_cases h2 : u b 0 = 2
      · have hRR := hr1 hb0 h2
        subst hRR
        have hy4 : y = 2 := by rw [← hy, ← hub, h2]; first | done | rfl
        have t4 : ((y : Int) != 2) = false := by simp; omega
        have hne4 : u b 0 ≠ 4 := by rw [h2]; decide
        have HFS := Lib.hid (hE.fil hne4).2
        clear hee hE h2 hne4 hr0 hr1 hr2 hub hxb hy4
        go_enter Tryz.func10, Tryz.ntmps10
        go_upto_region 4 with (go_at_call 26; refine HOP.out.mono ?_; rintro e w2 ⟨q, A2, c2, rfl, hr, ho, hb2⟩)
        have HT := Lib.hid (show SpR w2 q n A2 c2 s from ⟨hr, own_slR ho⟩)
        have HB2 := Lib.hid hb2
        clear hr ho hb2
        go_wp2_with (first
          | (go_at_call 27; refine (HFI.out _ _ _ _ HT.out).mono ?_; rintro e w3 ⟨rfl, hb3⟩; have hw3 := HT.out.below hb3; have HT3 := Lib.hid hw3; have k1 := hw3.ptr; obtain ⟨b5, o5, rfl, _, k2⟩ := hw3.2 b hbn; dsimp only at k2; rw [HXB.out] at k2; clear hw3)
          | (go_at_call 28; refine (l18Read_any HU.out HT3.out hn H32.out hbn HFS.out).mono ?_; rintro e w4 ⟨rfl, hb4⟩))
        go_ret2
        exact ⟨rfl, HB2.out.trans ((hb3.trans (hb4.mono hb3.size)).mono HB2.out.size)⟩
      · have hRR := hr2 hb0 h2
        subst hRR
        have hy4 : y ≠ 2 := fun e => h2 ((u8_is 2 (by rw [hub]; exact hy)).2 e)
        have t4 : ((y : Int) != 2) = true := by simp; omega
        clear hee hE h2 hr0 hr1 hr2 hub hxb
        go_enter Tryz.func10, Tryz.ntmps10
        go_upto_region 4 with (go_at_call 26; refine HOP.out.mono ?_; rintro e w2 ⟨q, A2, c2, rfl, hr, ho, hb2⟩)
        have HT := Lib.hid (show SpR w2 q n A2 c2 s from ⟨hr, own_slR ho⟩)
        have HB2 := Lib.hid hb2
        clear hr ho hb2
        go_wp2_with (go_at_call 27; refine (HFI.out _ _ _ _ HT.out).mono ?_; rintro e w3 ⟨rfl, hb3⟩; have hw3 := HT.out.below hb3; have k1 := hw3.ptr; obtain ⟨b5, o5, rfl, _, k2⟩ := hw3.2 b hbn; dsimp only at k2; rw [HXB.out] at k2; clear hw3)
        go_ret2
        exact ⟨rfl, HB2.out.trans (hb3.mono HB2.out.size)⟩
  · rw [readT_bad h0]
    have HOP := Lib.hid (hop.mono (R' := fun e w' => _) (fun e w' h => h.bad' h0))
    obtain ⟨k, hk⟩ : ∃ k, (askT n s p).1 = k := ⟨_, rfl⟩
    rw [hk] at HOP h0 hle ⊢
    have t1 : ((k : Int) != 0) = true := by simp; omega
    clear hop hs hk h0
    go_enter Tryz.func10, Tryz.ntmps10
    go_wp2_with (go_at_call 26; refine HOP.out.mono ?_; rintro e w2 ⟨rfl, hb2⟩)
    go_ret2
    exact ⟨rfl, hb2⟩
end Go.Proofs.YtiefcgmghkkbmaaGreatDoor
