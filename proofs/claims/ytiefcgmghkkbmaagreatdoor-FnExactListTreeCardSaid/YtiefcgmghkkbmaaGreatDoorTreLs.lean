/-
  Trees: ListTree, the reference's side.
-/
import Derived.Test.YtiefcgmghkkbmaaGreatDoorTrePn
import Derived.Test.YtiefcgmghkkbmaaGreatDoorTreLi
namespace Go.Proofs.YtiefcgmghkkbmaaGreatDoor
open Go Go.ChangeShapes Go.WideShapes Go.ChangeAt Go.RowKit lib
set_option linter.unusedVariables false
set_option linter.unusedSimpArgs false
set_option maxRecDepth 100000
theorem tFold_one (u : Nat → Nat → UInt8) (nm : ByteArray) (d : Nat) : tFold u [nm] d = if lookU u d nm = 0 then (0, 3) else if u (lookU u d nm) 0 = 4 then (lookU u d nm, 0) else (0, 6) := rfl
theorem dropLast_getLastD {N : List ByteArray} (h : 0 < N.length) : N.dropLast ++ [N.getLastD ⟨#[]⟩] = N := by
  have hne : N ≠ [] := List.length_pos_iff.1 h
  rw [List.getLastD_eq_getLast?, List.getLast?_eq_some_getLast hne]
  exact List.dropLast_concat_getLast hne
theorem lsAt_ask_bad {n : Nat} {s : Nat → ByteArray} {p : ByteArray} (h0 : p ≠ ⟨#[]⟩) (h : (askT n s p).1 ≠ 0) : ∃ d, lsAt n s p = ((askT n s p).1, d) := by
  cases hp : pathT p with
  | none => rw [askT_none hp, lsAt_none h0 hp]; exact ⟨_, rfl⟩
  | some N =>
    by_cases hc : tCode n s = 0
    · by_cases hf : (tFold (fun i => byteAt (s i)) N.dropLast 0).2 = 0
      · rw [askT_ok hp hc hf] at h
        exact absurd rfl h
      · rw [askT_fold hp hc hf, lsAt_fold h0 hp hc]
        have h1 := tFold_snoc (u := fun i => byteAt (s i)) N.dropLast (N.getLastD ⟨#[]⟩) 0
        rw [dropLast_getLastD (pathT_some hp).2.2.1, if_neg hf] at h1
        rw [h1]
        exact ⟨_, rfl⟩
    · rw [askT_code hp hc, lsAt_code h0 hp hc]
      exact ⟨_, rfl⟩
theorem lsAt_ask_ok {n : Nat} {s : Nat → ByteArray} {p : ByteArray} (h0 : p ≠ ⟨#[]⟩) (h : (askT n s p).1 = 0) : lsAt n s p = ((tFold (fun i => byteAt (s i)) [(askT n s p).2.2] (askT n s p).2.1).2, (tFold (fun i => byteAt (s i)) [(askT n s p).2.2] (askT n s p).2.1).1) := by
  cases hp : pathT p with
  | none => rw [askT_none hp] at h; cases h
  | some N =>
    by_cases hc : tCode n s = 0
    · by_cases hf : (tFold (fun i => byteAt (s i)) N.dropLast 0).2 = 0
      · rw [askT_ok hp hc hf, lsAt_fold h0 hp hc]
        have h1 := tFold_snoc (u := fun i => byteAt (s i)) N.dropLast (N.getLastD ⟨#[]⟩) 0
        rw [dropLast_getLastD (pathT_some hp).2.2.1, if_pos hf] at h1
        rw [h1]
      · rw [askT_fold hp hc hf] at h
        exact absurd h hf
    · rw [askT_code hp hc] at h
      exact absurd h hc
theorem own_nil0 (w : World) (B : Nat) (hB : B ≤ w.heap.size) : (w.alloc (.cells #[] 9)).ownsRow B 9 1 (.slice (some ⟨w.heap.size, 0, none⟩) 0 0) 0 [] := own_nilE w _ _ _ hB
set_option maxHeartbeats 16000000 in
theorem specListTree_any {w : World} {A : Option Addr} {n c : Nat} {s : Nat → ByteArray} {p : ByteArray} (hm : n ≤ 1048576) (hp : p.size ≤ 1048576) (hs : Sl w w.heap.size A n (fun i => .string (s i))) :
    Calls Tryz.prog 24 #[.slice A n c, .string p] w (LsOut n s p w) := by
  have hz := tCode_zero (n := n) (s := s)
  by_cases hp0 : p = ⟨#[]⟩
  · have t0 : (p.toList == (⟨#[]⟩ : ByteArray).toList) = true := str_eq_true hp0
    have t0' : p.toList.isEmpty = true := by rw [hp0]; simp
    have hls := lsAt_root (n := n) (s := s)
    rw [← hp0] at hls
    have hop := sopen_any (c := c) hm hs
    by_cases h0 : tCode n s = 0
    · obtain ⟨⟨h4, hn, h32⟩, hwk⟩ := hz h0
      rw [h0] at hls hop
      have HAK := Lib.hid (hop.mono (R' := fun e w' => ∃ (p : Nat) (A : Option Addr) (c : Nat), e = .returned (.tuple #[.pointer (some ⟨p, 0, none⟩), .int .i64 0]) ∧ Row w' p 40 #[.slice A n c] ∧ w'.ownsRow w.heap.size 9 1 (.slice A n c) n ((List.range n).map fun (i : Nat) => Value.string (s i)) ∧ Below w.heap.size w w') (fun e w' h => by
        obtain ⟨hb, ⟨h, _⟩ | ⟨_, q, A, c, h1, h2, h3⟩⟩ := h
        · exact absurd rfl h
        · exact ⟨q, A, c, h1, h2, h3, hb⟩))
      obtain ⟨u, hu⟩ : ∃ u : Nat → Nat → UInt8, (fun i => byteAt (s i)) = u := ⟨_, rfl⟩
      rw [hu] at hwk
      have hdd := dd_root (u := u) (by omega) hn hwk
      have HU := Lib.hid (show ∀ i, u i = byteAt (s i) from fun i => by rw [← hu])
      have HUU := Lib.hid hu
      have HLA := Lib.hid hls
      have H32 := Lib.hid h32
      have HNM := Lib.hid (fun (W : World) (q c2 : Nat) (A2 : Option Addr) (hW : SpR W q n A2 c2 s) => l18Names_any HU.out hW hn H32.out hdd)
      have HLN := Lib.hid (rfl : (putL [] (lsD u 0 8)).length = (putL [] (lsD u 0 8)).length)
      clear hop hls h0 hz hs hp0 hu hdd h32 hwk
      go_enter Tryz.func24, Tryz.ntmps24
      go_upto_region 5 with (go_at_call 46; refine HAK.out.mono ?_; rintro e w2 ⟨q, A2, c2, rfl, hr, ho, hb2⟩)
      have HC := Lib.hid (HNM.out w2 q c2 A2 ⟨hr, own_slR ho⟩)
      have HB2 := Lib.hid hb2
      clear hr ho hb2
      obtain ⟨m, hm'⟩ : ∃ m, (putL [] (lsD u 0 8)).length = m := ⟨_, rfl⟩
      rw [hm'] at HC
      have HM := Lib.hid hm'
      clear hm'
      go_wp2_with (go_at_call 50; refine HC.out.mono ?_; rintro e w3 ⟨g3, c3, rfl, hr3, hb3⟩)
      go_ret2
      exact LsOut.good HUU.out HLA.out HM.out.symm (own_base hr3 HB2.out.size) (HB2.out.trans (hb3.mono HB2.out.size))
    · have HAK := Lib.hid (hop.mono (R' := fun e w' => e = .returned (.tuple #[.pointer none, .int .i64 (tCode n s : Nat)]) ∧ Below w.heap.size w w') (fun e w' h => by
        obtain ⟨hb, ⟨_, h⟩ | ⟨h, _⟩⟩ := h
        · exact ⟨h, hb⟩
        · exact absurd h h0))
      obtain ⟨code, hcode⟩ : ∃ k, tCode n s = k := ⟨_, rfl⟩
      rw [hcode] at h0 hls HAK
      have HLA := Lib.hid hls
      have t1 : ((code : Int) != 0) = true := by simp; omega
      clear hop hls hz hs hp0 hcode
      go_enter Tryz.func24, Tryz.ntmps24
      go_wp2_with (go_at_call 46; refine HAK.out.mono ?_; rintro e w2 ⟨rfl, hb2⟩)
      go_ret2
      exact LsOut.bad HLA.out h0 (own_nil0 w2 _ hb2.size) (hb2.alloc hb2.size _)
  · have t0 : (p.toList == (⟨#[]⟩ : ByteArray).toList) = false := str_eq_false hp0
    have t0' : p.toList.isEmpty = false := by
      have hne : p.toList ≠ [] := fun e => hp0 (by
        apply ByteArray.ext
        apply Array.ext'
        have h2 := e
        rw [ByteArray.toList_eq] at h2
        simpa using h2)
      simpa using hne
    have hop := l18Ask_any (c := c) hm hp hs
    have hlb := lsAt_ask_bad (n := n) (s := s) hp0
    have hlo := lsAt_ask_ok (n := n) (s := s) hp0
    have hle := askT_le n s p
    by_cases h0 : (askT n s p).1 = 0
    · obtain ⟨hc, hdd, hnm⟩ := askT_zero h0
      obtain ⟨⟨h4, hn, h32⟩, _⟩ := tCode_zero hc
      have hls := hlo h0
      have HOP := Lib.hid (hop.mono (R' := fun e w' => _) (fun e w' h => h.good' h0))
      obtain ⟨u, hu⟩ : ∃ u : Nat → Nat → UInt8, (fun i => byteAt (s i)) = u := ⟨_, rfl⟩
      have HU := Lib.hid (show ∀ i, u i = byteAt (s i) from fun i => by rw [← hu])
      have HUU := Lib.hid hu
      rw [hu] at hdd hls
      obtain ⟨d, hd⟩ : ∃ d, (askT n s p).2.1 = d := ⟨_, rfl⟩
      obtain ⟨nm, hnm'⟩ : ∃ d, (askT n s p).2.2 = d := ⟨_, rfl⟩
      rw [hd] at hdd HOP hls
      rw [hnm'] at hnm HOP hls
      have hee := lookU_ee hdd nm
      rw [tFold_one] at hls
      have H32 := Lib.hid h32
      have HFI := Lib.hid (fun (W : World) (q c2 : Nat) (A2 : Option Addr) (hW : SpR W q n A2 c2 s) => find_any HU.out hW hn H32.out hdd hnm)
      obtain ⟨b, hb⟩ : ∃ b, lookU u d nm = b := ⟨_, rfl⟩
      rw [hb] at HFI hee hls
      clear hop hle h0 hc hs hu hd hnm' hb hdd hnm h32 hz hlb hlo hp0
      by_cases hb0 : b = 0
      · rw [if_pos hb0] at hls
        rw [show fndI b = -1 from if_pos hb0] at HFI
        have HLA := Lib.hid hls
        clear hee hls hb0
        go_enter Tryz.func24, Tryz.ntmps24
        go_upto_region 9 with (go_at_call 26; refine HOP.out.mono ?_; rintro e w2 ⟨q, A2, c2, rfl, hr, ho, hb2⟩)
        have HC := Lib.hid (HFI.out w2 q c2 A2 ⟨hr, own_slR ho⟩)
        have HB2 := Lib.hid hb2
        clear hr ho hb2
        go_wp2_with (go_at_call 27; refine HC.out.mono ?_; rintro e w3 ⟨rfl, hb3⟩)
        go_ret2
        have hb4 := HB2.out.trans (hb3.mono HB2.out.size)
        exact LsOut.bad (k := 3) HLA.out (by decide) (own_nil0 w3 _ hb4.size) (hb4.alloc hb4.size _)
      · rw [if_neg hb0] at hls
        rw [show fndI b = (b : Int) from if_neg hb0] at HFI
        have hE : EE n u d b := hee.resolve_left hb0
        have hbn := hE.lt
        have t2 : decide ((b : Int) < 0) = false := by rw [decide_eq_false_iff_not]; omega
        have hbi : (b : Int) < (n : Int) := by omega
        have hub := HU.out b
        have hzb := H32.out b hbn
        obtain ⟨xb, hxb⟩ : ∃ x, s b = x := ⟨_, rfl⟩
        have HXB := Lib.hid hxb
        rw [hxb] at hub hzb
        have hz2 : 0 < xb.size := by omega
        have hg2 := byteAt_get xb 0 hz2
        have hszb : ((xb.size : Nat) : Int) = 32 := by omega
        obtain ⟨y, hy⟩ : ∃ y, (byteAt xb 0).toNat = y := ⟨_, rfl⟩
        have hy2 : y < 256 := by rw [← hy]; exact UInt8.toNat_lt _
        by_cases h4' : u b 0 = 4
        · rw [if_pos h4'] at hls
          have HLA := Lib.hid hls
          have hy4 : y = 4 := by rw [← hy, ← hub, h4']; first | done | rfl
          have t4 : ((y : Int) != 4) = false := by simp; omega
          have hdb := hE.dir h4'
          have HNM := Lib.hid (fun (W : World) (q c2 : Nat) (A2 : Option Addr) (hW : SpR W q n A2 c2 s) => l18Names_any HU.out hW hn H32.out hdb)
          obtain ⟨m, hm'⟩ : ∃ m, (putL [] (lsD u b 8)).length = m := ⟨_, rfl⟩
          rw [hm'] at HNM
          have HM := Lib.hid hm'
          clear hee hE h4' hub hxb hy4 hls hdb hm'
          go_enter Tryz.func24, Tryz.ntmps24
          go_upto_region 9 with (go_at_call 26; refine HOP.out.mono ?_; rintro e w2 ⟨q, A2, c2, rfl, hr, ho, hb2⟩)
          have HT := Lib.hid (show SpR w2 q n A2 c2 s from ⟨hr, own_slR ho⟩)
          have HB2 := Lib.hid hb2
          clear hr ho hb2
          go_wp2_with (first
            | (go_at_call 27; refine (HFI.out _ _ _ _ HT.out).mono ?_; rintro e w3 ⟨rfl, hb3⟩; have hw3 := HT.out.below hb3; have HT3 := Lib.hid hw3; have k1 := hw3.ptr; obtain ⟨b5, o5, rfl, _, k2⟩ := hw3.2 b hbn; dsimp only at k2; rw [HXB.out] at k2; clear hw3)
            | (go_at_call 50; refine (HNM.out _ _ _ _ HT3.out).mono ?_; rintro e w4 ⟨g4, c4, rfl, hr4, hb4⟩))
          go_ret2
          have hb5 := HB2.out.trans (hb3.mono HB2.out.size)
          exact LsOut.good HUU.out HLA.out HM.out.symm (own_base hr4 hb5.size) (hb5.trans (hb4.mono hb5.size))
        · rw [if_neg h4'] at hls
          have HLA := Lib.hid hls
          have hy4 : y ≠ 4 := fun e => h4' ((u8_is 4 (by rw [hub]; exact hy)).2 e)
          have t4 : ((y : Int) != 4) = true := by simp; omega
          clear hee hE h4' hub hxb hls
          go_enter Tryz.func24, Tryz.ntmps24
          go_upto_region 9 with (go_at_call 26; refine HOP.out.mono ?_; rintro e w2 ⟨q, A2, c2, rfl, hr, ho, hb2⟩)
          have HT := Lib.hid (show SpR w2 q n A2 c2 s from ⟨hr, own_slR ho⟩)
          have HB2 := Lib.hid hb2
          clear hr ho hb2
          go_wp2_with (go_at_call 27; refine (HFI.out _ _ _ _ HT.out).mono ?_; rintro e w3 ⟨rfl, hb3⟩; have hw3 := HT.out.below hb3; have k1 := hw3.ptr; obtain ⟨b5, o5, rfl, _, k2⟩ := hw3.2 b hbn; dsimp only at k2; rw [HXB.out] at k2; clear hw3)
          go_ret2
          have hb4 := HB2.out.trans (hb3.mono HB2.out.size)
          exact LsOut.bad (k := 6) HLA.out (by decide) (own_nil0 w3 _ hb4.size) (hb4.alloc hb4.size _)
    · obtain ⟨d, hls⟩ := hlb h0
      have HOP := Lib.hid (hop.mono (R' := fun e w' => _) (fun e w' h => h.bad' h0))
      obtain ⟨k, hk⟩ : ∃ k, (askT n s p).1 = k := ⟨_, rfl⟩
      rw [hk] at HOP h0 hls
      have HLA := Lib.hid hls
      have t1 : ((k : Int) != 0) = true := by simp; omega
      clear hop hs hk hls hlo hlb hz hp0 hle
      go_enter Tryz.func24, Tryz.ntmps24
      go_wp2_with (go_at_call 26; refine HOP.out.mono ?_; rintro e w2 ⟨rfl, hb2⟩)
      go_ret2
      exact LsOut.bad HLA.out h0 (own_nil0 w2 _ hb2.size) (hb2.alloc hb2.size _)
end Go.Proofs.YtiefcgmghkkbmaaGreatDoor
