/-
  Tracks: the reference builds a track.
-/
import Derived.Test.YtabmdbhbbmnkdaaDoorBsX
import Derived.Test.YtabmdbhbbmnkdaaDoorBtU
namespace Go.Proofs.YtabmdbhbbmnkdaaDoor
open Go Go.ChangeShapes Go.WideShapes Go.ChangeAt Go.RowKit Go.Joins lib
set_option linter.unusedVariables false
set_option linter.unusedSimpArgs false
set_option maxRecDepth 100000
theorem Below.rw {B q e : Nat} {cs : Array Value} {w w' : World} (hb : Below B w w') (h : Rw w q e cs) (hq : q < B) : Rw w' q e cs := h.below hb hq
set_option maxHeartbeats 8000000 in
theorem specBuildL_any (f g : Nat) (hf : f123 f) (hg1 : 1 ≤ g) (hg : g ≤ 20) (L : List SS) (q : Nat) (A : Option Addr) (c : Nat) (w : World) (hn : L.length ≤ 8) (hok : ∀ s ∈ L, s.ok) (hs : SSl w w.heap.size A L) (hr : Rw w q 25 (trkA f g A L.length c)) :
    Calls Tryd.prog 26 #[.pointer (some ⟨q, 0, none⟩)] w fun e w' => e = .returned (.string (strL (trackL f g L))) ∧ Below w.heap.size w w' := by
  have hqlt := hr.lt
  unfold trkA at hr
  obtain ⟨N, hN⟩ : ∃ N, L.length = N := ⟨_, rfl⟩
  have HN := Lib.hid hN
  rw [hN] at hn hr
  have HS := Lib.hid hs
  have HOK := Lib.hid hok
  have HR := Lib.hid hr
  have k0 := hr.cell 0
  obtain ⟨B, hB⟩ : ∃ B, w.heap.size = B := ⟨_, rfl⟩
  have hW1 : ∃ W1, w.alloc (.cells #[.int .i64 (f : Int), .slice none 0 0, .bool false] 88) = W1 := ⟨_, rfl⟩
  obtain ⟨W1, hW1⟩ := hW1
  have HB1 := Lib.hid (show Below B w W1 by rw [← hW1, ← hB]; exact (Below.refl _ _).alloc (Nat.le_refl _) _)
  have HZ1 := Lib.hid (show W1.heap.size = B + 1 by rw [← hW1, ← hB]; simp)
  have HRW := Lib.hid (show RWS B B f (false, []) W1 by
    refine ⟨Nat.le_refl _, none, 0, ?_, ⟨rfl, .inl ⟨rfl, rfl⟩⟩, by simp [Value.ownBlock]⟩
    rw [← hW1, ← hB]
    exact Rw.new _ _ _)
  rw [hB] at hqlt
  have HBB := Lib.hid hB
  clear hs hok hr hN
  go_enter Tryd.func26, Tryd.ntmps26
  go_upto_region 2 with fail
  clear hW1 hB k0
  go_wp2_with fail
  go_loopw [4] (fun s4 wr => ∃ k : Nat, k ≤ N ∧ s4 = .int .i64 k ∧ RWS B B f ((L.take k).foldl (wSect f g) (false, [])) wr ∧ Below B w wr) (fun i _ => N - (intOf i).toNat)
  case atStart => exact ⟨0, by omega, rfl, HRW.out, HB1.out⟩
  case round =>
    obtain ⟨k, hk, rfl, htw, hbr⟩ := hrel
    have HTR := Lib.hid htw
    have HBR := Lib.hid hbr
    have hrr := HR.out.below hbr hqlt
    have HSL := Lib.hid (show ((L.take k).foldl (wSect f g) (false, [])).2.length ≤ 10400 by
      have h1 := foldl_len f g hg (L.take k) (false, []) (fun s h => HOK.out s (List.mem_of_mem_take h))
      have h2 : (L.take k).length ≤ 8 := by rw [List.length_take, HN.out]; omega
      have h3 : ((false, ([] : List UInt8)) : WS).2.length = 0 := rfl
      omega)
    have hltB := htw.lt
    have k0 := hrr.cell 0
    have k1 := hrr.cell 1
    have k2 := hrr.cell 2
    clear htw hbr hrr
    by_cases hlt : k < N
    · have hkL : k < L.length := by rw [HN.out]; exact hlt
      have hs' : SSl wr B A L := HBB.out ▸ (HS.out.below (by rw [HBB.out]; exact HBR.out))
      obtain ⟨b, o, rfl, hbb, hsa⟩ := hs'.secAt hkL
      have hmem : sAt L k ∈ L := by
        unfold sAt
        rw [List.getD_eq_getElem?_getD, List.getElem?_eq_getElem hkL]
        exact List.getElem_mem hkL
      have hsk := HOK.out _ hmem
      have HFO := Lib.hid (show (L.take (k + 1)).foldl (wSect f g) (false, []) = wSect f g ((L.take k).foldl (wSect f g) (false, [])) (sAt L k) by
        rw [List.take_succ_eq_append_getElem hkL, List.foldl_append]
        unfold sAt
        rw [List.getD_eq_getElem?_getD, List.getElem?_eq_getElem hkL]
        rfl)
      obtain ⟨s0, hs0⟩ : ∃ s0, (L.take k).foldl (wSect f g) (false, []) = s0 := ⟨_, rfl⟩
      rw [hs0] at HFO HSL HTR
      obtain ⟨S, hS⟩ : ∃ S, sAt L k = S := ⟨_, rfl⟩
      rw [hS] at hsa hsk HFO
      have HSK := Lib.hid hsk
      have HSA := Lib.hid hsa
      have hi8 : (k : Int) < (N : Int) := by omega
      have HFD := Lib.hid (fieldL_len f 1 S.id S.bi)
      have HFE := Lib.hid (fieldL_len f S.kd S.dt.data.toList S.bd)
      have HDT := Lib.hid hsk.len
      obtain ⟨F1, hF1⟩ : ∃ F1, strL (fieldL f 1 S.id S.bi) = F1 := ⟨_, rfl⟩
      have HF1 := Lib.hid (show F1.data.toList = fieldL f 1 S.id S.bi by rw [← hF1, strL_list])
      have HF1z := Lib.hid (show F1.size = 6 by rw [← hF1, strL_size, HFD.out]; rfl)
      obtain ⟨F2, hF2⟩ : ∃ F2, strL (fieldL f S.kd S.dt.data.toList S.bd) = F2 := ⟨_, rfl⟩
      have HF2 := Lib.hid (show F2.data.toList = fieldL f S.kd S.dt.data.toList S.bd by rw [← hF2, strL_list])
      have HF2z := Lib.hid (show F2.size = S.dt.size + 2 by rw [← hF2, strL_size, HFE.out]; rfl)
      obtain ⟨p, hp⟩ : ∃ p, o + k * 8 = p := ⟨_, rfl⟩
      rw [hp] at HSA
      have HIDC := Lib.hid (fun (W : World) (hW : Below B wr W) (hz : b < W.heap.size) => hF1 ▸ specId_any f hf S HSK.out b p (f : Int) rfl W (HSA.out.below hW hbb) hz)
      have HDAC := Lib.hid (fun (W : World) (hW : Below B wr W) (hz : b < W.heap.size) => hF2 ▸ specData_any f hf S HSK.out b p (f : Int) rfl W (HSA.out.below hW hbb) hz)
      have HKC := Lib.hid (fun (W : World) (hW : Below B wr W) => specKind_any S b p W (HSA.out.below hW hbb))
      obtain ⟨KD, hKD⟩ : ∃ KD, S.kd = KD := ⟨_, rfl⟩
      rw [hKD] at HKC
      have HKDD := Lib.hid hKD
      -- the states
      have l0 := HSL.out
      have l1 := wBytes_len f s0 (List.replicate g (fillY f))
      rw [List.length_replicate] at l1
      obtain ⟨s1, hs1⟩ : ∃ s1, wBytes f s0 (List.replicate g (fillY f)) = s1 := ⟨_, rfl⟩
      have HS1 := Lib.hid hs1
      rw [hs1] at l1
      have l2 := wMark_len f 1 s1
      obtain ⟨s2, hs2⟩ : ∃ s2, wMark f 1 s1 = s2 := ⟨_, rfl⟩
      have HS2 := Lib.hid hs2
      rw [hs2] at l2
      have l3 := wBytes_len f s2 (fieldL f 1 S.id S.bi)
      rw [HFD.out, show S.id.length = 4 from rfl] at l3
      obtain ⟨s3, hs3⟩ : ∃ s3, wBytes f s2 (fieldL f 1 S.id S.bi) = s3 := ⟨_, rfl⟩
      have HS3 := Lib.hid hs3
      rw [hs3] at l3
      have l4 := wBytes_len f s3 [fillY f, fillY f]
      rw [show [fillY f, fillY f].length = 2 from rfl] at l4
      obtain ⟨s4, hs4⟩ : ∃ s4, wBytes f s3 [fillY f, fillY f] = s4 := ⟨_, rfl⟩
      have HS4 := Lib.hid hs4
      rw [hs4] at l4
      have l5 := wMark_len f KD s4
      obtain ⟨s5, hs5⟩ : ∃ s5, wMark f KD s4 = s5 := ⟨_, rfl⟩
      have HS5 := Lib.hid hs5
      rw [hs5] at l5
      obtain ⟨s6, hs6⟩ : ∃ s6, wBytes f s5 (fieldL f S.kd S.dt.data.toList S.bd) = s6 := ⟨_, rfl⟩
      have HS6 := Lib.hid hs6
      have L1 := Lib.hid (show s1.2.length ≤ 11000 by omega)
      have L2 := Lib.hid (show s2.2.length ≤ 11200 by omega)
      have L3 := Lib.hid (show s3.2.length ≤ 11400 by omega)
      have L4 := Lib.hid (show s4.2.length ≤ 11500 by omega)
      have L5 := Lib.hid (show s5.2.length ≤ 11700 by omega)
      have HALL := Lib.hid (show wSect f g s0 S = s6 by rw [wSect_step, HS1.out, HS2.out, HS3.out, HS4.out, HKDD.out, HS5.out, ← HKDD.out, HS6.out])
      clear hS hkL hmem hs0 hsa hsk hF1 hF2 hKD l0 l1 l2 l3 l4 l5 hs1 hs2 hs3 hs4 hs5 hs6 hs'
      have FC : ∀ W : World, Below B wr W → W.cell? ⟨q, 0, none⟩ = some (.int .i64 (f : Int)) ∧ W.cell? ⟨q, 1, none⟩ = some (.int .i64 (g : Int)) ∧ W.cell? ⟨q, 2, none⟩ = some (.slice (some ⟨b, o, none⟩) N c) := fun W hW => ⟨(hW.cell (p := ⟨q, 0, none⟩) hqlt).trans k0, (hW.cell (p := ⟨q, 1, none⟩) hqlt).trans k1, (hW.cell (p := ⟨q, 2, none⟩) hqlt).trans k2⟩
      have HFC := Lib.hid FC
      have HZ := Lib.hid (show b < B ∧ B < wr.heap.size from ⟨hbb, hltB⟩)
      clear FC
      go_upto_region 7 with (go_at_call 49; refine (rwFill_any hf g hg1 hg _ rfl HTR.out (by have := HSL.out; omega) (by have := HZ.out; omega)).mono ?_; rintro e w4 ⟨rfl, h4, hb4⟩)
      rw [HS1.out] at h4
      have H4 := Lib.hid h4
      have B4 := Lib.hid (show Below B wr w4 from hb4)
      clear h4 hb4 hp k0 k1 k2 hi8
      go_upto_region 8 with (go_at_call 50; refine (rwMark_any (k := 1) hf (.inl rfl) H4.out (by have := L1.out; omega) (Nat.le_of_lt H4.out.lt) _ rfl).mono ?_; rintro e w5 ⟨rfl, h5, hb5⟩)
      rw [HS2.out] at h5
      have H5 := Lib.hid h5
      have B5 := Lib.hid (B4.out.trans hb5)
      clear h5 hb5
      obtain ⟨d0, _, _⟩ := HFC.out _ B5.out
      go_upto_region 9 with (first
        | (go_at_call 52; refine (HIDC.out _ B5.out (by have := HZ.out; have := B5.out.size; omega)).mono ?_; rintro e w6 ⟨rfl, hb6⟩; have H6 := Lib.hid (H5.out.below hb6); have B6 := Lib.hid (B5.out.trans (hb6.mono (Nat.le_of_lt H5.out.lt))); clear hb6)
        | (go_at_call 51; refine (rwBytes_any hf F1 (by have := HF1z.out; omega) (by have := HF1z.out; omega) H6.out (by have := L2.out; omega) (Nat.le_of_lt H6.out.lt)).mono ?_; rintro e w7 ⟨rfl, h7, hb7⟩))
      rw [HF1.out, HS3.out] at h7
      have H7 := Lib.hid h7
      have B7 := Lib.hid (B6.out.trans hb7)
      clear h7 hb7 d0
      go_upto_region 10 with (go_at_call 49; refine (rwFill_any hf 2 (by omega) (by omega) _ rfl H7.out (by have := L3.out; omega) (Nat.le_of_lt H7.out.lt)).mono ?_; rintro e w8 ⟨rfl, h8, hb8⟩)
      rw [show List.replicate 2 (fillY f) = [fillY f, fillY f] from rfl, HS4.out] at h8
      have H8 := Lib.hid h8
      have B8 := Lib.hid (B7.out.trans hb8)
      clear h8 hb8
      go_upto_region 11 with (first
        | (go_at_call 53; refine (HKC.out _ B8.out).mono ?_; rintro e w' ⟨rfl, hw'⟩; rw [hw']; clear hw' w')
        | (go_at_call 50; refine (rwMark_any (k := KD) hf (HKDD.out ▸ S.kd123) H8.out (by have := L4.out; omega) (Nat.le_of_lt H8.out.lt) _ rfl).mono ?_; rintro e w9 ⟨rfl, h9, hb9⟩))
      rw [HS5.out] at h9
      have H9 := Lib.hid h9
      have B9 := Lib.hid (B8.out.trans hb9)
      clear h9 hb9
      obtain ⟨d0, _, _⟩ := HFC.out _ B9.out
      go_wp2_with (first
        | (go_at_call 54; refine (HDAC.out _ B9.out (by have := HZ.out; have := B9.out.size; omega)).mono ?_; rintro e w10 ⟨rfl, hb10⟩; have H10 := Lib.hid (H9.out.below hb10); have B10 := Lib.hid (B9.out.trans (hb10.mono (Nat.le_of_lt H9.out.lt))); clear hb10)
        | (go_at_call 51; refine (rwBytes_any hf F2 (by have := HF2z.out; have := HDT.out; omega) (by have := HF2z.out; omega) H10.out (by have := L5.out; omega) (Nat.le_of_lt H10.out.lt)).mono ?_; rintro e w11 ⟨rfl, h11, hb11⟩))
      rw [HF2.out, HS6.out] at h11
      exact ⟨⟨k + 1, by omega, by go_num, by rw [HFO.out, HALL.out]; exact h11, HBR.out.trans (B10.out.trans hb11)⟩, by simp [intOf] <;> omega⟩
    · obtain rfl : k = N := by omega
      have htk : L.take k = L := List.take_of_length_le (Nat.le_of_eq HN.out)
      rw [htk] at HTR HSL
      have HE := Lib.hid (show (wBytes f (L.foldl (wSect f g) (false, [])) (List.replicate g (fillY f))).2 = trackL f g L from rfl)
      have hBl := Nat.le_of_lt hltB
      clear htk
      go_upto_region 13 with (go_at_call 49; refine (rwFill_any hf g hg1 hg _ rfl HTR.out (by have := HSL.out; omega) hBl).mono ?_; rintro e w4 ⟨rfl, h4, hb4⟩)
      obtain ⟨hBb, A4, c4, hbk, hown, hne⟩ := h4
      have HB4 := Lib.hid hb4
      rw [HE.out] at hbk hown
      have q1 : w4.cell? ⟨B, 1, none⟩ = some (.slice A4 (trackL f g L).length c4) := by rw [Lib.cell_of_heap hbk]; rfl
      have hcv := run_bytesV rfl hown
      obtain ⟨TL, hTL⟩ : ∃ TL, (trackL f g L).length = TL := ⟨_, rfl⟩
      rw [hTL] at q1 hcv
      clear hbk hown hne hb4 k0 k1 k2 hTL
      go_wp2_with fail
      go_ret
      exact ⟨rfl, by rw [HBB.out]; exact HBR.out.trans HB4.out⟩
set_option maxHeartbeats 4000000 in
theorem specBuild_any (f g : Int) (L : List SS) (A : Option Addr) (c : Nat) (w : World) (hn : L.length ≤ 1048576) (hd : ∀ k, k < L.length → (sAt L k).dt.size ≤ 1048576) (hs : SSl w w.heap.size A L) :
    Calls Tryd.prog 7 #[.agg (trkA f g A L.length c)] w fun e w' => e = .returned (.tuple #[.string (btS f g L), .int .i64 (btC f g L)]) ∧ Below w.heap.size w w' := by
  have hb : Below w.heap.size w (w.alloc (.cells (trkA f g A L.length c) 25)) := (Below.refl _ _).alloc (Nat.le_refl _) _
  have hr : Rw (w.alloc (.cells (trkA f g A L.length c) 25)) w.heap.size 25 (trkA f g A L.length c) := Rw.new _ _ _
  have hz : (w.alloc (.cells (trkA f g A L.length c) 25)).heap.size = w.heap.size + 1 := by simp
  obtain ⟨W1, hW1⟩ : ∃ W1, w.alloc (.cells (trkA f g A L.length c) 25) = W1 := ⟨_, rfl⟩
  rw [hW1] at hb hr hz
  have hs1 := (hs.below hb)
  have HV := Lib.hid (specParts_any f g L w.heap.size A c w.heap.size W1 hn hd hs1 hr)
  have HS := Lib.hid hs1
  have HB := Lib.hid hb
  have HR := Lib.hid hr
  have HZ := Lib.hid hz
  unfold trkA at hW1
  obtain ⟨q, hq⟩ : ∃ q, w.heap.size = q := ⟨_, rfl⟩
  rw [hq] at HV HR
  have HQ := Lib.hid hq
  clear hs hs1 hb hr hz hd
  by_cases hok : okTB f g L = true
  · have ho := (okTB_iff f g L).1 hok
    obtain ⟨a1, a2, a3, a4, a5, a6⟩ := ho
    have hbt : btC f g L = if trackN f.toNat g.toNat L ≤ 8000 then 0 else 5 := by unfold btC; rw [if_pos hok]
    have hbs : btS f g L = if trackN f.toNat g.toNat L ≤ 8000 then strL (trackL f.toNat g.toNat L) else .empty := by unfold btS; rw [if_pos hok]
    rw [hbt, hbs]
    rw [hok] at HV
    obtain ⟨F, hF⟩ : ∃ F : Nat, f = F := ⟨f.toNat, by omega⟩
    obtain ⟨G, hG⟩ : ∃ G : Nat, g = G := ⟨g.toNat, by omega⟩
    have hFt : f.toNat = F := by omega
    have hGt : g.toNat = G := by omega
    rw [hFt, hGt]
    subst hF
    subst hG
    have hf3 : f123 F := by unfold f123; omega
    have HT := Lib.hid (fun (m : Nat) => specTotal_any F G hf3 (by omega) L q A c w.heap.size (W1.drewN m) a5 a6 HS.out (HR.out.drewN m))
    have HBB := Lib.hid (fun (m : Nat) => specBuildL_any F G hf3 (by omega) (by omega) L q A c (W1.drewN m) a5 a6 (Sl.more HS.out (show w.heap.size ≤ (W1.drewN m).heap.size by have := HZ.out; show w.heap.size ≤ W1.heap.size; omega)) (HR.out.drewN m))
    obtain ⟨N, hN⟩ : ∃ N, L.length = N := ⟨_, rfl⟩
    unfold trkA
    rw [hN] at hW1 ⊢
    clear hbt hbs hok hFt hGt hN a1 a2 a3 a4 a5 a6 hn
    obtain ⟨T, hT⟩ : ∃ T, trackN F G L = T := ⟨_, rfl⟩
    rw [hT] at HT ⊢
    obtain ⟨X, hX⟩ : ∃ X, strL (trackL F G L) = X := ⟨_, rfl⟩
    rw [hX] at HBB ⊢
    clear hT hX
    by_cases h8 : T ≤ 8000
    · have hT8 : (T : Int) ≤ 8000 := by omega
      rw [if_pos h8, if_pos h8]
      go_enter Tryd.func7, Tryd.ntmps7
      go_upto_region 3 with (go_at_call 24; refine HV.out.mono ?_; rintro e w' ⟨rfl, m1, rfl⟩)
      clear hW1 hq
      go_upto_region 5 with (go_at_call 25; refine (HT.out m1).mono ?_; rintro e w' ⟨rfl, m2, rfl⟩)
      go_wp2_with (go_at_call 26; refine (HBB.out (m1 + m2)).mono ?_; rintro e w3 ⟨rfl, hb3⟩)
      go_ret2
      have hzz := HZ.out
      exact ⟨rfl, HB.out.trans ((((Below.refl W1.heap.size W1).drewN (m1 + m2)).trans hb3).mono (by omega))⟩
    · have hT8 : (8000 : Int) < T := by omega
      rw [if_neg h8, if_neg h8]
      go_enter Tryd.func7, Tryd.ntmps7
      go_upto_region 3 with (go_at_call 24; refine HV.out.mono ?_; rintro e w' ⟨rfl, m1, rfl⟩)
      clear hW1 hq
      go_wp2_with (go_at_call 25; refine (HT.out m1).mono ?_; rintro e w' ⟨rfl, m2, rfl⟩)
      go_ret2
      exact ⟨rfl, HB.out.drewN _⟩
  · have hok2 : okTB f g L = false := by simpa using hok
    have hbt : btC f g L = 1 := by unfold btC; rw [if_neg hok]
    have hbs : btS f g L = .empty := by unfold btS; rw [if_neg hok]
    rw [hbt, hbs]
    rw [hok2] at HV
    unfold trkA
    clear hok hok2 hbt hbs
    go_enter Tryd.func7, Tryd.ntmps7
    go_wp2_with (go_at_call 24; refine HV.out.mono ?_; rintro e w' ⟨rfl, m1, rfl⟩)
    go_ret2
    exact ⟨rfl, HB.out.drewN _⟩
end Go.Proofs.YtabmdbhbbmnkdaaDoor
