/-
  Marks: the reference's marks of a track in the group code, and FindMarks.
-/
import Derived.Test.YtabmdbhbbmnkdaaDoorMkD
namespace Go.Proofs.YtabmdbhbbmnkdaaDoor
open Go Go.ChangeShapes Go.WideShapes Go.ChangeAt Go.RowKit Go.Joins lib
set_option linter.unusedVariables false
set_option linter.unusedSimpArgs false
set_option maxRecDepth 100000
theorem crs_get : ∀ (L : List (Nat × Nat)) (i : Nat), i < L.length → (crsV L).getD (i * 2) undef = .int .i64 (((L.getD i (0, 0)).1 : Nat) : Int) ∧ (crsV L).getD (i * 2 + 1) undef = .int .i64 (((L.getD i (0, 0)).2 : Nat) : Int)
  | [], i, h => by simp at h
  | x :: r, 0, _ => ⟨rfl, rfl⟩
  | x :: r, i + 1, h => by
    have ih := crs_get r i (by simpa using h)
    have e : ∀ j, (crsV (x :: r)).getD (j + 2) undef = (crsV r).getD j undef := fun j => rfl
    rw [show (i + 1) * 2 = i * 2 + 2 by omega, show i * 2 + 2 + 1 = (i * 2 + 1) + 2 by omega, e, e, List.getD_cons_succ]
    exact ih
theorem cntU_le (c : List UInt8) (a : Nat) : cntU c a ≤ c.length := by
  unfold cntU
  have := (List.takeWhile_sublist (l := List.range c.length) fun k => cyc c (a + k) == 49).length_le
  rwa [List.length_range] at this
theorem sync_get (c : List UInt8) (j : Nat) (hj : j < (syncU c c.length).length) : ((syncU c c.length).getD j (0, 0)).1 < c.length ∧ ((syncU c c.length).getD j (0, 0)).2 ≤ c.length := by
  rw [List.getD_eq_getElem?_getD, List.getElem?_eq_getElem hj]
  have hm : (syncU c c.length)[j] ∈ syncU c c.length := List.getElem_mem hj
  show ((syncU c c.length)[j]).1 < c.length ∧ ((syncU c c.length)[j]).2 ≤ c.length
  generalize (syncU c c.length)[j] = x at *
  unfold syncU at hm
  rw [List.mem_flatMap] at hm
  obtain ⟨a, ha, hx⟩ := hm
  rw [List.mem_range] at ha
  unfold syncA at hx
  split at hx
  · rw [List.mem_singleton] at hx
    subst hx
    exact ⟨ha, cntU_le c a⟩
  · cases hx
/-- the mark behind a run -/
def gcrM (c : List UInt8) (k n : Nat) (s : Nat × Nat) : List Mk := if fitsU c (markP 3 k) (s.1 + s.2) then [⟨k, s.1, (s.1 + s.2 + 10) % n⟩] else []
theorem puts_append (o a b : List Mk) : puts o (a ++ b) = puts (puts o a) b := List.foldl_append
theorem flat_take {α β : Type} (g : α → List β) (l : List α) (i : Nat) (h : i < l.length) : (l.take (i + 1)).flatMap g = (l.take i).flatMap g ++ g l[i] := by
  rw [List.take_succ_eq_append_getElem h, List.flatMap_append]
  simp
set_option maxHeartbeats 8000000 in
theorem marks3_any (c : List UInt8) (hn : 1 ≤ c.length) (hm : c.length ≤ 8000) (x : Int) (hx : x = 3) (w : World) : Calls Tryd.prog 34 #[.string (strL c), .int .i64 x] w fun e w' => MarksOut 3 c w w' e := by
  have HSY := Lib.hid (fun W => l07Syncs_any c hn hm W)
  have HMK := Lib.hid (fun (k : Nat) (hk : f123 k) (y : Int) (hy : y = k) (W : World) => specMark_any 3 k (.inr (.inr rfl)) hk x y hx hy W)
  have HFI := Lib.hid (fun (k : Nat) (hk : f123 k) (a : Nat) (ha : a ≤ 50000) (x : Int) (hx : x = a) (W : World) => l07Fits_any c (markP 3 k) hn hm (by have := markP_len 3 k (.inr (.inr rfl)) hk; rw [this, if_neg (by omega), if_neg (by omega)]; omega) a ha x hx W)
  have HML := Lib.hid (fun (k : Nat) => marksK_len 3 c k)
  have HMS := Lib.hid (fun k => show marksK 3 c (k + 1) = puts (marksK 3 c k) (foundU 3 c (k + 1)) from rfl)
  have HFU := Lib.hid (fun (k : Nat) (hk : f123 k) => show foundU 3 c k = if 10 > c.length then [] else (syncU c c.length).flatMap fun s => if fitsU c (markP 3 k) (s.1 + s.2) then [⟨k, s.1, (s.1 + s.2 + 10) % c.length⟩] else [] by
    have := markP_len 3 k (.inr (.inr rfl)) hk
    rw [if_neg (by omega), if_neg (by omega)] at this
    unfold foundU
    rw [if_pos rfl, this])
  have HEX := Lib.hid (fun (k : Nat) (hk : f123 k) => show (strL (markL 3 k)).size = 20 ∧ (strL (markL 3 k)).extract 10 20 = strL (markP 3 k) by
    rcases hk with rfl | rfl | rfl <;> exact ⟨by decide +kernel, by decide +kernel⟩)
  have HPL := Lib.hid (fun (k : Nat) (hk : f123 k) => show (strL (markP 3 k)).size = 10 by
    rw [strL_size, markP_len 3 k (.inr (.inr rfl)) hk]; rfl)
  have hsz : (strL c).size = c.length := strL_size c
  have HGI := Lib.hid (fun (j : Nat) (hj : j < (syncU c c.length).length) => sync_get c j hj)
  have HSL := Lib.hid (syncU_len c c.length)
  subst hx
  unfold MarksOut
  go_enter Tryd.func34, Tryd.ntmps34
  have HNE := Lib.hid (own_nilE w 46 3 w.heap.size (Nat.le_refl _))
  have HBN := Lib.hid ((Below.refl w.heap.size w).alloc (Nat.le_refl _) (.cells #[] 46))
  go_upto_region 4 with (go_at_call 65; refine (HSY.out _).mono ?_; rintro e w1 ⟨A1, c1, rfl, ho1, hb1⟩; have HSY1 := Lib.hid (own_sl ho1); have HO1 := Lib.hid (own_below HNE.out hb1); have HB1 := Lib.hid (HBN.out.trans (hb1.mono HBN.out.size)); clear ho1 hb1)
  have hz1 := HB1.out.size
  obtain ⟨S, hS⟩ : ∃ S, strL c = S := ⟨_, rfl⟩
  obtain ⟨n, hn'⟩ : ∃ n, c.length = n := ⟨_, rfl⟩
  rw [hS] at HFI
  rw [hS, hn'] at hsz
  rw [hn'] at HML HFU HGI HSL hn hm
  rw [hn', hS]
  clear hS HNE HBN HSY
  rw [hn'] at HSY1
  obtain ⟨Y, hY⟩ : ∃ Y, syncU c n = Y := ⟨_, rfl⟩
  rw [hY] at HFU HGI HSL HSY1
  rw [hY]
  have HCG := Lib.hid (crs_get Y)
  obtain ⟨M, hM⟩ : ∃ M, Y.length = M := ⟨_, rfl⟩
  have HMM := Lib.hid hM
  rw [hM] at HGI HSL HSY1 HCG
  rw [hM]
  have hMn : M ≤ n := HSL.out
  clear hY hM hn'
  go_wp2_with fail
  go_loopw [6, 8] (fun s6 s8 wr => ∃ (k m g2 c2 : Nat), k ≤ 3 ∧ (marksK 3 c k).length = m ∧ s8 = .int .i64 ((k + 1 : Nat) : Int) ∧ s6 = .slice (some ⟨g2, 0, none⟩) m c2 ∧ wr.ownsRow w.heap.size 46 3 (.slice (some ⟨g2, 0, none⟩) m c2) m (mksV (marksK 3 c k)) ∧ Below w1.heap.size w1 wr) (fun _ s8 _ => 5 - (intOf s8).toNat)
  case atStart => exact ⟨0, 0, w.heap.size, 0, by omega, rfl, rfl, rfl, HO1.out, Below.refl _ _⟩
  case round =>
    obtain ⟨k, m, g2, c2, hk, hm2, rfl, rfl, ho, hb⟩ := hrel
    have HM := Lib.hid hm2
    have HO := Lib.hid ho
    have HB := Lib.hid hb
    have hz := hb.size
    have hml : m ≤ 24000 := by
      have := HML.out k
      rw [hm2] at this
      exact Nat.le_trans this (Nat.mul_le_mul hk hm)
    clear hm2 ho hb
    by_cases hlt : k < 3
    · have hk3 : f123 (k + 1) := by unfold f123; omega
      have HMS1 := Lib.hid (HMS.out k)
      have HMK1 := Lib.hid (fun W => HMK.out (k + 1) hk3 ((k + 1 : Nat) : Int) rfl W)
      have HFI1 := Lib.hid (HFI.out (k + 1) hk3)
      have HFU1 := Lib.hid (HFU.out (k + 1) hk3)
      have hszp := (HEX.out (k + 1) hk3).1
      have hext := (HEX.out (k + 1) hk3).2
      have hszq := HPL.out (k + 1) hk3
      have HGM := Lib.hid (show ∀ s, gcrM c (k + 1) n s = if fitsU c (markP 3 (k + 1)) (s.1 + s.2) then [⟨k + 1, s.1, (s.1 + s.2 + 10) % n⟩] else [] from fun s => rfl)
      obtain ⟨y, hy⟩ : ∃ y, k + 1 = y := ⟨_, rfl⟩
      rw [hy] at HMS1 HMK1 HFI1 HFU1 hszp hext hszq HGM
      rw [hy]
      have HY := Lib.hid hy
      have hyi : (y : Int) ≤ 3 := by omega
      obtain ⟨PS, hPS⟩ : ∃ PS, strL (markL 3 y) = PS := ⟨_, rfl⟩
      rw [hPS] at HMK1 hszp hext
      obtain ⟨QS, hQS⟩ : ∃ QS, strL (markP 3 y) = QS := ⟨_, rfl⟩
      rw [hQS] at HFI1 hext hszq
      clear hy hPS hQS hk3
      by_cases hbig : n < 10
      · have HE := Lib.hid (show foundU 3 c y = [] by rw [HFU1.out, if_pos hbig])
        have hbi : (n : Int) < 10 := by omega
        go_wp2_with (go_at_call 66; refine (HMK1.out _).mono ?_; rintro e w2 ⟨rfl, hb2⟩)
        refine ⟨⟨k + 1, m, g2, c2, by omega, by rw [HY.out, HMS1.out, HE.out]; exact HM.out, by have := HY.out; go_num, rfl, by rw [HY.out, HMS1.out, HE.out]; exact own_below HO.out hb2, HB.out.trans (hb2.mono hz)⟩, by have := HY.out; simp [intOf] <;> omega⟩
      · have HE := Lib.hid (show foundU 3 c y = Y.flatMap (gcrM c y n) by rw [HFU1.out, if_neg hbig]; rfl)
        have hbi : ¬ (n : Int) < 10 := by omega
        have hnz : ((n : Int) = 0) = False := by simp; omega
        go_upto_region 18 with (go_at_call 66; refine (HMK1.out _).mono ?_; rintro e w3 ⟨rfl, hb3⟩)
        have HO3 := Lib.hid (own_below HO.out hb3)
        have HB3 := Lib.hid (HB.out.trans (hb3.mono hz))
        have hz3 := HB3.out.size
        clear hb3
        go_wp2_with fail
        go_loopw [6, 13] (fun s6 s13 wx => ∃ (i q g3 c4 : Nat), i ≤ M ∧ q ≤ m + i ∧ (puts (marksK 3 c k) ((Y.take i).flatMap (gcrM c y n))).length = q ∧ s13 = .int .i64 i ∧ s6 = .slice (some ⟨g3, 0, none⟩) q c4 ∧ wx.ownsRow w.heap.size 46 3 (.slice (some ⟨g3, 0, none⟩) q c4) q (mksV (puts (marksK 3 c k) ((Y.take i).flatMap (gcrM c y n)))) ∧ Below w1.heap.size w1 wx) (fun _ s13 _ => M - (intOf s13).toNat)
        case atStart => exact ⟨0, m, g2, c2, by omega, by omega, HM.out, rfl, rfl, HO3.out, HB3.out⟩
        case round =>
          obtain ⟨i, q, g3, c4, hi, hq, hql, rfl, rfl, ho4, hb4⟩ := hrel
          have HQ := Lib.hid hql
          have HO4 := Lib.hid ho4
          have HB4 := Lib.hid hb4
          have hz4 := hb4.size
          have hq2 : q ≤ 32000 := by omega
          clear hql ho4 hb4
          by_cases hlt2 : i < M
          · have hii : (i : Int) < (M : Int) := by omega
            have hgi := HGI.out i hlt2
            have HCG1 := Lib.hid (HCG.out i hlt2)
            have HST := Lib.hid (show (Y.take (i + 1)).flatMap (gcrM c y n) = (Y.take i).flatMap (gcrM c y n) ++ gcrM c y n (Y.getD i (0, 0)) by
              have h : i < Y.length := by have := HMM.out; omega
              rw [flat_take _ _ _ h, List.getD_eq_getElem?_getD, List.getElem?_eq_getElem h]
              rfl)
            obtain ⟨b, o, rfl, hbb, h0⟩ := HSY1.out (i * 2) (by omega)
            obtain ⟨b', o', e', _, h1⟩ := HSY1.out (i * 2 + 1) (by omega)
            injection e' with e'
            injection e' with e1 e2 _
            subst e1 e2
            simp only at h0 h1
            rw [HCG1.out.1] at h0
            rw [HCG1.out.2] at h1
            obtain ⟨s, hs⟩ : ∃ s, Y.getD i (0, 0) = s := ⟨_, rfl⟩
            rw [hs] at h0 h1 hgi HST
            obtain ⟨a, l⟩ := s
            simp only at h0 h1 hgi
            have c0 : wr.cell? ⟨b, o + i * 2, none⟩ = some (.int .i64 (a : Int)) := (HB4.out.cell (p := ⟨b, o + i * 2, none⟩) hbb).trans h0
            have c1 : wr.cell? ⟨b, o + i * 2 + 1, none⟩ = some (.int .i64 (l : Int)) := (HB4.out.cell (p := ⟨b, o + i * 2 + 1, none⟩) hbb).trans h1
            have HC0 := Lib.hid c0
            have HBBB := Lib.hid (show b < wr.heap.size by omega)
            have HGA := Lib.hid (show gcrM c y n (a, l) = if fitsU c (markP 3 y) (a + l) then [⟨y, a, (a + l + 10) % n⟩] else [] from rfl)
            have HFI2 := Lib.hid (fun (x : Int) (hx : x = (a : Int) + (l : Int)) (W : World) => HFI1.out (a + l) (by omega) x (by omega) W)
            obtain ⟨fb, hfb⟩ : ∃ fb, fitsU c (markP 3 y) (a + l) = fb := ⟨_, rfl⟩
            rw [hfb] at HFI2 HGA
            have ht2 : Int.tmod ((a : Int) + (l : Int) + 10) (n : Int) = (((a + l + 10) % n : Nat) : Int) := by
              rw [Int.tmod_eq_emod_of_nonneg (by omega)]
              simp
            obtain ⟨z, hzz⟩ : ∃ z, (a + l + 10) % n = z := ⟨_, rfl⟩
            rw [hzz] at ht2 HGA
            have ht3 : ((a : Int) + (l : Int) + 10) % (n : Int) = (z : Int) := by rw [← ht2, Int.tmod_eq_emod_of_nonneg (by omega)]
            have hw0 : IntKind.i64.wrap ((a : Int) + (l : Int)) = (a : Int) + (l : Int) := by rw [IntKind.wrap_i64]; omega
            have hw1 : IntKind.i64.wrap ((a : Int) + (l : Int) + 10) = (a : Int) + (l : Int) + 10 := by rw [IntKind.wrap_i64]; omega
            have hnz0 : (n = 0) = False := by simp; omega
            have hzn : z < n := by rw [← hzz]; exact Nat.mod_lt _ (by omega)
            clear hs hfb hzz h0 h1
            cases fb
            · have HP2 := Lib.hid (show puts (marksK 3 c k) ((Y.take (i + 1)).flatMap (gcrM c y n)) = puts (marksK 3 c k) ((Y.take i).flatMap (gcrM c y n)) by
                rw [HST.out, HGA.out, if_neg (by simp), List.append_nil])
              go_wp2_with fail
              go_quiet (fail)
              go_wp2_with (go_at_call 69; refine (HFI2.out _ rfl _).mono ?_; rintro e w5 ⟨rfl, hb5⟩)
              have hb6 := ((Below.refl wr.heap.size wr).drewN nq).trans hb5
              exact ⟨⟨i + 1, q, g3, c4, by omega, by omega, by rw [HP2.out]; exact HQ.out, by go_num, rfl, by rw [HP2.out]; exact own_below HO4.out hb6, HB4.out.trans (hb6.mono hz4)⟩, by simp [intOf] <;> omega⟩
            · have HP2 := Lib.hid (show puts (marksK 3 c k) ((Y.take (i + 1)).flatMap (gcrM c y n)) = putM ⟨y, a, z⟩ (puts (marksK 3 c k) ((Y.take i).flatMap (gcrM c y n))) by
                rw [HST.out, HGA.out, if_pos rfl, puts_append]; rfl)
              go_wp2_with fail
              go_quiet (fail)
              go_upto_region 23 with (go_at_call 69; refine (HFI2.out _ rfl _).mono ?_; rintro e w5 ⟨rfl, hb5⟩)
              have hb6 := ((Below.refl wr.heap.size wr).drewN nq).trans hb5
              have HB6 := Lib.hid (HB4.out.trans (hb6.mono hz4))
              have HO6 := Lib.hid (own_below HO4.out hb6)
              have cc : w5.drew.cell? ⟨b, o + i * 2, none⟩ = some (.int .i64 (a : Int)) := (hb6.cell (p := ⟨b, o + i * 2, none⟩) HBBB.out).trans HC0.out
              have hz6 := HB6.out.size
              clear hb5 hb6 c0 c1
              have HPUT := Lib.hid (fun (W : World) (hW : Below w5.heap.size w5 W) => l07Put_at (w := W) ⟨y, a, z⟩ (y : Int) (a : Int) (z : Int) rfl rfl rfl (own_below HO6.out hW) HQ.out (by omega))
              go_region_law (go_simp; go_at_call 68; refine (HPUT.out _ ((Below.refl _ _).drew)).mono ?_; rintro e w7 ⟨g5, c5, rfl, ho5, hb5⟩)
              all_goals
                go_wp2_with fail
                exact ⟨⟨i + 1, q + 1, g5, c5, by omega, by omega, by rw [HP2.out, putM_len, HQ.out], by go_num, rfl, by rw [HP2.out]; exact own_base ho5 (by have := HB1.out.size; simp; omega), HB6.out.trans (((Below.refl _ _).drew.trans hb5).mono hz6)⟩, by simp [intOf] <;> omega⟩
          · obtain rfl : i = M := by omega
            have HTE := Lib.hid (show puts (marksK 3 c k) ((Y.take i).flatMap (gcrM c y n)) = marksK 3 c y by rw [HMS1.out, HE.out, List.take_of_length_le (by rw [HMM.out]; exact Nat.le_refl _)])
            go_wp2_with fail
            refine ⟨⟨k + 1, q, g3, c4, by omega, by rw [HY.out, ← HTE.out]; exact HQ.out, by have := HY.out; go_num, rfl, by rw [HY.out, ← HTE.out]; exact HO4.out, HB4.out⟩, by have := HY.out; simp [intOf] <;> omega⟩
    · obtain rfl : k = 3 := by omega
      go_wp2_with fail
      go_ret
      have hm := HM.out
      subst hm
      exact ⟨g2, c2, rfl, HO.out, HB1.out.trans (HB.out.mono hz1)⟩
end Go.Proofs.YtabmdbhbbmnkdaaDoor
