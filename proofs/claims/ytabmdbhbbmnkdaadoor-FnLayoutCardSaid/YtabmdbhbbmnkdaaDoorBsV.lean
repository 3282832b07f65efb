/-
  Tracks: the reference's small functions of a sector and of a track.
-/
import Derived.Test.YtabmdbhbbmnkdaaDoorBtV
import Derived.Test.YtabmdbhbbmnkdaaDoorBtC
namespace Go.Proofs.YtabmdbhbbmnkdaaDoor
open Go Go.ChangeShapes Go.WideShapes Go.ChangeAt Go.RowKit Go.Joins lib
set_option linter.unusedVariables false
set_option linter.unusedSimpArgs false
set_option maxRecDepth 100000
/-- a sector's cells at a place -/
def SecAt (w : World) (b p : Nat) (S : SS) : Prop := w.cell? ⟨b, p, none⟩ = some (.int .i64 S.cy) ∧ w.cell? ⟨b, p + 1, none⟩ = some (.int .i64 S.hd) ∧ w.cell? ⟨b, p + 2, none⟩ = some (.int .i64 S.no) ∧ w.cell? ⟨b, p + 3, none⟩ = some (.int .i64 S.sz) ∧ w.cell? ⟨b, p + 4, none⟩ = some (.string S.dt) ∧ w.cell? ⟨b, p + 5, none⟩ = some (.bool S.dl) ∧ w.cell? ⟨b, p + 6, none⟩ = some (.bool S.bi) ∧ w.cell? ⟨b, p + 7, none⟩ = some (.bool S.bd)
theorem SecAt.below {w W : World} {b p B : Nat} {S : SS} (h : SecAt w b p S) (hb : Below B w W) (hB : b < B) : SecAt W b p S := by
  have k : ∀ o, W.cell? ⟨b, o, none⟩ = w.cell? ⟨b, o, none⟩ := fun o => hb.cell (p := ⟨b, o, none⟩) hB
  obtain ⟨h0, h1, h2, h3, h4, h5, h6, h7⟩ := h
  exact ⟨(k _).trans h0, (k _).trans h1, (k _).trans h2, (k _).trans h3, (k _).trans h4, (k _).trans h5, (k _).trans h6, (k _).trans h7⟩
theorem l00InB_any (x lo hi : Int) (w : World) : Calls Tryd.prog 45 #[.int .i64 x, .int .i64 lo, .int .i64 hi] w fun e w' => e = .returned (.bool (inB lo hi x)) ∧ w' = w := by
  refine (l00In_any x lo hi w).mono ?_
  rintro e w' ⟨rfl, rfl⟩
  exact ⟨rfl, rfl⟩
set_option maxHeartbeats 4000000 in
theorem specSector_any (S : SS) (b p : Nat) (hd : S.dt.size ≤ 1048576) (w : World) (hs : SecAt w b p S) : Calls Tryd.prog 46 #[.pointer (some ⟨b, p, none⟩)] w fun e w' => e = .returned (.bool S.okB) ∧ ∃ m, w' = w.drewN m := by
  obtain ⟨k0, k1, k2, k3, k4, _, _, _⟩ := hs
  unfold SS.okB
  have HOL := Lib.hid (show okLen S = ((S.dt.size : Int) == szB S.sz) from rfl)
  obtain ⟨cy, hdd, no, sz, dt, dl, bi, bd⟩ := S
  simp only at *
  obtain ⟨b1, g1⟩ : ∃ b, inB 0 255 cy = b := ⟨_, rfl⟩
  obtain ⟨b2, g2⟩ : ∃ b, inB 0 255 hdd = b := ⟨_, rfl⟩
  obtain ⟨b3, g3⟩ : ∃ b, inB 0 255 no = b := ⟨_, rfl⟩
  obtain ⟨b4, g4⟩ : ∃ b, inB 0 2 sz = b := ⟨_, rfl⟩
  obtain ⟨b5, g5⟩ : ∃ b, okLen ⟨cy, hdd, no, sz, dt, dl, bi, bd⟩ = b := ⟨_, rfl⟩
  have H1 := Lib.hid (fun W => g1 ▸ l00InB_any cy 0 255 W)
  have H2 := Lib.hid (fun W => g2 ▸ l00InB_any hdd 0 255 W)
  have H3 := Lib.hid (fun W => g3 ▸ l00InB_any no 0 255 W)
  have H4 := Lib.hid (fun W => g4 ▸ l00InB_any sz 0 2 W)
  have hsz : b4 = true → sz = 0 ∨ sz = 1 ∨ sz = 2 := by
    rintro rfl
    unfold inB at g4
    simp at g4
    omega
  have h5 : ((dt.size : Int) == szB sz) = b5 := by rw [← HOL.out, g5]
  rw [g1, g2, g3, g4, g5]
  clear g1 g2 g3 g4 g5 HOL
  cases b1
  · rw [Bool.false_and, Bool.false_and, Bool.false_and, Bool.false_and]
    clear h5 hsz
    go_enter Tryd.func46, Tryd.ntmps46
    go_wp2
    go_quiet ((go_at_call 45; first | (with_reducible exact Calls.quiet_of_same (H1.out _)) | (with_reducible exact Calls.quiet_of_same (H2.out _)) | (with_reducible exact Calls.quiet_of_same (H3.out _)) | (with_reducible exact Calls.quiet_of_same (H4.out _))))
    go_wp2
    go_ret
    exact ⟨rfl, _, rfl⟩
  cases b2
  · rw [Bool.and_false, Bool.false_and, Bool.false_and, Bool.false_and]
    clear h5 hsz
    go_enter Tryd.func46, Tryd.ntmps46
    go_wp2
    go_quiet ((go_at_call 45; first | (with_reducible exact Calls.quiet_of_same (H1.out _)) | (with_reducible exact Calls.quiet_of_same (H2.out _)) | (with_reducible exact Calls.quiet_of_same (H3.out _)) | (with_reducible exact Calls.quiet_of_same (H4.out _))))
    go_wp2
    go_ret
    exact ⟨rfl, _, rfl⟩
  cases b3
  · rw [Bool.and_false, Bool.false_and, Bool.false_and]
    clear h5 hsz
    go_enter Tryd.func46, Tryd.ntmps46
    go_wp2
    go_quiet ((go_at_call 45; first | (with_reducible exact Calls.quiet_of_same (H1.out _)) | (with_reducible exact Calls.quiet_of_same (H2.out _)) | (with_reducible exact Calls.quiet_of_same (H3.out _)) | (with_reducible exact Calls.quiet_of_same (H4.out _))))
    go_wp2
    go_ret
    exact ⟨rfl, _, rfl⟩
  cases b4
  · rw [Bool.and_false, Bool.false_and]
    clear h5 hsz
    go_enter Tryd.func46, Tryd.ntmps46
    go_wp2
    go_quiet ((go_at_call 45; first | (with_reducible exact Calls.quiet_of_same (H1.out _)) | (with_reducible exact Calls.quiet_of_same (H2.out _)) | (with_reducible exact Calls.quiet_of_same (H3.out _)) | (with_reducible exact Calls.quiet_of_same (H4.out _))))
    go_wp2
    go_ret
    exact ⟨rfl, _, rfl⟩
  have hsz' := hsz rfl
  clear hsz
  rw [Bool.and_true, Bool.and_true, Bool.and_true, Bool.true_and]
  rcases hsz' with rfl | rfl | rfl
  · rw [show szB 0 = 8 from rfl] at h5
    go_enter Tryd.func46, Tryd.ntmps46
    go_wp2
    go_quiet ((go_at_call 45; first | (with_reducible exact Calls.quiet_of_same (H1.out _)) | (with_reducible exact Calls.quiet_of_same (H2.out _)) | (with_reducible exact Calls.quiet_of_same (H3.out _)) | (with_reducible exact Calls.quiet_of_same (H4.out _))))
    go_wp2
    go_ret
    exact ⟨rfl, _, rfl⟩
  · rw [show szB 1 = 16 from rfl] at h5
    go_enter Tryd.func46, Tryd.ntmps46
    go_wp2
    go_quiet ((go_at_call 45; first | (with_reducible exact Calls.quiet_of_same (H1.out _)) | (with_reducible exact Calls.quiet_of_same (H2.out _)) | (with_reducible exact Calls.quiet_of_same (H3.out _)) | (with_reducible exact Calls.quiet_of_same (H4.out _))))
    go_wp2
    go_ret
    exact ⟨rfl, _, rfl⟩
  · rw [show szB 2 = 32 from rfl] at h5
    go_enter Tryd.func46, Tryd.ntmps46
    go_wp2
    go_quiet ((go_at_call 45; first | (with_reducible exact Calls.quiet_of_same (H1.out _)) | (with_reducible exact Calls.quiet_of_same (H2.out _)) | (with_reducible exact Calls.quiet_of_same (H3.out _)) | (with_reducible exact Calls.quiet_of_same (H4.out _))))
    go_wp2
    go_ret
    exact ⟨rfl, _, rfl⟩
theorem specFormat_any (x : Int) (w : World) : Calls Tryd.prog 33 #[.int .i64 x] w fun e w' => e = .returned (.bool (inB 1 3 x)) ∧ w' = w := by
  go_enter Tryd.func33, Tryd.ntmps33
  go_wp2_with (go_at_call 45; refine (l00InB_any _ _ _ _).mono ?_; rintro e w' ⟨rfl, hw'⟩; rw [hw']; clear hw' w')
  go_ret
  exact ⟨rfl, rfl⟩
theorem SSl.secAt {w : World} {B : Nat} {A : Option Addr} {L : List SS} (h : SSl w B A L) {k : Nat} (hk : k < L.length) : ∃ b o, A = some ⟨b, o, none⟩ ∧ b < B ∧ SecAt w b (o + k * 8) (sAt L k) := by
  obtain ⟨b, o, hA, hb, h0, h1, h2, h3, h4, h5, h6, h7⟩ := h.elem hk
  exact ⟨b, o, hA, hb, h0, h1, h2, h3, h4, h5, h6, h7⟩
set_option maxHeartbeats 4000000 in
theorem specParts_any (f g : Int) (L : List SS) (q : Nat) (A : Option Addr) (c B : Nat) (w : World) (hn : L.length ≤ 1048576) (hd : ∀ k, k < L.length → (sAt L k).dt.size ≤ 1048576) (hs : SSl w B A L) (hr : Rw w q 25 (trkA f g A L.length c)) :
    Calls Tryd.prog 24 #[.pointer (some ⟨q, 0, none⟩)] w fun e w' => e = .returned (.bool (okTB f g L)) ∧ ∃ m, w' = w.drewN m := by
  unfold okTB
  unfold trkA at hr
  have HS := Lib.hid hs
  obtain ⟨N, hN⟩ : ∃ N, L.length = N := ⟨_, rfl⟩
  have HN := Lib.hid hN
  rw [hN] at hn hr ⊢
  clear hN
  have k0 := hr.cell 0
  have k1 := hr.cell 1
  have k2 := hr.cell 2
  obtain ⟨b1, g1⟩ : ∃ b, inB 1 3 f = b := ⟨_, rfl⟩
  obtain ⟨b2, g2⟩ : ∃ b, inB 1 20 g = b := ⟨_, rfl⟩
  have H1 := Lib.hid (fun W => g1 ▸ specFormat_any f W)
  have H2 := Lib.hid (fun W => g2 ▸ l00InB_any g 1 20 W)
  have HD := Lib.hid hd
  rw [g1, g2]
  have HR := Lib.hid hr
  clear hs hr g1 g2 hd
  cases b1
  · rw [Bool.false_and, Bool.false_and, Bool.false_and]
    go_enter Tryd.func24, Tryd.ntmps24
    go_wp2_with (go_at_call 33; refine (H1.out _).mono ?_; rintro e w' ⟨rfl, hw'⟩; rw [hw']; clear hw' w')
    go_ret
    exact ⟨rfl, 0, rfl⟩
  cases b2
  · rw [Bool.and_false, Bool.false_and, Bool.false_and]
    go_enter Tryd.func24, Tryd.ntmps24
    go_wp2_with (first
      | (go_at_call 33; refine (H1.out _).mono ?_; rintro e w' ⟨rfl, hw'⟩; rw [hw']; clear hw' w')
      | (go_at_call 45; refine (H2.out _).mono ?_; rintro e w' ⟨rfl, hw'⟩; rw [hw']; clear hw' w'))
    go_ret
    exact ⟨rfl, 0, rfl⟩
  by_cases h8 : N ≤ 8
  · have hi8 : decide ((N : Int) > 8) = false := by simp; omega
    rw [decide_eq_true h8, Bool.and_true, Bool.and_true, Bool.true_and]
    go_enter Tryd.func24, Tryd.ntmps24
    go_wp2_with (first
      | (go_at_call 33; refine (H1.out _).mono ?_; rintro e w' ⟨rfl, hw'⟩; rw [hw']; clear hw' w')
      | (go_at_call 45; refine (H2.out _).mono ?_; rintro e w' ⟨rfl, hw'⟩; rw [hw']; clear hw' w'))
    clear hi8 k0 k1 k2
    go_loopw [3] (fun s3 wr => ∃ k m : Nat, k ≤ N ∧ s3 = .int .i64 k ∧ (L.take k).all SS.okB = true ∧ wr = w.drewN m) (fun i _ => N - (intOf i).toNat)
    case atStart => exact ⟨0, 0, by omega, rfl, by simp, rfl⟩
    case round =>
      obtain ⟨k, m, hk, rfl, hall, rfl⟩ := hrel
      have HA := Lib.hid hall
      clear hall
      have hr' : Rw (w.drewN m) q 25 #[.int .i64 f, .int .i64 g, .slice A N c] := HR.out.drewN m
      have k2 := hr'.cell 2
      clear hr'
      by_cases hlt : k < N
      · have hkL : k < L.length := by rw [HN.out]; exact hlt
        have HTS := Lib.hid (all_take_succ L k hkL)
        have HAF := Lib.hid (all_false L k hkL)
        have hdk := HD.out k hkL
        obtain ⟨b, o, rfl, hbb, hsa⟩ := HS.out.secAt hkL
        obtain ⟨S, hS⟩ : ∃ S, sAt L k = S := ⟨_, rfl⟩
        rw [hS] at hdk HTS HAF hsa
        have hi8 : (k : Int) < (N : Int) := by omega
        have HV := Lib.hid (specSector_any S b (o + k * 8) hdk (w.drewN m) hsa)
        clear hS hkL hdk hsa
        obtain ⟨z, hz⟩ : ∃ z, S.okB = z := ⟨_, rfl⟩
        rw [hz] at HV HTS HAF
        clear hz
        cases z
        · go_wp2_with (go_at_call 46; refine HV.out.mono ?_; rintro e w' ⟨rfl, m2, rfl⟩)
          go_ret
          rw [HAF.out (by first | trivial | rfl)]
          exact ⟨rfl, m + m2, by simp⟩
        · go_wp2_with (go_at_call 46; refine HV.out.mono ?_; rintro e w' ⟨rfl, m2, rfl⟩)
          exact ⟨⟨k + 1, m + m2, by omega, by go_num, by rw [HTS.out, HA.out]; rfl, by simp⟩, by simp [intOf]; omega⟩
      · obtain rfl : k = N := by omega
        go_wp2_with fail
        go_ret
        have e1 : L.take k = L := List.take_of_length_le (Nat.le_of_eq HN.out)
        have e2 := HA.out
        rw [e1] at e2
        rw [e2]
        exact ⟨rfl, m, rfl⟩
  · have hi8 : (8 : Int) < (N : Int) := by omega
    rw [decide_eq_false h8, Bool.and_false, Bool.false_and]
    go_enter Tryd.func24, Tryd.ntmps24
    go_wp2_with (first
      | (go_at_call 33; refine (H1.out _).mono ?_; rintro e w' ⟨rfl, hw'⟩; rw [hw']; clear hw' w')
      | (go_at_call 45; refine (H2.out _).mono ?_; rintro e w' ⟨rfl, hw'⟩; rw [hw']; clear hw' w'))
    go_ret
    exact ⟨rfl, 0, rfl⟩
theorem specCell_any (f : Nat) (hf : f123 f) (x : Int) (hx : x = f) (w : World) : Calls Tryd.prog 47 #[.int .i64 x] w fun e w' => e = .returned (.int .i64 (cellN f : Nat)) ∧ w' = w := by
  subst hx
  rcases hf with rfl | rfl | rfl <;> (
    go_enter Tryd.func47, Tryd.ntmps47
    go_wp2
    go_ret
    exact ⟨rfl, rfl⟩)
def syncN (f : Nat) : Nat := if f = 1 then 32 else if f = 2 then 48 else 20
def msizeN (f : Nat) : Nat := if f = 1 then 16 else if f = 2 then 64 else 10
theorem specSync_any (f : Nat) (hf : f123 f) (x : Int) (hx : x = f) (w : World) : Calls Tryd.prog 81 #[.int .i64 x] w fun e w' => e = .returned (.int .i64 (syncN f : Nat)) ∧ w' = w := by
  subst hx
  rcases hf with rfl | rfl | rfl <;> (
    go_enter Tryd.func81, Tryd.ntmps81
    go_wp2
    go_ret
    exact ⟨rfl, rfl⟩)
theorem specMsize_any (f : Nat) (hf : f123 f) (x : Int) (hx : x = f) (w : World) : Calls Tryd.prog 82 #[.int .i64 x] w fun e w' => e = .returned (.int .i64 (msizeN f : Nat)) ∧ w' = w := by
  subst hx
  rcases hf with rfl | rfl | rfl <;> (
    go_enter Tryd.func82, Tryd.ntmps82
    go_wp2
    go_ret
    exact ⟨rfl, rfl⟩)
theorem specCells_any (f : Nat) (hf : f123 f) (x z : Int) (hx : x = f) (h0 : 0 ≤ z) (h2 : z ≤ 2) (w : World) : Calls Tryd.prog 48 #[.int .i64 x, .int .i64 z] w fun e w' => e = .returned (.int .i64 (sectZ f z : Nat)) ∧ w' = w := by
  have HR := Lib.hid (fun W => specSync_any f hf x hx W)
  have HM := Lib.hid (fun W => specMsize_any f hf x hx W)
  have HC := Lib.hid (fun W => specCell_any f hf x hx W)
  have hcs := cellN_le f
  have hsy : syncN f ≤ 48 ∧ msizeN f ≤ 64 ∧ syncN f + msizeN f = runN f := by rcases hf with rfl | rfl | rfl <;> decide
  have : z = 0 ∨ z = 1 ∨ z = 2 := by omega
  obtain ⟨S, hS⟩ : ∃ S, syncN f = S := ⟨_, rfl⟩
  obtain ⟨M, hM⟩ : ∃ M, msizeN f = M := ⟨_, rfl⟩
  obtain ⟨C, hC⟩ : ∃ C, cellN f = C := ⟨_, rfl⟩
  obtain ⟨Y, hY⟩ : ∃ Y, sectZ f z = Y := ⟨_, rfl⟩
  have HY := Lib.hid (show Y = 2 * (S + M) + (10 + 8 * 2 ^ z.toNat) * C by rw [← hY, ← hS, ← hM, ← hC, hsy.2.2]; rfl)
  rw [hS] at HR hsy
  rw [hM] at HM hsy
  rw [hC] at HC hcs
  rw [hY]
  obtain ⟨hs1, hs2, _⟩ := hsy
  clear hS hM hC hY hx h0 h2
  rcases this with rfl | rfl | rfl <;> (
    go_enter Tryd.func48, Tryd.ntmps48
    go_wp2_with (first
      | (go_at_call 81; refine (HR.out _).mono ?_; rintro e w' ⟨rfl, hw'⟩; rw [hw']; clear hw' w')
      | (go_at_call 82; refine (HM.out _).mono ?_; rintro e w' ⟨rfl, hw'⟩; rw [hw']; clear hw' w')
      | (go_at_call 47; refine (HC.out _).mono ?_; rintro e w' ⟨rfl, hw'⟩; rw [hw']; clear hw' w'))
    go_ret
    refine ⟨?_, rfl⟩
    rw [HY.out]
    try simp)
def sumZ (f : Nat) (l : List SS) : Nat := (l.map fun s => sectN f s).sum
theorem sumZ_snoc (f : Nat) (l : List SS) (s : SS) : sumZ f (l ++ [s]) = sumZ f l + sectN f s := by
  unfold sumZ
  rw [List.map_append, List.sum_append]
  simp
theorem trackN_sum (f g : Nat) : ∀ (l : List SS), trackN f g l = (l.length + 1) * g * cellN f + sumZ f l
  | [] => by unfold trackN sumZ; simp
  | s :: r => by
    have ih := trackN_sum f g r
    unfold trackN sumZ at *
    rw [List.map_cons, List.sum_cons, List.map_cons, List.sum_cons, List.length_cons]
    rw [show (r.length + 1 + 1) * g * cellN f = (r.length + 1) * g * cellN f + g * cellN f by rw [Nat.add_mul (r.length + 1) 1 g, Nat.add_mul, Nat.one_mul]]
    omega
set_option maxHeartbeats 4000000 in
theorem specTotal_any (f g : Nat) (hf : f123 f) (hg : g ≤ 20) (L : List SS) (q : Nat) (A : Option Addr) (c B : Nat) (w : World) (hn : L.length ≤ 8) (hok : ∀ s ∈ L, s.ok) (hs : SSl w B A L) (hr : Rw w q 25 (trkA f g A L.length c)) :
    Calls Tryd.prog 25 #[.pointer (some ⟨q, 0, none⟩)] w fun e w' => e = .returned (.int .i64 (trackN f g L : Nat)) ∧ ∃ m, w' = w.drewN m := by
  have h16 := cellN_le f
  have HS := Lib.hid hs
  have HTL := Lib.hid (fun k => trackN_le f g hg (L.take k) (fun s h => hok s (List.mem_of_mem_take h)))
  have HOK := Lib.hid hok
  have HC := Lib.hid (fun W => specCell_any f hf f rfl W)
  have HZ := Lib.hid (fun z h0 h2 W => specCells_any f hf f z rfl h0 h2 W)
  unfold trkA at hr
  have HTT := Lib.hid (trackN_sum f g L)
  obtain ⟨N, hN⟩ : ∃ N, L.length = N := ⟨_, rfl⟩
  have HN := Lib.hid hN
  have hN1 : (N : Int) + 1 = ((N + 1 : Nat) : Int) := by omega
  obtain ⟨N1, hN1'⟩ : ∃ N1, N + 1 = N1 := ⟨_, rfl⟩
  obtain ⟨C, hC⟩ : ∃ C, cellN f = C := ⟨_, rfl⟩
  obtain ⟨NG, hNG⟩ : ∃ NG, N1 * g = NG := ⟨_, rfl⟩
  obtain ⟨G, hG⟩ : ∃ G, NG * C = G := ⟨_, rfl⟩
  have hng : NG ≤ 180 := by rw [← hNG, ← hN1']; exact Nat.le_trans (Nat.mul_le_mul (show N + 1 ≤ 9 by omega) hg) (by omega)
  rw [hC] at HC h16
  have hgb : G ≤ 2880 := by rw [← hG]; exact Nat.le_trans (Nat.mul_le_mul hng h16) (by omega)
  have HG := Lib.hid (show trackN f g L = G + sumZ f L by rw [HTT.out, hN, hN1', hC, hNG, hG])
  rw [hN1'] at hN1
  have hi1 : (N1 : Int) * (g : Int) = (NG : Int) := by rw [← hNG]; simp
  have hi2 : (NG : Int) * (C : Int) = (G : Int) := by rw [← hG]; simp
  have hw1 : IntKind.i64.wrap (N1 : Int) = (N1 : Int) := by rw [IntKind.wrap_i64]; omega
  have hw2 : IntKind.i64.wrap (NG : Int) = (NG : Int) := by rw [IntKind.wrap_i64]; omega
  have hw3 : IntKind.i64.wrap (G : Int) = (G : Int) := by rw [IntKind.wrap_i64]; omega
  rw [hN] at hn hr
  have HR := Lib.hid hr
  have k0 := hr.cell 0
  have k1 := hr.cell 1
  have k2 := hr.cell 2
  clear hs hr hok hN hC hG hNG hN1'
  go_enter Tryd.func25, Tryd.ntmps25
  go_wp2
  go_quiet ((go_at_call 47; exact Calls.quiet_of_same (HC.out _)))
  go_wp2_with fail
  clear k0 k1 k2 hN1 hi1 hi2 hw1 hw2 hw3
  go_loopw [3, 4] (fun s3 s4 wr => ∃ k m : Nat, k ≤ N ∧ s4 = .int .i64 k ∧ s3 = .int .i64 (G + sumZ f (L.take k) : Nat) ∧ wr = w.drewN m) (fun _ i _ => N - (intOf i).toNat)
  case atStart => exact ⟨0, _, by omega, rfl, by rw [List.take_zero]; rfl, rfl⟩
  case round =>
    obtain ⟨k, m, hk, rfl, rfl, hwr⟩ := hrel
    have hrr : Rw wr q 25 #[.int .i64 (f : Int), .int .i64 (g : Int), .slice A N c] := by rw [hwr]; exact HR.out.drewN m
    have HWR := Lib.hid hwr
    clear hwr
    have k0 := hrr.cell 0
    have k2 := hrr.cell 2
    clear hrr
    by_cases hlt : k < N
    · have hkL : k < L.length := by rw [HN.out]; exact hlt
      have hs' : SSl wr B A L := by rw [HWR.out]; exact HS.out
      obtain ⟨b, o, rfl, hbb, c0, c1, c2, c3, c4, c5, c6, c7⟩ := hs'.elem hkL
      clear hs'
      have hmem : sAt L k ∈ L := by
        unfold sAt
        rw [List.getD_eq_getElem?_getD, List.getElem?_eq_getElem hkL]
        exact List.getElem_mem hkL
      have hsk := (HOK.out _ hmem).2.2.2.1
      have HTS := Lib.hid (show sumZ f (L.take (k + 1)) = sumZ f (L.take k) + sectZ f (sAt L k).sz by
        rw [List.take_succ_eq_append_getElem hkL, sumZ_snoc]
        unfold sAt sectN sectZ
        rw [List.getD_eq_getElem?_getD, List.getElem?_eq_getElem hkL]
        rfl)
      have ht1 := HTL.out k
      have ht2 := trackN_sum f g (L.take k)
      have hle : (L.take k).length ≤ 8 := by rw [List.length_take]; omega
      have hsb : sumZ f (L.take k) ≤ 20000 := by omega
      obtain ⟨T, hT⟩ : ∃ T, G + sumZ f (L.take k) = T := ⟨_, rfl⟩
      rw [hT]
      have hTb : T ≤ 30000 := by omega
      obtain ⟨S, hS⟩ : ∃ S, sAt L k = S := ⟨_, rfl⟩
      rw [hS] at c3 hsk HTS
      have hZ := HZ.out S.sz hsk.1 hsk.2
      have hzl := sectZ_le f S.sz hsk.1 hsk.2
      have hi8 : (k : Int) < (N : Int) := by omega
      obtain ⟨Z, hZZ⟩ : ∃ Z, sectZ f S.sz = Z := ⟨_, rfl⟩
      rw [hZZ] at hZ hzl HTS
      have HTE := Lib.hid (show G + sumZ f (L.take (k + 1)) = T + Z by rw [HTS.out, ← hT]; omega)
      have HZ2 := Lib.hid hZ
      have hs1 : (T : Int) + (Z : Int) = ((T + Z : Nat) : Int) := by omega
      obtain ⟨T2, hT2⟩ : ∃ T2, T + Z = T2 := ⟨_, rfl⟩
      rw [hT2] at hs1 HTE
      have hs2 : IntKind.i64.wrap (T2 : Int) = (T2 : Int) := by rw [IntKind.wrap_i64]; omega
      clear hS hkL hT hmem ht1 ht2 hle hZ hZZ hsk c0 c1 c2 c4 c5 c6 c7 hsb hT2
      go_wp2_with fail
      go_quiet ((go_at_call 48; exact Calls.quiet_of_same (HZ2.out _)))
      go_wp2_with fail
      exact ⟨⟨k + 1, m + nq, by omega, by go_num, by rw [HTE.out], by rw [HWR.out, World.drewN_drewN]⟩, by simp [intOf]; omega⟩
    · obtain rfl : k = N := by omega
      go_wp2_with fail
      go_ret
      rw [HG.out, show L.take k = L from List.take_of_length_le (Nat.le_of_eq HN.out)]
      exact ⟨rfl, m, HWR.out⟩
end Go.Proofs.YtabmdbhbbmnkdaaDoor
