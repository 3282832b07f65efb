/-
  Tracks: IdField, DataField, TrackCells of the program, for a valid track.
-/
import Derived.Test.YtabmdbhbbmnkdaaDoorBtU
namespace Go.Proofs.YtabmdbhbbmnkdaaDoor
open Go Go.ChangeShapes Go.WideShapes Go.ChangeAt Go.RowKit Go.Joins lib
set_option linter.unusedVariables false
set_option linter.unusedSimpArgs false
set_option maxRecDepth 100000
theorem trackCellsX_any (f g : Int) (L : List SS) (A : Option Addr) (c : Nat) (w : World) (ho : okT f g L) (hn : L.length ≤ 8) (hs : SSl w w.heap.size A L) : Calls Tryd.prog 14 #[.agg (trkA f g A L.length c)] w fun e w' => e = .returned (.int .i64 (trackN f.toNat g.toNat L : Nat)) ∧ Below w.heap.size w w' := by
  have hb : Below w.heap.size w (w.alloc (.cells (trkA f g A L.length c) 25)) := (Below.refl _ _).alloc (Nat.le_refl _) _
  have hr : Rw (w.alloc (.cells (trkA f g A L.length c) 25)) w.heap.size 25 (trkA f g A L.length c) := Rw.new _ _ _
  have hd : ∀ k, k < L.length → (sAt L k).dt.size ≤ 1048576 := fun k hk => by
    have h1 : sAt L k ∈ L := by
      unfold sAt
      rw [List.getD_eq_getElem?_getD, List.getElem?_eq_getElem hk]
      exact List.getElem_mem hk
    have := (ho.2.2.2.2.2 _ h1).len
    omega
  have hok : okTB f g L = true := (okTB_iff f g L).2 ho
  obtain ⟨a1, a2, a3, a4, a5, a6⟩ := ho
  obtain ⟨W1, hW1⟩ : ∃ W1, w.alloc (.cells (trkA f g A L.length c) 25) = W1 := ⟨_, rfl⟩
  rw [hW1] at hb hr
  have hs1 := (hs.below hb).more hb.size
  have HV := Lib.hid (validTrack_any f g L A c W1 (by omega) hd hs1)
  rw [hok] at HV
  obtain ⟨F, hF⟩ : ∃ F : Nat, f = F := ⟨f.toNat, by omega⟩
  obtain ⟨G, hG⟩ : ∃ G : Nat, g = G := ⟨g.toNat, by omega⟩
  subst hF; subst hG
  have HT := Lib.hid (fun (W : World) (hW : Below W1.heap.size W1 W) => trackCells_any F G (by unfold f123; omega) (by omega) L A c W hn a6 ((hs1.below hW).more hW.size))
  have HB := Lib.hid hb
  have HR := Lib.hid hr
  unfold trkA at hW1
  have r0 := hr.cell 0
  have r1 := hr.cell 1
  have r2 := hr.cell 2
  unfold trkA at r0 r1 r2 HV HT ⊢
  simp only [Int.toNat_natCast]
  obtain ⟨N, hN⟩ : ∃ N, trackN F G L = N := ⟨_, rfl⟩
  rw [hN] at HT ⊢
  obtain ⟨n, hn'⟩ : ∃ n, L.length = n := ⟨_, rfl⟩
  rw [hn'] at HV HT hW1 r2 ⊢
  clear hs hs1 hb hr hok a1 a2 a3 a4 a5 a6 hd hN
  go_enter Tryd.func14, Tryd.ntmps14
  go_upto_region 1 with fail
  try rw [hW1]
  clear hW1
  go_upto_region 3 with (go_at_call 29; refine HV.out.mono ?_; rintro e w2 ⟨rfl, hb2⟩)
  have hr2 := HR.out.below hb2 HR.out.lt
  have q0 := hr2.cell 0
  have q1 := hr2.cell 1
  have q2 := hr2.cell 2
  unfold trkA at q0 q1 q2
  rw [hn'] at q2
  have HB2 := Lib.hid hb2
  clear r0 r1 r2 hr2 hb2 hn'
  go_wp2_with (go_at_call 30; refine (HT.out _ HB2.out).mono ?_; rintro e w3 ⟨rfl, hb3⟩)
  go_ret
  exact ⟨rfl, HB.out.trans ((HB2.out.trans (hb3.mono HB2.out.size)).mono HB.out.size)⟩
set_option maxHeartbeats 4000000 in
theorem idField_any (f : Nat) (hf : f123 f) (s : SS) (hs : s.ok) (x : Int) (hx : x = f) (w : World) : Calls Tryd.prog 17 #[.int .i64 x, s.val] w fun e w' => e = .returned (.tuple #[.string (strL (fieldL f 1 s.id s.bi)), .bool true]) ∧ Below w.heap.size w w' := by
  have hx1 : (decide (1 ≤ x) && decide (x ≤ 3)) = true := by unfold f123 at hf; simp; omega
  have h0 : ∀ W : World, Calls Tryd.prog 35 #[.int .i64 x] W fun e w' => e = .returned (.bool true) ∧ w' = W := fun W => by
    have := isFormat_any x W
    rwa [hx1] at this
  have H0 := Lib.hid h0
  have h1 : ∀ W : World, Calls Tryd.prog 36 #[s.val] W fun e w' => e = .returned (.bool true) ∧ Below W.heap.size W w' := fun W => by
    have := validSector_any s (by have := hs.len; omega) W
    rwa [(SS.okB_iff s).2 hs] at this
  have H1 := Lib.hid h1
  have H2 := Lib.hid (fun W => idBytes_any s hs W)
  have H3 := Lib.hid (fun W => checkedField_any f 1 hf (.inl rfl) (strL s.id) (by rw [strL_size]; show 4 ≤ 64; omega) s.bi x 1 hx rfl W)
  rw [strL_list] at H3
  have hr := Lib.hid (Rw.new w 44 s.cells)
  have hb := Lib.hid ((Below.refl w.heap.size w).alloc (Nat.le_refl _) (.cells s.cells 44))
  obtain ⟨R, hR⟩ : ∃ R, strL (fieldL f 1 s.id s.bi) = R := ⟨_, rfl⟩
  obtain ⟨I, hI⟩ : ∃ I, strL s.id = I := ⟨_, rfl⟩
  rw [hI] at H2
  rw [hI, hR] at H3
  rw [hR]
  clear hR hI h0 h1 hs hx hx1
  unfold SS.val SS.cells at *
  obtain ⟨cy, hdd, no, sz, dt, dl, bi, bd⟩ := s
  simp only at *
  go_enter Tryd.func17, Tryd.ntmps17
  go_upto_region 1 with fail
  generalize hW1 : w.alloc (.cells #[.int .i64 cy, .int .i64 hdd, .int .i64 no, .int .i64 sz, .string dt, .bool dl, .bool bi, .bool bd] 44) = W1 at *
  clear hW1
  have k0 := hr.out.cell 0
  have k1 := hr.out.cell 1
  have k2 := hr.out.cell 2
  have k3 := hr.out.cell 3
  have k4 := hr.out.cell 4
  have k5 := hr.out.cell 5
  have k6 := hr.out.cell 6
  have k7 := hr.out.cell 7
  go_upto_region 3 with (first
    | (go_at_call 35; refine (H0.out _).mono ?_; rintro e w' ⟨rfl, hw'⟩; rw [hw']; clear hw' w')
    | (go_at_call 36; refine (H1.out _).mono ?_; rintro e w2 ⟨rfl, hb2⟩))
  have hr2 := hr.out.below hb2 hr.out.lt
  have HB2 := Lib.hid (hb.out.trans (hb2.mono hb.out.size))
  have R2 := Lib.hid hr2.drew
  clear k0 k1 k2 k3 k4 k5 k6 k7 hb2 hr2
  have k0 := R2.out.cell 0
  have k1 := R2.out.cell 1
  have k2 := R2.out.cell 2
  have k3 := R2.out.cell 3
  have k4 := R2.out.cell 4
  have k5 := R2.out.cell 5
  have k6 := R2.out.cell 6
  have k7 := R2.out.cell 7
  go_region_law (go_simp; (first
    | (go_at_call 38; refine (H2.out _).mono ?_; rintro e w3 ⟨rfl, hb3⟩; have q6 := (R2.out.below hb3 R2.out.lt).cell 6)
    | (go_at_call 37; refine (H3.out _).mono ?_; rintro e w4 ⟨rfl, hb4⟩)))
  all_goals
    go_wp2_with fail
    go_ret2
    exact ⟨rfl, HB2.out.trans (((Below.refl _ _).drew.trans (hb3.trans (hb4.mono hb3.size))).mono HB2.out.size)⟩
set_option maxHeartbeats 4000000 in
theorem dataField_any (f : Nat) (hf : f123 f) (s : SS) (hs : s.ok) (x : Int) (hx : x = f) (w : World) : Calls Tryd.prog 18 #[.int .i64 x, s.val] w fun e w' => e = .returned (.tuple #[.string (strL (fieldL f s.kd s.dt.data.toList s.bd)), .bool true]) ∧ Below w.heap.size w w' := by
  have hx1 : (decide (1 ≤ x) && decide (x ≤ 3)) = true := by unfold f123 at hf; simp; omega
  have h0 : ∀ W : World, Calls Tryd.prog 35 #[.int .i64 x] W fun e w' => e = .returned (.bool true) ∧ w' = W := fun W => by
    have := isFormat_any x W
    rwa [hx1] at this
  have H0 := Lib.hid h0
  have h1 : ∀ W : World, Calls Tryd.prog 36 #[s.val] W fun e w' => e = .returned (.bool true) ∧ Below W.heap.size W w' := fun W => by
    have := validSector_any s (by have := hs.len; omega) W
    rwa [(SS.okB_iff s).2 hs] at this
  have H1 := Lib.hid h1
  have H2 := Lib.hid (fun W => dataKind_any s W)
  have H3 := Lib.hid (fun W => checkedField_any f s.kd hf s.kd123 s.dt (by have := hs.len; omega) s.bd x (s.kd : Nat) hx rfl W)
  have hr := Lib.hid (Rw.new w 44 s.cells)
  have hb := Lib.hid ((Below.refl w.heap.size w).alloc (Nat.le_refl _) (.cells s.cells 44))
  obtain ⟨R, hR⟩ : ∃ R, strL (fieldL f s.kd s.dt.data.toList s.bd) = R := ⟨_, rfl⟩
  obtain ⟨I, hI⟩ : ∃ I, s.kd = I := ⟨_, rfl⟩
  rw [hR] at H3
  rw [hI] at H2 H3
  rw [hR]
  clear hR hI h0 h1 hs hx hx1
  unfold SS.val SS.cells at *
  obtain ⟨cy, hdd, no, sz, dt, dl, bi, bd⟩ := s
  simp only at *
  go_enter Tryd.func18, Tryd.ntmps18
  go_upto_region 1 with fail
  generalize hW1 : w.alloc (.cells #[.int .i64 cy, .int .i64 hdd, .int .i64 no, .int .i64 sz, .string dt, .bool dl, .bool bi, .bool bd] 44) = W1 at *
  clear hW1
  have k0 := hr.out.cell 0
  have k1 := hr.out.cell 1
  have k2 := hr.out.cell 2
  have k3 := hr.out.cell 3
  have k4 := hr.out.cell 4
  have k5 := hr.out.cell 5
  have k6 := hr.out.cell 6
  have k7 := hr.out.cell 7
  go_upto_region 3 with (first
    | (go_at_call 35; refine (H0.out _).mono ?_; rintro e w' ⟨rfl, hw'⟩; rw [hw']; clear hw' w')
    | (go_at_call 36; refine (H1.out _).mono ?_; rintro e w2 ⟨rfl, hb2⟩))
  have hr2 := hr.out.below hb2 hr.out.lt
  have HB2 := Lib.hid (hb.out.trans (hb2.mono hb.out.size))
  have R2 := Lib.hid hr2.drew
  clear k0 k1 k2 k3 k4 k5 k6 k7 hb2 hr2
  have k0 := R2.out.cell 0
  have k1 := R2.out.cell 1
  have k2 := R2.out.cell 2
  have k3 := R2.out.cell 3
  have k4 := R2.out.cell 4
  have k5 := R2.out.cell 5
  have k6 := R2.out.cell 6
  have k7 := R2.out.cell 7
  go_region_law (go_simp; (first
    | (go_at_call 39; refine (H2.out _).mono ?_; rintro e w3 ⟨rfl, hb3⟩; have q4 := (R2.out.below hb3 R2.out.lt).cell 4; have q7 := (R2.out.below hb3 R2.out.lt).cell 7)
    | (go_at_call 37; refine (H3.out _).mono ?_; rintro e w4 ⟨rfl, hb4⟩)))
  all_goals
    go_wp2_with fail
    go_ret2
    exact ⟨rfl, HB2.out.trans (((Below.refl _ _).drew.trans (hb3.trans (hb4.mono hb3.size))).mono HB2.out.size)⟩
end Go.Proofs.YtabmdbhbbmnkdaaDoor
