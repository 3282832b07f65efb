/-
  Tracks: the program's BuildTrack and TrackCells.
-/
import Derived.Test.YtabmdbhbbmnkdaaDoorBtT
namespace Go.Proofs.YtabmdbhbbmnkdaaDoor
open Go Go.ChangeShapes Go.WideShapes Go.ChangeAt Go.RowKit Go.Joins lib
set_option linter.unusedVariables false
set_option linter.unusedSimpArgs false
set_option maxRecDepth 100000
/-- what a track's building answers -/
def btC (f g : Int) (L : List SS) : Int := if okTB f g L then (if trackN f.toNat g.toNat L ≤ 8000 then 0 else 5) else 1
def btS (f g : Int) (L : List SS) : ByteArray := if okTB f g L then (if trackN f.toNat g.toNat L ≤ 8000 then strL (trackL f.toNat g.toNat L) else .empty) else .empty
set_option maxHeartbeats 4000000 in
theorem implBuild_any (f g : Int) (L : List SS) (A : Option Addr) (c : Nat) (w : World) (hn : L.length ≤ 1048576) (hd : ∀ k, k < L.length → (sAt L k).dt.size ≤ 1048576) (hs : SSl w w.heap.size A L) (hw : GcrW w) :
    Calls Tryd.prog 13 #[.agg (trkA f g A L.length c)] w fun e w' => e = .returned (.tuple #[.string (btS f g L), .int .i64 (btC f g L)]) ∧ Below w.heap.size w w' := by
  have hb : Below w.heap.size w (w.alloc (.cells (trkA f g A L.length c) 25)) := (Below.refl _ _).alloc (Nat.le_refl _) _
  have hr : Rw (w.alloc (.cells (trkA f g A L.length c) 25)) w.heap.size 25 (trkA f g A L.length c) := Rw.new _ _ _
  have hz : (w.alloc (.cells (trkA f g A L.length c) 25)).heap.size = w.heap.size + 1 := by simp
  obtain ⟨W1, hW1⟩ : ∃ W1, w.alloc (.cells (trkA f g A L.length c) 25) = W1 := ⟨_, rfl⟩
  rw [hW1] at hb hr hz
  have hs1 := (hs.below hb)
  have HV := Lib.hid (validTrack_any f g L A c W1 hn hd (hs1.more (by omega)))
  have HS := Lib.hid hs1
  have HB := Lib.hid hb
  have HR := Lib.hid hr
  have HZ := Lib.hid hz
  have HG := Lib.hid (hw.below hb)
  unfold trkA at hW1
  have r0 := hr.cell 0
  have r1 := hr.cell 1
  have r2 := hr.cell 2
  unfold trkA at r0 r1 r2
  clear hs hs1 hb hr hz hw hd
  by_cases hok : okTB f g L = true
  · have ho := (okTB_iff f g L).1 hok
    obtain ⟨a1, a2, a3, a4, a5, a6⟩ := ho
    have hbt : btC f g L = if trackN f.toNat g.toNat L ≤ 8000 then 0 else 5 := by unfold btC; rw [if_pos hok]
    have hbs : btS f g L = if trackN f.toNat g.toNat L ≤ 8000 then strL (trackL f.toNat g.toNat L) else .empty := by unfold btS; rw [if_pos hok]
    rw [hbt, hbs]
    rw [hok] at HV
    obtain ⟨F, hF⟩ : ∃ F : Nat, f = F := ⟨f.toNat, by omega⟩
    obtain ⟨G, hG⟩ : ∃ G : Nat, g = G := ⟨g.toNat, by omega⟩
    have hFt : f.toNat = F := by omega
    have hGt : g.toNat = G := by omega
    rw [hFt, hGt]
    subst hF
    subst hG
    have hf3 : f123 F := by unfold f123; omega
    have HT := Lib.hid (fun (W : World) (hb : Below W1.heap.size W1 W) => trackCells_any F G hf3 (by omega) L A c W a5 a6 (((HS.out.more (show w.heap.size ≤ W1.heap.size by have := HZ.out; omega)).below hb).more hb.size))
    have HBB := Lib.hid (fun (W : World) (hb : Below W1.heap.size W1 W) => buildTrack_any F G hf3 (by omega) (by omega) L A c W a5 a6 (((HS.out.more (show w.heap.size ≤ W1.heap.size by have := HZ.out; omega)).below hb).more hb.size) (HG.out.below hb))
    unfold trkA at HV HT HBB HR ⊢
    obtain ⟨N, hN⟩ : ∃ N, L.length = N := ⟨_, rfl⟩
    rw [hN] at HV HT HBB HR r0 r1 r2 hW1 ⊢
    clear hbt hbs hok hFt hGt hN a1 a2 a3 a4 a5 a6 hn
    obtain ⟨T, hT⟩ : ∃ T, trackN F G L = T := ⟨_, rfl⟩
    rw [hT] at HT ⊢
    obtain ⟨X, hX⟩ : ∃ X, strL (trackL F G L) = X := ⟨_, rfl⟩
    rw [hX] at HBB ⊢
    clear hT hX
    by_cases h8 : T ≤ 8000
    · have hT8 : (T : Int) ≤ 8000 := by omega
      rw [if_pos h8, if_pos h8]
      go_enter Tryd.func13, Tryd.ntmps13
      go_wp2_with (first
        | (go_at_call 29; refine HV.out.mono ?_; rintro e w1 ⟨rfl, hb1⟩; have r0' := (HR.out.below hb1 HR.out.lt).cell 0; have r1' := (HR.out.below hb1 HR.out.lt).cell 1; have r2' := (HR.out.below hb1 HR.out.lt).cell 2)
        | (go_at_call 30; refine (HT.out _ hb1).mono ?_; rintro e w2 ⟨rfl, hb2⟩; have hb12 := hb1.trans (hb2.mono hb1.size); have r0'' := (HR.out.below hb12 HR.out.lt).cell 0; have r1'' := (HR.out.below hb12 HR.out.lt).cell 1; have r2'' := (HR.out.below hb12 HR.out.lt).cell 2)
        | (go_at_call 31; refine (HBB.out _ hb12).mono ?_; rintro e w3 ⟨rfl, hb3⟩))
      go_ret2
      have hzz := HZ.out
      exact ⟨rfl, HB.out.trans ((hb12.trans (hb3.mono hb12.size)).mono (by omega))⟩
    · have hT8 : (8000 : Int) < T := by omega
      rw [if_neg h8, if_neg h8]
      go_enter Tryd.func13, Tryd.ntmps13
      go_wp2_with (first
        | (go_at_call 29; refine HV.out.mono ?_; rintro e w1 ⟨rfl, hb1⟩; have r0' := (HR.out.below hb1 HR.out.lt).cell 0; have r1' := (HR.out.below hb1 HR.out.lt).cell 1; have r2' := (HR.out.below hb1 HR.out.lt).cell 2)
        | (go_at_call 30; refine (HT.out _ hb1).mono ?_; rintro e w2 ⟨rfl, hb2⟩; have hb12 := hb1.trans (hb2.mono hb1.size)))
      go_ret2
      have hzz := HZ.out
      exact ⟨rfl, HB.out.trans (hb12.mono (by omega))⟩
  · have hok2 : okTB f g L = false := by simpa using hok
    have hbt : btC f g L = 1 := by unfold btC; rw [if_neg hok]
    have hbs : btS f g L = .empty := by unfold btS; rw [if_neg hok]
    rw [hbt, hbs]
    rw [hok2] at HV
    unfold trkA at HV ⊢
    clear hok hok2 hbt hbs
    go_enter Tryd.func13, Tryd.ntmps13
    go_wp2_with (go_at_call 29; refine HV.out.mono ?_; rintro e w1 ⟨rfl, hb1⟩)
    go_ret2
    have hzz := HZ.out
    exact ⟨rfl, HB.out.trans (hb1.mono (by omega))⟩
end Go.Proofs.YtabmdbhbbmnkdaaDoor
