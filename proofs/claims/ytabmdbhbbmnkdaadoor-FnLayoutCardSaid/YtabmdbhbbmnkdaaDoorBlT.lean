/-
  The laws' own helpers on a track's description: the copy, the comparison, the argument.
-/
import Derived.Test.YtabmdbhbbmnkdaaDoorBlS
import Derived.StillTailTactics
namespace Go.Proofs.YtabmdbhbbmnkdaaDoor
open Go Go.ChangeShapes Go.WideShapes Go.ChangeAt Go.RowKit Go.Joins lib
set_option linter.unusedVariables false
set_option linter.unusedSimpArgs false
set_option maxRecDepth 100000
theorem SSl.far {w : World} {B g : Nat} {L : List SS} (h : SSl w B (some ⟨g, 0, none⟩) L) {p : Addr} (hp : p.block ≠ g) (u : Value) : SSl (w.setCell p u) B (some ⟨g, 0, none⟩) L := by
  intro i hi
  obtain ⟨b, o, hA, hb, hc⟩ := h i hi
  refine ⟨b, o, hA, hb, ?_⟩
  injection hA with hA
  injection hA with h1 h2 _
  subst h1
  rw [World.cell?_setCell_other _ _ _ _ (by intro e; rw [e] at hp; exact hp rfl)]
  exact hc
set_option maxHeartbeats 4000000 in
theorem toTrk_any (f g : Int) (L : List SS) (A : Option Addr) (c : Nat) (w : World) (hn : L.length ≤ 1048576) (hs : SSl w w.heap.size A L) :
    Calls Tryd.prog 20 #[.agg (trkA f g A L.length c)] w fun e w' => ∃ A2 c2, e = .returned (.agg (trkA f g A2 L.length c2)) ∧ SSl w' w'.heap.size A2 L ∧ Below w.heap.size w w' := by
  have HS := Lib.hid (fun (W : World) (hW : Below w.heap.size w W) => toSecS_any L A c W hn ((hs.below hW).more hW.size))
  unfold trkA
  obtain ⟨n, hn'⟩ : ∃ n, L.length = n := ⟨_, rfl⟩
  have HN := Lib.hid hn'
  rw [hn'] at HS hn ⊢
  clear hs hn'
  go_enter Tryd.func20, Tryd.ntmps20
  go_upto_region 4 with fail
  obtain ⟨W, hW⟩ : ∃ W, (((w.alloc (.cells #[.int .i64 f, .int .i64 g, .slice A n c] 52)).alloc (.cells #[.int .i64 0, .int .i64 0, .slice none 0 0] 25)).alloc (.cells #[.int .i64 f, .int .i64 g, .slice none 0 0] 25)) = W := ⟨_, rfl⟩
  have r0 : Rw W w.heap.size 52 #[.int .i64 f, .int .i64 g, .slice A n c] := by
    rw [← hW]
    exact ((Rw.new w _ _).alloc _).alloc _
  have r1 : Rw W (w.heap.size + 1) 25 #[.int .i64 0, .int .i64 0, .slice none 0 0] := by
    rw [← hW]
    have := Rw.new (w.alloc (.cells #[.int .i64 f, .int .i64 g, .slice A n c] 52)) 25 #[.int .i64 0, .int .i64 0, .slice none 0 0]
    rw [World.size_alloc] at this
    exact this.alloc _
  have r2 : Rw W (w.heap.size + 2) 25 #[.int .i64 f, .int .i64 g, .slice none 0 0] := by
    rw [← hW]
    have := Rw.new ((w.alloc (.cells #[.int .i64 f, .int .i64 g, .slice A n c] 52)).alloc (.cells #[.int .i64 0, .int .i64 0, .slice none 0 0] 25)) 25 #[.int .i64 f, .int .i64 g, .slice none 0 0]
    rw [World.size_alloc, World.size_alloc] at this
    exact this
  have hb : Below w.heap.size w W := by
    rw [← hW]
    exact (((Below.refl _ _).alloc (Nat.le_refl _) _).alloc (by simp) _).alloc (by simp; omega) _
  have hz : W.heap.size = w.heap.size + 3 := by rw [← hW]; simp
  try rw [hW]
  clear hW
  have c2 := r0.cell 2
  have R1 := Lib.hid r1
  have R2 := Lib.hid r2
  have HB := Lib.hid hb
  have HZ := Lib.hid hz
  clear r0 r1 r2 hb hz
  go_upto_region 5 with (go_at_call 41; refine (HS.out _ HB.out).mono ?_; rintro r w1 ⟨rfl, ho, hb1⟩; have r1 := R1.out.below hb1 R1.out.lt; have r2 := R2.out.below hb1 R2.out.lt; have k0 := r2.cell 0; have k1 := r2.cell 1; have k2 := r2.cell 2; have kf := r2.frozen 2)
  obtain ⟨q, hq⟩ : ∃ q, w.heap.size + 1 = q := ⟨_, rfl⟩
  obtain ⟨gg, hg⟩ : ∃ gg, W.heap.size = gg := ⟨_, rfl⟩
  rw [hq] at r1
  have hq2 : w.heap.size + 2 = q + 1 := by omega
  rw [hq2] at r2
  have hsz := HZ.out
  have r2' := r2.set 2 (.slice (some ⟨gg, 0, none⟩) n n)
  have r1' := r1.far (p := ⟨q + 1, 2, none⟩) (by show q ≠ q + 1; omega) (.slice (some ⟨gg, 0, none⟩) n n)
  rw [hg] at ho
  have ho' := ho.far (p := ⟨q + 1, 2, none⟩) (by show q + 1 ≠ gg; omega) (.slice (some ⟨gg, 0, none⟩) n n)
  have hb2 := (HB.out.trans (hb1.mono HB.out.size)).setCell (p := ⟨q + 1, 2, none⟩) (by show w.heap.size ≤ q + 1; omega) (.slice (some ⟨gg, 0, none⟩) n n)
  have hz1 := hb1.size
  rw [hg]
  rw [hq]
  clear k0 k1 k2 kf hb1 ho r1 r2
  have hzz : (w1.setCell ⟨q + 1, 2, none⟩ (.slice (some ⟨gg, 0, none⟩) n n)).heap.size = w1.heap.size := by simp [World.setCell]
  rw [← hzz] at ho'
  clear hzz
  generalize w1.setCell ⟨q + 1, 2, none⟩ (.slice (some ⟨gg, 0, none⟩) n n) = W2 at *
  have k0 := r2'.cell 0
  have k1 := r2'.cell 1
  have k2 := r2'.cell 2
  have l0 := r1'.cell 0
  have l1 := r1'.cell 1
  have l2 := r1'.cell 2
  have m0 := r1'.frozen 0
  have m1 := r1'.frozen 1
  have m2 := r1'.frozen 2
  have rr := (((r1'.set 0 (.int .i64 f)).set 1 (.int .i64 g)).set 2 (.slice (some ⟨gg, 0, none⟩) n n))
  have RR := Lib.hid rr
  have HB2 := Lib.hid hb2
  have HO2 := Lib.hid ho'
  have hqw : w.heap.size ≤ q := by omega
  have hqg : q ≠ gg := by omega
  clear rr r1' r2' hb2 ho' hq hg hq2 hsz hz1
  go_wp2
  have g0 := RR.out.cell 0
  have g1 := RR.out.cell 1
  have g2 := RR.out.cell 2
  have ho3 := ((HO2.out.far (p := ⟨q, 0, none⟩) hqg (.int .i64 f)).far (p := ⟨q, 1, none⟩) hqg (.int .i64 g)).far (p := ⟨q, 2, none⟩) hqg (.slice (some ⟨gg, 0, none⟩) n n)
  have hb3 := ((HB2.out.setCell (p := ⟨q, 0, none⟩) hqw (.int .i64 f)).setCell (p := ⟨q, 1, none⟩) hqw (.int .i64 g)).setCell (p := ⟨q, 2, none⟩) hqw (.slice (some ⟨gg, 0, none⟩) n n)
  have hs3 : (((W2.setCell ⟨q, 0, none⟩ (.int .i64 f)).setCell ⟨q, 1, none⟩ (.int .i64 g)).setCell ⟨q, 2, none⟩ (.slice (some ⟨gg, 0, none⟩) n n)).heap.size = W2.heap.size := by simp [World.setCell]
  rw [← hs3] at ho3
  exact bodyPost_ret (v := .agg #[.int .i64 f, .int .i64 g, .slice (some ⟨gg, 0, none⟩) n n]) (by simp [results, Tryd.results20, go_sem, g0, g1, g2]) rfl ⟨some ⟨gg, 0, none⟩, n, rfl, ho3, hb3⟩
theorem eqSec_same (S : SS) (w : World) : Calls Tryd.prog 77 #[S.val, S.val] w fun e w' => e = .returned (.bool true) ∧ Below w.heap.size w w' := by
  unfold SS.val SS.cells
  obtain ⟨cy, hdd, no, sz, dt, dl, bi, bd⟩ := S
  simp only
  go_enter Tryd.func77, Tryd.ntmps77
  go_wp2
  go_ret
  exact ⟨rfl, ((Below.refl _ _).alloc (Nat.le_refl _) _).alloc (by simp) _⟩
set_option maxHeartbeats 4000000 in
theorem eqSecS_same (L : List SS) (A B : Option Addr) (c d : Nat) (w : World) (hn : L.length ≤ 1048576) (hs : SSl w w.heap.size A L) (ht : SSl w w.heap.size B L) :
    Calls Tryd.prog 42 #[.slice A L.length c, .slice B L.length d] w fun e w' => e = .returned (.bool true) ∧ Below w.heap.size w w' := by
  have HS := Lib.hid hs
  have HT := Lib.hid ht
  obtain ⟨n, hn'⟩ : ∃ n, L.length = n := ⟨_, rfl⟩
  have HN := Lib.hid hn'
  rw [hn'] at hn ⊢
  clear hs ht hn'
  go_enter Tryd.func42, Tryd.ntmps42
  go_wp2
  go_loopw [5] (fun s5 wr => ∃ k : Nat, k ≤ n ∧ s5 = .int .i64 k ∧ Below w.heap.size w wr) (fun i _ => n - (intOf i).toNat)
  case atStart => exact ⟨0, by omega, rfl, Below.refl _ _⟩
  case round =>
    obtain ⟨k, hk, rfl, hb⟩ := hrel
    have hz := hb.size
    have HB := Lib.hid hb
    by_cases hlt : k < n
    · have hkL : k < L.length := by rw [HN.out]; exact hlt
      obtain ⟨b, o, rfl, hbb, c0, c1, c2, c3, c4, c5, c6, c7⟩ := (HS.out.below hb).elem hkL
      obtain ⟨b', o', rfl, hbb', d0, d1, d2, d3, d4, d5, d6, d7⟩ := (HT.out.below hb).elem hkL
      obtain ⟨S, hS⟩ : ∃ S, sAt L k = S := ⟨_, rfl⟩
      rw [hS] at c0 c1 c2 c3 c4 c5 c6 c7 d0 d1 d2 d3 d4 d5 d6 d7
      have HV := Lib.hid (fun W => eqSec_same S W)
      unfold SS.val SS.cells at HV
      have hi8 : (k : Int) < (n : Int) := by omega
      clear hS hkL hb
      go_wp2_with fail
      go_still_tail 8, (by kernel_rfl)
      go_wp2_with (go_at_call 77; refine (HV.out _).mono ?_; rintro e w1 ⟨rfl, hb1⟩)
      exact ⟨⟨k + 1, by omega, by go_num, HB.out.drew.trans (hb1.mono hz)⟩, by simp [intOf] <;> omega⟩
    · obtain rfl : k = n := by omega
      go_wp2
      go_ret
      exact ⟨rfl, hb⟩
theorem eqTrk_same (f g : Int) (L : List SS) (A B : Option Addr) (c d : Nat) (w : World) (hn : L.length ≤ 1048576) (hs : SSl w w.heap.size A L) (ht : SSl w w.heap.size B L) :
    Calls Tryd.prog 21 #[.agg (trkA f g A L.length c), .agg (trkA f g B L.length d)] w fun e w' => e = .returned (.bool true) ∧ Below w.heap.size w w' := by
  unfold trkA
  have hb : Below w.heap.size w ((w.alloc (.cells #[.int .i64 f, .int .i64 g, .slice A L.length c] 25)).alloc (.cells #[.int .i64 f, .int .i64 g, .slice B L.length d] 25)) := ((Below.refl _ _).alloc (Nat.le_refl _) _).alloc (by simp) _
  have HE := Lib.hid (eqSecS_same L A B c d _ hn ((hs.below hb).more hb.size) ((ht.below hb).more hb.size))
  have HB := Lib.hid hb
  obtain ⟨n, hn'⟩ : ∃ n, L.length = n := ⟨_, rfl⟩
  rw [hn'] at HE HB ⊢
  clear hb hs ht hn'
  go_enter Tryd.func21, Tryd.ntmps21
  go_wp2_with (go_at_call 42; refine HE.out.mono ?_; rintro r w1 ⟨rfl, hb1⟩)
  go_ret
  exact ⟨rfl, HB.out.trans (hb1.mono HB.out.size)⟩
end Go.Proofs.YtabmdbhbbmnkdaaDoor
