/-
  Trees: the reference's walk, whole.
-/
import Derived.Test.YtiefcgmghkkbmaaGreatDoorTreSd
import Derived.Test.YtiefcgmghkkbmaaGreatDoorTreWk
namespace Go.Proofs.YtiefcgmghkkbmaaGreatDoor
open Go Go.ChangeShapes Go.WideShapes Go.ChangeAt Go.RowKit lib
set_option linter.unusedVariables false
set_option linter.unusedSimpArgs false
set_option maxRecDepth 100000
def SLookOut (n : Nat) (A : Option Addr) (c : Nat) (s : Nat → ByteArray) (w : World) (W : TS) (ok : Bool) (e : Ending) (w' : World) : Prop :=
  ∃ (q gs : Nat) (R : TS), e = .returned (.tuple #[.pointer (some ⟨q, 0, none⟩), .bool ok]) ∧ SkW w' q n w.heap.size gs A c s R R.it.length (R.it.flatMap encSI) ∧ R.pr = W.pr ∧ R.it = W.it ∧ Below w.heap.size w w'
set_option maxHeartbeats 8000000 in
theorem slook18_any {w : World} {A : Option Addr} {n c : Nat} {s : Nat → ByteArray} {u : Nat → Nat → UInt8} (hu : u = fun i => byteAt (s i)) (hs : Sl w w.heap.size A n (fun i => .string (s i))) (h4 : 4 ≤ n) (hn : n ≤ 128) (h32 : ∀ i, i < n → (s i).size = 32) (ok : Bool) (hok : ok = true ↔ tRootP n u = 0) :
    Calls Tryz.prog 32 #[.slice A n c] w (SLookOut n A c s w (tWalk n u) ok) := by
  obtain ⟨W, hW⟩ : ∃ W, tWalk n u = W := ⟨_, rfl⟩
  rw [hW]
  have HWK := Lib.hid hW
  have HUE := Lib.hid hu
  have HU0 := Lib.hid (show u 0 = byteAt (s 0) by rw [hu])
  have H32 := Lib.hid h32
  have HOK := Lib.hid hok
  have hz0 := h32 0 (by omega)
  have hmk : ∀ W : World, (Instr.makeSlice 55 (.int .i64 (n : Int)) (.int .i64 (n : Int))).run Tryz.prog W = .ok (.slice (some ⟨W.heap.size, 0, none⟩) n n) (W.alloc (.cells (madeCells #[.bool false] n) 4)) := fun W => by
    have := run_mk (P := Tryz.prog) 55 4 (.bool false) 1 1 Tryz.underlying55 (by kernel_rfl) (by omega) n (by omega) W
    rw [Nat.mul_one] at this
    exact this
  have hb1 := (Below.refl w.heap.size w).alloc (Nat.le_refl _) (.cells (madeCells #[.bool false] n) 4)
  have hb2 := (Below.refl (w.alloc (.cells (madeCells #[.bool false] n) 4)).heap.size (w.alloc (.cells (madeCells #[.bool false] n) 4))).alloc (Nat.le_refl _) (.cells #[.slice A n c, .slice (some ⟨w.heap.size, 0, none⟩) n n, .slice none 0 0, .slice none 0 0] 59)
  have hs1 : (w.alloc (.cells (madeCells #[.bool false] n) 4)).heap.size = w.heap.size + 1 := World.size_alloc _ _
  have HB2 := Lib.hid (hb1.trans (hb2.mono hb1.size))
  have hrow : Row (w.alloc (.cells (madeCells #[.bool false] n) 4)) w.heap.size 4 (madeCells #[.bool false] n) := Row.new w _ _
  have HW1 := Lib.hid (show SkW ((w.alloc (.cells (madeCells #[.bool false] n) 4)).alloc (.cells #[.slice A n c, .slice (some ⟨w.heap.size, 0, none⟩) n n, .slice none 0 0, .slice none 0 0] 59)) (w.heap.size + 1) n w.heap.size w.heap.size A c s TS0 0 [] from
    { rows := ⟨none, 0, none, 0, n, by rw [← hs1]; exact Row.new _ _ _, World.ownsRow_nil _ _ _ _, World.ownsRow_nil _ _ _ _⟩,
      seen := ⟨_, hrow.below hb2 hrow.lt, by rw [size_madeCells]; exact Nat.le_refl _, fun i hi => by simp [madeCells, hi, Nat.mod_one, TS0]⟩,
      disk := hs.below HB2.out, qB := by omega, gB := Nat.le_refl _, bs := HB2.out.size })
  clear hb1 hb2 hrow hs hu h32 hok hW
  go_enter Tryz.func32, Tryz.ntmps32
  go_upto_region 2 with fail
  obtain ⟨gs, hgs⟩ : ∃ g, w.heap.size = g := ⟨_, rfl⟩
  obtain ⟨q, hq⟩ : ∃ g, w.heap.size + 1 = g := ⟨_, rfl⟩
  have HGS := Lib.hid hgs
  try rw [hs1]
  rw [hq] at HW1
  try rw [hq]
  rw [hgs] at HW1 HB2
  try rw [hgs]
  clear hmk hs1 hgs hq
  generalize (w.alloc (.cells (madeCells #[.bool false] n) 4)).alloc (.cells #[.slice A n c, .slice (some ⟨gs, 0, none⟩) n n, .slice none 0 0, .slice none 0 0] 59) = W1 at *
  obtain ⟨ba, oa, hA, hbl, hca⟩ := HW1.out.disk 0 (by omega)
  subst hA
  dsimp only at hca
  have hn0 : (0 : Int) < (n : Int) := by omega
  obtain ⟨x, hx⟩ : ∃ x, s 0 = x := ⟨_, rfl⟩
  have HX := Lib.hid hx
  rw [hx] at hca hz0
  rw [Nat.add_zero] at hca
  have HU1 := Lib.hid (show u 0 = byteAt x by rw [HU0.out, hx])
  clear hx hbl
  by_cases hz : usum (byteAt x) 32 = 0
  · have HSE := Lib.hid (fun W => sealed_any x hz0 true ⟨fun _ => hz, fun _ => rfl⟩ W)
    have hsl : Sl W1 W1.heap.size (some ⟨ba, oa, none⟩) n (fun i => .string (s i)) := fun i hi => by
      obtain ⟨b, o, h1, h2, h3⟩ := HW1.out.disk i hi
      have := HW1.out.bs
      exact ⟨b, o, h1, by omega, h3⟩
    by_cases hr : tRoot (byteAt x) n
    · have hr0 : tRootP n u = 0 := by
        unfold tRootP
        rw [HU1.out, if_neg (fun q => q hz), if_pos hr]
      obtain rfl : ok = true := HOK.out.2 hr0
      have HRO := Lib.hid (specRoot_any (some ⟨ba, oa, none⟩) n c s (by omega) hn hsl (H32.out 0 (by omega)) true ⟨fun _ => by rw [HX.out]; exact hr, fun _ => rfl⟩)
      have hW2 : W = tMarks u (tDir n u 256 ⟨#[]⟩ 0 4 (TS0.see 0)) n := by
        rw [← HWK.out]
        unfold tWalk
        rw [if_pos hr0]
      have hsee : (TS0.see 0).sn 0 = true := rfl
      have hu0 : (TS0.see 0).uns n ≤ 128 := by have := unsF_le (TS0.see 0).sn n; show unsF _ n ≤ 128; omega
      have HDI := Lib.hid (fun (W5 : World) (hw5 : SkW W5 q n gs gs (some ⟨ba, oa, none⟩) c s (TS0.see 0) 0 []) => sdir_all 256 W5 q n gs gs c 0 4 (some ⟨ba, oa, none⟩) s u (TS0.see 0) ⟨#[]⟩ HUE.out hw5 hn H32.out (by show 0 + 20 * (TS0.see 0).uns n ≤ 80000; omega) (by show 0 + (TS0.see 0).uns n ≤ 1000; omega) (by omega) hsee (by omega) (by omega))
      have hmuD : (tDir n u 256 ⟨#[]⟩ 0 4 (TS0.see 0)).mu n ≤ (TS0.see 0).mu n + 8 := (tPre_le (n := n) (u := u) (g := 256) (path := ⟨#[]⟩) (t := 4) hsee 8).2
      obtain ⟨D, hD⟩ : ∃ D, tDir n u 256 ⟨#[]⟩ 0 4 (TS0.see 0) = D := ⟨_, rfl⟩
      rw [hD] at HDI hW2 hmuD
      have hDp : D.pr.length ≤ 3000 := by
        have e1 : D.mu n = D.pr.length + 20 * D.uns n := rfl
        have e2 : (TS0.see 0).mu n = 0 + 20 * (TS0.see 0).uns n := rfl
        omega
      have HW2 := Lib.hid hW2
      clear hW2 hsee hD hmuD hr0 hr hz hsl
      go_upto_region 8 with (first
        | (go_at_call 76; refine (HSE.out _).mono ?_; rintro e w' ⟨rfl, rfl⟩)
        | (go_at_call 78; refine HRO.out.mono ?_; rintro e w4 ⟨rfl, hb4⟩))
      have hw4 := HW1.out.below hb4
      have hbs4 := HW1.out.bs
      have HB4 := Lib.hid (HB2.out.trans (hb4.mono hbs4))
      obtain ⟨k0, cs4, k1⟩ := hw4.head
      obtain ⟨k4, k5⟩ := hw4.bit (i := 0) (by omega)
      obtain ⟨hv1, hv2, hv3⟩ := hw4.visit (b := 0) (by omega)
      have HW5 := Lib.hid hv1
      have HB5 := Lib.hid (HB4.out.trans (hv2.below hw4.bs))
      clear hw4 hb4 hv1 hv2 hv3 hca
      go_upto_region 9 with fail
      generalize w4.setCell ⟨gs, 0, none⟩ (.bool true) = w5 at *
      clear k0 k1 k4 k5
      have HD5 := Lib.hid (HDI.out w5 HW5.out)
      go_upto_region 10 with (go_at_call 79; refine HD5.out.mono ?_; rintro e w6 ⟨rfl, hw6, hk6⟩)
      have HB6 := Lib.hid (HB5.out.trans (hk6.below HW5.out.bs))
      have HW6 := Lib.hid hw6
      have HBT := Lib.hid (fun (k : Nat) (hk : k < 128) (W : World) => bit_any x k hz0 hk W)
      have hnn : ∀ k : Nat, (k : Int) < 128 → k < 128 := fun k h => by omega
      clear hw6 hk6 HD5 HDI hnn
      go_wp2_with fail
      go_loopw [5] (fun s5 wr => ∃ k : Nat, k ≤ n ∧ s5 = .int .i64 k ∧ SkW wr q n gs gs (some ⟨ba, oa, none⟩) c s (tMarks u D k) D.it.length (D.it.flatMap encSI) ∧ Below gs w wr) (fun s _ => n - (intOf s).toNat)
      case atStart => exact ⟨0, by omega, rfl, HW6.out, HB6.out⟩
      case round =>
        obtain ⟨k, hk, rfl, hw, hb⟩ := hrel
        have HWR := Lib.hid hw
        have HBR := Lib.hid hb
        have hzr : gs ≤ wr.heap.size := hw.bs
        clear hw hb
        by_cases hlt : k < n
        · have hki : (k : Int) < (n : Int) := by omega
          obtain ⟨k0, cs0, k1⟩ := HWR.out.head
          obtain ⟨_, _, e1, _, hca⟩ := HWR.out.disk 0 (by omega)
          simp only [Option.some.injEq, Addr.mk.injEq, and_true] at e1
          obtain ⟨rfl, rfl⟩ := e1
          dsimp only at hca
          rw [HX.out, Nat.add_zero] at hca
          have hlk := (HWR.out.bit hlt).1
          rw [tMarks_sn] at hlk
          have HMK := Lib.hid (HBT.out k (by omega))
          rw [← HU1.out] at HMK
          have HPR := Lib.hid (fun (kk : Nat) (hkk : kk ≤ 1000) => sproblem_any HWR.out (by have := tMarks_pr (u := u) (S := D) k; omega) hkk (b := k) (by omega))
          have HA := Lib.hid (tMarks_a (u := u) (S := D) (k := k))
          have HBq := Lib.hid (tMarks_b (u := u) (S := D) (k := k))
          have HC := Lib.hid (tMarks_c (u := u) (S := D) (k := k))
          cases hs : D.sn k with
          | true =>
            rw [hs] at hlk
            cases hbt : tBit (u 0) k with
            | true =>
              have HN := Lib.hid (HC.out (by rw [hs, hbt]))
              rw [hbt] at HMK
              clear hs hbt
              go_wp2_with (go_at_call 80; refine (HMK.out _).mono ?_; rintro e w' ⟨rfl, rfl⟩)
              go_roundw
              case rel => exact ⟨k + 1, by omega, by go_num, by rw [HN.out]; exact HWR.out, HBR.out⟩
              case measure => simp [intOf]; omega
            | false =>
              have HN := Lib.hid (HA.out hs hbt)
              rw [hbt] at HMK
              have HP6 := Lib.hid (HPR.out 6 (by omega))
              clear hs hbt
              go_wp2_with (first | (go_at_call 80; refine (HMK.out _).mono ?_; rintro e w' ⟨rfl, rfl⟩) | (go_at_call 77; refine HP6.out.mono ?_; rintro e w7 ⟨rfl, hw7, hk7, _⟩))
              go_roundw
              case rel => exact ⟨k + 1, by omega, by go_num, by rw [HN.out]; exact hw7, HBR.out.trans (hk7.below hzr)⟩
              case measure => simp [intOf]; omega
          | false =>
            rw [hs] at hlk
            cases hbt : tBit (u 0) k with
            | false =>
              have HN := Lib.hid (HC.out (by rw [hs, hbt]))
              rw [hbt] at HMK
              clear hs hbt
              go_wp2_with (go_at_call 80; refine (HMK.out _).mono ?_; rintro e w' ⟨rfl, rfl⟩)
              go_roundw
              case rel => exact ⟨k + 1, by omega, by go_num, by rw [HN.out]; exact HWR.out, HBR.out⟩
              case measure => simp [intOf]; omega
            | true =>
              have HN := Lib.hid (HBq.out hs hbt)
              rw [hbt] at HMK
              have HP7 := Lib.hid (HPR.out 7 (by omega))
              clear hs hbt
              go_wp2_with (first | (go_at_call 80; refine (HMK.out _).mono ?_; rintro e w' ⟨rfl, rfl⟩) | (go_at_call 77; refine HP7.out.mono ?_; rintro e w7 ⟨rfl, hw7, hk7, _⟩))
              go_roundw
              case rel => exact ⟨k + 1, by omega, by go_num, by rw [HN.out]; exact hw7, HBR.out.trans (hk7.below hzr)⟩
              case measure => simp [intOf]; omega
        · obtain rfl : k = n := by omega
          go_wp2_with fail
          go_ret2
          refine ⟨q, gs, tMarks u D k, rfl, ?_, by rw [HW2.out], by rw [HW2.out], by rw [HGS.out]; exact HBR.out⟩
          rw [HGS.out, tMarks_it]
          exact HWR.out
    · have hr2 : tRootP n u = 2 := by
        unfold tRootP
        rw [HU1.out, if_neg (fun q => q hz), if_neg hr]
      obtain rfl : ok = false := by
        cases ok with
        | false => rfl
        | true => have := HOK.out.1 rfl; omega
      have HRO := Lib.hid (specRoot_any (some ⟨ba, oa, none⟩) n c s (by omega) hn hsl (H32.out 0 (by omega)) false ⟨fun h => (by cases h), fun h => absurd (by rw [← HX.out]; exact h) hr⟩)
      have HW2 := Lib.hid (show W = TS0.prob 2 0 by
        rw [← HWK.out]
        unfold tWalk
        rw [hr2, if_neg (by omega)])
      clear hr hr2 hz hsl
      go_wp2_with (first
        | (go_at_call 76; refine (HSE.out _).mono ?_; rintro e w' ⟨rfl, rfl⟩)
        | (go_at_call 78; refine HRO.out.mono ?_; rintro e w4 ⟨rfl, hb4⟩)
        | (go_at_call 77; refine (sproblem_any (HW1.out.below hb4) (by show 0 ≤ _; omega) (k := 2) (b := 0) (by omega) (by omega)).mono ?_; rintro e w5 ⟨rfl, hw5, hk5, _⟩))
      go_ret2
      refine ⟨q, gs, TS0.prob 2 0, rfl, by rw [HGS.out]; exact hw5, by rw [HW2.out], by rw [HW2.out], ?_⟩
      rw [HGS.out]
      exact HB2.out.trans ((hb4.mono HW1.out.bs).trans (hk5.below (Nat.le_trans HW1.out.bs hb4.size)))
  · have HSE := Lib.hid (fun W => sealed_any x hz0 false ⟨fun h => (by cases h), fun h => absurd h hz⟩ W)
    have hr1 : tRootP n u = 1 := by
      unfold tRootP
      rw [HU1.out, if_pos hz]
    obtain rfl : ok = false := by
      cases ok with
      | false => rfl
      | true => have := HOK.out.1 rfl; omega
    have HW2 := Lib.hid (show W = TS0.prob 1 0 by
      rw [← HWK.out]
      unfold tWalk
      rw [hr1, if_neg (by omega)])
    clear hr1 hz
    go_wp2_with (first
      | (go_at_call 76; refine (HSE.out _).mono ?_; rintro e w' ⟨rfl, rfl⟩)
      | (go_at_call 77; refine (sproblem_any HW1.out (by show 0 ≤ _; omega) (k := 1) (b := 0) (by omega) (by omega)).mono ?_; rintro e w5 ⟨rfl, hw5, hk5, _⟩))
    go_ret2
    refine ⟨q, gs, TS0.prob 1 0, rfl, by rw [HGS.out]; exact hw5, by rw [HW2.out], by rw [HW2.out], ?_⟩
    rw [HGS.out]
    exact HB2.out.trans (hk5.below HW1.out.bs)
end Go.Proofs.YtiefcgmghkkbmaaGreatDoor
