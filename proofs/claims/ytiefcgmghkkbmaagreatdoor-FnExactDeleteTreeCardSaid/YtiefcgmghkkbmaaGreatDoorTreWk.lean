/-
  Trees: the program's walk, whole.
-/
import Derived.Test.YtiefcgmghkkbmaaGreatDoorTreDi
namespace Go.Proofs.YtiefcgmghkkbmaaGreatDoor
open Go Go.ChangeShapes Go.WideShapes Go.ChangeAt Go.RowKit lib
set_option linter.unusedVariables false
set_option linter.unusedSimpArgs false
set_option maxRecDepth 100000
theorem tMarks_sn {u : Nat → Nat → UInt8} {S : TS} : ∀ k, (tMarks u S k).sn = S.sn
  | 0 => rfl
  | k + 1 => by
    have ih := tMarks_sn (u := u) (S := S) k
    unfold tMarks
    split
    · exact ih
    · split <;> exact ih
theorem tMarks_it {u : Nat → Nat → UInt8} {S : TS} : ∀ k, (tMarks u S k).it = S.it
  | 0 => rfl
  | k + 1 => by
    have ih := tMarks_it (u := u) (S := S) k
    unfold tMarks
    split
    · exact ih
    · split <;> exact ih
theorem tMarks_pr {u : Nat → Nat → UInt8} {S : TS} : ∀ k, (tMarks u S k).pr.length ≤ S.pr.length + k
  | 0 => Nat.le_refl _
  | k + 1 => by
    have ih := tMarks_pr (u := u) (S := S) k
    unfold tMarks
    split
    · show ((tMarks u S k).pr ++ [_]).length ≤ _
      rw [List.length_append]; simp; omega
    · split
      · show ((tMarks u S k).pr ++ [_]).length ≤ _
        rw [List.length_append]; simp; omega
      · omega
theorem tMarks_a {u : Nat → Nat → UInt8} {S : TS} {k : Nat} (h1 : S.sn k = true) (h2 : tBit (u 0) k = false) : tMarks u S (k + 1) = (tMarks u S k).prob 6 k := by rw [tMarks, if_pos ⟨h1, h2⟩]
theorem tMarks_b {u : Nat → Nat → UInt8} {S : TS} {k : Nat} (h1 : S.sn k = false) (h2 : tBit (u 0) k = true) : tMarks u S (k + 1) = (tMarks u S k).prob 7 k := by rw [tMarks, if_neg (by rw [h1]; simp), if_pos ⟨h1, h2⟩]
theorem tMarks_c {u : Nat → Nat → UInt8} {S : TS} {k : Nat} (h : S.sn k = tBit (u 0) k) : tMarks u S (k + 1) = tMarks u S k := by
  rw [tMarks]
  cases hb : tBit (u 0) k with
  | true => rw [if_neg (by simp), if_neg (by rw [h, hb]; simp)]
  | false => rw [if_neg (by rw [h, hb]; simp), if_neg (by simp)]
/-- how a walk ends -/
def WalkOut (gp gr n B0 : Nat) (bl cp : Nat → Nat) (u : Nat → Nat → UInt8) (w : World) (e : Ending) (w' : World) : Prop :=
  ∃ (q m : Nat) (R : TS), e = .returned (.pointer (some ⟨q, 0, none⟩)) ∧ WkW w' q gp gr n w.heap.size B0 m bl cp u R ∧ R.pr = (tWalk n u).pr ∧ R.it = (tWalk n u).it ∧ Below w.heap.size w w'
set_option maxHeartbeats 8000000 in
theorem walk_any {w : World} {gp gr n B0 : Nat} {bl cp : Nat → Nat} {u : Nat → Nat → UInt8} (ht : TreD w gp gr n B0 bl cp u) (hn1 : 4 ≤ n) (hn : n ≤ 128) : Calls Tryz.prog 41 #[.pointer (some ⟨gp, 0, none⟩)] w (WalkOut gp gr n B0 bl cp u w) := by
  obtain ⟨W, hW⟩ : ∃ W, tWalk n u = W := ⟨_, rfl⟩
  have HWK := Lib.hid hW
  have hb1 := (Below.refl w.heap.size w).alloc (Nat.le_refl _) (.map #[] 0)
  have hbm := (Below.refl w.heap.size w).alloc (Nat.le_refl _) (.map #[] 0)
  have hset := TSet.made (P := Tryz.prog) (k := 2) (e := 4) w
  obtain ⟨w2, hrun0, hset2, hg2⟩ := hset.store (t := 69) Tryz.underlying2 Tryz.underlying69 Tryz.underlying4 (by simp only [maxLen]; omega) 0 (by omega) true
  have hrun : (Instr.mapUpdate 69 (.map (some w.heap.size)) (.int .i64 0) (.bool true)).run Tryz.prog (w.alloc (.map #[] 0)) = .ok () w2 := hrun0
  clear hrun0
  have hB2 : Below w.heap.size w w2 := hb1.trans (below_grown hg2 (fun k e => by injection e with e; omega) (by rw [World.size_alloc]; omega))
  have hm2 : w.heap.size < w2.heap.size := hset2.lt
  have hb3 := (Below.refl w2.heap.size w2).alloc (Nat.le_refl _) (.cells #[.pointer (some ⟨gp, 0, none⟩), .map (some w.heap.size), .slice none 0 0, .slice none 0 0] 72)
  have HB3 := Lib.hid (hB2.trans (hb3.mono hB2.size))
  have hu0 : (TS0.see 0).uns n ≤ 128 := by have := unsF_le (TS0.see 0).sn n; show unsF _ n ≤ 128; omega
  have HW3 := Lib.hid (show WkW (w2.alloc (.cells #[.pointer (some ⟨gp, 0, none⟩), .map (some w.heap.size), .slice none 0 0, .slice none 0 0] 72)) w2.heap.size gp gr n w.heap.size B0 w.heap.size bl cp u (TS0.see 0) from
    { rows := ⟨none, 0, none, 0, Row.new w2 _ _, World.ownsRow_nil _ _ _ _, World.ownsRow_nil _ _ _ _⟩, seen := ⟨1, by omega, hset2.below hb3⟩, tree := (ht.below hB2).below hb3, qB := hB2.size, mB := Nat.le_refl _ })
  have HT := Lib.hid ht
  have HT3 := Lib.hid ((ht.below hB2).below hb3)
  have hmm := @run_makeMap Tryz.prog
  clear hb1 hbm hset hset2 hg2 hb3 ht hW
  go_enter Tryz.func41, Tryz.ntmps41
  go_upto_region 2 with fail
  obtain ⟨q, hq⟩ : ∃ q, w2.heap.size = q := ⟨_, rfl⟩
  rw [hq] at HW3
  rw [hq]
  clear hrun hmm
  generalize w2.alloc (.cells #[.pointer (some ⟨gp, 0, none⟩), .map (some w.heap.size), .slice none 0 0, .slice none 0 0] 72) = W3 at *
  obtain ⟨m, hm⟩ : ∃ m, w.heap.size = m := ⟨_, rfl⟩
  rw [hm] at HW3 HB3 hm2 hB2
  have HM := Lib.hid hm
  have hz3 : m ≤ W3.heap.size := by have := HB3.out.size; omega
  clear hm hB2
  have hRP := rootProblem_any HT3.out (by omega) hn
  obtain ⟨r, hr⟩ : ∃ r, tRootP n u = r := ⟨_, rfl⟩
  have hr2 : r ≤ 2 := by rw [← hr]; unfold tRootP; split; omega; split <;> omega
  rw [hr] at hRP
  have HRP := Lib.hid hRP
  have HR := Lib.hid hr
  clear hRP hr
  by_cases h0 : r = 0
  · subst h0
    have hW2 : W = tMarks u (tDir n u 256 ⟨#[]⟩ 0 4 (TS0.see 0)) n := by
      rw [← HWK.out]
      unfold tWalk
      rw [if_pos HR.out]
    have hroot : u 0 0 = 1 := by
      have h := HR.out
      unfold tRootP at h
      by_cases h1 : usum (u 0) 32 ≠ 0
      · rw [if_pos h1] at h; cases h
      · rw [if_neg h1] at h
        by_cases h2 : tRoot (u 0) n
        · exact h2.1
        · rw [if_neg h2] at h; cases h
    have hsee : (TS0.see 0).sn 0 = true := rfl
    have HDI := Lib.hid (fun (W5 : World) (hw5 : WkW W5 q gp gr n m B0 m bl cp u (TS0.see 0)) (hz : m ≤ W5.heap.size) => dir_all 256 W5 q gp gr n m B0 m 0 4 bl cp u (TS0.see 0) ⟨#[]⟩ hw5 hz hn (by show 0 + 20 * (TS0.see 0).uns n ≤ 80000; omega) (by show 0 + (TS0.see 0).uns n ≤ 1000; omega) (by omega) (fun x hx => by cases hx) hsee (fun x hx => by cases hx) (by omega) (.inl ⟨rfl, hroot⟩) (by show 0 + 10 * (TS0.see 0).uns n ≤ 2000; omega))
    have hmuD : (tDir n u 256 ⟨#[]⟩ 0 4 (TS0.see 0)).mu n ≤ (TS0.see 0).mu n + 8 := (tPre_le (n := n) (u := u) (g := 256) (path := ⟨#[]⟩) (t := 4) hsee 8).2
    obtain ⟨D, hD⟩ : ∃ D, tDir n u 256 ⟨#[]⟩ 0 4 (TS0.see 0) = D := ⟨_, rfl⟩
    rw [hD] at HDI hW2 hmuD
    have hDp : D.pr.length ≤ 3000 := by
      have e1 : D.mu n = D.pr.length + 20 * D.uns n := rfl
      have e2 : (TS0.see 0).mu n = 0 + 20 * (TS0.see 0).uns n := rfl
      omega
    have HW2 := Lib.hid hW2
    clear hW2 hroot hsee hD hmuD
    go_upto_region 7 with (first
      | (go_at_call 38; refine HRP.out.mono ?_; rintro e w4 ⟨rfl, hb4⟩)
      | (go_at_call 92; refine (HDI.out _ (HW3.out.below hb4) (Nat.le_trans hz3 hb4.size)).mono ?_; rintro e w5 ⟨rfl, hw5, hk5⟩))
    have HW5 := Lib.hid hw5
    have HB5 := Lib.hid (HB3.out.trans ((hb4.mono hz3).trans (hk5.below (Nat.le_trans hz3 hb4.size))))
    obtain ⟨cap, k2⟩ := hw5.tree.ptr
    have HSZ := Lib.hid (fun W => sizeBl_any (some ⟨gr, 0, none⟩) n cap W (by omega))
    clear hb4 hw5 hk5
    go_wp2_with (go_at_call 93; refine (HSZ.out _).mono ?_; rintro e w' ⟨rfl, rfl⟩)
    go_loopw [26] (fun s26 wr => ∃ k : Nat, k ≤ n ∧ s26 = .int .i64 k ∧ WkW wr q gp gr n m B0 m bl cp u (tMarks u D k) ∧ Below m w wr) (fun s _ => n - (intOf s).toNat)
    case atStart => exact ⟨0, by omega, rfl, HW5.out, HB5.out⟩
    case round =>
      obtain ⟨k, hk, rfl, hw, hb⟩ := hrel
      have HWR := Lib.hid hw
      have HBR := Lib.hid hb
      have hzr : m ≤ wr.heap.size := by have := hb.size; have := HM.out; omega
      clear hw hb
      by_cases hlt : k < n
      · have hki : (k : Int) < (n : Int) := by omega
        obtain ⟨k0, k1⟩ := HWR.out.ptr
        obtain ⟨cnt, hcnt, hset⟩ := HWR.out.seen
        have hlk := hset.look (t := 69) Tryz.underlying2 Tryz.underlying69 Tryz.underlying4 (by rfl) k (by omega)
        rw [tMarks_sn] at hlk
        have HMK := Lib.hid (fun (W : World) (hW : WkW W q gp gr n m B0 m bl cp u (tMarks u D k)) => marked_any hW.tree (by omega) (show k < 128 by omega))
        have HPR := Lib.hid (fun (kk : Nat) (hkk : kk ≤ 1000) => problem_any HWR.out hzr (by have := tMarks_pr (u := u) (S := D) k; omega) hkk (b := k) (by omega))
        have HA := Lib.hid (tMarks_a (u := u) (S := D) (k := k))
        have HBq := Lib.hid (tMarks_b (u := u) (S := D) (k := k))
        have HC := Lib.hid (tMarks_c (u := u) (S := D) (k := k))
        clear hset hcnt
        cases hs : D.sn k with
        | true =>
          rw [hs] at hlk
          cases hbt : tBit (u 0) k with
          | true =>
            have HN := Lib.hid (HC.out (by rw [hs, hbt]))
            have HMK2 := Lib.hid (HMK.out wr HWR.out)
            rw [hbt] at HMK2
            clear hs hbt
            go_wp2_with (go_at_call 89; refine HMK2.out.mono ?_; rintro e w' ⟨rfl, rfl⟩)
            go_roundw
            case rel => exact ⟨k + 1, by omega, by go_num, by rw [HN.out]; exact HWR.out, HBR.out⟩
            case measure => simp [intOf]; omega
          | false =>
            have HN := Lib.hid (HA.out hs hbt)
            have HMK2 := Lib.hid (HMK.out wr HWR.out)
            rw [hbt] at HMK2
            have HP6 := Lib.hid (HPR.out 6 (by omega))
            clear hs hbt
            go_wp2_with (first | (go_at_call 89; refine HMK2.out.mono ?_; rintro e w' ⟨rfl, rfl⟩) | (go_at_call 91; refine HP6.out.mono ?_; rintro e w6 ⟨rfl, hw6, hk6, _⟩; have k0 := hw6.ptr.1; have k1 := hw6.ptr.2; obtain ⟨cnt, hcnt, hset⟩ := hw6.seen; have hlk := hset.look (t := 69) Tryz.underlying2 Tryz.underlying69 Tryz.underlying4 (by rfl) k (by omega)))
            go_roundw
            case rel => exact ⟨k + 1, by omega, by go_num, by rw [HN.out]; exact hw6, HBR.out.trans (hk6.below hzr)⟩
            case measure => simp [intOf]; omega
        | false =>
          rw [hs] at hlk
          cases hbt : tBit (u 0) k with
          | false =>
            have HN := Lib.hid (HC.out (by rw [hs, hbt]))
            have HMK2 := Lib.hid (HMK.out wr HWR.out)
            rw [hbt] at HMK2
            clear hs hbt
            go_wp2_with (go_at_call 89; refine HMK2.out.mono ?_; rintro e w' ⟨rfl, rfl⟩)
            go_roundw
            case rel => exact ⟨k + 1, by omega, by go_num, by rw [HN.out]; exact HWR.out, HBR.out⟩
            case measure => simp [intOf]; omega
          | true =>
            have HN := Lib.hid (HBq.out hs hbt)
            have HMK2 := Lib.hid (HMK.out wr HWR.out)
            rw [hbt] at HMK2
            have HP7 := Lib.hid (HPR.out 7 (by omega))
            clear hs hbt
            go_wp2_with (first | (go_at_call 89; refine HMK2.out.mono ?_; rintro e w' ⟨rfl, rfl⟩) | (go_at_call 91; refine HP7.out.mono ?_; rintro e w6 ⟨rfl, hw6, hk6, _⟩))
            go_roundw
            case rel => exact ⟨k + 1, by omega, by go_num, by rw [HN.out]; exact hw6, HBR.out.trans (hk6.below hzr)⟩
            case measure => simp [intOf]; omega
      · obtain rfl : k = n := by omega
        go_wp2_with fail
        go_ret
        refine ⟨q, m, tMarks u D k, rfl, by rw [HM.out]; exact HWR.out, by rw [HWK.out, HW2.out], by rw [HWK.out, HW2.out], ?_⟩
        rw [HM.out]
        exact HBR.out
  · have tr : ((r : Int) != 0) = true := by simp; omega
    have hW2 : W = TS0.prob r 0 := by
      rw [← HWK.out]
      unfold tWalk
      rw [if_neg (by rw [HR.out]; exact h0), HR.out]
    have HW2 := Lib.hid hW2
    clear hW2 h0
    go_wp2_with (first
      | (go_at_call 38; refine HRP.out.mono ?_; rintro e w4 ⟨rfl, hb4⟩)
      | (go_at_call 91; refine (problem_any (HW3.out.below hb4) (Nat.le_trans hz3 hb4.size) (by show 0 ≤ _; omega) (k := r) (b := 0) (by omega) (by omega)).mono ?_; rintro e w5 ⟨rfl, hw5, hk5, _⟩))
    go_ret
    refine ⟨q, m, (TS0.see 0).prob r 0, rfl, by rw [HM.out]; exact hw5, by rw [HWK.out, HW2.out]; rfl, by rw [HWK.out, HW2.out]; rfl, ?_⟩
    rw [HM.out]
    exact HB3.out.trans ((hb4.mono hz3).trans (hk5.below (Nat.le_trans hz3 hb4.size)))
end Go.Proofs.YtiefcgmghkkbmaaGreatDoor
