/-
  Disks of chains: GoneBlocks, both sides.
-/
import Derived.Test.YtjoagdmlihdbjaaDoorGbTop
namespace Go.Proofs.YtjoagdmlihdbjaaDoor
open Go Go.ChangeShapes Go.WideShapes Go.ChangeAt Go.RowKit lib
set_option linter.unusedVariables false
set_option maxRecDepth 100000
noncomputable def frOf (n : Nat) (s : Nat → ByteArray) : List Nat := freeN (joinU (s 0).size s) (s 0).size (dataN n (s 0).size) (n - dataN n (s 0).size)
noncomputable def geOf (n : Nat) (s : Nat → ByteArray) (k : Nat) : Ent := entK n (s 0).size (joinU (s 0).size s) k
/-- the blocks that entry k's file probably had -/
noncomputable def gbOf (n : Nat) (s : Nat → ByteArray) (k : Nat) : List Nat := gbL (frOf n s) (geOf n s k).f (needN (s 0).size (geOf n s k).l)
def gbAll (n : Nat) (s : Nat → ByteArray) (k : Nat) : Prop := gbOk (frOf n s) (geOf n s k).f (needN (s 0).size (geOf n s k).l)
theorem gbOf_le (n : Nat) (s : Nat → ByteArray) (k : Nat) : (gbOf n s k).length ≤ n := by
  unfold gbOf gbL frOf
  have h1 := List.length_filter_le (fun a => decide ((geOf n s k).f ≤ a)) (freeN (joinU (s 0).size s) (s 0).size (dataN n (s 0).size) (n - dataN n (s 0).size))
  have h2 := freeN_le (joinU (s 0).size s) (s 0).size (dataN n (s 0).size) (n - dataN n (s 0).size)
  rw [List.length_take]
  omega
theorem implGoneBlocks_bad {w : World} {n c : Nat} {A : Option Addr} {s : Nat → ByteArray} (k : Int) (hs : Sl w w.heap.size A n (fun i => .string (s i))) (hsz : ∀ i, i < n → (s i).size ≤ 9223372036854775807) (hn : n ≤ c) (hn2 : n ≤ 9223372036854775807) (hc : goneCode n s k ≠ 0) :
    Calls Tryd.prog 9 #[.slice A n c, .int .i64 k] w fun r w' => r = .returned (.tuple #[.slice none 0 0, .int .i64 (goneCode n s k)]) ∧ Below w.heap.size w w' := by
  have HO := Lib.hid (implGone_bad k hs hsz hn hn2 hc)
  obtain ⟨code, hcode⟩ : ∃ code, goneCode n s k = code := ⟨_, rfl⟩
  rw [hcode] at hc ⊢ HO
  have e1 : (code != 0) = true := by simpa using hc
  unfold noGone Ent.val entV ent0 at HO
  clear hs hsz hcode hc
  go_enter Tryd.func9, Tryd.ntmps9
  go_wp2_with (go_at_call 22; refine HO.out.mono ?_; rintro r w1 ⟨rfl, hb1⟩)
  go_ret2
  exact ⟨rfl, hb1.alloc hb1.size _⟩
set_option maxHeartbeats 1000000 in
theorem implGoneBlocks_ok {w : World} {n c : Nat} {A : Option Addr} {s : Nat → ByteArray} (k : Nat) (hs : Sl w w.heap.size A n (fun i => .string (s i))) (hsz : ∀ i, i < n → (s i).size ≤ 9223372036854775807) (hn : n ≤ c) (hn2 : n ≤ 9223372036854775807) (ho : opens n s) (hk : k < entsN n) (hde : (entK n (s 0).size (joinU (s 0).size s) k).de = true) :
    Calls Tryd.prog 9 #[.slice A n c, .int .i64 k] w fun r w' => Below w.heap.size w w' ∧ (gbAll n s k → ∃ A c, r = .returned (.tuple #[.slice A (gbOf n s k).length c, .int .i64 0]) ∧ IntsR w.heap.size w' A c (gbOf n s k)) ∧ (¬ gbAll n s k → r = .returned (.tuple #[.slice none 0 0, .int .i64 10])) := by
  have HO := Lib.hid (implGone_ok k hs hsz hn hn2 ho hk hde)
  obtain ⟨f1, f2, f3, f4, f5, f6⟩ := walk_fit ho.1
  have hf := shape_facts ho.1
  have hval := entryOf_facts (fun i => joinU (s 0).size s (dirN n (s 0).size * (s 0).size + k * 12 + i))
  rw [show entryOf (fun i => joinU (s 0).size s (dirN n (s 0).size * (s 0).size + k * 12 + i)) = entK n (s 0).size (joinU (s 0).size s) k from rfl] at hval
  have hfv := hval.2.1
  have hlv := hval.2.2.1
  obtain ⟨z, hz⟩ : ∃ z, (s 0).size = z := ⟨_, rfl⟩
  obtain ⟨U, hU⟩ : ∃ U, joinU z s = U := ⟨_, rfl⟩
  obtain ⟨e, he⟩ : ∃ e, entK n z U k = e := ⟨_, rfl⟩
  have hL : ∃ L, frOf n s = L := ⟨_, rfl⟩
  obtain ⟨L, hL⟩ := hL
  have hL2 : freeN U z (dataN n z) (n - dataN n z) = L := by rw [← hL, ← hU, ← hz]; rfl
  rw [hz, hU, he] at HO hfv hlv
  rw [hz] at f2 f3 f5 f6 hf
  have hge : geOf n s k = e := by unfold geOf; rw [hz, hU, he]
  obtain ⟨nm, f, l, us, de⟩ := e
  dsimp only at hfv hlv
  have HGA : Hid (gbAll n s k ↔ gbOk L f (needN z l)) := Lib.hid (by unfold gbAll; rw [hL, hge, hz])
  have HGO : Hid (gbOf n s k = gbL L f (needN z l)) := Lib.hid (by unfold gbOf; rw [hL, hge, hz])
  have hNle : needN z l ≤ 600 := by have : needN z l ≤ l + z - 1 := Nat.div_le_self _ _; omega
  have hz0 : 0 < z := by omega
  unfold Ent.val entV at HO
  obtain ⟨N1, hN1⟩ : ∃ N1, needN z l = N1 := ⟨_, rfl⟩
  obtain ⟨G, hGG⟩ : ∃ G, gbL L f N1 = G := ⟨_, rfl⟩
  have HG := Lib.hid hGG
  rw [hN1, hGG] at HGO
  rw [HGO.out]
  rw [hN1] at HGA hNle
  have hGl : G.length ≤ N1 := by rw [← hGG]; unfold gbL; simp; omega
  have HN1 := Lib.hid hN1
  have HL2 := Lib.hid hL2
  clear ho hs hsz hz hU he hge hde hval hk f6 hL hL2 hN1 hGG
  go_enter Tryd.func9, Tryd.ntmps9
  go_upto_region 4 with (first
    | (go_at_call 22; refine HO.out.mono ?_; rintro r w1 ⟨p, g, cc, rfl, hc, hcap, hb1, hp, hg⟩))
  have hal0 := (Below.refl w1.heap.size w1).alloc (Nat.le_refl _) (.cells #[.string nm, .int .i64 f, .int .i64 l, .bool us, .bool de] 37)
  have HC2 := Lib.hid (hc.below hal0)
  have rE := Rw.new w1 37 #[.string nm, .int .i64 f, .int .i64 l, .bool us, .bool de]
  have q0 := rE.cell 0; have q1 := rE.cell 1; have q2 := rE.cell 2; have q3 := rE.cell 3; have q4 := rE.cell 4
  have RE := Lib.hid rE
  have HB2 := Lib.hid (hb1.trans (hal0.mono hb1.size))
  clear hc rE hal0
  generalize w1.alloc (.cells #[.string nm, .int .i64 f, .int .i64 l, .bool us, .bool de] 37) = W2 at *
  have hz2 := HB2.out.size
  have HGBc := Lib.hid (implGoneB_any (nm := nm) (us := us) (de := de) HC2.out hz0 (by omega) f1 f5 f2 f3 hfv hlv)
  rw [HL2.out, HN1.out] at HGBc
  by_cases hok : gbOk L f N1
  · rcases Nat.eq_zero_or_pos N1 with rfl | hpos
    · go_wp2_with (first
        | (go_at_call 23; refine HGBc.out.mono ?_; rintro r w3 ⟨hb3, hr1, hr2, hr3⟩; obtain rfl := hr1 rfl)
        | (go_at_call 24; refine (cloneNil_any _).mono ?_; rintro r w4 ⟨rfl, rfl⟩))
      have hG0 : G = [] := List.eq_nil_of_length_eq_zero (by omega)
      have HBB := Lib.hid (HB2.out.trans (hb3.mono hz2))
      have HNA := Lib.hid (HGA.out.2 hok)
      go_ret2
      exact ⟨HBB.out, fun _ => ⟨none, 0, by rw [hG0]; rfl, by rw [hG0]; exact World.ownsRow_nil _ _ _ _⟩, fun h => absurd HNA.out h⟩
    · have hlen : G.length = N1 := by
        rcases hok with h | h
        · omega
        · rw [HG.out] at h; exact h.1
      have HLEN := Lib.hid hlen
      have HOKK := Lib.hid hok
      clear hok hlen hGl
      go_wp2_with (first
        | (go_at_call 23; refine HGBc.out.mono ?_; rintro r w3 ⟨hb3, hr1, hr2, hr3⟩; obtain ⟨q, o, c', rfl, hq1, hq2, hq3⟩ := hr2 (by omega) HOKK.out; rw [HG.out] at hq3)
        | (go_at_call 24; refine (clone_any G HLEN.out (by omega) hq2 hq3).mono ?_; rintro r w4 ⟨A4, c4, rfl, hi4, hb4⟩))
      have HB3 := HB2.out.trans (hb3.mono hz2)
      have HBB := Lib.hid (HB3.trans (hb4.mono HB3.size))
      have HI4 := Lib.hid (hi4.base HB3.size)
      have HNA := Lib.hid (HGA.out.2 HOKK.out)
      clear hi4
      go_ret2
      exact ⟨HBB.out, fun _ => ⟨A4, c4, by rw [HLEN.out]; rfl, HI4.out⟩, fun h => absurd HNA.out h⟩
  · have HOKK := Lib.hid hok
    have HNA := Lib.hid (fun h => hok (HGA.out.1 h))
    clear hok
    go_wp2_with (first
      | (go_at_call 23; refine HGBc.out.mono ?_; rintro r w3 ⟨hb3, hr1, hr2, hr3⟩; obtain rfl := hr3 HOKK.out))
    have HBB := Lib.hid (HB2.out.trans (hb3.mono hz2))
    go_ret2
    exact ⟨HBB.out, fun h => absurd h HNA.out, fun _ => rfl⟩
theorem specGoneBlocks_bad {w : World} {n c : Nat} {A : Option Addr} {s : Nat → ByteArray} (k : Int) (hs : Sl w w.heap.size A n (fun i => .string (s i))) (hsz : ∀ i, i < n → (s i).size ≤ 9223372036854775807) (hn : n ≤ c) (hn2 : n ≤ 9223372036854775807) (hc : goneCode n s k ≠ 0) :
    Calls Tryd.prog 7 #[.slice A n c, .int .i64 k] w fun r w' => r = .returned (.tuple #[.slice none 0 0, .int .i64 (goneCode n s k)]) ∧ Below w.heap.size w w' := by
  have HO := Lib.hid (specGone_bad k hs hsz hn hn2 hc)
  obtain ⟨code, hcode⟩ : ∃ code, goneCode n s k = code := ⟨_, rfl⟩
  rw [hcode] at hc ⊢ HO
  have e1 : (code != 0) = true := by simpa using hc
  unfold noGone Ent.val entV ent0 at HO
  clear hs hsz hcode hc
  go_enter Tryd.func7, Tryd.ntmps7
  go_wp2_with (go_at_call 20; refine HO.out.mono ?_; rintro r w1 ⟨rfl, hb1⟩)
  go_ret2
  exact ⟨rfl, hb1.alloc hb1.size _⟩
set_option maxHeartbeats 1000000 in
theorem specGoneBlocks_ok {w : World} {n c : Nat} {A : Option Addr} {s : Nat → ByteArray} (k : Nat) (hs : Sl w w.heap.size A n (fun i => .string (s i))) (hsz : ∀ i, i < n → (s i).size ≤ 9223372036854775807) (hn : n ≤ c) (hn2 : n ≤ 9223372036854775807) (ho : opens n s) (hk : k < entsN n) (hde : (entK n (s 0).size (joinU (s 0).size s) k).de = true) :
    Calls Tryd.prog 7 #[.slice A n c, .int .i64 k] w fun r w' => Below w.heap.size w w' ∧ (gbAll n s k → ∃ A c, r = .returned (.tuple #[.slice A (gbOf n s k).length c, .int .i64 0]) ∧ IntsR w.heap.size w' A c (gbOf n s k)) ∧ (¬ gbAll n s k → r = .returned (.tuple #[.slice none 0 0, .int .i64 10])) := by
  have HO := Lib.hid (specGone_ok k hs hsz hn hn2 ho hk hde)
  obtain ⟨f1, f2, f3, f4, f5, f6⟩ := walk_fit ho.1
  have hf := shape_facts ho.1
  have hval := entryOf_facts (fun i => joinU (s 0).size s (dirN n (s 0).size * (s 0).size + k * 12 + i))
  rw [show entryOf (fun i => joinU (s 0).size s (dirN n (s 0).size * (s 0).size + k * 12 + i)) = entK n (s 0).size (joinU (s 0).size s) k from rfl] at hval
  have hfv := hval.2.1
  have hlv := hval.2.2.1
  obtain ⟨z, hz⟩ : ∃ z, (s 0).size = z := ⟨_, rfl⟩
  obtain ⟨U, hU⟩ : ∃ U, joinU z s = U := ⟨_, rfl⟩
  obtain ⟨e, he⟩ : ∃ e, entK n z U k = e := ⟨_, rfl⟩
  have hL : ∃ L, frOf n s = L := ⟨_, rfl⟩
  obtain ⟨L, hL⟩ := hL
  have hL2 : freeN U z (dataN n z) (n - dataN n z) = L := by rw [← hL, ← hU, ← hz]; rfl
  rw [hz, hU, he] at HO hfv hlv
  rw [hz] at f2 f3 f5 f6 hf
  have hge : geOf n s k = e := by unfold geOf; rw [hz, hU, he]
  obtain ⟨nm, f, l, us, de⟩ := e
  dsimp only at hfv hlv
  have HGA : Hid (gbAll n s k ↔ gbOk L f (needN z l)) := Lib.hid (by unfold gbAll; rw [hL, hge, hz])
  have HGO : Hid (gbOf n s k = gbL L f (needN z l)) := Lib.hid (by unfold gbOf; rw [hL, hge, hz])
  have hNle : needN z l ≤ 600 := by have : needN z l ≤ l + z - 1 := Nat.div_le_self _ _; omega
  have hz0 : 0 < z := by omega
  unfold Ent.val entV at HO
  obtain ⟨N1, hN1⟩ : ∃ N1, needN z l = N1 := ⟨_, rfl⟩
  obtain ⟨G, hGG⟩ : ∃ G, gbL L f N1 = G := ⟨_, rfl⟩
  have HG := Lib.hid hGG
  rw [hN1, hGG] at HGO
  rw [HGO.out]
  rw [hN1] at HGA hNle
  have hGl : G.length ≤ N1 := by rw [← hGG]; unfold gbL; simp; omega
  have HN1 := Lib.hid hN1
  have HL2 := Lib.hid hL2
  clear ho hs hsz hz hU he hge hde hval hk f6 hL hL2 hN1 hGG
  go_enter Tryd.func7, Tryd.ntmps7
  go_upto_region 4 with (first
    | (go_at_call 20; refine HO.out.mono ?_; rintro r w1 ⟨p, g, cc, rfl, hc, hcap, hb1, hp, hg⟩))
  have hal0 := (Below.refl w1.heap.size w1).alloc (Nat.le_refl _) (.cells #[.string nm, .int .i64 f, .int .i64 l, .bool us, .bool de] 37)
  have HC2 := Lib.hid (hc.below hal0)
  have rE := Rw.new w1 37 #[.string nm, .int .i64 f, .int .i64 l, .bool us, .bool de]
  have q0 := rE.cell 0; have q1 := rE.cell 1; have q2 := rE.cell 2; have q3 := rE.cell 3; have q4 := rE.cell 4
  have RE := Lib.hid rE
  have HB2 := Lib.hid (hb1.trans (hal0.mono hb1.size))
  clear hc rE hal0
  generalize w1.alloc (.cells #[.string nm, .int .i64 f, .int .i64 l, .bool us, .bool de] 37) = W2 at *
  have hz2 := HB2.out.size
  have HGBc := Lib.hid (specGoneB_any HC2.out RE.out hz0 (by omega) f1 f5 f2 f3 hfv hlv)
  rw [HL2.out, HN1.out] at HGBc
  unfold GbOutS at HGBc
  rw [HG.out] at HGBc
  by_cases hok : gbOk L f N1
  · have HOKK := Lib.hid hok
    have HNA := Lib.hid (HGA.out.2 hok)
    clear hok
    go_wp2_with (first
      | (go_at_call 21; refine HGBc.out.mono ?_; rintro r w3 ⟨A4, c4, b, hb, rfl, hi4, hb3⟩; have hbt := hb.2 HOKK.out; clear hb; subst hbt))
    have HBB := Lib.hid (HB2.out.trans (hb3.mono hz2))
    have HI4 := Lib.hid (hi4.base hz2)
    clear hi4
    go_ret2
    exact ⟨HBB.out, fun _ => ⟨A4, c4, rfl, HI4.out⟩, fun h => absurd HNA.out h⟩
  · have HOKK := Lib.hid hok
    have HNA := Lib.hid (fun h => hok (HGA.out.1 h))
    clear hok
    go_wp2_with (first
      | (go_at_call 21; refine HGBc.out.mono ?_; rintro r w3 ⟨A4, c4, b, hb, rfl, hi4, hb3⟩; have hbf : b = false := (by cases b with | false => rfl | true => exact absurd (hb.1 rfl) HOKK.out); clear hb; subst hbf))
    have HBB := Lib.hid (HB2.out.trans (hb3.mono hz2))
    go_ret2
    exact ⟨HBB.out, fun h => absurd h HNA.out, fun _ => rfl⟩
end Go.Proofs.YtjoagdmlihdbjaaDoor
