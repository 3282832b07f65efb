/-
  Disks of chains: GoneChains, both sides.
-/
import Derived.Test.YtbcdfcadcghghaaDoorEntRS
import Derived.Test.YtbcdfcadcghghaaDoorEntryTop
import Derived.Test.YtbcdfcadcghghaaDoorChainC2
namespace Go.Proofs.YtbcdfcadcghghaaDoor
open Go Go.ChangeShapes Go.WideShapes Go.ChangeAt Go.RowKit lib
set_option linter.unusedVariables false
set_option maxRecDepth 100000
/-- entry k of a disk -/
noncomputable def entK (n z : Nat) (U : Nat → UInt8) (k : Nat) : Ent := entryOf (fun i => U (dirN n z * z + k * 12 + i))
/-- the first k entries' numbers: those that are deleted -/
noncomputable def goneL (n z : Nat) (U : Nat → UInt8) : Nat → List Nat
  | 0 => []
  | k + 1 => goneL n z U k ++ (if (entK n z U k).de = true then [k] else [])
theorem goneL_hit {n z : Nat} {U : Nat → UInt8} {k : Nat} (h : (entK n z U k).de = true) : goneL n z U (k + 1) = goneL n z U k ++ [k] := by simp only [goneL, if_pos h]
theorem goneL_miss {n z : Nat} {U : Nat → UInt8} {k : Nat} (h : (entK n z U k).de = false) : goneL n z U (k + 1) = goneL n z U k := by simp [goneL, h]
theorem goneL_le (n z : Nat) (U : Nat → UInt8) : ∀ k, (goneL n z U k).length ≤ k
  | 0 => Nat.le_refl _
  | k + 1 => by
    have := goneL_le n z U k
    simp only [goneL, List.length_append]
    split <;> simp <;> omega
/-- how reading entry k ends: its parts -/
theorem entOut_parts {r : Ending} {w w' : World} {v : Nat → UInt8} (h : EntOut r w w' v) : ∃ (b : Bool) (nm : ByteArray) (f l : Nat) (us de : Bool), (b = true ↔ okE v) ∧ entryOf v = ⟨nm, f, l, us, de⟩ ∧ r = .returned (.tuple #[.agg #[.string nm, .int .i64 f, .int .i64 l, .bool us, .bool de], .bool b]) ∧ Below w.heap.size w w' ∧ nm.size ≤ 8 ∧ f ≤ 255 ∧ l ≤ 512 ∧ (b = false → us = false ∧ de = false) := by
  obtain ⟨b, hb, hr, hw⟩ := h
  obtain ⟨e, he⟩ : ∃ e, entryOf v = e := ⟨_, rfl⟩
  have hf := entryOf_facts v
  rw [he] at hf hr
  obtain ⟨nm, f, l, us, de⟩ := e
  refine ⟨b, nm, f, l, us, de, hb, he, hr, hw, hf.1, hf.2.1, hf.2.2.1, fun hbf => ?_⟩
  have hn : ¬ okE v := fun q => by have := hb.2 q; rw [hbf] at this; cases this
  rw [entryOf_not hn] at he
  unfold ent0 at he
  injection he with _ _ _ h4 h5
  exact ⟨h4.symm, h5.symm⟩
noncomputable def goneOf (n : Nat) (s : Nat → ByteArray) : List Nat := goneL n (s 0).size (joinU (s 0).size s) (entsN n)
set_option maxHeartbeats 2000000 in
theorem implGoneChains {w : World} {n c : Nat} {A : Option Addr} {s : Nat → ByteArray} (hs : Sl w w.heap.size A n (fun i => .string (s i))) (hsz : ∀ i, i < n → (s i).size ≤ 9223372036854775807) (hn : n ≤ c) (hn2 : n ≤ 9223372036854775807) :
    Calls Tryd.prog 13 #[.slice A n c] w fun r w' => (opens n s → ∃ A c, r = .returned (.tuple #[.slice A (goneOf n s).length c, .int .i64 0]) ∧ IntsR w.heap.size w' A c (goneOf n s) ∧ Below w.heap.size w w') ∧
      (¬ opens n s → r = .returned (.tuple #[.slice none 0 0, .int .i64 (openCode n s)]) ∧ Below w.heap.size w w') := by
  have HO := Lib.hid (implOpen hs hsz hn hn2)
  by_cases ho : opens n s
  · have hf := shape_facts ho.1
    have HFT := Lib.hid (fun k (hk : k < entsN n) => fit_facts ho.1 hk)
    unfold goneOf
    obtain ⟨z, hz⟩ : ∃ z, (s 0).size = z := ⟨_, rfl⟩
    rw [hz] at hf HFT ⊢
    have HZ := Lib.hid hz
    have HL := Lib.hid ho
    have he16 : entsN n ≤ 16 := by unfold entsN; omega
    obtain ⟨E, hE⟩ : ∃ E, entsN n = E := ⟨_, rfl⟩
    rw [hE] at he16 HFT ⊢
    have HEE := Lib.hid hE
    obtain ⟨U, hU⟩ : ∃ U, joinU z s = U := ⟨_, rfl⟩
    rw [hU]
    have HUU := Lib.hid hU
    clear ho hs hsz hz hE hU
    go_enter Tryd.func13, Tryd.ntmps13
    go_wp2_with (first
      | (go_at_call 40; refine HO.out.mono ?_; rintro r w1 ⟨h1, _⟩; obtain ⟨p, rfl, ow⟩ := h1 HL.out; rw [HZ.out] at ow; obtain ⟨g, cc, hc, hcap, hb1, hp, hg⟩ := ow; rw [HEE.out, HUU.out] at hc; have c2 := hc.c2))
    go_loopw [6, 23] (fun s6 s23 wr => ∃ (k : Nat) (A : Option Addr) (c' : Nat), k ≤ E ∧ s6 = .slice A (goneL n z U k).length c' ∧ s23 = .int .i64 k ∧ IntsR w1.heap.size wr A c' (goneL n z U k) ∧ Below w1.heap.size w1 wr) (fun _ s _ => E - (intOf s).toNat)
    case atStart => exact ⟨0, none, 0, by omega, rfl, rfl, World.ownsRow_nil _ _ _ _, Below.refl _ _⟩
    case round =>
      obtain ⟨k, A, c', hk, rfl, rfl, ho, hb⟩ := hrel
      have HOO := Lib.hid ho
      have hW := hc.below hb
      have hz := hb.size
      clear ho
      by_cases hlt : k < E
      · obtain ⟨t1, t2, t3⟩ := HFT.out k hlt
        have hl := goneL_le n z U k
        have HGH := Lib.hid (@goneL_hit n z U k)
        have HGM := Lib.hid (@goneL_miss n z U k)
        generalize hL : goneL n z U k = L at *
        clear hL
        go_upto_region 9 with (first
          | (go_at_call 41; refine (implEntry_any k _ hW rfl t1 (by omega) hcap t2).mono ?_; intro e2 w2 h2; obtain ⟨b, nm, f, l, us, de, hb0, he0, rfl, hb2, n8, f8, l8, hbf⟩ := entOut_parts h2))
        have hW2 := hW.below hb2
        have hA := hb.trans (hb2.mono hz)
        have c2w := hW2.c2
        have hz2 := hA.size
        have HO2 := Lib.hid (own_below HOO.out hb2)
        have HEK := Lib.hid (show (entK n z U k).de = de by unfold entK; rw [he0])
        have hcase : (b = true ∧ de = true) ∨ (b = true ∧ de = false) ∨ (b = false ∧ de = false) := by
          cases b
          · exact .inr (.inr ⟨rfl, (hbf rfl).2⟩)
          · cases de <;> simp
        clear hbf he0 hb0 h2
        have hal := hA.alloc (by exact hz2) (.cells #[.string nm, .int .i64 f, .int .i64 l, .bool us, .bool de] 57)
        have hr := Rw.new w2 57 #[.string nm, .int .i64 f, .int .i64 l, .bool us, .bool de]
        have r4 := hr.cell 4
        have hpu := own_below HO2.out ((Below.refl w2.heap.size w2).alloc (Nat.le_refl _) (.cells #[.string nm, .int .i64 f, .int .i64 l, .bool us, .bool de] 57))
        generalize w2.alloc (.cells #[.string nm, .int .i64 f, .int .i64 l, .bool us, .bool de] 57) = W3 at *
        have HPU := Lib.hid hpu
        have hzz := hal.size
        have hl1 : L.length ≤ 16 := by omega
        clear hpu hr c2w
        rcases hcase with ⟨rfl, rfl⟩ | ⟨rfl, rfl⟩ | ⟨rfl, rfl⟩
        · have HG := Lib.hid (HGH.out HEK.out)
          go_wp2_with (at_builtin; refine wpList_push (.tmp 37) (.tmp 39) 24 w1.heap.size 2 (.int .i64 0) _ 8 _ L.length _ HPU.out rfl rfl Tryd.underlying24 infoI64 rfl rfl rfl rfl rfl (by omega) (by omega) hzz ?_; intro A' c3 w3 ho3 hb3)
          go_roundw
          case rel => exact ⟨k + 1, some A', c3, by omega, by rw [HG.out]; simp, by go_num, by rw [HG.out]; simpa [IntsR] using ho3, hal.trans hb3⟩
          case measure => simp [intOf]; omega
        · have HG := Lib.hid (HGM.out HEK.out)
          go_wp2_with fail
          go_roundw
          case rel => exact ⟨k + 1, A, c', by omega, by rw [HG.out], by go_num, by rw [HG.out]; exact HPU.out, hal⟩
          case measure => simp [intOf]; omega
        · have HG := Lib.hid (HGM.out HEK.out)
          go_wp2_with fail
          go_roundw
          case rel => exact ⟨k + 1, A, c', by omega, by rw [HG.out], by go_num, by rw [HG.out]; exact HPU.out, hal⟩
          case measure => simp [intOf]; omega
      · obtain rfl : k = E := by omega
        go_wp2
        go_ret2
        exact ⟨fun _ => ⟨A, c', rfl, own_base HOO.out hb1.size, hb1.trans (hb.mono hb1.size)⟩, fun h => absurd HL.out h⟩
  · have hne := openCode_ne n s
    have HL := Lib.hid ho
    obtain ⟨code, hcode⟩ : ∃ code, openCode n s = code := ⟨_, rfl⟩
    rw [hcode] at hne ⊢
    have HCD := Lib.hid hcode
    clear ho hs hsz hcode
    rcases hne with rfl | rfl
    all_goals
      go_enter Tryd.func13, Tryd.ntmps13
      go_wp2_with (go_at_call 40; refine HO.out.mono ?_; rintro r w1 ⟨_, h1⟩; have h2 := h1 HL.out; rw [HCD.out] at h2; obtain ⟨rfl, hb1⟩ := h2)
      go_ret2
      exact ⟨fun h => absurd h HL.out, fun _ => ⟨rfl, hb1⟩⟩
set_option maxHeartbeats 2000000 in
theorem specGoneChains {w : World} {n c : Nat} {A : Option Addr} {s : Nat → ByteArray} (hs : Sl w w.heap.size A n (fun i => .string (s i))) (hsz : ∀ i, i < n → (s i).size ≤ 9223372036854775807) (hn : n ≤ c) (hn2 : n ≤ 9223372036854775807) :
    Calls Tryd.prog 11 #[.slice A n c] w fun r w' => (opens n s → ∃ A c, r = .returned (.tuple #[.slice A (goneOf n s).length c, .int .i64 0]) ∧ IntsR w.heap.size w' A c (goneOf n s) ∧ Below w.heap.size w w') ∧
      (¬ opens n s → r = .returned (.tuple #[.slice none 0 0, .int .i64 (openCode n s)]) ∧ Below w.heap.size w w') := by
  have HO := Lib.hid (specOpen hs hsz hn hn2)
  by_cases ho : opens n s
  · have hf := shape_facts ho.1
    have HFT := Lib.hid (fun k (hk : k < entsN n) => fit_facts ho.1 hk)
    unfold goneOf
    obtain ⟨z, hz⟩ : ∃ z, (s 0).size = z := ⟨_, rfl⟩
    rw [hz] at hf HFT ⊢
    have HZ := Lib.hid hz
    have HL := Lib.hid ho
    have he16 : entsN n ≤ 16 := by unfold entsN; omega
    obtain ⟨E, hE⟩ : ∃ E, entsN n = E := ⟨_, rfl⟩
    rw [hE] at he16 HFT ⊢
    have HEE := Lib.hid hE
    obtain ⟨U, hU⟩ : ∃ U, joinU z s = U := ⟨_, rfl⟩
    rw [hU]
    have HUU := Lib.hid hU
    clear ho hs hsz hz hE hU
    go_enter Tryd.func11, Tryd.ntmps11
    go_wp2_with (first
      | (go_at_call 38; refine HO.out.mono ?_; rintro r w1 ⟨h1, _⟩; obtain ⟨p, rfl, ow⟩ := h1 HL.out; rw [HZ.out] at ow; obtain ⟨g, cc, hc, hcap, hb1, hp, hg⟩ := ow; rw [HEE.out, HUU.out] at hc; have c2 := hc.c2))
    go_loopw [6, 7] (fun s6 s23 wr => ∃ (k : Nat) (A : Option Addr) (c' : Nat), k ≤ E ∧ s6 = .slice A (goneL n z U k).length c' ∧ s23 = .int .i64 k ∧ IntsR w1.heap.size wr A c' (goneL n z U k) ∧ Below w1.heap.size w1 wr) (fun _ s _ => E - (intOf s).toNat)
    case atStart => exact ⟨0, _, 0, by omega, rfl, rfl, own_nil0 _ _, (Below.refl _ _).alloc (Nat.le_refl _) _⟩
    case round =>
      obtain ⟨k, A, c', hk, rfl, rfl, ho, hb⟩ := hrel
      have HOO := Lib.hid ho
      have hW := hc.below hb
      have hz := hb.size
      have c2r := hW.c2
      clear ho
      by_cases hlt : k < E
      · obtain ⟨t1, t2, t3⟩ := HFT.out k hlt
        have hl := goneL_le n z U k
        have HGH := Lib.hid (@goneL_hit n z U k)
        have HGM := Lib.hid (@goneL_miss n z U k)
        generalize hL : goneL n z U k = L at *
        clear hL
        go_upto_region 9 with (first
          | (go_at_call 39; refine (specEntry_any k _ hW rfl t1 (by omega) hcap t2).mono ?_; intro e2 w2 h2; obtain ⟨b, nm, f, l, us, de, hb0, he0, rfl, hb2, n8, f8, l8, hbf⟩ := entOut_parts h2))
        have hW2 := hW.below hb2
        have hA := hb.trans (hb2.mono hz)
        have c2w := hW2.c2
        have hz2 := hA.size
        have HO2 := Lib.hid (own_below HOO.out hb2)
        have HEK := Lib.hid (show (entK n z U k).de = de by unfold entK; rw [he0])
        have hcase : (b = true ∧ de = true) ∨ (b = true ∧ de = false) ∨ (b = false ∧ de = false) := by
          cases b
          · exact .inr (.inr ⟨rfl, (hbf rfl).2⟩)
          · cases de <;> simp
        clear hbf he0 hb0 h2
        have hal := hA.alloc (by exact hz2) (.cells #[.string nm, .int .i64 f, .int .i64 l, .bool us, .bool de] 57)
        have hr := Rw.new w2 57 #[.string nm, .int .i64 f, .int .i64 l, .bool us, .bool de]
        have r4 := hr.cell 4
        have hpu := own_below HO2.out ((Below.refl w2.heap.size w2).alloc (Nat.le_refl _) (.cells #[.string nm, .int .i64 f, .int .i64 l, .bool us, .bool de] 57))
        generalize w2.alloc (.cells #[.string nm, .int .i64 f, .int .i64 l, .bool us, .bool de] 57) = W3 at *
        have HPU := Lib.hid hpu
        have hzz := hal.size
        have hl1 : L.length ≤ 16 := by omega
        clear hpu hr c2w
        rcases hcase with ⟨rfl, rfl⟩ | ⟨rfl, rfl⟩ | ⟨rfl, rfl⟩
        · have HG := Lib.hid (HGH.out HEK.out)
          go_wp2_with (at_builtin; refine wpList_push (.tmp 39) (.tmp 41) 24 w1.heap.size 2 (.int .i64 0) _ 8 _ L.length _ HPU.out rfl rfl Tryd.underlying24 infoI64 rfl rfl rfl rfl rfl (by omega) (by omega) hzz ?_; intro A' c3 w3 ho3 hb3)
          go_roundw
          case rel => exact ⟨k + 1, some A', c3, by omega, by rw [HG.out]; simp, by go_num, by rw [HG.out]; simpa [IntsR] using ho3, hal.trans hb3⟩
          case measure => simp [intOf]; omega
        · have HG := Lib.hid (HGM.out HEK.out)
          go_wp2_with fail
          go_roundw
          case rel => exact ⟨k + 1, A, c', by omega, by rw [HG.out], by go_num, by rw [HG.out]; exact HPU.out, hal⟩
          case measure => simp [intOf]; omega
        · have HG := Lib.hid (HGM.out HEK.out)
          go_wp2_with fail
          go_roundw
          case rel => exact ⟨k + 1, A, c', by omega, by rw [HG.out], by go_num, by rw [HG.out]; exact HPU.out, hal⟩
          case measure => simp [intOf]; omega
      · obtain rfl : k = E := by omega
        go_wp2
        go_ret2
        exact ⟨fun _ => ⟨A, c', rfl, own_base HOO.out hb1.size, hb1.trans (hb.mono hb1.size)⟩, fun h => absurd HL.out h⟩
  · have hne := openCode_ne n s
    have HL := Lib.hid ho
    obtain ⟨code, hcode⟩ : ∃ code, openCode n s = code := ⟨_, rfl⟩
    rw [hcode] at hne ⊢
    have HCD := Lib.hid hcode
    clear ho hs hsz hcode
    rcases hne with rfl | rfl
    all_goals
      go_enter Tryd.func11, Tryd.ntmps11
      go_wp2_with (go_at_call 38; refine HO.out.mono ?_; rintro r w1 ⟨_, h1⟩; have h2 := h1 HL.out; rw [HCD.out] at h2; obtain ⟨rfl, hb1⟩ := h2)
      go_ret2
      exact ⟨fun h => absurd h HL.out, fun _ => ⟨rfl, hb1⟩⟩
end Go.Proofs.YtbcdfcadcghghaaDoor
