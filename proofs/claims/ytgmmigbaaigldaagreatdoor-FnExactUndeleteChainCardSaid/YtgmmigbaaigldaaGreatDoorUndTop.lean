/-
  Disks of chains: UndeleteChain, the program's side.
-/
import Derived.Test.YtgmmigbaaigldaaGreatDoorUndP
namespace Go.Proofs.YtgmmigbaaigldaaGreatDoor
open Go Go.ChangeShapes Go.WideShapes Go.ChangeAt Go.RowKit lib
set_option linter.unusedVariables false
set_option maxRecDepth 100000
/-- how restoring ends -/
def UndOut (NM OK : Prop) (n z : Nat) (V : Nat → UInt8) (r : Ending) (w w' : World) : Prop := Below w.heap.size w w' ∧ (NM → r = .returned (.tuple #[.slice none 0 0, .int .i64 4])) ∧ (¬ NM → ¬ OK → r = .returned (.tuple #[.slice none 0 0, .int .i64 10])) ∧
  (¬ NM → OK → ∃ A c, r = .returned (.tuple #[.slice A n c, .int .i64 0]) ∧ w'.ownsRow w.heap.size 9 1 (.slice A n c) n ((List.range n).map fun (i : Nat) => Value.string (blkOf z V i)))
theorem implUnd_bad {w : World} {n c : Nat} {A : Option Addr} {s : Nat → ByteArray} (k : Int) (hs : Sl w w.heap.size A n (fun i => .string (s i))) (hsz : ∀ i, i < n → (s i).size ≤ 9223372036854775807) (hn : n ≤ c) (hn2 : n ≤ 9223372036854775807) (hc : goneCode n s k ≠ 0) :
    Calls Tryz.prog 9 #[.slice A n c, .int .i64 k] w fun r w' => r = .returned (.tuple #[.slice none 0 0, .int .i64 (goneCode n s k)]) ∧ Below w.heap.size w w' := by
  have HO := Lib.hid (implGone_bad k hs hsz hn hn2 hc)
  obtain ⟨code, hcode⟩ : ∃ code, goneCode n s k = code := ⟨_, rfl⟩
  rw [hcode] at hc ⊢ HO
  have e1 : (code != 0) = true := by simpa using hc
  unfold noGone Ent.val entV ent0 at HO
  clear hs hsz hcode hc
  go_enter Tryz.func9, Tryz.ntmps9
  go_wp2_with (go_at_call 23; refine HO.out.mono ?_; rintro r w1 ⟨rfl, hb1⟩)
  go_ret2
  exact ⟨rfl, hb1.alloc hb1.size _⟩
set_option maxHeartbeats 4000000 in
theorem implUnd_ok {w : World} {n c : Nat} {A : Option Addr} {s : Nat → ByteArray} (k : Nat) (hs : Sl w w.heap.size A n (fun i => .string (s i))) (hsz : ∀ i, i < n → (s i).size ≤ 9223372036854775807) (hn : n ≤ c) (hn2 : n ≤ 9223372036854775807) (ho : opens n s) (hk : k < entsN n) (hde : (entK n (s 0).size (joinU (s 0).size s) k).de = true) :
    Calls Tryz.prog 9 #[.slice A n c, .int .i64 k] w fun r w' => UndOut (namedTo n (s 0).size (joinU (s 0).size s) (geOf n s k).nm (entsN n)) (gbAll n s k) n (s 0).size (undU n s k) r w w' := by
  have HO := Lib.hid (implGone_ok k hs hsz hn hn2 ho hk hde)
  obtain ⟨f1, f2, f3, f4, f5, f6⟩ := walk_fit ho.1
  have hf := shape_facts ho.1
  have hz0 : 0 < (s 0).size := by omega
  have hge := ndir_ge (n := n) hz0
  have hval := entryOf_facts (fun i => joinU (s 0).size s (dirN n (s 0).size * (s 0).size + k * 12 + i))
  rw [show entryOf (fun i => joinU (s 0).size s (dirN n (s 0).size * (s 0).size + k * 12 + i)) = entK n (s 0).size (joinU (s 0).size s) k from rfl] at hval
  have hnv := hval.1
  have hfv := hval.2.1
  have hlv := hval.2.2.1
  have hfit := f6 k hk
  have hk16 : k < 16 := by omega
  have hGm : ∀ a, a ∈ gbOf n s k → a < n := fun a ha => fr_mem f5 (gb_mem ha)
  have hGup : Up (gbOf n s k) := gb_up (freeN_up _ _ _ _)
  have hGn := gbOf_le n s k
  have HSAME := @und_same n (s 0).size k (joinU (s 0).size s) (lnkU (s 0).size (joinU (s 0).size s) (gbOf n s k) (gbOf n s k).length) hz0 (fun j hj => lnkU_far (fun a ha => by have := hGm a ha; omega) _ (Nat.le_refl _)) hde
  have hGl : gbAll n s k → (gbOf n s k).length = needN (s 0).size (geOf n s k).l := by
    intro h
    rcases h with h | h
    · rw [h]; unfold gbOf; rw [h, gb_zero]; rfl
    · exact h.1
  unfold undU
  obtain ⟨G, hG⟩ : ∃ G, gbOf n s k = G := ⟨_, rfl⟩
  have hG2 : gbL (frOf n s) (geOf n s k).f (needN (s 0).size (geOf n s k).l) = G := hG
  rw [hG] at hGm hGup hGn HSAME hGl ⊢
  have hOKD : gbAll n s k ↔ gbOk (frOf n s) (geOf n s k).f (needN (s 0).size (geOf n s k).l) := Iff.rfl
  have hge2 : geOf n s k = entK n (s 0).size (joinU (s 0).size s) k := rfl
  obtain ⟨OK, hOK⟩ : ∃ OK, gbAll n s k = OK := ⟨_, rfl⟩
  rw [hOK] at hOKD hGl ⊢
  have hL : ∃ L, frOf n s = L := ⟨_, rfl⟩
  obtain ⟨L, hL⟩ := hL
  have hL2 : freeN (joinU (s 0).size s) (s 0).size (dataN n (s 0).size) (n - dataN n (s 0).size) = L := hL
  rw [hL] at hG2 hOKD
  rw [hge2] at hG2 hOKD hGl ⊢
  obtain ⟨z, hz⟩ : ∃ z, (s 0).size = z := ⟨_, rfl⟩
  obtain ⟨U, hU⟩ : ∃ U, joinU z s = U := ⟨_, rfl⟩
  obtain ⟨E, hE⟩ : ∃ E, entsN n = E := ⟨_, rfl⟩
  rw [hz] at HO f2 f3 f5 f6 hf hz0 hge hnv hfv hlv hfit HSAME hGl hG2 hOKD hL2 hde ⊢
  rw [hU] at HO hnv hfv hlv HSAME hGl hG2 hOKD hL2 hde ⊢
  rw [hE] at HO f4 f6 hk ⊢
  obtain ⟨e, he⟩ : ∃ e, entK n z U k = e := ⟨_, rfl⟩
  rw [he] at HO hnv hfv hlv HSAME hGl hG2 hOKD hde ⊢
  obtain ⟨nm, f, l, us, de⟩ := e
  dsimp only at hnv hfv hlv HSAME hGl hG2 hOKD hde ⊢
  subst hde
  obtain ⟨N1, hN1⟩ : ∃ N1, needN z l = N1 := ⟨_, rfl⟩
  have hNle : N1 ≤ 600 := by rw [← hN1]; have : needN z l ≤ l + z - 1 := Nat.div_le_self _ _; omega
  rw [hN1] at hG2 hOKD hGl
  obtain ⟨at', hat⟩ : ∃ a, dirN n z * z + k * 12 = a := ⟨_, rfl⟩
  rw [hat] at hfit HSAME ⊢
  have HAT := Lib.hid hat
  have HL2 := Lib.hid hL2
  have HN1 := Lib.hid hN1
  have HG2 := Lib.hid hG2
  have HOKD := Lib.hid hOKD
  have HGL := Lib.hid hGl
  have HGM := Lib.hid (fun i (hi : i < G.length) => hGm _ (gb_at hi))
  have HGUP := Lib.hid hGup
  have HS := Lib.hid HSAME
  have F6 := Lib.hid f6
  unfold Ent.val entV at HO
  clear ho hs hsz hz hU he hE hval hat hL hL2 hN1 hG hG2 hOK hOKD hge2 hGl hGm hGup HSAME f6
  go_enter Tryz.func9, Tryz.ntmps9
  go_upto_region 4 with (first
    | (go_at_call 23; refine HO.out.mono ?_; rintro r w1 ⟨p, g, cc, rfl, hc, hcap, hb1, hp, hg⟩))
  have hal0 := (Below.refl w1.heap.size w1).alloc (Nat.le_refl _) (.cells #[.string nm, .int .i64 f, .int .i64 l, .bool us, .bool true] 34)
  have HC2 := Lib.hid (hc.below hal0)
  have rE := Rw.new w1 34 #[.string nm, .int .i64 f, .int .i64 l, .bool us, .bool true]
  have RE := Lib.hid rE
  have HB2 := Lib.hid (hb1.trans (hal0.mono hb1.size))
  have hpl := hc.plt
  have hgl := hc.row.lt
  have hqz : w1.heap.size < (w1.alloc (.cells #[.string nm, .int .i64 f, .int .i64 l, .bool us, .bool true] 34)).heap.size := by simp
  obtain ⟨qe, hqe⟩ : ∃ qe, w1.heap.size = qe := ⟨_, rfl⟩
  have hqg : g < qe := by omega
  have hqp : p < qe := by omega
  have hwqe : w.heap.size ≤ qe := by have := hb1.size; omega
  rw [hqe] at RE hqz
  clear hc rE hal0 hpl hgl hb1
  generalize hW2 : w1.alloc (.cells #[.string nm, .int .i64 f, .int .i64 l, .bool us, .bool true] 34) = W2 at *
  clear hW2
  rw [hqe]
  clear hqe
  have hz2 := HB2.out.size
  have c2 := HC2.out.c2
  go_wp2_with fail
  go_loopw [31] (fun s31 wr => ∃ m : Nat, m ≤ E ∧ s31 = .int .i64 m ∧ ¬ namedTo n z U nm m ∧ Below W2.heap.size W2 wr) (fun s _ => E - (intOf s).toNat)
  case atStart => exact ⟨0, by omega, rfl, fun ⟨i, hi, _⟩ => absurd hi (by omega), Below.refl _ _⟩
  case round =>
    obtain ⟨m, hm, rfl, hnot, hb⟩ := hrel
    have HNOT := Lib.hid hnot
    have HB := Lib.hid hb
    have HC := Lib.hid (HC2.out.below hb)
    have HR := Lib.hid (RE.out.below hb hqz)
    have hbz := hb.size
    have HBW := Lib.hid (HB2.out.trans (hb.mono hz2))
    clear hnot hb c2
    by_cases hlt : m < E
    · have t1 := F6.out m hlt
      go_upto_region 8 with (first
        | (go_at_call 24; refine (implEntry_any m _ HC.out rfl t1 (by omega) hcap (by omega)).mono ?_; intro e2 w2 h2; obtain ⟨b, nm', f', l', us', de', hb0, he0, rfl, hb2, n8, f8, l8, hbf⟩ := entOut_parts h2))
      have HEK := Lib.hid (show entK n z U m = ⟨nm', f', l', us', de'⟩ by unfold entK; rw [he0])
      have hal := hb2.alloc hb2.size (.cells #[.string nm', .int .i64 f', .int .i64 l', .bool us', .bool de'] 34)
      have HR3 := HR.out.below hal HR.out.lt
      have hrr := Rw.new w2 34 #[.string nm', .int .i64 f', .int .i64 l', .bool us', .bool de']
      have q0 := hrr.cell 0; have q3 := hrr.cell 3
      have k0 := HR3.cell 0
      have HBA := Lib.hid (HB.out.trans (hal.mono hbz))
      have HBV := Lib.hid (HBW.out.trans (hal.mono HBW.out.size))
      clear hrr HR3 hal he0 hb0 h2
      generalize hWW : w2.alloc (.cells #[.string nm', .int .i64 f', .int .i64 l', .bool us', .bool de'] 34) = W3 at *
      clear hWW
      have hcase : b = false ∨ (b = true ∧ us' = false) ∨ (b = true ∧ us' = true ∧ nm' ≠ nm) ∨ (b = true ∧ us' = true ∧ nm' = nm) := by
        cases b
        · exact .inl rfl
        · cases us'
          · exact .inr (.inl ⟨rfl, rfl⟩)
          · by_cases h : nm' = nm
            · exact .inr (.inr (.inr ⟨rfl, rfl, h⟩))
            · exact .inr (.inr (.inl ⟨rfl, rfl, h⟩))
      rcases hcase with rfl | ⟨rfl, rfl⟩ | ⟨rfl, rfl, hne⟩ | ⟨rfl, rfl, hnm⟩
      · have hus := (hbf rfl).1
        have HN2 := Lib.hid (namedTo_succ HNOT.out (by rw [HEK.out]; simp only; rw [hus]; exact fun q => by cases q.1))
        clear hbf hus
        go_wp2_with fail
        go_roundw
        case rel => exact ⟨m + 1, by omega, by go_num, HN2.out, HBA.out⟩
        case measure => simp [intOf]; omega
      · have HN2 := Lib.hid (namedTo_succ HNOT.out (by rw [HEK.out]; exact fun q => by cases q.1))
        clear hbf
        go_wp2_with fail
        go_roundw
        case rel => exact ⟨m + 1, by omega, by go_num, HN2.out, HBA.out⟩
        case measure => simp [intOf]; omega
      · have e1 := str_eq_false hne
        have HN2 := Lib.hid (namedTo_succ HNOT.out (by rw [HEK.out]; exact fun q => hne q.2))
        clear hbf hne
        go_wp2_with fail
        go_roundw
        case rel => exact ⟨m + 1, by omega, by go_num, HN2.out, HBA.out⟩
        case measure => simp [intOf]; omega
      · have e1 := str_eq_true hnm
        have HYES := Lib.hid (show namedTo n z U nm E from ⟨m, hlt, by rw [HEK.out], by rw [HEK.out]; exact hnm⟩)
        clear hbf hnm
        go_wp2_with fail
        go_ret2
        exact ⟨HBV.out, fun _ => rfl, fun h => absurd HYES.out h, fun h => absurd HYES.out h⟩
    · obtain rfl : m = E := by omega
      have HGB := Lib.hid (implGoneB_any (nm := nm) (us := us) (de := true) HC.out hz0 (by omega) f1 f5 f2 f3 hfv hlv)
      rw [HL2.out, HN1.out] at HGB
      have k0 := HR.out.cell 0; have k1 := HR.out.cell 1; have k2 := HR.out.cell 2; have k3 := HR.out.cell 3; have k4 := HR.out.cell 4
      by_cases hok : gbOk L f N1
      · have HOKK := Lib.hid hok
        have HLEN := Lib.hid (HGL.out (HOKD.out.2 hok))
        have HOKP := Lib.hid (HOKD.out.2 hok)
        clear hok
        go_upto_region 14 with (first
          | (go_at_call 25; refine HGB.out.mono ?_; intro r w3 ho3; obtain ⟨A3, c3, rfl, hsl, hb3⟩ : ∃ A3 c3, r = .returned (.tuple #[.slice A3 N1 c3, .bool true]) ∧ (∀ i, i < N1 → ∃ q o, A3 = some ⟨q, o, none⟩ ∧ q ≠ g ∧ q < w3.heap.size ∧ w3.cell? ⟨q, o + i, none⟩ = some (.int .i64 ((G.getD i 0 : Nat) : Int))) ∧ Below wr.heap.size wr w3 := (by
              obtain ⟨h1, h2, h3, h4⟩ := ho3
              rcases Nat.eq_zero_or_pos N1 with h0 | h0
              · exact ⟨none, 0, by rw [h2 h0, h0], fun i hi => by omega, h1⟩
              · obtain ⟨q, o, c', hr, hq1, hq2, hq3⟩ := h3 (by omega) HOKK.out
                rw [HG2.out] at hq3
                exact ⟨_, c', hr, fun i hi => ⟨q, o, rfl, by omega, hq2, hq3 i hi⟩, h1⟩)))
        have HSL := Lib.hid hsl
        have HC3 := Lib.hid (HC.out.below hb3)
        have HB3 := Lib.hid (HBW.out.trans (hb3.mono HBW.out.size))
        have hz3 := HB3.out.size
        have hlen := HLEN.out
        clear hsl hb3 k0 k1 k2 k3 k4 ho3
        go_wp2_with fail
        go_loopw [63] (fun s63 wr => ∃ i : Nat, i ≤ N1 ∧ s63 = .int .i64 i ∧ ChW wr p g n z m (dirN n z) (dataN n z) (n * z) cc (lnkI z U G i) ∧ w3.grownBy wr (some g)) (fun s _ => N1 - (intOf s).toNat)
        case atStart => exact ⟨0, by omega, rfl, HC3.out, only_refl _ _⟩
        case round =>
          obtain ⟨i, hi, rfl, hcx, hgx⟩ := hrel
          have HCX := Lib.hid hcx
          have HGX := Lib.hid hgx
          by_cases hil : i < N1
          · obtain ⟨q, o, rfl, hqg', hq2, hqc⟩ := HSL.out i hil
            have hcy : wr.cell? ⟨q, o + i, none⟩ = some (.int .i64 ((G.getD i 0 : Nat) : Int)) := (World.cell?_of_block (a := ⟨q, o + i, none⟩) (hgx.block q hq2 (fun e => hqg' (by injection e)))).trans hqc
            have hyn := HGM.out i (by omega)
            have hlk : lnkI z U G (i + 1) = if i = 0 then upd (lnkI z U G i) (z + G.getD i 0) 255 else upd (upd (lnkI z U G i) (z + G.getD i 0) 255) (z + G.getD (i - 1) 0) (UInt8.ofNat (G.getD i 0)) := rfl
            obtain ⟨y, hy⟩ : ∃ y, G.getD i 0 = y := ⟨_, rfl⟩
            rw [hy] at hcy hyn hlk
            have HLK := Lib.hid hlk
            have gc := hcx.row.cell (i := z + y) (by omega)
            have gf := hcx.row.frozen (i := z + y) (by omega)
            have hc1 := (hcx.put (z + y) 255 (y := 255) rfl).drew
            rcases Nat.eq_zero_or_pos i with rfl | hi0
            · have i1 : ¬ ((0 : Nat) : Int) > 0 := by omega
              rw [Nat.add_zero] at hcy
              clear hcx hgx hqc hy hlk hc1
              go_wp2_with (first
                | (go_at_call 26; refine (implLink_any y HCX.out (by omega) (by omega)).mono ?_; rintro e3 w4 ⟨rfl, rfl⟩))
              go_roundw
              case rel => exact ⟨1, by omega, rfl, by rw [HLK.out]; exact (HCX.out.put (z + y) 255 rfl).drew, only_drew (only_setCell HGX.out (.inl rfl) _)⟩
              case measure => simp [intOf]; omega
            · obtain ⟨q1, o1, hA1, _, _, hqc1⟩ := HSL.out (i - 1) (by omega)
              injection hA1 with hA1
              injection hA1 with hA1 hA2 _
              subst hA1 hA2
              have hcy1 : wr.cell? ⟨q, o + (i - 1), none⟩ = some (.int .i64 ((G.getD (i - 1) 0 : Nat) : Int)) := (World.cell?_of_block (a := ⟨q, o + (i - 1), none⟩) (hgx.block q hq2 (fun e => hqg' (by injection e)))).trans hqc1
              have hyn1 := HGM.out (i - 1) (by omega)
              obtain ⟨x, hx⟩ : ∃ x, G.getD (i - 1) 0 = x := ⟨_, rfl⟩
              rw [hx] at hcy1 hyn1 hlk
              have HLK := Lib.hid hlk
              have hcz : (wr.setCell ⟨g, z + y, none⟩ (.int .u8 255)).drew.cell? ⟨q, o + (i - 1), none⟩ = some (.int .i64 (x : Int)) := (World.cell?_setCell_other _ _ _ _ (fun e => hqg' (by injection e with e _; exact e.symm))).trans hcy1
              have HC1 := Lib.hid hc1
              have gc1 := hc1.row.cell (i := z + x) (by omega)
              have gf1 := hc1.row.frozen (i := z + x) (by omega)
              have hi1 : ((i : Int) - 1) = ((i - 1 : Nat) : Int) := by omega
              have hu8 : ((y : Int) % 256) = ((UInt8.ofNat y).toNat : Int) := by rw [u8_ofNat' (by omega)]; omega
              have HG1 := Lib.hid (only_drew (only_setCell (p := ⟨g, z + y, none⟩) HGX.out (.inl rfl) (.int .u8 255)))
              clear hcx hgx hqc hqc1 hy hlk hx hc1
              go_upto_region 18 with (go_at_call 26; refine (implLink_any y HCX.out (by omega) (by omega)).mono ?_; rintro e3 w4 ⟨rfl, rfl⟩)
              generalize hW5 : (wr.setCell ⟨g, z + y, none⟩ (.int .u8 255)).drew = W5 at *
              clear hW5
              have i2 : (i : Int) > 0 := by omega
              go_wp2_with (go_at_call 26; refine (implLink_any x HC1.out (by omega) (by omega)).mono ?_; rintro e3 w4 ⟨rfl, rfl⟩)
              go_roundw
              case rel => exact ⟨i + 1, by omega, by go_num, by rw [HLK.out, if_neg (by omega)]; exact (HC1.out.put (z + x) (UInt8.ofNat y) (u8_ofNat' (by omega)).symm).drew, only_drew (only_setCell HG1.out (.inl rfl) _)⟩
              case measure => simp [intOf]; omega
          · obtain rfl : i = N1 := by omega
            have he2 := lnkI_end (z := z) (u := U) HGUP.out
            rw [← hlen, he2] at HCX
            have HBX := Lib.hid (HB3.out.grown HGX.out hz3 (fun j hj => by injection hj; omega))
            have gc := HCX.out.row.cell (i := at' + 11) (by omega)
            have gf := HCX.out.row.frozen (i := at' + 11) (by omega)
            clear hcx hgx he2
            go_wp2_with (first
              | (go_at_call 27; refine (implEntryBytes_any k at' HCX.out HAT.out (by omega) (by omega) hcap (by omega)).mono ?_; rintro e3 w4 ⟨rfl, rfl⟩)
              | (go_at_call 28; refine (implDisk_any (HCX.out.put (at' + 11) 1 rfl).drew rfl hf.2.1 hf.2.2.2.2.2 (by omega) hcap).mono ?_; rintro r w5 ⟨A2, c2, rfl, ho2, hb5⟩))
            have hbb := (HBX.out.setCell (p := ⟨g, at' + 11, none⟩) hg (.int .u8 1)).drew
            have HBB := Lib.hid (hbb.trans (hb5.mono hbb.size))
            have HOO := Lib.hid (own_base ho2 hbb.size)
            clear ho2 hbb
            go_ret2
            exact ⟨HBB.out, fun h => absurd h HNOT.out, fun _ h => absurd HOKP.out h, fun _ _ => ⟨A2, c2, rfl, HOO.out⟩⟩
      · have HOKK := Lib.hid hok
        have HNO := Lib.hid (fun h => hok (HOKD.out.1 h))
        clear hok
        go_wp2_with (first
          | (go_at_call 25; refine HGB.out.mono ?_; rintro r w3 ⟨hb3, hr1, hr2, hr3⟩; obtain rfl := hr3 HOKK.out))
        have HB3 := Lib.hid (HBW.out.trans (hb3.mono HBW.out.size))
        go_ret2
        exact ⟨HB3.out, fun h => absurd h HNOT.out, fun _ _ => rfl, fun _ h => absurd h HNO.out⟩
end Go.Proofs.YtgmmigbaaigldaaGreatDoor
