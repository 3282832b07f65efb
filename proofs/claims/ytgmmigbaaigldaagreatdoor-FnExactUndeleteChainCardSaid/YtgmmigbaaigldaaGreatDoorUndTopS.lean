/-
  Disks of chains: UndeleteChain, the reference's side.
-/
import Derived.Test.YtgmmigbaaigldaaGreatDoorUndTop
namespace Go.Proofs.YtgmmigbaaigldaaGreatDoor
open Go Go.ChangeShapes Go.WideShapes Go.ChangeAt Go.RowKit lib
set_option linter.unusedVariables false
set_option maxRecDepth 100000
theorem specNamed_any {w : World} {p g n z E d t N c : Nat} {u : Nat → UInt8} (nm : ByteArray) (h : ChW w p g n z E d t N c u) (hN : N ≤ 4096) (hcN : N ≤ c) (hE : E ≤ 16) (hd : d = dirN n z) (hfit : ∀ k, k < E → d * z + k * 12 + 12 ≤ N) :
    Calls Tryz.prog 18 #[.pointer (some ⟨p, 0, none⟩), .string nm] w fun r w' => ∃ b, (b = true ↔ namedTo n z u nm E) ∧ r = .returned (.bool b) ∧ Below w.heap.size w w' := by
  have HH := Lib.hid h
  have HFIT := Lib.hid hfit
  have HD := Lib.hid hd
  clear h hfit hd
  go_enter Tryz.func18, Tryz.ntmps18
  go_wp2_with fail
  go_loopw [5] (fun s5 wr => ∃ k : Nat, k ≤ E ∧ s5 = .int .i64 k ∧ ¬ namedTo n z u nm k ∧ Below w.heap.size w wr) (fun s _ => E - (intOf s).toNat)
  case atStart => exact ⟨0, by omega, rfl, fun ⟨i, hi, _⟩ => absurd hi (by omega), Below.refl _ _⟩
  case round =>
    obtain ⟨m, hm, rfl, hnot, hb⟩ := hrel
    have HNOT := Lib.hid hnot
    have HB := Lib.hid hb
    have HC := Lib.hid (HH.out.below hb)
    have c2 := HC.out.c2
    have hbz := hb.size
    clear hnot hb
    by_cases hlt : m < E
    · have t1 := HFIT.out m hlt
      go_upto_region 5 with (first
        | (go_at_call 37; refine (specEntry_any m _ HC.out rfl t1 (by omega) hcN (by omega)).mono ?_; intro e2 w2 h2; obtain ⟨b, nm', f', l', us', de', hb0, he0, rfl, hb2, n8, f8, l8, hbf⟩ := entOut_parts h2))
      have HEK := Lib.hid (show entK n z u m = ⟨nm', f', l', us', de'⟩ by unfold entK; rw [← HD.out, he0])
      have hal := hb2.alloc hb2.size (.cells #[.string nm', .int .i64 f', .int .i64 l', .bool us', .bool de'] 34)
      have hrr := Rw.new w2 34 #[.string nm', .int .i64 f', .int .i64 l', .bool us', .bool de']
      have q0 := hrr.cell 0; have q3 := hrr.cell 3
      have HBA := Lib.hid (HB.out.trans (hal.mono hbz))
      clear hrr hal he0 hb0 h2 c2
      generalize hWW : w2.alloc (.cells #[.string nm', .int .i64 f', .int .i64 l', .bool us', .bool de'] 34) = W3 at *
      clear hWW
      have hcase : b = false ∨ (b = true ∧ us' = false) ∨ (b = true ∧ us' = true ∧ nm' ≠ nm) ∨ (b = true ∧ us' = true ∧ nm' = nm) := by
        cases b
        · exact .inl rfl
        · cases us'
          · exact .inr (.inl ⟨rfl, rfl⟩)
          · by_cases h : nm' = nm
            · exact .inr (.inr (.inr ⟨rfl, rfl, h⟩))
            · exact .inr (.inr (.inl ⟨rfl, rfl, h⟩))
      rcases hcase with rfl | ⟨rfl, rfl⟩ | ⟨rfl, rfl, hne⟩ | ⟨rfl, rfl, hnm⟩
      · have hus := (hbf rfl).1
        have HN2 := Lib.hid (namedTo_succ HNOT.out (by rw [HEK.out]; simp only; rw [hus]; exact fun q => by cases q.1))
        clear hbf hus
        go_wp2_with fail
        go_roundw
        case rel => exact ⟨m + 1, by omega, by go_num, HN2.out, HBA.out⟩
        case measure => simp [intOf]; omega
      · have HN2 := Lib.hid (namedTo_succ HNOT.out (by rw [HEK.out]; exact fun q => by cases q.1))
        clear hbf
        go_wp2_with fail
        go_roundw
        case rel => exact ⟨m + 1, by omega, by go_num, HN2.out, HBA.out⟩
        case measure => simp [intOf]; omega
      · have e1 := str_eq_false hne
        have HN2 := Lib.hid (namedTo_succ HNOT.out (by rw [HEK.out]; exact fun q => hne q.2))
        clear hbf hne
        go_wp2_with fail
        go_roundw
        case rel => exact ⟨m + 1, by omega, by go_num, HN2.out, HBA.out⟩
        case measure => simp [intOf]; omega
      · have e1 := str_eq_true hnm
        have HYES := Lib.hid (show namedTo n z u nm E from ⟨m, hlt, by rw [HEK.out], by rw [HEK.out]; exact hnm⟩)
        clear hbf hnm
        go_wp2_with fail
        go_ret
        exact ⟨true, ⟨fun _ => HYES.out, fun _ => rfl⟩, rfl, HBA.out⟩
    · obtain rfl : m = E := by omega
      go_wp2_with fail
      go_ret
      exact ⟨false, ⟨fun q => (by cases q), fun q => absurd q HNOT.out⟩, rfl, HB.out⟩
theorem specUnd_bad {w : World} {n c : Nat} {A : Option Addr} {s : Nat → ByteArray} (k : Int) (hs : Sl w w.heap.size A n (fun i => .string (s i))) (hsz : ∀ i, i < n → (s i).size ≤ 9223372036854775807) (hn : n ≤ c) (hn2 : n ≤ 9223372036854775807) (hc : goneCode n s k ≠ 0) :
    Calls Tryz.prog 7 #[.slice A n c, .int .i64 k] w fun r w' => r = .returned (.tuple #[.slice none 0 0, .int .i64 (goneCode n s k)]) ∧ Below w.heap.size w w' := by
  have HO := Lib.hid (specGone_bad k hs hsz hn hn2 hc)
  obtain ⟨code, hcode⟩ : ∃ code, goneCode n s k = code := ⟨_, rfl⟩
  rw [hcode] at hc ⊢ HO
  have e1 : (code != 0) = true := by simpa using hc
  unfold noGone Ent.val entV ent0 at HO
  clear hs hsz hcode hc
  go_enter Tryz.func7, Tryz.ntmps7
  go_wp2_with (go_at_call 17; refine HO.out.mono ?_; rintro r w1 ⟨rfl, hb1⟩)
  go_ret2
  exact ⟨rfl, hb1.alloc hb1.size _⟩
set_option maxHeartbeats 4000000 in
theorem specUnd_ok {w : World} {n c : Nat} {A : Option Addr} {s : Nat → ByteArray} (k : Nat) (hs : Sl w w.heap.size A n (fun i => .string (s i))) (hsz : ∀ i, i < n → (s i).size ≤ 9223372036854775807) (hn : n ≤ c) (hn2 : n ≤ 9223372036854775807) (ho : opens n s) (hk : k < entsN n) (hde : (entK n (s 0).size (joinU (s 0).size s) k).de = true) :
    Calls Tryz.prog 7 #[.slice A n c, .int .i64 k] w fun r w' => UndOut (namedTo n (s 0).size (joinU (s 0).size s) (geOf n s k).nm (entsN n)) (gbAll n s k) n (s 0).size (undU n s k) r w w' := by
  have HO := Lib.hid (specGone_ok k hs hsz hn hn2 ho hk hde)
  obtain ⟨f1, f2, f3, f4, f5, f6⟩ := walk_fit ho.1
  have hf := shape_facts ho.1
  have hz0 : 0 < (s 0).size := by omega
  have hge := ndir_ge (n := n) hz0
  have hval := entryOf_facts (fun i => joinU (s 0).size s (dirN n (s 0).size * (s 0).size + k * 12 + i))
  rw [show entryOf (fun i => joinU (s 0).size s (dirN n (s 0).size * (s 0).size + k * 12 + i)) = entK n (s 0).size (joinU (s 0).size s) k from rfl] at hval
  have hnv := hval.1
  have hfv := hval.2.1
  have hlv := hval.2.2.1
  have hfit := f6 k hk
  have hk16 : k < 16 := by omega
  have hGm : ∀ a, a ∈ gbOf n s k → a < n := fun a ha => fr_mem f5 (gb_mem ha)
  have hGup : Up (gbOf n s k) := gb_up (freeN_up _ _ _ _)
  have hGn := gbOf_le n s k
  have HSAME := @und_same n (s 0).size k (joinU (s 0).size s) (lnkU (s 0).size (joinU (s 0).size s) (gbOf n s k) (gbOf n s k).length) hz0 (fun j hj => lnkU_far (fun a ha => by have := hGm a ha; omega) _ (Nat.le_refl _)) hde
  have hGl : gbAll n s k → (gbOf n s k).length = needN (s 0).size (geOf n s k).l := by
    intro h
    rcases h with h | h
    · rw [h]; unfold gbOf; rw [h, gb_zero]; rfl
    · exact h.1
  unfold undU
  obtain ⟨G, hG⟩ : ∃ G, gbOf n s k = G := ⟨_, rfl⟩
  have hG2 : gbL (frOf n s) (geOf n s k).f (needN (s 0).size (geOf n s k).l) = G := hG
  rw [hG] at hGm hGup hGn HSAME hGl ⊢
  have hOKD : gbAll n s k ↔ gbOk (frOf n s) (geOf n s k).f (needN (s 0).size (geOf n s k).l) := Iff.rfl
  have hge2 : geOf n s k = entK n (s 0).size (joinU (s 0).size s) k := rfl
  obtain ⟨OK, hOK⟩ : ∃ OK, gbAll n s k = OK := ⟨_, rfl⟩
  rw [hOK] at hOKD hGl ⊢
  have hL : ∃ L, frOf n s = L := ⟨_, rfl⟩
  obtain ⟨L, hL⟩ := hL
  have hL2 : freeN (joinU (s 0).size s) (s 0).size (dataN n (s 0).size) (n - dataN n (s 0).size) = L := hL
  rw [hL] at hG2 hOKD
  rw [hge2] at hG2 hOKD hGl ⊢
  obtain ⟨z, hz⟩ : ∃ z, (s 0).size = z := ⟨_, rfl⟩
  obtain ⟨U, hU⟩ : ∃ U, joinU z s = U := ⟨_, rfl⟩
  obtain ⟨E, hE⟩ : ∃ E, entsN n = E := ⟨_, rfl⟩
  rw [hz] at HO f2 f3 f5 f6 hf hz0 hge hnv hfv hlv hfit HSAME hGl hG2 hOKD hL2 hde ⊢
  rw [hU] at HO hnv hfv hlv HSAME hGl hG2 hOKD hL2 hde ⊢
  rw [hE] at HO f4 f6 hk ⊢
  obtain ⟨e, he⟩ : ∃ e, entK n z U k = e := ⟨_, rfl⟩
  rw [he] at HO hnv hfv hlv HSAME hGl hG2 hOKD hde ⊢
  obtain ⟨nm, f, l, us, de⟩ := e
  dsimp only at hnv hfv hlv HSAME hGl hG2 hOKD hde ⊢
  subst hde
  obtain ⟨N1, hN1⟩ : ∃ N1, needN z l = N1 := ⟨_, rfl⟩
  have hNle : N1 ≤ 600 := by rw [← hN1]; have : needN z l ≤ l + z - 1 := Nat.div_le_self _ _; omega
  rw [hN1] at hG2 hOKD hGl
  obtain ⟨at', hat⟩ : ∃ a, dirN n z * z + k * 12 = a := ⟨_, rfl⟩
  rw [hat] at hfit HSAME ⊢
  have HAT := Lib.hid hat
  have HL2 := Lib.hid hL2
  have HN1 := Lib.hid hN1
  have HG2 := Lib.hid hG2
  have HOKD := Lib.hid hOKD
  have HGL := Lib.hid hGl
  have HGM := Lib.hid (fun i (hi : i < G.length) => hGm _ (gb_at hi))
  have HGUP := Lib.hid hGup
  have HS := Lib.hid HSAME
  have F6 := Lib.hid f6
  unfold Ent.val entV at HO
  clear ho hs hsz hz hU he hE hval hat hL hL2 hN1 hG hG2 hOK hOKD hge2 hGl hGm hGup HSAME f6
  go_enter Tryz.func7, Tryz.ntmps7
  go_upto_region 4 with (first
    | (go_at_call 17; refine HO.out.mono ?_; rintro r w1 ⟨p, g, cc, rfl, hc, hcap, hb1, hp, hg⟩))
  have hal0 := (Below.refl w1.heap.size w1).alloc (Nat.le_refl _) (.cells #[.string nm, .int .i64 f, .int .i64 l, .bool us, .bool true] 34)
  have HC2 := Lib.hid (hc.below hal0)
  have rE := Rw.new w1 34 #[.string nm, .int .i64 f, .int .i64 l, .bool us, .bool true]
  have RE := Lib.hid rE
  have HB2 := Lib.hid (hb1.trans (hal0.mono hb1.size))
  have hpl := hc.plt
  have hgl := hc.row.lt
  have hqz : w1.heap.size < (w1.alloc (.cells #[.string nm, .int .i64 f, .int .i64 l, .bool us, .bool true] 34)).heap.size := by simp
  obtain ⟨qe, hqe⟩ : ∃ qe, w1.heap.size = qe := ⟨_, rfl⟩
  have hqg : g < qe := by omega
  have hqp : p < qe := by omega
  have hwqe : w.heap.size ≤ qe := by have := hb1.size; omega
  rw [hqe] at RE hqz
  clear hc rE hal0 hpl hgl hb1
  generalize hW2 : w1.alloc (.cells #[.string nm, .int .i64 f, .int .i64 l, .bool us, .bool true] 34) = W2 at *
  clear hW2
  rw [hqe]
  clear hqe
  have hz2 := HB2.out.size
  have k0 := RE.out.cell 0
  have HND := Lib.hid (fun (W : World) (hW : ChW W p g n z E (dirN n z) (dataN n z) (n * z) cc U) => specNamed_any nm hW (by omega) hcap (by omega) rfl F6.out)
  by_cases hnmd : namedTo n z U nm E
  · have HNM := Lib.hid hnmd
    clear hnmd
    go_wp2_with (go_at_call 18; refine (HND.out _ (by first | exact HC2.out | exact HC2.out.drew)).mono ?_; rintro r w3 ⟨b, hbn, rfl, hb3⟩; obtain rfl := hbn.2 HNM.out)
    have HB3 := Lib.hid (HB2.out.trans (hb3.mono hz2))
    go_ret2
    exact ⟨HB3.out, fun _ => rfl, fun h => absurd HNM.out h, fun h => absurd HNM.out h⟩
  · have HNM := Lib.hid hnmd
    clear hnmd
    go_upto_region 6 with (go_at_call 18; refine (HND.out _ (by first | exact HC2.out | exact HC2.out.drew)).mono ?_; rintro r w3 ⟨b, hbn, rfl, hb3⟩; obtain rfl : b = false := (by cases b; exact rfl; exact absurd (hbn.1 rfl) HNM.out))
    have HC3 := Lib.hid (HC2.out.below hb3)
    have RE3 := Lib.hid (RE.out.below hb3 hqz)
    have HB3 := Lib.hid (HB2.out.trans (hb3.mono hz2))
    have hz3 := HB3.out.size
    have hgl := HC3.out.row.lt
    have hql := RE3.out.lt
    have HGB := Lib.hid (specGoneB_any HC3.out RE3.out hz0 (by omega) f1 f5 f2 f3 hfv hlv)
    rw [HL2.out, HN1.out] at HGB
    clear k0 hbn hb3
    by_cases hok : gbOk L f N1
    · have HOKK := Lib.hid hok
      have HOKP := Lib.hid (HOKD.out.2 hok)
      clear hok
      go_wp2_with (go_at_call 19; refine HGB.out.mono ?_; intro r w4 ho4; obtain ⟨A4, c4, rfl, hi4, hb4⟩ : ∃ A4 c4, r = .returned (.tuple #[.slice A4 G.length c4, .bool true]) ∧ IntsR w3.heap.size w4 A4 c4 G ∧ Below w3.heap.size w3 w4 := (by
          obtain ⟨A5, c5, b, hbk, e5, hi5, hb5⟩ := ho4
          rw [HG2.out] at e5 hi5
          obtain rfl := hbk.2 HOKK.out
          exact ⟨A5, c5, e5, hi5, hb5⟩))
      have HI4 := Lib.hid hi4
      have HC4 := Lib.hid (HC3.out.below hb4)
      have RE4 := Lib.hid (RE3.out.below hb4 hql)
      have HB4 := Lib.hid (HB3.out.trans (hb4.mono hz3))
      have hz4 := HB4.out.size
      clear hi4 hb4 ho4
      go_loopw [11] (fun s11 wr => ∃ i : Nat, i ≤ G.length ∧ s11 = .int .i64 i ∧ ChW wr p g n z E (dirN n z) (dataN n z) (n * z) cc (lnkU z U G i) ∧ w4.grownBy wr (some g)) (fun s _ => G.length - (intOf s).toNat)
      case atStart => exact ⟨0, by omega, rfl, HC4.out, only_refl _ _⟩
      case round =>
        obtain ⟨i, hi, rfl, hcx, hgx⟩ := hrel
        have HCX := Lib.hid hcx
        have HGX := Lib.hid hgx
        by_cases hil : i < G.length
        · have hix := HI4.out.grown hgx (own_not HI4.out hgl)
          have hyn := HGM.out i hil
          have hlk : lnkU z U G (i + 1) = upd (lnkU z U G i) (z + G.getD i 0) (nxtB G i) := rfl
          unfold nxtB at hlk
          by_cases hin : i + 1 < G.length
          · obtain ⟨bb, oo, rfl, hbb, hcc⟩ := hix.sl i hil
            obtain ⟨bb2, oo2, hA, hbb2, hcc2⟩ := hix.sl (i + 1) hin
            injection hA with hA
            injection hA with hA1 hA2 _
            subst hA1 hA2
            dsimp only at hcc hcc2
            rw [if_pos hin] at hlk
            have hxn := HGM.out (i + 1) hin
            obtain ⟨x, hx⟩ : ∃ x, G.getD (i + 1) 0 = x := ⟨_, rfl⟩
            obtain ⟨y, hy⟩ : ∃ y, G.getD i 0 = y := ⟨_, rfl⟩
            rw [hx] at hcc2 hxn hlk
            rw [hy] at hcc hyn hlk
            have HLK := Lib.hid hlk
            have hu8 : ((x : Int) % 256) = ((UInt8.ofNat x).toNat : Int) := by rw [u8_ofNat' (by omega)]; omega
            have j1 : (i : Int) + 1 < G.length := by omega
            have j2 : (0 : Int) ≤ (i : Int) + 1 := by omega
            have j3 : ((i : Int) + 1).toNat = i + 1 := by omega
            have j4 : IntKind.i64.wrap ((i : Int) + 1) = (i : Int) + 1 := by rw [IntKind.wrap_i64]; omega
            clear hcx hgx hix hx hy hlk
            go_upto_region 13 with fail
            go_region_law (go_simp; go_at_call 20; refine (specSetLink_any y _ (by first | exact HCX.out.drew | exact HCX.out) (by omega) (by omega)).mono ?_; rintro e5 w5 ⟨rfl, hw5⟩; dsimp only)
            all_goals
              clear j1 j2 j3 j4 hcc hcc2 hin
              have HU8 := Lib.hid hu8
              clear hu8
              have HW5 := Lib.hid hw5
              clear hw5
              go_wp2_with fail
              go_roundw
              case rel =>
                have hw5 := HW5.out
                clear HW5
                subst hw5
                exact ⟨i + 1, by omega, by go_num, by rw [HLK.out]; first | exact (HCX.out.drew.put (z + y) (UInt8.ofNat x) HU8.out).drew | exact (HCX.out.put (z + y) (UInt8.ofNat x) HU8.out).drew, by first | exact only_drew (only_setCell (only_drew HGX.out) (.inl rfl) _) | exact only_drew (only_setCell HGX.out (.inl rfl) _)⟩
              case measure => simp [intOf]; omega
          · obtain ⟨bb, oo, rfl, hbb, hcc⟩ := hix.sl i hil
            dsimp only at hcc
            rw [if_neg hin] at hlk
            obtain ⟨y, hy⟩ : ∃ y, G.getD i 0 = y := ⟨_, rfl⟩
            rw [hy] at hcc hyn hlk
            have HLK := Lib.hid hlk
            have j1 : ¬ ((i : Int) + 1 < G.length) := by omega
            clear hcx hgx hix hy hlk
            go_wp2_with (go_at_call 20; refine (specSetLink_any y _ (by first | exact HCX.out | exact HCX.out.drew) (by omega) (by omega)).mono ?_; rintro e5 w5 ⟨rfl, rfl⟩)
            go_roundw
            case rel => exact ⟨i + 1, by omega, by go_num, by rw [HLK.out]; first | exact (HCX.out.put (z + y) 255 rfl).drew | exact (HCX.out.drew.put (z + y) 255 rfl).drew, by first | exact only_drew (only_setCell HGX.out (.inl rfl) _) | exact only_drew (only_setCell (only_drew HGX.out) (.inl rfl) _)⟩
            case measure => simp [intOf]; omega
        · obtain rfl : i = G.length := by omega
          have hgq' : g ≠ qe := by omega
          have hpq : p ≠ qe := by omega
          have rE4 := rw_grown RE4.out hgx (.inr (fun e => hgq' (by injection e)))
          have y3 := rE4.cell 3; have y4 := rE4.cell 4; have yf3 := rE4.frozen 3; have yf4 := rE4.frozen 4
          have HR4 := Lib.hid rE4
          have HBX := Lib.hid (HB4.out.grown hgx hz4 (fun j hj => by injection hj; omega))
          clear hcx hgx rE4
          go_wp2_with (first
            | (go_at_call 21; refine (specSetEntryG_any k at' nm f l true false hnv hfv hlv (chw_far (chw_far HCX.out hpq hgq' 3 (.bool true)) hpq hgq' 4 (.bool false)) (by simpa using (HR4.out.set 3 (.bool true)).set 4 (.bool false)) HAT.out (by omega) (by omega) hcap (by omega)).mono ?_; rintro e5 w5 ⟨rfl, hc5, hb5, hg5⟩)
            | (go_at_call 22; refine (specDisk_any hc5 rfl hf.2.1 hf.2.2.2.2.2 (by omega) hcap).mono ?_; rintro r w6 ⟨A2, c2, rfl, ho2, hb6⟩))
          rw [HS.out] at ho2
          have hb4'' := (HBX.out.setCell (p := ⟨qe, 3, none⟩) hwqe (.bool true)).setCell (p := ⟨qe, 4, none⟩) hwqe (.bool false)
          have hb5' := hb4''.trans (hb5 w.heap.size hg hb4''.size)
          have HBB := Lib.hid (hb5'.trans (hb6.mono hb5'.size))
          have HOO := Lib.hid (own_base ho2 hb5'.size)
          clear ho2 hc5
          go_ret2
          exact ⟨HBB.out, fun h => absurd h HNM.out, fun _ h => absurd HOKP.out h, fun _ _ => ⟨A2, c2, rfl, HOO.out⟩⟩
    · have HOKK := Lib.hid hok
      have HNO := Lib.hid (fun h => hok (HOKD.out.1 h))
      clear hok
      go_wp2_with (go_at_call 19; refine HGB.out.mono ?_; rintro r w4 ⟨A4, c4, b, hbk, rfl, hi4, hb4⟩; obtain rfl : b = false := (by cases b; exact rfl; exact absurd (hbk.1 rfl) HOKK.out))
      have HB4 := Lib.hid (HB3.out.trans (hb4.mono hz3))
      go_ret2
      exact ⟨HB4.out, fun h => absurd h HNM.out, fun _ _ => rfl, fun _ h => absurd h HNO.out⟩
end Go.Proofs.YtgmmigbaaigldaaGreatDoor
