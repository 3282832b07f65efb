/-
  Disks of chains: the directory mended, the reference's side.
-/
import Derived.Test.YtapkckpjeoedaaaGreatDoorMeTop
namespace Go.Proofs.YtapkckpjeoedaaaGreatDoor
open Go Go.ChangeShapes Go.WideShapes Go.ChangeAt Go.RowKit lib
set_option linter.unusedVariables false
set_option maxRecDepth 100000
theorem named_iff {n z : Nat} {U : Nat → UInt8} {nm : ByteArray} {m : Nat} : namedTo n z U nm (m + 1) ↔ (namedTo n z U nm m ∨ ((entK n z U m).us = true ∧ (entK n z U m).nm = nm)) := by
  by_cases h : (entK n z U m).us = true
  · rw [named_more h]
    constructor
    · rintro (h1 | h1)
      · exact .inl h1
      · exact .inr ⟨h, h1.symm⟩
    · rintro (h1 | ⟨_, h1⟩)
      · exact .inl h1
      · exact .inr h1.symm
  · rw [← named_same (by simpa using h)]
    constructor
    · exact .inl
    · rintro (h1 | ⟨h1, _⟩)
      · exact h1
      · exact absurd h1 h
open Classical in
set_option maxHeartbeats 4000000 in
theorem specMendE_any {w : World} {p g n z E d t N c : Nat} {u : Nat → UInt8} (h : ChW w p g n z E d t N c u) (hN : N ≤ 4096) (hcN : N ≤ c) (hE : E ≤ 16) (hd : d = dirN n z) (hfit : ∀ k, k < E → d * z + k * 12 + 12 ≤ N) :
    Calls Tryz.prog 37 #[.pointer (some ⟨p, 0, none⟩)] w fun r w' => r = .returned (.tuple #[.int .i64 ((clrGo n z u E).2 : Int), .int .i64 ((renGo n z E (clrGo n z u E).1 E).2 : Int)]) ∧ ChW w' p g n z E d t N c (renGo n z E (clrGo n z u E).1 E).1 ∧ w.grownBy w' (some g) := by
  have HH := Lib.hid h
  have HFIT := Lib.hid hfit
  have HD := Lib.hid hd
  have c2 := h.c2
  have hgw := h.row.lt
  clear h hfit
  go_enter Tryz.func37, Tryz.ntmps37
  go_wp2_with fail
  go_loopw [4, 6] (fun s4 s6 wr => ∃ m : Nat, m ≤ E ∧ s4 = .int .i64 ((clrGo n z u m).2 : Int) ∧ s6 = .int .i64 m ∧ ChW wr p g n z E d t N c (clrGo n z u m).1 ∧ w.grownBy wr (some g)) (fun _ s _ => E - (intOf s).toNat)
  case atStart => exact ⟨0, by omega, rfl, rfl, HH.out, only_refl _ _⟩
  case round =>
    obtain ⟨m, hm, rfl, rfl, hc1, hg1⟩ := hrel
    have HC := Lib.hid hc1
    have HG := Lib.hid hg1
    have c2 := hc1.c2
    have hcl := clrGo_le n z u m
    by_cases hlt : m < E
    · have t1 := HFIT.out m hlt
      have HNX := Lib.hid (show clrGo n z u (m + 1) = if okE (fun i => (clrGo n z u m).1 (dirN n z * z + m * 12 + i)) then clrGo n z u m else (putE (clrGo n z u m).1 (dirN n z * z + m * 12) ⟨#[]⟩ 0 0 false false, (clrGo n z u m).2 + 1) from rfl)
      obtain ⟨S, hS⟩ : ∃ S, clrGo n z u m = S := ⟨_, rfl⟩
      rw [hS] at HC HNX hcl ⊢
      obtain ⟨u3, k3⟩ := S
      dsimp only at HC HNX hcl ⊢
      rw [← HD.out] at HNX
      obtain ⟨at', hat⟩ : ∃ a, d * z + m * 12 = a := ⟨_, rfl⟩
      have HAT := Lib.hid hat
      rw [hat] at t1 HNX
      clear hc1 hg1 hS hat
      go_upto_region 7 with (go_at_call 68; refine (specEntry_any m at' HC.out HAT.out t1 (by omega) hcN (by omega)).mono ?_; intro e2 w2 h2; obtain ⟨b, nm, f, l, us, de, hb0, he0, rfl, hb2, n8, f8, l8, hbf⟩ := entOut_parts h2)
      have HOK := Lib.hid hb0
      have hal := hb2.alloc hb2.size (.cells #[.string nm, .int .i64 f, .int .i64 l, .bool us, .bool de] 82)
      have HC3 := Lib.hid (HC.out.below hal)
      have HG3 := Lib.hid (only_trans HG.out (only_below hal (Nat.le_refl _) (some g)))
      clear hal hb0 he0 hbf h2 c2
      generalize hWW : w2.alloc (.cells #[.string nm, .int .i64 f, .int .i64 l, .bool us, .bool de] 82) = W3 at *
      clear hWW
      cases b
      · have HLX := Lib.hid (show clrGo n z u (m + 1) = (putE u3 at' ⟨#[]⟩ 0 0 false false, k3 + 1) by rw [HNX.out, if_neg (fun q => by have := HOK.out.2 q; cases this)])
        have HB4 := (Below.refl W3.heap.size W3).alloc (Nat.le_refl _) (.cells #[.string ⟨#[]⟩, .int .i64 0, .int .i64 0, .bool false, .bool false] 82)
        have HSE := Lib.hid (specSetEntryG_any m at' ⟨#[]⟩ 0 0 false false (by decide) (by omega) (by omega) (HC3.out.below HB4) (Rw.new W3 82 #[.string ⟨#[]⟩, .int .i64 0, .int .i64 0, .bool false, .bool false]) HAT.out t1 (by omega) hcN (by omega))
        have HG4 := Lib.hid (only_trans HG3.out (only_below HB4 (Nat.le_refl _) (some g)))
        clear HB4
        go_wp2_with (go_at_call 52; refine HSE.out.mono ?_; rintro e5 w5 ⟨rfl, hc5, _, hg5⟩)
        go_roundw
        case rel => exact ⟨m + 1, by omega, by rw [HLX.out]; go_num, by go_num, by rw [HLX.out]; exact hc5, only_trans HG4.out hg5⟩
        case measure => simp [intOf]; omega
      · have HLX := Lib.hid (show clrGo n z u (m + 1) = (u3, k3) by rw [HNX.out, if_pos (HOK.out.1 rfl)])
        go_wp2_with fail
        go_roundw
        case rel => exact ⟨m + 1, by omega, by rw [HLX.out], by go_num, by rw [HLX.out]; exact HC3.out, HG3.out⟩
        case measure => simp [intOf]; omega
    · obtain rfl : m = E := by omega
      have hrl := renGo_le n z m (clrGo n z u m).1
      obtain ⟨S1, hS1⟩ : ∃ S, clrGo n z u m = S := ⟨_, rfl⟩
      have HS1 := Lib.hid hS1
      rw [hS1] at HC hcl hrl ⊢
      obtain ⟨u1, k1⟩ := S1
      dsimp only at HC hcl hrl ⊢
      clear hc1 hg1 hS1
      go_wp2_with fail
      go_loopw [5, 9] (fun s5 s9 wr => ∃ k : Nat, k ≤ m ∧ s5 = .int .i64 ((renGo n z m u1 k).2 : Int) ∧ s9 = .int .i64 k ∧ ChW wr p g n z m d t N c (renGo n z m u1 k).1 ∧ w.grownBy wr (some g)) (fun _ s _ => m - (intOf s).toNat)
      case atStart => exact ⟨0, by omega, rfl, rfl, HC.out, HG.out⟩
      case round =>
        clear HC HG c2
        obtain ⟨k, hk, rfl, rfl, hc2, hg2⟩ := hrel
        have HC2 := Lib.hid hc2
        have HG2 := Lib.hid hg2
        have hrk := renGo_le n z m u1 k
        have c2 := hc2.c2
        by_cases hlt : k < m
        · have t1 := HFIT.out k hlt
          have HNX := Lib.hid (show renGo n z m u1 (k + 1) = if (entK n z (renGo n z m u1 k).1 k).us = true ∧ namedTo n z (renGo n z m u1 k).1 (entK n z (renGo n z m u1 k).1 k).nm k then (putE (renGo n z m u1 k).1 (dirN n z * z + k * 12) (dupN n z (renGo n z m u1 k).1 m) (entK n z (renGo n z m u1 k).1 k).f (entK n z (renGo n z m u1 k).1 k).l true false, (renGo n z m u1 k).2 + 1) else renGo n z m u1 k from rfl)
          have hde := ent_de (n := n) (z := z) (k := k) (U := (renGo n z m u1 k).1)
          obtain ⟨S, hS⟩ : ∃ S, renGo n z m u1 k = S := ⟨_, rfl⟩
          rw [hS] at HC2 HNX hrk hde ⊢
          obtain ⟨u3, k3⟩ := S
          dsimp only at HC2 HNX hrk hde ⊢
          obtain ⟨at', hat⟩ : ∃ a, d * z + k * 12 = a := ⟨_, rfl⟩
          have HAT := Lib.hid hat
          rw [hat] at t1
          clear hc2 hg2 hS hat
          go_upto_region 14 with (go_at_call 68; refine (specEntry_any k at' HC2.out HAT.out t1 (by omega) hcN (by omega)).mono ?_; intro e2 w2 h2; obtain ⟨b, nm, f, l, us, de, hb0, he0, rfl, hb2, n8, f8, l8, hbf⟩ := entOut_parts h2)
          have hek : entK n z u3 k = ⟨nm, f, l, us, de⟩ := by unfold entK; rw [← HD.out, HAT.out, he0]
          rw [hek] at HNX hde
          dsimp only at HNX hde
          have HDE := Lib.hid hde
          rw [← HD.out, HAT.out] at HNX
          have hal := hb2.alloc hb2.size (.cells #[.string nm, .int .i64 f, .int .i64 l, .bool us, .bool de] 82)
          have RE := Lib.hid (Rw.new w2 82 #[.string nm, .int .i64 f, .int .i64 l, .bool us, .bool de])
          have HC3 := Lib.hid (HC2.out.below hal)
          have HG3 := Lib.hid (only_trans HG2.out (only_below hal (Nat.le_refl _) (some g)))
          have hq1 : g < w2.heap.size := Nat.lt_of_lt_of_le HC2.out.row.lt hb2.size
          have hq2 : p < w2.heap.size := Nat.lt_of_lt_of_le HC2.out.plt hb2.size
          have hq4 : w.heap.size ≤ w2.heap.size := Nat.le_trans HG2.out.size hb2.size
          obtain ⟨qe, hqe⟩ : ∃ qe, w2.heap.size = qe := ⟨_, rfl⟩
          rw [hqe] at RE hq1 hq2 hq4
          clear hal hb0 he0 h2 hek hbf hde c2
          generalize hWW : w2.alloc (.cells #[.string nm, .int .i64 f, .int .i64 l, .bool us, .bool de] 82) = W3 at *
          clear hWW
          rw [hqe]
          clear hqe hb2 HC2 HG2
          have hqz : qe < W3.heap.size := RE.out.lt
          go_wp2_with fail
          go_loopw [12, 13] (fun s12 s13 wr => ∃ (i : Nat) (tw : Bool), i ≤ k ∧ s12 = .bool tw ∧ s13 = .int .i64 i ∧ (tw = true ↔ (us = true ∧ namedTo n z u3 nm i)) ∧ Below W3.heap.size W3 wr) (fun _ s _ => k - (intOf s).toNat)
          case atStart => exact ⟨0, false, by omega, rfl, rfl, ⟨fun q => (by cases q), fun ⟨_, i, hi, _⟩ => absurd hi (by omega)⟩, Below.refl _ _⟩
          case round =>
            obtain ⟨i, tw, hi, rfl, rfl, htw, hb⟩ := hrel
            have HTW := Lib.hid htw
            have HB := Lib.hid hb
            have HCI := Lib.hid (HC3.out.below hb)
            have HRI := Lib.hid (RE.out.below hb hqz)
            have hbz := hb.size
            clear htw hb
            by_cases hil : i < k
            · have t2 := HFIT.out i (by omega)
              go_upto_region 19 with (go_at_call 68; refine (specEntry_any i _ HCI.out rfl t2 (by omega) hcN (by omega)).mono ?_; intro e2' w3 h2; obtain ⟨b', nm', f', l', us', de', hb0, he0, rfl, hb2, n8', f8', l8', hbf⟩ := entOut_parts h2)
              have hek : entK n z u3 i = ⟨nm', f', l', us', de'⟩ := by unfold entK; rw [← HD.out, he0]
              have hnx := named_iff (n := n) (z := z) (U := u3) (nm := nm) (m := i)
              rw [hek] at hnx
              dsimp only at hnx
              have HNI := Lib.hid hnx
              have hal := hb2.alloc hb2.size (.cells #[.string nm', .int .i64 f', .int .i64 l', .bool us', .bool de'] 82)
              have hrr := Rw.new w3 82 #[.string nm', .int .i64 f', .int .i64 l', .bool us', .bool de']
              have q0 := hrr.cell 0; have q3 := hrr.cell 3
              have HR3 := HRI.out.below hal HRI.out.lt
              have k0 := HR3.cell 0; have k3' := HR3.cell 3
              have HBA := Lib.hid (HB.out.trans (hal.mono hbz))
              clear hrr HR3 hal he0 hb0 h2 hek hnx hbf
              generalize hW4 : w3.alloc (.cells #[.string nm', .int .i64 f', .int .i64 l', .bool us', .bool de'] 82) = W4 at *
              clear hW4
              have hcase : tw = true ∨ (tw = false ∧ us = false) ∨ (tw = false ∧ us = true ∧ us' = false) ∨ (tw = false ∧ us = true ∧ us' = true ∧ nm' ≠ nm) ∨ (tw = false ∧ us = true ∧ us' = true ∧ nm' = nm) := by
                by_cases h : nm' = nm <;> cases tw <;> cases us <;> cases us' <;> simp [h]
              rcases hcase with rfl | ⟨rfl, rfl⟩ | ⟨rfl, rfl, rfl⟩ | ⟨rfl, rfl, rfl, hne⟩ | ⟨rfl, rfl, rfl, hnm⟩
              · go_wp2_with fail
                go_roundw
                case rel => exact ⟨i + 1, true, by omega, rfl, by go_num, ⟨fun _ => ⟨(HTW.out.1 (by first | rfl | trivial)).1, HNI.out.2 (.inl (HTW.out.1 (by first | rfl | trivial)).2)⟩, fun _ => rfl⟩, HBA.out⟩
                case measure => simp [intOf]; omega
              · go_wp2_with fail
                go_roundw
                case rel => exact ⟨i + 1, false, by omega, rfl, by go_num, ⟨fun q => (by cases q), fun q => (by cases q.1)⟩, HBA.out⟩
                case measure => simp [intOf]; omega
              · go_wp2_with fail
                go_roundw
                case rel => exact ⟨i + 1, false, by omega, rfl, by go_num, ⟨fun q => (by cases q), fun q => (by rcases HNI.out.1 q.2 with h1 | h1; exact (by have := HTW.out.2 ⟨by first | rfl | trivial, h1⟩; cases this); cases h1.1)⟩, HBA.out⟩
                case measure => simp [intOf]; omega
              · have e1 := str_eq_false hne
                go_wp2_with fail
                go_roundw
                case rel => exact ⟨i + 1, false, by omega, rfl, by go_num, ⟨fun q => (by cases q), fun q => (by rcases HNI.out.1 q.2 with h1 | h1; exact (by have := HTW.out.2 ⟨by first | rfl | trivial, h1⟩; cases this); exact absurd h1.2 hne)⟩, HBA.out⟩
                case measure => simp [intOf]; omega
              · have e1 := str_eq_true hnm
                have HNM := Lib.hid hnm
                clear hnm
                go_wp2_with fail
                go_roundw
                case rel => exact ⟨i + 1, true, by omega, rfl, by go_num, ⟨fun _ => ⟨by first | rfl | trivial, HNI.out.2 (.inr ⟨by first | rfl | trivial, HNM.out⟩)⟩, fun _ => rfl⟩, HBA.out⟩
                case measure => simp [intOf]; omega
            · obtain rfl : i = k := by omega
              have HGI := Lib.hid (only_trans HG3.out (only_below HB.out (Nat.le_refl _) (some g)))
              cases tw
              · have hnn : ¬ (us = true ∧ namedTo n z u3 nm i) := fun h => by have := HTW.out.2 h; cases this
                have HLX := Lib.hid (show renGo n z m u1 (i + 1) = (u3, k3) by rw [HNX.out, if_neg hnn])
                clear hnn
                go_wp2_with fail
                go_roundw
                case rel => exact ⟨i + 1, by omega, by rw [HLX.out], by go_num, by rw [HLX.out]; exact HCI.out, HGI.out⟩
                case measure => simp [intOf]; omega
              · have hyn : us = true ∧ namedTo n z u3 nm i := HTW.out.1 (by first | rfl | trivial)
                obtain ⟨x, hxN, hxs⟩ := dup_some (n := n) (z := z) (U := u3) (E := m) hE
                have HLX := Lib.hid (show renGo n z m u1 (i + 1) = (putE u3 at' x f l true false, k3 + 1) by rw [HNX.out, if_pos hyn]; unfold dupN; rw [hxs]; rfl)
                have hx8 := hxN.hi
                have HSP := Lib.hid (specSpare_any DUP (by decide) HCI.out hN hcN hE HD.out HFIT.out)
                have HXS := Lib.hid hxs
                obtain ⟨husx, _⟩ := hyn
                subst husx
                obtain rfl := HDE.out rfl
                clear hxN hxs
                go_upto_region 22 with (go_at_call 51; refine HSP.out.mono ?_; intro r w5 h5; obtain rfl := h5.1 x HXS.out; have hb5 := h5.2.2; have hr5 := HRI.out.below hb5 HRI.out.lt; have y0 := hr5.cell 0; have yf0 := hr5.frozen 0)
                have HC5 := HCI.out.below hb5
                have HG5 := only_trans HGI.out (only_below hb5 (Nat.le_refl _) (some g))
                have hr6 := hr5.set 0 (.string x)
                have hr7 : Rw (w5.setCell ⟨qe, 0, none⟩ (.string x)) qe 82 #[.string x, .int .i64 f, .int .i64 l, .bool true, .bool false] := by simpa using hr6
                have HSE := Lib.hid (specSetEntryG_any i at' x f l true false hx8 f8 l8 (chw_far HC5 (q := qe) (by omega) (by omega) 0 (.string x)) hr7 HAT.out t1 (by omega) hcN (by omega))
                have HG6 := Lib.hid (only_setCell (p := ⟨qe, 0, none⟩) HG5 (.inr hq4) (.string x))
                clear h5 hb5 hr5 HC5 HG5 hr6 hr7
                go_wp2_with (go_at_call 52; refine HSE.out.mono ?_; rintro e7 w7 ⟨rfl, hc7, _, hg7⟩)
                go_roundw
                case rel => exact ⟨i + 1, by omega, by rw [HLX.out]; go_num, by go_num, by rw [HLX.out]; exact hc7, only_trans HG6.out hg7⟩
                case measure => simp [intOf]; omega
        · obtain rfl : k = m := by omega
          clear hc2 hg2
          go_wp2_with fail
          go_ret2
          rw [HS1.out]
          exact ⟨rfl, HC2.out, HG2.out⟩
end Go.Proofs.YtapkckpjeoedaaaGreatDoor
