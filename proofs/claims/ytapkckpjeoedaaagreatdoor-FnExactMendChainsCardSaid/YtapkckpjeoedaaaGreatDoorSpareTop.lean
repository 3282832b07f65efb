/-
  Disks of chains: a spare name: both sides.
-/
import Derived.Test.YtapkckpjeoedaaaGreatDoorSpareP
import Derived.Deep.CutBlock
namespace Go.Proofs.YtapkckpjeoedaaaGreatDoor
open Go Go.ChangeShapes Go.WideShapes Go.ChangeAt Go.RowKit lib
set_option linter.unusedVariables false
set_option maxRecDepth 100000
set_option maxHeartbeats 2000000 in
theorem implSpare_any {w : World} {p g n z E d t N c : Nat} {u : Nat → UInt8} (pre : ByteArray) (hpre : pre.size ≤ 6) (h : ChW w p g n z E d t N c u) (hN : N ≤ 4096) (hcN : N ≤ c) (hE : E ≤ 16) (hd : d = dirN n z) (hfit : ∀ k, k < E → d * z + k * 12 + 12 ≤ N) :
    Calls Tryz.prog 62 #[.pointer (some ⟨p, 0, none⟩), .string pre] w fun r w' => SpOut (spGo n z u E pre 100 0) r w w' := by
  obtain ⟨R, hR⟩ : ∃ R, spGo n z u E pre 100 0 = R := ⟨_, rfl⟩
  rw [hR]
  have HRR := Lib.hid hR
  have HH := Lib.hid h
  have HFIT := Lib.hid hfit
  have HD := Lib.hid hd
  have hmm := @run_makeMap Tryz.prog
  have hz : ∀ W : World, (zeroValue 4).run Tryz.prog W = .ok (.bool false) W := fun W => by rfl
  have HZB := Lib.hid hz
  have HST := Lib.hid (fun (W : World) (b cnt : Nat) (Q : ByteArray → Prop) (hW : NSet Tryz.prog 9 4 W b cnt Q) (hc : cnt ≤ 16) (x : ByteArray) (hx : x.size ≤ 100) => hW.store (t := 115) Tryz.underlying9 Tryz.underlying115 Tryz.underlying4 (by simp only [maxLen]; omega) x (by simp only [maxLen]; omega))
  have HLK := Lib.hid (fun (W : World) (b cnt : Nat) (Q : ByteArray → Prop) (hW : NSet Tryz.prog 9 4 W b cnt Q) (x : ByteArray) (hx : x.size ≤ 100) => hW.look (t := 115) Tryz.underlying9 Tryz.underlying115 Tryz.underlying4 (HZB.out W) x (by simp only [maxLen]; omega))
  have HM0 := Lib.hid (NSet.made (P := Tryz.prog) (k := 9) (e := 4) w)
  have HB0 := Lib.hid ((Below.refl w.heap.size w).alloc (Nat.le_refl _) (.map #[] 0))
  clear h hfit hd hR hz
  go_enter Tryz.func62, Tryz.ntmps62
  go_upto_region 2 with fail
  have HC1 := Lib.hid (HH.out.below HB0.out)
  have hz1 := HB0.out.size
  generalize w.alloc (.map #[] 0) = W1 at *
  have c2 := HC1.out.c2
  go_upto_block 0 with fail
  go_cut [] (fun wx => NSet Tryz.prog 9 4 wx w.heap.size 16 (fun x => namedTo n z u x E) ∧ Below w.heap.size w wx)
  case first =>
    go_wp2_with fail
    go_loopw [18] (fun s18 wr => ∃ m : Nat, m ≤ E ∧ s18 = .int .i64 m ∧ NSet Tryz.prog 9 4 wr w.heap.size m (fun x => namedTo n z u x m) ∧ Below w.heap.size w wr) (fun s _ => E - (intOf s).toNat)
    case atStart => exact ⟨0, by omega, rfl, HM0.out.congr (fun x => ⟨fun q => q.elim, fun ⟨i, hi, _⟩ => absurd hi (by omega)⟩), HB0.out⟩
    case round =>
      obtain ⟨m, hm, rfl, hms, hb⟩ := hrel
      have HMS := Lib.hid hms
      have HB := Lib.hid hb
      have HC := Lib.hid (HH.out.below hb)
      have hbz := hb.size
      clear hms hb c2
      by_cases hlt : m < E
      · have t1 := HFIT.out m hlt
        go_upto_region 6 with (go_at_call 72; refine (implEntry_any m _ HC.out rfl t1 (by omega) hcN (by omega)).mono ?_; intro e2 w2 h2; obtain ⟨b, nm', f', l', us', de', hb0, he0, rfl, hb2, n8, f8, l8, hbf⟩ := entOut_parts h2)
        have HEK := Lib.hid (show entK n z u m = ⟨nm', f', l', us', de'⟩ by unfold entK; rw [← HD.out, he0])
        have hal := hb2.alloc hb2.size (.cells #[.string nm', .int .i64 f', .int .i64 l', .bool us', .bool de'] 82)
        have hrr := Rw.new w2 82 #[.string nm', .int .i64 f', .int .i64 l', .bool us', .bool de']
        have q0 := hrr.cell 0; have q3 := hrr.cell 3
        have HBA := Lib.hid (HB.out.trans (hal.mono hbz))
        have HMA := Lib.hid (HMS.out.below hal)
        clear hrr hal he0 hb0 h2
        generalize hWW : w2.alloc (.cells #[.string nm', .int .i64 f', .int .i64 l', .bool us', .bool de'] 82) = W3 at *
        clear hWW
        have hcase : b = false ∨ (b = true ∧ us' = false) ∨ (b = true ∧ us' = true) := by cases b <;> cases us' <;> simp
        rcases hcase with rfl | ⟨rfl, rfl⟩ | ⟨rfl, rfl⟩
        · have hus := (hbf rfl).1
          have HN2 := Lib.hid (fun x => named_same (z := z) (nm := x) (show (entK n z u m).us = false by rw [HEK.out]; exact hus))
          clear hbf hus
          go_wp2_with fail
          go_roundw
          case rel => exact ⟨m + 1, by omega, by go_num, (HMA.out.mono (Nat.le_succ m)).congr HN2.out, HBA.out⟩
          case measure => simp [intOf]; omega
        · have HN2 := Lib.hid (fun x => named_same (z := z) (nm := x) (show (entK n z u m).us = false by rw [HEK.out]))
          clear hbf
          go_wp2_with fail
          go_roundw
          case rel => exact ⟨m + 1, by omega, by go_num, (HMA.out.mono (Nat.le_succ m)).congr HN2.out, HBA.out⟩
          case measure => simp [intOf]; omega
        · have HN2 := Lib.hid (fun x => named_more (z := z) (nm := x) (show (entK n z u m).us = true by rw [HEK.out]))
          obtain ⟨W4, hrun, hms4, hg4⟩ := HST.out _ _ _ _ HMA.out (by omega) nm' (by omega)
          have HMS4 := Lib.hid hms4
          have HB4 := Lib.hid (HBA.out.grown hg4 HBA.out.size (fun j hj => by injection hj; omega))
          clear hbf hms4 hg4
          go_wp2_with fail
          go_roundw
          case rel => exact ⟨m + 1, by omega, by go_num, HMS4.out.congr (fun x => by rw [HN2.out x, HEK.out]), HB4.out⟩
          case measure => simp [intOf]; omega
      · obtain rfl : m = E := by omega
        go_wp2_with fail
        go_meet
        exact ⟨HMS.out.mono (by omega), HB.out⟩
  case rest =>
  obtain ⟨hms, hb⟩ := hcut
  have HMS := Lib.hid hms
  have HB := Lib.hid hb
  clear hms hb c2
  go_wp2_with fail
  go_loopw [36] (fun s36 wr => ∃ k : Nat, k ≤ 100 ∧ s36 = .int .i64 k ∧ spGo n z u E pre (100 - k) k = R ∧ wr = wc) (fun s _ => 100 - (intOf s).toNat)
  case atStart => exact ⟨0, by omega, rfl, HRR.out, rfl⟩
  case round =>
    obtain ⟨k, hk, rfl, hst, rfl⟩ := hrel
    have HS := Lib.hid hst
    clear hst
    by_cases hlt : k < 100
    · obtain ⟨v, hlk, hv⟩ := HLK.out _ _ _ _ HMS.out (spName pre k) (by rw [spName_size]; omega)
      have HV := Lib.hid hv
      have hnd := spName_dig pre k
      have hgn := fun h => spGo_next (f := 100 - (k + 1)) (n := n) (z := z) (U := u) (E := E) (pre := pre) (k := k) h
      have hgh := fun h => spGo_hit (f := 100 - (k + 1)) (n := n) (z := z) (U := u) (E := E) (pre := pre) (k := k) h
      rw [show 100 - (k + 1) + 1 = 100 - k by omega, HS.out] at hgn hgh
      have HGN := Lib.hid hgn
      have HGH := Lib.hid hgh
      obtain ⟨X, hX⟩ : ∃ X, spName pre k = X := ⟨_, rfl⟩
      rw [hX] at hlk hnd HV HGN HGH
      have hq9 : k / 10 < 10 := by omega
      have hr9 : k % 10 < 10 := by omega
      have f1 : (k : Int) / 10 = ((k / 10 : Nat) : Int) := by omega
      have f2 : (k : Int) % 10 = ((k % 10 : Nat) : Int) := by omega
      have f3 : Int.tdiv (k : Int) 10 = ((k / 10 : Nat) : Int) := by rw [Int.tdiv_eq_ediv_of_nonneg (by omega)]; exact f1
      have f4 : Int.tmod (k : Int) 10 = ((k % 10 : Nat) : Int) := by rw [Int.tmod_eq_emod_of_nonneg (by omega)]; exact f2
      obtain ⟨q, hq⟩ : ∃ q, k / 10 = q := ⟨_, rfl⟩
      obtain ⟨r, hr⟩ : ∃ r, k % 10 = r := ⟨_, rfl⟩
      rw [hq] at hq9 hnd f1 f3
      rw [hr] at hr9 hnd f2 f4
      have a1 : ∀ W : World, (Op.stringOp .add pre (dig1 q)).run Tryz.prog W = .ok (.string (pre ++ dig1 q)) W := fun W => run_string_add_sum _ _ _ (by show pre.size + 1 ≤ _; omega)
      have a2 : ∀ W : World, (Op.stringOp .add (pre ++ dig1 q) (dig1 r)).run Tryz.prog W = .ok (.string X) W := fun W => by rw [run_string_add_sum _ _ _ (by rw [ByteArray.size_append]; show pre.size + 1 + 1 ≤ _; omega), hnd]
      clear hv hgn hgh hX hq hr hnd
      cases v
      · have HN := Lib.hid (HGH.out (fun h => by have := HV.out.2 h; cases this))
        go_wp2_with (go_at_call 100; first
          | (refine (decimal_any q hq9 _).mono ?_; rintro e6 w6 ⟨rfl, rfl⟩)
          | (refine (decimal_any r hr9 _).mono ?_; rintro e6 w6 ⟨rfl, rfl⟩))
        go_ret2
        rw [HN.out]
        exact ⟨fun s h => by injection h with h; subst h; rfl, fun h => (by cases h), HB.out⟩
      · have HN := Lib.hid (HGN.out (HV.out.1 rfl))
        go_wp2_with (go_at_call 100; first
          | (refine (decimal_any q hq9 _).mono ?_; rintro e6 w6 ⟨rfl, rfl⟩)
          | (refine (decimal_any r hr9 _).mono ?_; rintro e6 w6 ⟨rfl, rfl⟩))
        exact ⟨⟨k + 1, by omega, by go_num, HN.out.symm, by first | rfl | trivial⟩, by simp [intOf]; omega⟩
    · obtain rfl : k = 100 := by omega
      have HN := Lib.hid (show R = none by rw [← HS.out, Nat.sub_self]; rfl)
      go_wp2_with fail
      go_ret2
      rw [HN.out]
      exact ⟨fun s h => (by cases h), fun _ => rfl, HB.out⟩
set_option maxHeartbeats 2000000 in
theorem specSpare_any {w : World} {p g n z E d t N c : Nat} {u : Nat → UInt8} (pre : ByteArray) (hpre : pre.size ≤ 6) (h : ChW w p g n z E d t N c u) (hN : N ≤ 4096) (hcN : N ≤ c) (hE : E ≤ 16) (hd : d = dirN n z) (hfit : ∀ k, k < E → d * z + k * 12 + 12 ≤ N) :
    Calls Tryz.prog 51 #[.pointer (some ⟨p, 0, none⟩), .string pre] w fun r w' => SpOut (spGo n z u E pre 100 0) r w w' := by
  obtain ⟨R, hR⟩ : ∃ R, spGo n z u E pre 100 0 = R := ⟨_, rfl⟩
  rw [hR]
  have HRR := Lib.hid hR
  have HH := Lib.hid h
  have HND := Lib.hid (fun (W : World) (nm : ByteArray) (hW : ChW W p g n z E d t N c u) => specNamed2_any nm hW hN hcN hE hd hfit)
  clear h hfit hd hR
  go_enter Tryz.func51, Tryz.ntmps51
  go_wp2_with fail
  go_loopw [6] (fun s6 wr => ∃ k : Nat, k ≤ 100 ∧ s6 = .int .i64 k ∧ spGo n z u E pre (100 - k) k = R ∧ Below w.heap.size w wr) (fun s _ => 100 - (intOf s).toNat)
  case atStart => exact ⟨0, by omega, rfl, HRR.out, Below.refl _ _⟩
  case round =>
    obtain ⟨k, hk, rfl, hst, hb⟩ := hrel
    have HS := Lib.hid hst
    have HB := Lib.hid hb
    have hbz := hb.size
    clear hst hb
    by_cases hlt : k < 100
    · have hgn := fun h => spGo_next (f := 100 - (k + 1)) (n := n) (z := z) (U := u) (E := E) (pre := pre) (k := k) h
      have hgh := fun h => spGo_hit (f := 100 - (k + 1)) (n := n) (z := z) (U := u) (E := E) (pre := pre) (k := k) h
      rw [show 100 - (k + 1) + 1 = 100 - k by omega, HS.out] at hgn hgh
      have HGN := Lib.hid hgn
      have HGH := Lib.hid hgh
      have hnd : pre ++ ⟨#[UInt8.ofNat (48 + k / 10), UInt8.ofNat (48 + k % 10)]⟩ = spName pre k := rfl
      obtain ⟨X, hX⟩ : ∃ X, spName pre k = X := ⟨_, rfl⟩
      rw [hX] at hnd HGN HGH
      have hq9 : k / 10 < 10 := by omega
      have hr9 : k % 10 < 10 := by omega
      have f1 : (k : Int) / 10 = ((k / 10 : Nat) : Int) := by omega
      have f2 : (k : Int) % 10 = ((k % 10 : Nat) : Int) := by omega
      have f3 : Int.tdiv (k : Int) 10 = ((k / 10 : Nat) : Int) := by rw [Int.tdiv_eq_ediv_of_nonneg (by omega)]; exact f1
      have f4 : Int.tmod (k : Int) 10 = ((k % 10 : Nat) : Int) := by rw [Int.tmod_eq_emod_of_nonneg (by omega)]; exact f2
      obtain ⟨q, hq⟩ : ∃ q, k / 10 = q := ⟨_, rfl⟩
      obtain ⟨r, hr⟩ : ∃ r, k % 10 = r := ⟨_, rfl⟩
      rw [hq] at hq9 hnd f1 f3
      rw [hr] at hr9 hnd f2 f4
      have hcv : ∀ W : World, (convert 63 9 (.slice (some ⟨W.heap.size, 0, none⟩) 2 2)).run Tryz.prog (W.alloc (.cells #[.int .u8 (48 + (q : Int)), .int .u8 (48 + (r : Int))] 5)) = .ok (.string ⟨#[UInt8.ofNat (48 + q), UInt8.ofNat (48 + r)]⟩) (W.alloc (.cells #[.int .u8 (48 + (q : Int)), .int .u8 (48 + (r : Int))] 5)) := fun W => by
        rw [run_bstr2 (P := Tryz.prog) 63 9 5 Tryz.underlying63 Tryz.underlying5 Tryz.underlying9 W (48 + (q : Int)) (48 + (r : Int))]
        rw [show (48 + (q : Int)).toNat = 48 + q by omega, show (48 + (r : Int)).toNat = 48 + r by omega]
      obtain ⟨D2, hD2⟩ : ∃ D2 : ByteArray, (⟨#[UInt8.ofNat (48 + q), UInt8.ofNat (48 + r)]⟩ : ByteArray) = D2 := ⟨_, rfl⟩
      have hds : D2.size = 2 := by rw [← hD2]; rfl
      rw [hD2] at hnd hcv
      have a1 : ∀ W : World, (Op.stringOp .add pre D2).run Tryz.prog W = .ok (.string X) W := fun W => by rw [run_string_add_sum _ _ _ (by omega), hnd]
      have g1 : IntKind.u8.wrap (48 + (q : Int)) = 48 + (q : Int) := by rw [IntKind.wrap_u8]; omega
      have g2 : IntKind.u8.wrap (48 + (r : Int)) = 48 + (r : Int) := by rw [IntKind.wrap_u8]; omega
      have g3 : IntKind.i64.wrap (48 + (q : Int)) = 48 + (q : Int) := by rw [IntKind.wrap_i64]; omega
      have g4 : IntKind.i64.wrap (48 + (r : Int)) = 48 + (r : Int) := by rw [IntKind.wrap_i64]; omega
      have HB2 := Lib.hid (HB.out.alloc hbz (.cells #[.int .u8 (48 + (q : Int)), .int .u8 (48 + (r : Int))] 5))
      have hz2 : w.heap.size ≤ (wr.alloc (.cells #[.int .u8 (48 + (q : Int)), .int .u8 (48 + (r : Int))] 5)).heap.size := HB2.out.size
      clear hgn hgh hX hq hr hnd hD2
      go_wp2_with (go_at_call 90; refine (HND.out _ X (by first | exact HH.out.below HB2.out | exact HH.out.below HB2.out.drew)).mono ?_; rintro e6 w6 ⟨b, hv, rfl, hb6⟩; have HBZ := Lib.hid (HB2.out.trans (hb6.mono hz2)); have HV := Lib.hid hv; clear hv hb6; cases b)
      · have HN := Lib.hid (HGH.out (fun h => by have := HV.out.2 h; cases this))
        go_ret2
        rw [HN.out]
        exact ⟨fun s h => by injection h with h; subst h; rfl, fun h => (by cases h), HBZ.out⟩
      · have HN := Lib.hid (HGN.out (HV.out.1 (by first | rfl | trivial)))
        exact ⟨⟨k + 1, by omega, by go_num, HN.out.symm, HBZ.out⟩, by simp [intOf]; omega⟩
    · obtain rfl : k = 100 := by omega
      have HN := Lib.hid (show R = none by rw [← HS.out, Nat.sub_self]; rfl)
      go_wp2_with fail
      go_ret2
      rw [HN.out]
      exact ⟨fun s h => (by cases h), fun _ => rfl, HB.out⟩
end Go.Proofs.YtapkckpjeoedaaaGreatDoor
