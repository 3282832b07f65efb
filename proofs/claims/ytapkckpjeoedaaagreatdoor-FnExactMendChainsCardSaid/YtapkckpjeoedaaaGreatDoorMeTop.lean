/-
  Disks of chains: the directory mended, the program's side.
-/
import Derived.Test.YtapkckpjeoedaaaGreatDoorMeP
import Derived.Test.YtapkckpjeoedaaaGreatDoorEntC
import Derived.Test.YtapkckpjeoedaaaGreatDoorEntRS
import Derived.Lib.SliceRun
import Derived.Deep.CutBlock
namespace Go.Proofs.YtapkckpjeoedaaaGreatDoor
open Go Go.ChangeShapes Go.WideShapes Go.ChangeAt Go.RowKit lib
set_option linter.unusedVariables false
set_option maxRecDepth 100000
theorem chw_grown {w w' : World} {p g n z e d t N c q : Nat} {u : Nat → UInt8} (h : ChW w p g n z e d t N c u) (hb : w.grownBy w' (some q)) (hp : p ≠ q) (hg : g ≠ q) : ChW w' p g n z e d t N c u :=
  h.keep (hb.block p h.plt (fun e => hp (by injection e))) hb.size (h.row.keep (hb.block g h.row.lt (fun e => hg (by injection e))))
theorem only_new {a b c : World} {g q : Nat} (h : a.grownBy b (some g)) (k : b.grownBy c (some q)) (hq : a.heap.size ≤ q) : a.grownBy c (some g) :=
  ⟨k.os.trans h.os, k.tape.trans h.tape, k.output.trans h.output, Nat.le_trans h.size k.size, fun i hi hn => (k.block i (Nat.lt_of_lt_of_le hi h.size) (fun e => by injection e with e; omega)).trans (h.block i hi hn)⟩
theorem rep12 : (List.replicate 12 (Value.int .u8 0)) = (List.replicate 12 (0 : UInt8)).map fun x => Value.int .u8 (x.toNat : Int) := by rfl
open Classical in
set_option maxHeartbeats 4000000 in
theorem implMendE_any {w : World} {p g n z E d t N c : Nat} {u : Nat → UInt8} (h : ChW w p g n z E d t N c u) (hN : N ≤ 4096) (hcN : N ≤ c) (hE : E ≤ 16) (hd : d = dirN n z) (hfit : ∀ k, k < E → d * z + k * 12 + 12 ≤ N) :
    Calls Tryz.prog 40 #[.pointer (some ⟨p, 0, none⟩)] w fun r w' => r = .returned (.tuple #[.int .i64 ((clrGo n z u E).2 : Int), .int .i64 ((renGo n z E (clrGo n z u E).1 E).2 : Int)]) ∧ ChW w' p g n z E d t N c (renGo n z E (clrGo n z u E).1 E).1 ∧ w.grownBy w' (some g) := by
  have HH := Lib.hid h
  have HFIT := Lib.hid hfit
  have HD := Lib.hid hd
  have hmm := @run_makeMap Tryz.prog
  have HZB : Hid (∀ W : World, (zeroValue 4).run Tryz.prog W = .ok (.bool false) W) := Lib.hid (fun W => by rfl)
  have HZ8 : Hid (∀ W : World, (zeroValue 5).run Tryz.prog W = .ok (.int .u8 0) W) := Lib.hid (fun W => by rfl)
  have HST := Lib.hid (fun (W : World) (b cnt : Nat) (Q : ByteArray → Prop) (hW : NSet Tryz.prog 9 4 W b cnt Q) (hc : cnt ≤ 16) (x : ByteArray) (hx : x.size ≤ 100) => hW.store (t := 115) Tryz.underlying9 Tryz.underlying115 Tryz.underlying4 (by simp only [maxLen]; omega) x (by simp only [maxLen]; omega))
  have HLK := Lib.hid (fun (W : World) (b cnt : Nat) (Q : ByteArray → Prop) (hW : NSet Tryz.prog 9 4 W b cnt Q) (x : ByteArray) (hx : x.size ≤ 100) => hW.look (t := 115) Tryz.underlying9 Tryz.underlying115 Tryz.underlying4 (HZB.out W) x (by simp only [maxLen]; omega))
  have c2 := h.c2
  have hgw := h.row.lt
  clear h hfit
  go_enter Tryz.func40, Tryz.ntmps40
  go_wp2_with fail
  go_loopw [4, 18] (fun s4 s18 wr => ∃ m : Nat, m ≤ E ∧ s4 = .int .i64 ((clrGo n z u m).2 : Int) ∧ s18 = .int .i64 m ∧ ChW wr p g n z E d t N c (clrGo n z u m).1 ∧ w.grownBy wr (some g)) (fun _ s _ => E - (intOf s).toNat)
  case atStart => exact ⟨0, by omega, rfl, rfl, HH.out, only_refl _ _⟩
  case round =>
    obtain ⟨m, hm, rfl, rfl, hc1, hg1⟩ := hrel
    have HC := Lib.hid hc1
    have HG := Lib.hid hg1
    have c2 := hc1.c2
    have hcl := clrGo_le n z u m
    by_cases hlt : m < E
    · have t1 := HFIT.out m hlt
      have HNX := Lib.hid (show clrGo n z u (m + 1) = if okE (fun i => (clrGo n z u m).1 (dirN n z * z + m * 12 + i)) then clrGo n z u m else (putE (clrGo n z u m).1 (dirN n z * z + m * 12) ⟨#[]⟩ 0 0 false false, (clrGo n z u m).2 + 1) from rfl)
      obtain ⟨S, hS⟩ : ∃ S, clrGo n z u m = S := ⟨_, rfl⟩
      rw [hS] at HC HNX hcl ⊢
      obtain ⟨u3, k3⟩ := S
      dsimp only at HC HNX hcl ⊢
      rw [← HD.out] at HNX
      obtain ⟨at', hat⟩ : ∃ a, d * z + m * 12 = a := ⟨_, rfl⟩
      have HAT := Lib.hid hat
      rw [hat] at t1 HNX
      clear hc1 hg1 hS hat c2
      go_upto_region 6 with (go_at_call 72; refine (implEntry_any m at' HC.out HAT.out t1 (by omega) hcN (by omega)).mono ?_; intro e2 w2 h2; obtain ⟨b, nm, f, l, us, de, hb0, he0, rfl, hb2, n8, f8, l8, hbf⟩ := entOut_parts h2)
      have HOK := Lib.hid hb0
      have hal := hb2.alloc hb2.size (.cells #[.string nm, .int .i64 f, .int .i64 l, .bool us, .bool de] 82)
      have HC3 := Lib.hid (HC.out.below hal)
      have HG3 := Lib.hid (only_trans HG.out (only_below hal (Nat.le_refl _) (some g)))
      clear hal hb0 he0 hbf h2
      generalize hWW : w2.alloc (.cells #[.string nm, .int .i64 f, .int .i64 l, .bool us, .bool de] 82) = W3 at *
      clear hWW
      cases b
      · have HLX := Lib.hid (show clrGo n z u (m + 1) = (putU u3 at' (List.replicate 12 0), k3 + 1) by rw [HNX.out, if_neg (fun q => by have := HOK.out.2 q; cases this), putE_none])
        have hclr : ∀ ty, (Builtin.clear_ #[63] ty #[.slice (some ⟨g, at', none⟩) 12 (c - at')]).run Tryz.prog W3.drew = .ok (.tuple #[]) (W3.drew.setCells g at' (List.replicate 12 (.int .u8 0))) := fun ty => Lib.run_clear_slice W3.drew 63 5 ty (.int .u8 0) Tryz.underlying63 HZ8.out rfl rfl g at' 12 (c - at') (by omega) (fun j hj => by rw [HC3.out.drew.row.cell (i := at' + j) (by omega)]; rfl) (fun j hj => HC3.out.drew.row.frozen (i := at' + j) (by omega))
        rw [rep12] at hclr
        have HC4 := Lib.hid (HC3.out.drew.puts at' (List.replicate 12 0))
        have HG4 := Lib.hid (only_setCells ((List.replicate 12 (0 : UInt8)).map fun x => Value.int .u8 (x.toNat : Int)) at' W3.drew (only_drew HG3.out))
        generalize (List.replicate 12 (0 : UInt8)).map (fun x => Value.int .u8 (x.toNat : Int)) = LL at *
        go_wp2_with (first
          | (go_at_call 63; refine (implEntryBytes_any m at' HC3.out HAT.out t1 (by omega) hcN (by omega)).mono ?_; rintro e8 w8 ⟨rfl, rfl⟩)
          | (simp only [hclr]))
        go_roundw
        case rel => exact ⟨m + 1, by omega, by rw [HLX.out]; go_num, by go_num, by rw [HLX.out]; exact HC4.out, HG4.out⟩
        case measure => simp [intOf]; omega
      · have HLX := Lib.hid (show clrGo n z u (m + 1) = (u3, k3) by rw [HNX.out, if_pos (HOK.out.1 rfl)])
        go_wp2_with fail
        go_roundw
        case rel => exact ⟨m + 1, by omega, by rw [HLX.out], by go_num, by rw [HLX.out]; exact HC3.out, HG3.out⟩
        case measure => simp [intOf]; omega
    · obtain rfl : m = E := by omega
      have HM0 := Lib.hid (NSet.made (P := Tryz.prog) (k := 9) (e := 4) wr)
      have HB0 := (Below.refl wr.heap.size wr).alloc (Nat.le_refl _) (.map #[] 0)
      have HC1 := Lib.hid (HC.out.below HB0)
      have HG1 := Lib.hid (only_trans HG.out (only_below HB0 (Nat.le_refl _) (some g)))
      have hgm : g < wr.heap.size := HC.out.row.lt
      have hpm : p < wr.heap.size := HC.out.plt
      have hrl := renGo_le n z m (clrGo n z u m).1
      obtain ⟨S1, hS1⟩ : ∃ S, clrGo n z u m = S := ⟨_, rfl⟩
      have HS1 := Lib.hid hS1
      rw [hS1] at HC1 hcl hrl ⊢
      obtain ⟨u1, k1⟩ := S1
      dsimp only at HC1 hcl hrl ⊢
      have hwm := HG.out.size
      obtain ⟨mb, hmb⟩ : ∃ mb, wr.heap.size = mb := ⟨_, rfl⟩
      rw [hmb] at HM0 hgm hpm hwm
      clear hc1 hg1 hS1 HB0 HC HG
      go_upto_region 11 with fail
      generalize wr.alloc (.map #[] 0) = W1 at *
      clear hmb
      have c2 := HC1.out.c2
      have hgm' : some mb ≠ some g := fun e => by injection e with e; omega
      go_wp2_with fail
      go_loopw [5, 41] (fun s5 s41 wr => ∃ k : Nat, k ≤ m ∧ s5 = .int .i64 ((renGo n z m u1 k).2 : Int) ∧ s41 = .int .i64 k ∧ ChW wr p g n z m d t N c (renGo n z m u1 k).1 ∧ NSet Tryz.prog 9 4 wr mb k (fun x => namedTo n z (renGo n z m u1 k).1 x k) ∧ w.grownBy wr (some g)) (fun _ s _ => m - (intOf s).toNat)
      case atStart => exact ⟨0, by omega, rfl, rfl, HC1.out, HM0.out.congr (fun x => ⟨fun q => q.elim, fun ⟨i, hi, _⟩ => absurd hi (by omega)⟩), HG1.out⟩
      case round =>
        obtain ⟨k, hk, rfl, rfl, hc2, hms, hg2⟩ := hrel
        have HC2 := Lib.hid hc2
        have HG2 := Lib.hid hg2
        have HMS := Lib.hid hms
        have hrk := renGo_le n z m u1 k
        by_cases hlt : k < m
        · have t1 := HFIT.out k hlt
          have HNX := Lib.hid (show renGo n z m u1 (k + 1) = if (entK n z (renGo n z m u1 k).1 k).us = true ∧ namedTo n z (renGo n z m u1 k).1 (entK n z (renGo n z m u1 k).1 k).nm k then (putE (renGo n z m u1 k).1 (dirN n z * z + k * 12) (dupN n z (renGo n z m u1 k).1 m) (entK n z (renGo n z m u1 k).1 k).f (entK n z (renGo n z m u1 k).1 k).l true false, (renGo n z m u1 k).2 + 1) else renGo n z m u1 k from rfl)
          have hde := ent_de (n := n) (z := z) (k := k) (U := (renGo n z m u1 k).1)
          obtain ⟨S, hS⟩ : ∃ S, renGo n z m u1 k = S := ⟨_, rfl⟩
          rw [hS] at HC2 HMS HNX hrk hde ⊢
          obtain ⟨u3, k3⟩ := S
          dsimp only at HC2 HMS HNX hrk hde ⊢
          obtain ⟨at', hat⟩ : ∃ a, d * z + k * 12 = a := ⟨_, rfl⟩
          have HAT := Lib.hid hat
          rw [hat] at t1
          clear hc2 hg2 hms hS hat c2
          go_upto_region 15 with (go_at_call 72; refine (implEntry_any k at' HC2.out HAT.out t1 (by omega) hcN (by omega)).mono ?_; intro e2 w2 h2; obtain ⟨b, nm, f, l, us, de, hb0, he0, rfl, hb2, n8, f8, l8, hbf⟩ := entOut_parts h2)
          have hek : entK n z u3 k = ⟨nm, f, l, us, de⟩ := by unfold entK; rw [← HD.out, HAT.out, he0]
          rw [hek] at HNX hde
          dsimp only at HNX hde
          have HEK := Lib.hid hek
          rw [← HD.out, HAT.out] at HNX
          have hal := hb2.alloc hb2.size (.cells #[.string nm, .int .i64 f, .int .i64 l, .bool us, .bool de] 82)
          have RE := Lib.hid (Rw.new w2 82 #[.string nm, .int .i64 f, .int .i64 l, .bool us, .bool de])
          have HC3 := Lib.hid (HC2.out.below hal)
          have HM3 := Lib.hid (HMS.out.below hal)
          have HG3 := Lib.hid (only_trans HG2.out (only_below hal (Nat.le_refl _) (some g)))
          have hq1 : g < w2.heap.size := Nat.lt_of_lt_of_le HC2.out.row.lt hb2.size
          have hq2 : p < w2.heap.size := Nat.lt_of_lt_of_le HC2.out.plt hb2.size
          have hq3 : mb < w2.heap.size := Nat.lt_of_lt_of_le HMS.out.lt hb2.size
          have hq4 : w.heap.size ≤ w2.heap.size := Nat.le_trans HG2.out.size hb2.size
          obtain ⟨qe, hqe⟩ : ∃ qe, w2.heap.size = qe := ⟨_, rfl⟩
          rw [hqe] at RE hq1 hq2 hq3 hq4
          clear hal hb0 he0 h2 hek
          generalize hWW : w2.alloc (.cells #[.string nm, .int .i64 f, .int .i64 l, .bool us, .bool de] 82) = W3 at *
          clear hWW
          rw [hqe]
          clear hqe hb2
          have q3 := RE.out.cell 3
          have q0 := RE.out.cell 0
          cases us
          · have HLX := Lib.hid (show renGo n z m u1 (k + 1) = (u3, k3) by rw [HNX.out, if_neg (fun q => by cases q.1)])
            have HN2 := Lib.hid (fun x => named_same (z := z) (nm := x) (show (entK n z u3 k).us = false by rw [HEK.out]))
            go_wp2_with fail
            go_roundw
            case rel => exact ⟨k + 1, by omega, by rw [HLX.out], by go_num, by rw [HLX.out]; exact HC3.out, by rw [HLX.out]; exact (HM3.out.mono (Nat.le_succ k)).congr HN2.out, HG3.out⟩
            case measure => simp [intOf]; omega
          · obtain rfl := hde rfl
            obtain ⟨v, hlk, hv⟩ := HLK.out _ _ _ _ HM3.out nm (by omega)
            cases v
            · have hnn : ¬ namedTo n z u3 nm k := fun h => by have := hv.2 h; cases this
              have HLX := Lib.hid (show renGo n z m u1 (k + 1) = (u3, k3) by rw [HNX.out, if_neg (fun q => hnn q.2)])
              have HN2 := Lib.hid (fun x => named_more (z := z) (nm := x) (show (entK n z u3 k).us = true by rw [HEK.out]))
              obtain ⟨W4, hrun, hms4, hg4⟩ := HST.out _ _ _ _ HM3.out (by omega) nm (by omega)
              have HMS4 := Lib.hid hms4
              have HC4 := Lib.hid (chw_grown HC3.out hg4 (by omega) (by omega))
              have HG4 := Lib.hid (only_new HG3.out hg4 hwm)
              clear hms4 hg4 hv hde
              go_wp2_with fail
              go_roundw
              case rel => exact ⟨k + 1, by omega, by rw [HLX.out], by go_num, by rw [HLX.out]; exact HC4.out, by rw [HLX.out]; exact HMS4.out.congr (fun x => by rw [HN2.out x, HEK.out]), HG4.out⟩
              case measure => simp [intOf]; omega
            · have hyn : namedTo n z u3 nm k := hv.1 rfl
              obtain ⟨x, hxN, hxs⟩ := dup_some (n := n) (z := z) (U := u3) (E := m) hE
              have HLX := Lib.hid (show renGo n z m u1 (k + 1) = (putE u3 at' x f l true false, k3 + 1) by rw [HNX.out, if_pos ⟨rfl, hyn⟩]; unfold dupN; rw [hxs]; rfl)
              have hnp := fun y => named_put (n := n) (z := z) (k := k) (u := u3) (x := y) hxN f8 l8
              rw [← HD.out, HAT.out] at hnp
              have HNP := Lib.hid hnp
              have hx8 := hxN.hi
              have HSP := Lib.hid (implSpare_any DUP (by decide) HC3.out hN hcN hE HD.out HFIT.out)
              have HXS := Lib.hid hxs
              have HPE := Lib.hid (fun W => implPut_any x f l true false hx8 f8 l8 W)
              unfold entV at HPE
              unfold putE at HLX HNP
              obtain ⟨V, hV⟩ : ∃ V, entB x f l true false = V := ⟨_, rfl⟩
              rw [hV] at HPE HLX HNP
              clear hv hde hyn hxN hxs hnp hV
              go_upto_region 18 with (go_at_call 62; refine HSP.out.mono ?_; intro r w5 h5; obtain rfl := h5.1 x HXS.out; have hb5 := h5.2.2; have hr5 := RE.out.below hb5 RE.out.lt; have y0 := hr5.cell 0; have yf0 := hr5.frozen 0)
              have HC5 := HC3.out.below hb5
              have HM5 := HM3.out.below hb5
              have HG5 := only_trans HG3.out (only_below hb5 (Nat.le_refl _) (some g))
              have HC6 := Lib.hid (chw_far HC5 (q := qe) (by omega) (by omega) 0 (.string x))
              have hr6 := hr5.set 0 (.string x)
              have HM6 := Lib.hid (HM5.grown (only_setCell (g := qe) (p := ⟨qe, 0, none⟩) (only_refl _ _) (.inl rfl) (.string x)) (fun e => by injection e with e; omega))
              have HG6 := Lib.hid (only_setCell (p := ⟨qe, 0, none⟩) HG5 (.inr hq4) (.string x))
              have hr7 : Rw (w5.setCell ⟨qe, 0, none⟩ (.string x)) qe 82 #[.string x, .int .i64 f, .int .i64 l, .bool true, .bool false] := by simpa using hr6
              clear h5 hb5 hr5 y0 yf0 HC5 HM5 HG5 hr6 q0 q3 hlk
              generalize w5.setCell ⟨qe, 0, none⟩ (.string x) = W6 at *
              have zz0 := hr7.cell 0; have zz1 := hr7.cell 1; have zz2 := hr7.cell 2; have zz3 := hr7.cell 3; have zz4 := hr7.cell 4
              have HR7 := Lib.hid hr7
              clear hr7
              go_cut [] (fun wx => Rw wx qe 82 #[.string x, .int .i64 f, .int .i64 l, .bool true, .bool false] ∧ ChW wx p g n z m d t N c (putU u3 at' ((List.range 12).map V)) ∧ NSet Tryz.prog 9 4 wx mb k (fun y => namedTo n z u3 y k) ∧ w.grownBy wx (some g))
              case first =>
                go_region_law (first
                  | (go_simp; go_at_call 63; refine (implEntryBytes_any k at' HC6.out.drew HAT.out t1 (by omega) hcN (by omega)).mono ?_; rintro e8 w8 ⟨rfl, rfl⟩)
                  | (go_simp; go_at_call 64; refine (HPE.out _).mono ?_; rintro e9 w9 ⟨g2, rfl, hb9, hg2, hbb9⟩; have HC9 := HC6.out.drew.drew.below hbb9)
                  | (refine step_copy_bytes rfl (.tmp 65) (.tmp 67) 63 63 rfl 5 Tryz.underlying63 size8 g at' 12 (c - at') (by rfl) g2 12 12 V (by rfl) (by omega) hb9 (fun j hj => by rw [HC9.row.cell (by omega)]; rfl) (fun j hj => HC9.row.frozen (by omega)) ?_))
                all_goals
                  have HC10 := Lib.hid (HC9.puts at' ((List.range 12).map V))
                  have hB10 := (only_below hbb9 (Nat.le_refl _) (some g))
                  have HG10 := Lib.hid (fun LL : List Value => only_setCells LL at' _ (only_trans (only_drew (only_drew HG6.out)) hB10))
                  have HR9 := (HR7.out.drew.drew.below hbb9 HR7.out.drew.drew.lt)
                  have HR10 := Lib.hid (fun LL : List Value => rw_grown HR9 (only_setCells LL at' w9 (only_refl w9 (some g))) (.inr (fun e => by injection e with e; omega)))
                  have HM9 := HM6.out.drew.drew.below hbb9
                  have HM10 := Lib.hid (fun LL : List Value => HM9.grown (only_setCells LL at' w9 (only_refl w9 (some g))) hgm')
                  go_wp2_with fail
                  go_meet
                  exact ⟨HR10.out _, HC10.out, HM10.out _, HG10.out _⟩
              case rest =>
              obtain ⟨hr8, hc8, hm8, hg8⟩ := hcut
              have v0 := hr8.cell 0
              obtain ⟨W9, hrun, hms9, hg9⟩ := HST.out _ _ _ _ hm8 (by omega) x (by omega)
              have HMS9 := Lib.hid hms9
              have HC9 := Lib.hid (chw_grown hc8 hg9 (by omega) (by omega))
              have HG9 := Lib.hid (only_new hg8 hg9 hwm)
              clear zz0 zz1 zz2 zz3 zz4 hr8 hc8 hm8 hg8 hms9 hg9
              go_wp2_with fail
              go_roundw
              case rel => exact ⟨k + 1, by omega, by rw [HLX.out]; go_num, by go_num, by rw [HLX.out]; exact HC9.out, by rw [HLX.out]; exact HMS9.out.congr (fun y => (HNP.out y).symm), HG9.out⟩
              case measure => simp [intOf]; omega
        · obtain rfl : k = m := by omega
          clear hc2 hg2 hms c2
          go_wp2_with fail
          go_ret2
          rw [HS1.out]
          exact ⟨rfl, HC2.out, HG2.out⟩
end Go.Proofs.YtapkckpjeoedaaaGreatDoor
