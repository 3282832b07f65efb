/-
  Disks of chains: the lost blocks in chains, the program's side.
-/
import Derived.Test.YtapkckpjeoedaaaGreatDoorLcP
import Derived.Test.YtapkckpjeoedaaaGreatDoorWalksS
import Derived.Deep.CutBlock
namespace Go.Proofs.YtapkckpjeoedaaaGreatDoor
open Go Go.ChangeShapes Go.WideShapes Go.ChangeAt Go.RowKit lib
set_option linter.unusedVariables false
set_option maxRecDepth 100000
theorem getD_memL {L : List Nat} {i : Nat} (h : i < L.length) : L.getD i 0 ∈ L := by
  rw [List.getD_eq_getElem?_getD, List.getElem?_eq_getElem h]; exact List.getElem_mem _
theorem mem_getD {L : List Nat} {x : Nat} (h : x ∈ L) : ∃ j, j < L.length ∧ L.getD j 0 = x := by
  obtain ⟨j, hj, hx⟩ := List.getElem_of_mem h
  exact ⟨j, hj, by rw [List.getD_eq_getElem?_getD, List.getElem?_eq_getElem hj, hx]; rfl⟩
theorem infoL64 : (Tryz.prog.info? 74).map (fun i => (i.zero, i.size, i.bytes)) = some (some (.slice none 0 0), 1, 24) := by kernel_rfl
/-- behind some of the two passes -/
noncomputable def sB (L : List Nat) (lk : Nat → Nat) : Nat → List Nat × List (List Nat)
  | 0 => ([], [])
  | j + 1 => passC L lk (decide (j = 1)) (sB L lk j) L.length
theorem sB_ok {n : Nat} {L : List Nat} {lk : Nat → Nat} (hL : ∀ x, x ∈ L → x < n) : ∀ j, UseOk n L (sB L lk j)
  | 0 => UseOk.nil n L
  | j + 1 => by rw [sB]; exact (sB_ok hL j).pass hL _ (Nat.le_refl _)
open Classical in
set_option maxHeartbeats 4000000 in
theorem implLostChains_any {w : World} {p g n z E d t N c : Nat} {u : Nat → UInt8} (h : ChW w p g n z E d t N c u) (hn : n ≤ 128) (hNz : z + n ≤ N) (hN : N ≤ 4096) (hcN : N ≤ c) (hE : E ≤ 16) (hd : d = dirN n z) (ht : t ≤ n) (hfit : ∀ k, k < E → d * z + k * 12 + 12 ≤ N) (hLn : ∀ x, x ∈ lostN (ownsN n z t u E) u z t (n - t) → x < n) (hLl : (lostN (ownsN n z t u E) u z t (n - t)).length ≤ 128) :
    Calls Tryz.prog 58 #[.pointer (some ⟨p, 0, none⟩)] w fun r w' => ∃ A c, r = .returned (.slice A (chainsC (lostN (ownsN n z t u E) u z t (n - t)) (lkN z u)).length c) ∧ OL w.heap.size (fun o => o < w'.heap.size) w' A c (chainsC (lostN (ownsN n z t u E) u z t (n - t)) (lkN z u)) ∧ Below w.heap.size w w' := by
  have HLO := Lib.hid (implLost_any h hn hNz hN hcN hE hd ht hfit)
  have HH := Lib.hid h
  obtain ⟨L, hL⟩ : ∃ L, lostN (ownsN n z t u E) u z t (n - t) = L := ⟨_, rfl⟩
  rw [hL] at HLO hLn hLl ⊢
  obtain ⟨lk, hlk⟩ : ∃ lk, lkN z u = lk := ⟨_, rfl⟩
  have hlk2 : ∀ a, (u (z + a)).toNat = lk a := fun a => by rw [← hlk]; rfl
  have hlk3 : ∀ a, lk a < 256 := fun a => by rw [← hlk2 a]; exact UInt8.toNat_lt _
  rw [hlk]
  have HLN := Lib.hid hLn
  have HLK := Lib.hid hlk2
  have HL3 := Lib.hid hlk3
  have HEND := Lib.hid (show chainsC L lk = (passC L lk true (passC L lk false ([], []) L.length) L.length).2 from rfl)
  have HP0 := Lib.hid (UseOk.nil n L)
  have hmm := @run_makeMap Tryz.prog
  have HZB : Hid (∀ W : World, (zeroValue 4).run Tryz.prog W = .ok (.bool false) W) := Lib.hid (fun W => by rfl)
  have HST := Lib.hid (fun (W : World) (b cnt : Nat) (Q : Nat → Prop) (hW : ISet Tryz.prog 2 4 W b cnt Q) (hc : cnt ≤ 100000) (x : Nat) (hx : x < 1000) (v : Bool) => hW.store (t := 134) Tryz.underlying2 Tryz.underlying134 Tryz.underlying4 (by simp only [maxLen]; omega) x hx v)
  have HLQ := Lib.hid (fun (W : World) (b cnt : Nat) (Q : Nat → Prop) (hW : ISet Tryz.prog 2 4 W b cnt Q) (x : Nat) (hx : x < 1000) => hW.look (t := 134) Tryz.underlying2 Tryz.underlying134 Tryz.underlying4 (HZB.out W) x hx)
  clear h hfit hd hL hlk hLn hlk2 hlk3
  go_enter Tryz.func58, Tryz.ntmps58
  go_upto_region 2 with (go_at_call 99; refine HLO.out.mono ?_; rintro r w1 ⟨Al, cl, rfl, hi1, hb1⟩)
  have HI1 := Lib.hid hi1
  have HB1 := Lib.hid hb1
  have HM1 := Lib.hid (ISet.made (P := Tryz.prog) (k := 2) (e := 4) w1)
  have hal1 := (Below.refl w1.heap.size w1).alloc (Nat.le_refl _) (.map #[] 0)
  have HA1 := Lib.hid hal1
  have hz1 := hb1.size
  obtain ⟨ma, hma⟩ : ∃ ma, w1.heap.size = ma := ⟨_, rfl⟩
  have hs1 : (w1.alloc (.map #[] 0)).heap.size = ma + 1 := by rw [← hma]; simp
  rw [hma] at HM1 hz1
  clear hi1 hb1 hal1
  go_upto_region 3 with fail
  generalize w1.alloc (.map #[] 0) = W1 at *
  have HM2 := Lib.hid (ISet.made (P := Tryz.prog) (k := 2) (e := 4) W1)
  have hal2 := (Below.refl W1.heap.size W1).alloc (Nat.le_refl _) (.map #[] 0)
  have HMA := Lib.hid (HM1.out.below hal2)
  have HA2 := Lib.hid (HA1.out.trans (hal2.mono HA1.out.size))
  rw [hs1] at HM2
  clear hal2
  go_upto_region 4 with fail
  generalize W1.alloc (.map #[] 0) = W2 at *
  have HB2 := Lib.hid (HB1.out.trans (HA2.out.mono (by omega)))
  have HI2 := Lib.hid (HI1.out.below HA2.out)
  have hzm : ma + 1 < W2.heap.size := HM2.out.lt
  have hgw := HH.out.row.lt
  have hpw := HH.out.plt
  have HLB := Lib.hid (fun o (ho : (Value.slice Al L.length cl).ownBlock = some o) => (show o < ma by rw [← hma]; exact own_ltW HI1.out o ho))
  have HNA := Lib.hid (show (Value.slice Al L.length cl).ownBlock = none ∨ some ma ≠ (Value.slice Al L.length cl).ownBlock by
    cases hv : (Value.slice Al L.length cl).ownBlock with
    | none => exact .inl rfl
    | some q => exact .inr fun e => by injection e with e; have := HLB.out q hv; omega)
  have HNB := Lib.hid (show (Value.slice Al L.length cl).ownBlock = none ∨ some (ma + 1) ≠ (Value.slice Al L.length cl).ownBlock by
    cases hv : (Value.slice Al L.length cl).ownBlock with
    | none => exact .inl rfl
    | some q => exact .inr fun e => by injection e with e; have := HLB.out q hv; omega)
  have HSA := Lib.hid HMA.out
  have hwma : w.heap.size ≤ ma := hz1
  clear hma hs1 HM1 HA1 HA2 HI1 HB1
  go_upto_block 0 with fail
  go_cut [] (fun wx => ISet Tryz.prog 2 4 wx ma 128 (fun x => x ∈ L) ∧ ISet Tryz.prog 2 4 wx (ma + 1) 128 (fun x => ledN L lk x L.length) ∧ IntsR w.heap.size wx Al cl L ∧ Below w.heap.size w wx)
  case first =>
    go_wp2_with fail
    go_loopw [21] (fun s21 wr => ∃ k : Nat, k ≤ L.length ∧ s21 = .int .i64 k ∧ ISet Tryz.prog 2 4 wr ma k (fun x => ∃ j, j < k ∧ L.getD j 0 = x) ∧ ISet Tryz.prog 2 4 wr (ma + 1) k (fun x => ledN L lk x k) ∧ IntsR w.heap.size wr Al cl L ∧ Below w.heap.size w wr) (fun s _ => L.length - (intOf s).toNat)
    case atStart => exact ⟨0, by omega, rfl, (HSA.out.below (Below.refl _ _)).congr (fun x => ⟨fun q => q.elim, fun ⟨j, hj, _⟩ => absurd hj (by omega)⟩), HM2.out.congr (fun x => ⟨fun q => q.elim, fun ⟨j, hj, _⟩ => absurd hj (by omega)⟩), HI2.out, HB2.out⟩
    case round =>
      obtain ⟨k, hk, rfl, hma, hmb, hil, hb⟩ := hrel
      have HIL := Lib.hid hil
      have HB := Lib.hid hb
      by_cases hlt : k < L.length
      · obtain ⟨q, o, rfl, hq, hcc⟩ := hil.sl k hlt
        dsimp only at hcc
        have hxn := HLN.out _ (getD_memL hlt)
        obtain ⟨x, hx⟩ : ∃ x, L.getD k 0 = x := ⟨_, rfl⟩
        rw [hx] at hcc hxn
        obtain ⟨Wa, hra, hsa, hga⟩ := HST.out _ _ _ _ hma (by omega) x (by omega) true
        have HBa := Lib.hid (hb.grown hga hb.size (fun j hj => by injection hj; omega))
        have hCa := HH.out.below HBa.out
        have HCA := Lib.hid hCa
        have gc := hCa.row.cell (i := z + x) (by omega)
        rw [HLK.out x] at gc
        have hmb1 := hmb.grown hga (fun e => by injection e with e; omega)
        obtain ⟨Wb, hrb, hsb, hgb⟩ := HST.out Wa.drew (ma + 1) _ _ hmb1.drew (by omega) (lk x) (by have := HL3.out x; omega) true
        have HSA2 := Lib.hid (hsa.drew.grown hgb (fun e => by injection e with e; omega))
        have HSB2 := Lib.hid hsb
        have HBb := Lib.hid (HBa.out.drew.grown hgb HBa.out.size (fun j hj => by injection hj; omega))
        have HILb := Lib.hid ((HIL.out.grown hga HNA.out).drew.grown hgb HNB.out)
        have HX := Lib.hid hx
        clear hma hmb hil hb hsa hga hmb1 hsb hgb hCa hx
        have hw64 : wrap64 ((lk x : Nat) : Int) = (lk x : Int) := by have := HL3.out x; unfold wrap64; omega
        go_wp2_with (go_at_call 65; refine (implLink_any x HCA.out (by omega) (by omega)).mono ?_; rintro e3 w4 ⟨rfl, rfl⟩)
        go_roundw
        case rel =>
          refine ⟨k + 1, by omega, by go_num, HSA2.out.congr (fun y => ?_), HSB2.out.congr (fun y => ?_), HILb.out, HBb.out⟩
          · by_cases e : y = x
            · subst e; simp only [if_pos]; exact ⟨fun _ => ⟨k, by omega, HX.out⟩, fun _ => trivial⟩
            · simp only [if_neg e]; exact ⟨fun ⟨j, hj, h⟩ => ⟨j, by omega, h⟩, fun ⟨j, hj, h⟩ => ⟨j, by rcases Nat.lt_or_ge j k with h2 | h2; exact h2; obtain rfl : j = k := (by omega); exact absurd (h.symm.trans HX.out) e, h⟩⟩
          · by_cases e : y = lk x
            · subst e; simp only [if_pos]; exact ⟨fun _ => ⟨k, by omega, by rw [HX.out]⟩, fun _ => trivial⟩
            · simp only [if_neg e]; exact ⟨fun ⟨j, hj, h⟩ => ⟨j, by omega, h⟩, fun ⟨j, hj, h⟩ => ⟨j, by rcases Nat.lt_or_ge j k with h2 | h2; exact h2; obtain rfl : j = k := (by omega); exact absurd (h.symm.trans (by rw [HX.out])) e, h⟩⟩
        case measure => simp [intOf]; omega
      · obtain rfl : k = L.length := by omega
        have HMA3 := Lib.hid ((hma.mono hLl).congr (fun x => ⟨fun ⟨j, hj, h⟩ => h ▸ getD_memL hj, fun h => mem_getD h⟩))
        have HMB3 := Lib.hid (hmb.mono hLl)
        clear hma hmb hil hb
        go_wp2_with fail
        go_meet
        exact ⟨HMA3.out, HMB3.out, HIL.out, HB.out⟩
  case rest =>
  obtain ⟨hma3, hmb3, hil3, hb3⟩ := hcut
  have HMA3 := Lib.hid hma3
  have HMB3 := Lib.hid hmb3
  have HIL3 := Lib.hid hil3
  have HB3 := Lib.hid hb3
  have hz3 := hb3.size
  have hzm3 := hmb3.lt
  have hro := Rw.new wc 4 #[.bool false, .bool true]
  have hal := (Below.refl wc.heap.size wc).alloc (Nat.le_refl _) (.cells #[.bool false, .bool true] 4)
  have HC0 : Hid (StC Tryz.prog 2 4 n w (wc.alloc (.cells #[.bool false, .bool true] 4)) ma wc.heap.size L lk Al cl wc.heap.size none 0 []) := Lib.hid ⟨OL.nil _ _ _, hmb3.below hal, hil3.below hal, hb3.alloc hz3 _, hro, by omega, hwma, HLB.out, by simp, by omega⟩
  have HMA0 := Lib.hid ((hma3.below hal).congr (Q' := fun x => x ∈ L ∧ x ∉ (sB L lk 0).1) (fun x => ⟨fun h => ⟨h, by simp [sB]⟩, fun h => h.1⟩))
  obtain ⟨q, hq⟩ : ∃ q, wc.heap.size = q := ⟨_, rfl⟩
  rw [hq] at HC0
  have HQ := Lib.hid hq
  clear hma3 hmb3 hil3 hb3 HM2 HMA HSA HB2 HI2 hro hal HMA3 HMB3 HIL3 HB3
  go_upto_region 12 with fail
  clear hq HQ
  generalize wc.alloc (.cells #[.bool false, .bool true] 4) = W3 at *
  go_loopw [8, 37] (fun s8 s37 wr => ∃ (ps : Nat) (A : Option Addr) (c H : Nat), ps ≤ 2 ∧ s37 = .int .i64 ps ∧ s8 = .slice A (sB L lk ps).2.length c ∧ StC Tryz.prog 2 4 n w wr ma q L lk Al cl H A c (sB L lk ps).2 ∧ ISet Tryz.prog 2 4 wr ma (128 + (sB L lk ps).1.length) (fun x => x ∈ L ∧ x ∉ (sB L lk ps).1)) (fun _ s _ => 2 - (intOf s).toNat)
  case atStart => exact ⟨0, none, 0, q, by omega, rfl, rfl, HC0.out, HMA0.out.mono (by simp)⟩
  case round =>
    obtain ⟨ps, A, c, H, hps, rfl, rfl, hst, hma⟩ := hrel
    have HST0 := Lib.hid hst
    have HMA0 := Lib.hid hma
    have hU := sB_ok (lk := lk) HLN.out ps
    have HU0 := Lib.hid hU
    by_cases hlt : ps < 2
    · have gc : wr.cell? ⟨q, ps, none⟩ = some (.bool (decide (ps = 1))) := by
        rcases (show ps = 0 ∨ ps = 1 by omega) with rfl | rfl
        · exact hst.ro.cell 0
        · exact hst.ro.cell 1
      obtain ⟨rest, hrest⟩ : ∃ rest, decide (ps = 1) = rest := ⟨_, rfl⟩
      rw [hrest] at gc
      obtain ⟨S0, hS0⟩ : ∃ S0, sB L lk ps = S0 := ⟨_, rfl⟩
      have HS1 := Lib.hid (show sB L lk (ps + 1) = passC L lk rest S0 L.length by rw [sB, hrest, hS0])
      rw [hS0] at HST0 HMA0 HU0
      clear hst hma hU hrest
      rw [hS0]
      clear hS0
      go_upto_region 15 with fail
      go_loopw [8, 43] (fun s8 s43 wr => ∃ (i : Nat) (A : Option Addr) (c H : Nat), i ≤ L.length ∧ s43 = .int .i64 i ∧ s8 = .slice A (passC L lk rest S0 i).2.length c ∧ StC Tryz.prog 2 4 n w wr ma q L lk Al cl H A c (passC L lk rest S0 i).2 ∧ ISet Tryz.prog 2 4 wr ma (128 + (passC L lk rest S0 i).1.length) (fun x => x ∈ L ∧ x ∉ (passC L lk rest S0 i).1)) (fun _ s _ => L.length - (intOf s).toNat)
      case atStart => exact ⟨0, A, c, H, by omega, rfl, rfl, HST0.out, HMA0.out⟩
      case round =>
        obtain ⟨i, A, c, H, hi, rfl, rfl, hst, hma⟩ := hrel
        have HST1 := Lib.hid hst
        have HMA1 := Lib.hid hma
        have HU1 := Lib.hid (HU0.out.pass (lk := lk) (rest := rest) HLN.out i hi)
        obtain ⟨S, hS⟩ : ∃ S, passC L lk rest S0 i = S := ⟨_, rfl⟩
        rw [hS] at hst hma HST1 HMA1 HU1
        rw [hS]
        have HS := Lib.hid hS
        by_cases hli : i < L.length
        · obtain ⟨qi, oi, rfl, hqi, hci⟩ := hst.li.sl i hli
          dsimp only at hci
          have hbx := getD_memL hli
          have hxn := HLN.out _ hbx
          obtain ⟨x, hx⟩ : ∃ x, L.getD i 0 = x := ⟨_, rfl⟩
          rw [hx] at hci hbx hxn
          have HBX := Lib.hid hbx
          have HX := Lib.hid (show passC L lk rest S0 (i + 1) = stepC L lk rest x S by rw [passC, hx, hS])
          obtain ⟨v1, hl1, hv1⟩ := HLQ.out _ _ _ _ hma x (by omega)
          obtain ⟨v2, hl2, hv2⟩ := HLQ.out _ _ _ _ hst.le x (by omega)
          have HSK := Lib.hid (show ((!v1 || (!rest && v2)) = true) ↔ (x ∈ S.1 ∨ (rest = false ∧ ledN L lk x L.length)) by
            cases v1 <;> cases v2 <;> cases rest <;> simp_all)
          obtain ⟨sk, hsk⟩ : ∃ sk, (!v1 || (!rest && v2)) = sk := ⟨_, rfl⟩
          rw [hsk] at HSK
          clear hst hma hx hS hbx hv1 hv2
          go_upto_region 17 with fail
          rw [show decide ((ps : Int) < 2) = true by simp; omega]
          have HLT := Lib.hid hlt
          have HLI := Lib.hid hli
          clear hlt hli
          go_cut [59] (fun s59 wx => s59 = .bool sk ∧ wx = wr)
          case first =>
            have hsk' := hsk
            cases v1 with
            | false =>
              clear hsk
              go_wp2_with fail
              go_meet
              exact ⟨by rw [← hsk']; rfl, rfl⟩
            | true =>
              cases rest with
              | true =>
                clear hsk
                go_wp2_with fail
                go_meet
                exact ⟨by rw [← hsk']; rfl, rfl⟩
              | false =>
                clear hsk
                go_wp2_with fail
                go_meet
                exact ⟨by rw [← hsk']; rfl, rfl⟩
          case rest =>
            obtain ⟨rfl, rfl⟩ := hcut
            clear hl1 hl2 hsk
            cases sk with
            | true =>
              have HSN := Lib.hid (show passC L lk rest S0 (i + 1) = S by rw [HX.out]; unfold stepC; rw [if_pos (HSK.out.1 rfl)])
              have hli := HLI.out
              go_wp2_with fail
              go_roundw
              case rel => exact ⟨.slice A S.2.length c, _, _, _, .int .i64 ((i + 1 : Nat) : Int), ⟨i + 1, by omega, rfl, A, c, by rw [HSN.out], ⟨H, by rw [HSN.out]; exact HST1.out⟩, by rw [HSN.out]; exact HMA1.out⟩, rfl, rfl, rfl, rfl, by go_num⟩
              case measure => simp [intOf]; omega
            | false =>
              have hns : ¬ (x ∈ S.1 ∨ (rest = false ∧ ledN L lk x L.length)) := fun h => by have := HSK.out.2 h; simp at this
              have HSN := Lib.hid (show passC L lk rest S0 (i + 1) = (S.1 ++ flwA L lk S.1 x, S.2 ++ [flwA L lk S.1 x]) by rw [HX.out]; unfold stepC; rw [if_neg hns])
              have HSM := Lib.hid HST1.out.more
              have HUN := Lib.hid (HU1.out.step (lk := lk) (rest := rest) HLN.out (b := x) HBX.out)
              have hub := HU1.out.bound
              obtain ⟨Y, hY⟩ : ∃ Y, flwA L lk S.1 x = Y := ⟨_, rfl⟩
              have HFA := Lib.hid (show flw L lk S.1 129 [] x = Y from hY)
              rw [hY] at HSN
              clear hns hY HSK
              go_wp2_with fail
              go_loopg [13, 14] 130 (fun g' s13 s14 wy => ∃ (l : List Nat) (a f : Nat) (Ac : Option Addr) (cc : Nat), 130 - l.length ≤ g' ∧ f + l.length = 129 ∧ s13 = .slice Ac l.length cc ∧ s14 = .int .i64 a ∧ a < 256 ∧ flw L lk S.1 f l a = Y ∧ FlwOk n L S.1 l ∧
                IntsR wc.heap.size wy Ac cc l ∧ wc.grownBy wy (some ma) ∧ ISet Tryz.prog 2 4 wy ma (128 + S.1.length + l.length) (fun y => y ∈ L ∧ y ∉ S.1 ∧ y ∉ l))
              case atStart => exact ⟨[], x, 129, none, 0, by simp, rfl, rfl, rfl, by omega, HFA.out, FlwOk.nil n L S.1, World.ownsRow_nil _ _ _ _, only_refl _ _, HMA1.out.congr (fun y => by simp)⟩
              case round =>
                obtain ⟨l, a, f, Ac, cc, hg', hfl, rfl, rfl, ha, hfy, hok, hil, hgr, hma⟩ := hrel
                have hll := hok.len
                have HFY := Lib.hid hfy
                have HOK := Lib.hid hok
                have HIL := Lib.hid hil
                have HGR := Lib.hid hgr
                have HSY := Lib.hid (HSM.out.grown hgr (fun o e => .inl (by injection e with e; exact e.symm)))
                obtain ⟨v, hlv, hv⟩ := HLQ.out _ _ _ _ hma a (by omega)
                have HMA2 := Lib.hid hma
                have hzy := hgr.size
                have HV := Lib.hid hv
                clear hfy hok hil hgr hma hv
                have HPU : Hid (wr.ownsRow wc.heap.size 2 1 (.slice Ac l.length cc) l.length (l.map fun (i : Nat) => Value.int .i64 (i : Int))) := Lib.hid HIL.out
                cases v with
                | true =>
                  have HHIT := Lib.hid (HV.out.1 rfl)
                  have hlen1 : l.length < n := by have := (HOK.out.snoc HLN.out HHIT.out).len; simp at this; omega
                  obtain ⟨f', rfl⟩ : ∃ f', f = f' + 1 := ⟨f - 1, by omega⟩
                  have HFN := Lib.hid ((flw_hit (lk := lk) (f := f') HHIT.out).symm.trans HFY.out)
                  have HON := Lib.hid (HOK.out.snoc HLN.out HHIT.out)
                  have han := HLN.out _ HHIT.out.1
                  have hw64 : wrap64 ((lk a : Nat) : Int) = (lk a : Int) := by have := HL3.out a; unfold wrap64; omega
                  go_upto_region 22 with fail
                  go_upto_region 23 with (at_builtin; refine wpList_pushG (.tmp 70) (.tmp 72) 74 wc.heap.size 2 (.int .i64 0) _ 8 _ l.length _ HPU.out rfl rfl Tryz.underlying74 infoI64 rfl rfl rfl rfl rfl (by omega) (by omega) hzy ?_; intro A' c2 w3 ho3 hg3)
                  have hmw : ma + 2 ≤ wc.heap.size := HSM.out.mh
                  have hi3 := intsR_snoc ho3
                  have hma3 := HMA2.out.grown hg3 (fun e => by have := own_lt HPU.out _ e.symm; omega)
                  obtain ⟨w5, hr5, hs5, hg5⟩ := HST.out w3 ma _ _ hma3 (by omega) a (by omega) false
                  have hgr5 := only_trans (only_far HGR.out hg3 (fun o e => own_lt HPU.out o e)) hg5
                  have HGR5 := Lib.hid hgr5
                  have HS5 := Lib.hid (hs5.congr (Q' := fun y => y ∈ L ∧ y ∉ S.1 ∧ y ∉ l ++ [a]) (fun y => by
                    by_cases e : y = a
                    · subst e; simp
                    · simp [e]))
                  have HI5 := Lib.hid (hi3.grown hg5 (own_not hi3 (show ma < wc.heap.size by omega)))
                  have hC5 := HH.out.below (HSM.out.grown hgr5 (fun o e => .inl (by injection e with e; exact e.symm))).be
                  have gc5 := hC5.row.cell (i := z + a) (by omega)
                  rw [HLK.out a] at gc5
                  have hC6 := Lib.hid hC5
                  clear hi3 hma3 hs5 hg5 hgr5 ho3 hg3 hlv gc
                  go_wp2_with (go_at_call 65; refine (implLink_any a hC6.out (by omega) (by omega)).mono ?_; rintro e6 w6 ⟨rfl, rfl⟩)
                  go_roundg (130 - (l ++ [a]).length)
                  case measure => simp; omega
                  case rel => exact ⟨l ++ [a], lk a, f', some A', c2, Nat.le_refl _, by simp; omega, by simp, by rw [hw64], HL3.out a, HFN.out, HON.out, HI5.out.drew, only_drew HGR5.out, by simpa [Nat.add_assoc] using HS5.out.drew⟩
                | false =>
                  have HEQ := Lib.hid (show l = Y by rw [← HFY.out, flw_stop (fun h => by have := HV.out.2 h; simp at this)])
                  obtain rfl := HEQ.out
                  obtain ⟨xs0, hx0⟩ := HSY.out.ol.row
                  have HX0 := Lib.hid hx0
                  have hmo := HSM.out.mh
                  have hli := HLI.out
                  clear hx0 gc
                  go_upto_region 25 with (at_builtin; refine wpList_pushG (.tmp 76) (.tmp 78) 69 (ma + 2) 74 (.slice none 0 0) _ 24 _ S.2.length _ HX0.out rfl rfl Tryz.underlying69 infoL64 rfl rfl rfl rfl rfl (by omega) (by omega) (by omega) ?_; intro A' c2 w3 ho3 hg3)
                  have HS3 := Lib.hid (HSY.out.push HIL.out HX0.out ho3 hg3)
                  have HM3 := Lib.hid ((HMA2.out.grown hg3 (fun e => by have := own_lt HX0.out _ e.symm; omega)).congr (Q' := fun y => y ∈ L ∧ y ∉ S.1 ++ l) (fun y => by simp))
                  clear ho3 hg3 hlv
                  go_wp2_with fail
                  go_roundw
                  case rel => exact ⟨.slice (some A') (S.2.length + 1) c2, _, _, _, .int .i64 ((i + 1 : Nat) : Int), ⟨i + 1, by omega, rfl, some A', c2, by rw [HSN.out]; simp, ⟨w3.heap.size, by rw [HSN.out]; exact HS3.out⟩, by rw [HSN.out]; simpa [Nat.add_assoc] using HM3.out⟩, rfl, rfl, rfl, rfl, by go_num⟩
                  case measure => simp [intOf]; omega
        · obtain rfl : i = L.length := by omega
          have hps1 := hlt
          clear hst hma
          go_wp2_with fail
          go_roundw
          case rel => exact ⟨ps + 1, A, c, H, by omega, by go_num, by rw [HS1.out, HS.out], by rw [HS1.out, HS.out]; exact HST1.out, by rw [HS1.out, HS.out]; exact HMA1.out⟩
          case measure => simp [intOf]; omega
    · obtain rfl : ps = 2 := by omega
      clear hst hma hU
      go_wp2_with fail
      go_ret
      have hcc : chainsC L lk = (sB L lk 2).2 := rfl
      rw [hcc]
      exact ⟨A, c, rfl, (HST0.out.ol.more (fun o ho => Nat.lt_of_lt_of_le ho HST0.out.hh)).base (by omega), HST0.out.be⟩
end Go.Proofs.YtapkckpjeoedaaaGreatDoor
