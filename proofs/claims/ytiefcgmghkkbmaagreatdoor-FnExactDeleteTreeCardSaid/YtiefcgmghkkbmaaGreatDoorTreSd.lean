/-
  Trees: the reference's walk: a directory visited.
-/
import Derived.Test.YtiefcgmghkkbmaaGreatDoorTreSt
import Derived.Test.YtiefcgmghkkbmaaGreatDoorTreDi
import Derived.Deep.DeepCutAuto
import Derived.StillTailTactics
namespace Go.Proofs.YtiefcgmghkkbmaaGreatDoor
open Go Go.ChangeShapes Go.WideShapes Go.ChangeAt Go.RowKit lib
set_option linter.unusedVariables false
set_option linter.unusedSimpArgs false
set_option maxRecDepth 100000
theorem Kp.sub {T T' : List Nat} {m B : Nat} {w w' : World} (h : Kp T m B w w') (hs : ∀ t, t ∈ T → t ∈ T') : Kp T' m B w w' :=
  ⟨h.os, h.tape, h.output, h.size, fun i hi hq => h.block i hi (by
    rcases hq with h1 | h1
    · exact .inl h1
    · refine .inr ?_
      unfold kpOk at h1 ⊢
      rcases h1 with ⟨cs, t, fr, e1, e2⟩ | h1
      · exact .inl ⟨cs, t, fr, e1, fun q => e2 (hs t q)⟩
      · exact .inr h1)⟩
theorem tLook_it {n : Nat} {u : Nat → Nat → UInt8} {S : TS} {b : Nat} : (tLook n u S b).1.it = S.it := by
  unfold tLook
  split
  · rfl
  · split <;> rfl
theorem skFT {m B : Nat} {w w' : World} (h : Kp skF m B w w') : Kp skT m B w w' := h.sub (by decide)
theorem SkW.box {w : World} {q n B gs cd L bt i : Nat} {Ad A2 : Option Addr} {c2 : Nat} {s : Nat → ByteArray} {S : TS} {xs : List Value} {cs : Array Value} (h : SkW w q n B gs Ad cd s S L xs) (hr : Rw w bt 61 cs) (hB : B ≤ bt) (h1 : w.cell? ⟨q, 2, none⟩ = some (.slice A2 L c2)) (h2 : ∀ j, (Value.slice A2 L c2).ownBlock = some j → j < bt) (v : Value) :
    SkW (w.setCell ⟨bt, i, none⟩ v) q n B gs Ad cd s S L xs ∧ Kp skT 0 B w (w.setCell ⟨bt, i, none⟩ v) ∧ (w.setCell ⟨bt, i, none⟩ v).cell? ⟨q, 2, none⟩ = w.cell? ⟨q, 2, none⟩ := by
  have hrr : Row w bt 61 cs := ⟨(0, 0), hr, fun j _ => by omega⟩
  obtain ⟨⟨A1, c1, A2', c2', cs1, r1, r2, r3⟩, ⟨bs, h4, h5, h6⟩, h7, h8, h9, h10⟩ := h
  have e := r1.cell 2
  rw [h1] at e
  simp only [List.getElem?_toArray, List.getElem?_cons_succ, List.getElem?_cons_zero, Option.some.injEq, Value.slice.injEq, true_and] at e
  obtain ⟨rfl, rfl⟩ := e
  have hk := kpSetS (i := i) hrr v
  have hkk : Kp skT 0 B w (w.setCell ⟨bt, i, none⟩ v) := Kp.set hrr (by decide) hB v
  refine ⟨{ rows := ⟨A1, c1, A2, c2, cs1, r1.kp hk (by decide), own_farS r2 hrr (by decide) _, ?_⟩, seen := ⟨bs, h4.kp hk (by decide), h5, h6⟩, disk := h7.below (hkk.below h10), qB := h8, gB := h9, bs := Nat.le_trans h10 hkk.size }, hkk, ((r1.kp hk (by decide)).cell 2).trans (r1.cell 2).symm⟩
  refine r3.kept (only_setCell (g := bt) (only_refl _ _) (.inl rfl) v) ?_
  cases hv : (Value.slice A2 L c2).ownBlock with
  | none => exact .inl rfl
  | some j => exact .inr (fun e => by have := h2 j hv; injection e with e; omega)
def SDirOut (q n B gs : Nat) (Ad : Option Addr) (cd : Nat) (s : Nat → ByteArray) (w : World) (R : TS) (e : Ending) (w' : World) : Prop :=
  e = .returned (.tuple #[]) ∧ SkW w' q n B gs Ad cd s R R.it.length (R.it.flatMap encSI) ∧ Kp skT 0 B w w'
def SDirOk (g : Nat) : Prop := ∀ (w : World) (q n B gs cd d t : Nat) (Ad : Option Addr) (s : Nat → ByteArray) (u : Nat → Nat → UInt8) (S : TS) (path : ByteArray), u = (fun i => byteAt (s i)) → SkW w q n B gs Ad cd s S S.it.length (S.it.flatMap encSI) → n ≤ 128 → (∀ i, i < n → (s i).size = 32) → S.mu n ≤ 80000 → S.it.length + S.uns n ≤ 1000 → S.uns n < g → S.sn d = true → d < n → t ≤ 12 →
  Calls Tryz.prog 79 #[.pointer (some ⟨q, 0, none⟩), .int .i64 d, .int .i64 t] w (SDirOut q n B gs Ad cd s w (tDir n u g path d t S))
set_option maxHeartbeats 16000000 in
theorem sdir_any (g : Nat) (ih : ∀ g', g' < g → SDirOk g') : SDirOk g := by
  intro w q n B gs cd d t Ad s u S path hu h hn h32 hmu hil hfu hsd hdn ht
  have IH := Lib.hid ih
  have HUE := Lib.hid hu
  have HU := Lib.hid (fun i => show u i = byteAt (s i) by rw [hu])
  have HLK := Lib.hid (fun (W : World) (S' : TS) (L : Nat) (xs : List Value) (hW : SkW W q n B gs Ad cd s S' L xs) (b : Nat) (hb : b ≤ 255) (hp : S'.pr.length ≤ 100000) => show Calls Tryz.prog 109 #[.pointer (some ⟨q, 0, none⟩), .int .i64 b] W fun e w' => e = .returned (.bool (tLook n u S' b).2) ∧ SkW w' q n B gs Ad cd s (tLook n u S' b).1 L xs ∧ Kp skF 0 B W w' ∧ w'.cell? ⟨q, 2, none⟩ = W.cell? ⟨q, 2, none⟩ by rw [hu]; exact slook_any hW hn h32 hp hb)
  have hdir : tDir n u g path d t S = tPre n u g path d t S 8 := rfl
  rw [hdir]
  have HPL := Lib.hid (tPre_le (n := n) (u := u) (g := g) (path := path) (t := t) hsd)
  have HW0 := Lib.hid h
  have H32 := Lib.hid h32
  obtain ⟨ba, oa, hA, hbl, hca⟩ := h.disk d hdn
  subst hA
  have hdi : (d : Int) < (n : Int) := by omega
  clear h hu h32 hdir ih hca hbl
  go_enter Tryz.func79, Tryz.ntmps79
  go_wp2_with fail
  go_loopw [6] (fun s6 wr => ∃ (h : Nat), h ≤ 8 ∧ s6 = .int .i64 h ∧ SkW wr q n B gs (some ⟨ba, oa, none⟩) cd s (tPre n u g path d t S h) (tPre n u g path d t S h).it.length ((tPre n u g path d t S h).it.flatMap encSI) ∧ Kp skT 0 B w wr) (fun s _ => 8 - (intOf s).toNat)
  case atStart => exact ⟨0, by omega, rfl, HW0.out, Kp.refl _ _ _ _⟩
  case round =>
    obtain ⟨h, hh, rfl, hw, hkp⟩ := hrel
    obtain ⟨hle, hmu2⟩ := HPL.out h
    obtain ⟨Y, hY⟩ : ∃ Y, tPre n u g path d t S (h + 1) = Y := ⟨_, rfl⟩
    have hY2 := hY
    rw [tPre_succ] at hY2
    obtain ⟨SH, hSH⟩ : ∃ SH, tPre n u g path d t S h = SH := ⟨_, rfl⟩
    rw [hSH] at hw hle hmu2 hY2
    have HSH := Lib.hid hSH
    have HY := Lib.hid hY
    have HLE := Lib.hid hle
    have HW := Lib.hid hw
    have HKP := Lib.hid hkp
    have huh := hle.uns
    clear hw hkp hY hSH hle
    by_cases hlt : h < 8
    · have hli : (h : Int) < 8 := by omega
      obtain ⟨k0, cs, k1⟩ := HW.out.head
      obtain ⟨_, _, e1, _, hca⟩ := HW.out.disk d hdn
      simp only [Option.some.injEq, Addr.mk.injEq, and_true] at e1
      obtain ⟨rfl, rfl⟩ := e1
      dsimp only at hca
      have hzd := H32.out d hdn
      rw [HU.out d] at hY2
      obtain ⟨xd, hxd⟩ : ∃ x, s d = x := ⟨_, rfl⟩
      rw [hxd] at hca hzd hY2
      have hszd : ((xd.size : Nat) : Int) = 32 := by omega
      have hth : (t : Int) + (h : Int) < 32 := by omega
      have hg := byteAt_get xd (t + h) (by omega)
      obtain ⟨x, hx⟩ : ∃ x, (byteAt xd (t + h)).toNat = x := ⟨_, rfl⟩
      have hx2 : x < 256 := by rw [← hx]; exact UInt8.toNat_lt _
      rw [hx] at hY2
      have HY2 := Lib.hid hY2
      clear hxd hY2
      go_wp2_with fail
      go_loopg [7] 129 (fun g' s7 wy => ∃ (b G : Nat) (S' : TS), S'.uns n + 1 ≤ g' ∧ s7 = .int .i64 b ∧ b < 256 ∧ tChn n u G path d h b S' = Y ∧ S'.uns n < G ∧ G ≤ g ∧ TLe n d S S' ∧ S'.mu n ≤ S.mu n + h ∧ SkW wy q n B gs (some ⟨ba, oa, none⟩) cd s S' S'.it.length (S'.it.flatMap encSI) ∧ Kp skT 0 B w wy)
      case atStart => exact ⟨x, g, SH, by have := unsF_le SH.sn n; show unsF SH.sn n + 1 ≤ 129; omega, rfl, hx2, HY2.out, by omega, Nat.le_refl _, HLE.out, hmu2, HW.out, HKP.out⟩
      case round =>
        clear HY2 HLE HW HKP hmu2 huh k0 k1 hca hzd hszd hth hg hx hx2
        obtain ⟨b, G, S', hg', rfl, hb256, hch, hfu2, hGg, hle, hmu2, hw, hkp⟩ := hrel
        have HCH := Lib.hid hch
        have HLE := Lib.hid hle
        have HW := Lib.hid hw
        have HKP := Lib.hid hkp
        have huh := hle.uns
        have hsd2 := hle.sn d hsd
        have hitl := hle.itl
        have hpl : S'.pr.length ≤ 90000 := by have : S'.mu n = S'.pr.length + 20 * S'.uns n := rfl; omega
        obtain ⟨G1, rfl⟩ : ∃ G1, G = G1 + 1 := ⟨G - 1, by omega⟩
        clear hch hw hkp hle
        by_cases h0 : b = 0
        · subst h0
          have HYS := Lib.hid (show tPre n u g path d t S (h + 1) = S' from HY.out.trans (HCH.out.symm.trans tChn_end))
          go_wp2_with fail
          go_roundw
          case rel => exact ⟨h + 1, by omega, by go_num, by rw [HYS.out]; exact HW.out, HKP.out⟩
          case measure => simp [intOf]; omega
        · have tb : ((b : Int) != 0) = true := by simp; omega
          have HLO := Lib.hid (HLK.out _ _ _ _ HW.out b (by omega) (by omega))
          cases hlo : (tLook n u S' b).2 with
          | false =>
            have HYS := Lib.hid (show tPre n u g path d t S (h + 1) = (tLook n u S' b).1 from HY.out.trans (HCH.out.symm.trans ((tChn_stop h0 (by rw [tEnter_look hlo])).trans (by rw [tEnter_look hlo]))))
            have HIT := Lib.hid (tLook_it (n := n) (u := u) (S := S') (b := b))
            rw [hlo] at HLO
            clear hlo
            go_wp2_with (go_at_call 109; refine HLO.out.mono ?_; rintro e w5 ⟨rfl, hw5, hk5, hc5⟩)
            go_roundw
            case rel => exact ⟨h + 1, by omega, by go_num, by rw [HYS.out, HIT.out]; exact hw5, HKP.out.trans (skFT hk5)⟩
            case measure => simp [intOf]; omega
          | true =>
            obtain ⟨hbn, hsn, _, hS⟩ := tLook_ok hlo
            rw [hlo, hS] at HLO
            have hbi : (b : Int) < (n : Int) := by omega
            have hz32 := H32.out b hbn
            have HEY := Lib.hid (fun (p : tEnt (u b) d) => tEnter_yes (n := n) hlo p)
            have HEN := Lib.hid (fun (p : ¬ tEnt (u b) d) => tEnter_no (n := n) hlo p)
            obtain ⟨x, hx⟩ : ∃ x, s b = x := ⟨_, rfl⟩
            have HX := Lib.hid hx
            rw [hx] at hz32
            have HUB := Lib.hid (show u b = byteAt x from by rw [HU.out, HX.out])
            have hdb : d ≠ b := fun e => by rw [e] at hsd2; rw [hsn] at hsd2; cases hsd2
            have HSN := Lib.hid hsn
            clear hlo hS hx hsn
            go_upto_region 8 with (go_at_call 109; refine HLO.out.mono ?_; rintro e w5 ⟨rfl, hw5, hk5, hc5⟩; obtain ⟨k0, cs5, k1⟩ := hw5.head; obtain ⟨_, _, e1, _, hca⟩ := hw5.disk b hbn; simp only [Option.some.injEq, Addr.mk.injEq, and_true] at e1; obtain ⟨rfl, rfl⟩ := e1; dsimp only at hca; rw [HX.out] at hca)
            have HW5 := Lib.hid hw5
            have HK5 := Lib.hid (HKP.out.trans (skFT hk5))
            clear hw5 hk5 hc5 k0 k1 hca HLO
            by_cases hent : tEnt (u b) d
            · have HDE := Lib.hid (fun W => specEntry_any x d hz32 (by omega) true ⟨fun _ => by rw [← HUB.out]; exact hent, fun _ => rfl⟩ W)
              have hE := HEY.out hent
              have HTD := Lib.hid (fun h4 => (tChn_dir (n := n) (u := u) (g := G1) (path := path) (d := d) (h := h) (S := S') h0 (by rw [hE]) h4).trans (by rw [hE]))
              have HTF := Lib.hid (fun h4 => (tChn_fil (n := n) (u := u) (g := G1) (path := path) (d := d) (h := h) (S := S') h0 (by rw [hE]) h4).trans (by rw [hE]))
              have HENT := Lib.hid hent
              clear hE hent HEN
              go_upto_region 10 with (go_at_call 110; refine (HDE.out _).mono ?_; rintro e w6 ⟨rfl, hb6⟩)
              have hw6 := HW5.out.below hb6
              have HW6 := Lib.hid hw6
              have HK6 := Lib.hid (HK5.out.trans (Kp.ofBelow hb6))
              obtain ⟨k0, cs6, k1⟩ := hw6.head
              obtain ⟨k4, k5⟩ := hw6.bit hbn
              obtain ⟨hv1, hv2, hv3⟩ := hw6.visit hbn
              have HW7 := Lib.hid hv1
              have HK7 := Lib.hid (HK6.out.trans (skFT hv2))
              clear hw6 hb6 hv1 hv2 hv3
              go_upto_region 11 with fail
              generalize w6.setCell ⟨gs, b, none⟩ (.bool true) = w7 at *
              clear k0 k1 k4 k5 HW6 HK6 HW5 HK5
              obtain ⟨X, hX⟩ : ∃ X, tnm (u b) = X := ⟨_, rfl⟩
              have hXn : NameS X := by rw [← hX]; exact HENT.out.2.1
              have hX8 : X.size ≤ 8 := hXn.hi
              have HXN := Lib.hid hXn
              have HNM := Lib.hid (fun W => show Calls Tryz.prog 71 #[.string x] W fun e w' => e = .returned (.string X) ∧ Below W.heap.size W w' from by
                have := specName_any x hz32 W
                rwa [← HUB.out, tnmS_ok HENT.out.2.1, hX] at this)
              have HXX := Lib.hid hX
              obtain ⟨x0, hx0⟩ : ∃ y, (byteAt x 0).toNat = y := ⟨_, rfl⟩
              have b0 : x0 < 256 := by rw [← hx0]; exact UInt8.toNat_lt _
              have hg0 := byteAt_get x 0 (by omega)
              have hfol : ((x0 : Int) == 4) = decide (u b 0 = 4) := by
                have e := u8_is 4 (show (u b 0).toNat = x0 by rw [HUB.out]; exact hx0)
                by_cases h : x0 = 4
                · rw [decide_eq_true (e.2 h)]; simp [h]
                · rw [decide_eq_false (fun q => h (e.1 q))]; simp; omega
              obtain ⟨fol, hfl⟩ : ∃ f, decide (u b 0 = 4) = f := ⟨_, rfl⟩
              rw [hfl] at hfol
              have HFL := Lib.hid hfl
              have hszx : ((x.size : Nat) : Int) = 32 := by omega
              clear hfl hX hXn
              go_cut [9] (fun s9 wx => ∃ bt, w7.heap.size ≤ bt ∧ s9 = .pointer (some ⟨bt, 0, none⟩) ∧ Rw wx bt 61 #[.int .i64 (b : Int), .int .i64 (d : Int), .bool fol, .string X, .string ⟨#[]⟩, .bool true] ∧ Below w7.heap.size w7 wx)
              case first =>
                clear HTD HTF
                go_region_law (go_simp; go_at_call 71; refine (HNM.out _).mono ?_; rintro e1 w1 ⟨rfl, hb1⟩; first
                  | (have hr1 : Rw w1 w7.heap.size 61 #[.int .i64 0, .int .i64 0, .bool false, .string ⟨#[]⟩, .string ⟨#[]⟩, .bool false] := (Rw.new w7 _ _).drew.below hb1 (by show w7.heap.size < (w7.alloc _).heap.size; simp)
                     have z0 := hr1.cell 0
                     have z1 := hr1.cell 1
                     have z2 := hr1.cell 2
                     have z3 := hr1.cell 3
                     have z4 := hr1.cell 4
                     have z5 := hr1.cell 5
                     have f0 := hr1.frozen 0
                     have f1 := hr1.frozen 1
                     have f2 := hr1.frozen 2
                     have f3 := hr1.frozen 3
                     have f4 := hr1.frozen 4
                     have f5 := hr1.frozen 5)
                  | skip)
                all_goals
                  go_wp2_with fail
                  go_meet
                  first
                  | exact ⟨_, Nat.le_refl _, rfl, (((((hr1.set 0 _).set 1 _).set 2 _).set 3 _).set 4 _).set 5 _, ((((((((Below.refl _ _).alloc (Nat.le_refl _) _).drew.trans (hb1.mono (by show w7.heap.size ≤ (w7.alloc _).heap.size; simp))).setCell (p := ⟨w7.heap.size, 0, none⟩) (Nat.le_refl _) _).setCell (p := ⟨w7.heap.size, 1, none⟩) (Nat.le_refl _) _).setCell (p := ⟨w7.heap.size, 2, none⟩) (Nat.le_refl _) _).setCell (p := ⟨w7.heap.size, 3, none⟩) (Nat.le_refl _) _).setCell (p := ⟨w7.heap.size, 4, none⟩) (Nat.le_refl _) _).setCell (p := ⟨w7.heap.size, 5, none⟩) (Nat.le_refl _) _⟩
                  | exact ⟨_, hb1.size, rfl, Rw.new w1 _ _, ((Below.refl _ _).drew.trans hb1).alloc hb1.size _⟩
              case rest =>
                obtain ⟨bt, hbt, rfl, hT8, hb8⟩ := hcut
                have HB8 := Lib.hid hb8
                obtain ⟨A2, c2, hA27, hlb⟩ : ∃ A2 c2, w7.cell? ⟨q, 2, none⟩ = some (.slice A2 S'.it.length c2) ∧ ∀ j, (Value.slice A2 S'.it.length c2).ownBlock = some j → j < bt := by
                  obtain ⟨⟨A1, c1, A2, c2, cs, r1, r2, r3⟩, _⟩ := HW7.out
                  exact ⟨A2, c2, r1.cell 2, fun j hj => by have := (r3.lt j hj).2; omega⟩
                have hq7 : q < w7.heap.size := by obtain ⟨⟨A1, c1, A2, c2, cs, r1, r2, r3⟩, _⟩ := HW7.out; exact r1.lt
                have hA2 := (hb8.cell (p := ⟨q, 2, none⟩) hq7).trans hA27
                have hBt : B ≤ bt := by have := HW7.out.bs; omega
                have HW8 := Lib.hid (HW7.out.below hb8)
                have HK8 := Lib.hid (HK7.out.trans (Kp.ofBelow hb8))
                have HT8 := Lib.hid hT8
                have i3 := hT8.cell 3
                obtain ⟨dbl, hdb⟩ : ∃ v, tDbl u (S'.see b) d h b = v := ⟨_, rfl⟩
                have HDB := Lib.hid hdb
                have HTW := Lib.hid (fun (v : Bool) (hv : v = true ↔ tTwice S'.it d X) => twice_any (d := d) (show SkW wc q n B gs (some ⟨ba, oa, none⟩) cd s { (S'.see b) with it := S'.it } S'.it.length (S'.it.flatMap encSI) from HW8.out) (show S'.it.length ≤ 1000 by omega) X v hv)
                have HHS := Lib.hid (fun W => specHash_any X HXN.out W)
                obtain ⟨hv, hhv⟩ : ∃ v, tHash X = v := ⟨_, rfl⟩
                rw [hhv] at HHS
                have HHV := Lib.hid hhv
                have HLB := Lib.hid hlb
                have HA2 := Lib.hid hA2
                clear hT8 hb8 hA27 hA2 hlb hdb hhv hg0 hx0 hfol b0 HB8
                go_upto_region 12 with fail
                go_cut [83] (fun s83 wx => s83 = .bool dbl ∧ wx = wc)
                case first =>
                  by_cases hh : hv = h
                  · have t1 : ((hv : Int) != (h : Int)) = false := by simp; omega
                    have HV2 := Lib.hid (HTW.out dbl (by
                      rw [← HDB.out]
                      unfold tDbl
                      rw [HXX.out, HHV.out]
                      simp [hh]; rfl))
                    clear hh
                    go_wp2_with (first | (go_at_call 70; refine (HHS.out _).mono ?_; rintro e w6 ⟨rfl, rfl⟩) | (go_at_call 111; refine HV2.out.mono ?_; rintro e w6 ⟨rfl, rfl⟩))
                    go_meet
                    exact ⟨rfl, rfl⟩
                  · have t1 : ((hv : Int) != (h : Int)) = true := by simp; omega
                    obtain rfl : true = dbl := by
                      rw [← HDB.out]
                      exact (tDbl_t (.inl (by rw [HXX.out, HHV.out]; exact hh))).symm
                    clear hh
                    go_wp2_with (go_at_call 70; refine (HHS.out _).mono ?_; rintro e w6 ⟨rfl, rfl⟩)
                    go_meet
                    exact ⟨rfl, rfl⟩
                case rest =>
                  obtain ⟨rfl, rfl⟩ := hcut
                  clear HTW HHS HNM
                  obtain ⟨S2, hS2⟩ : ∃ T, (if dbl = true then (S'.see b).prob 4 b else S'.see b) = T := ⟨_, rfl⟩
                  have HS2 := Lib.hid hS2
                  clear hS2
                  go_upto_if 83 with fail
                  go_cut [] (fun wx => SkW wx q n B gs (some ⟨ba, oa, none⟩) cd s S2 S'.it.length (S'.it.flatMap encSI) ∧ Rw wx bt 61 #[.int .i64 (b : Int), .int .i64 (d : Int), .bool fol, .string X, .string ⟨#[]⟩, .bool (!dbl)] ∧ Kp skT 0 B w wx ∧ wx.cell? ⟨q, 2, none⟩ = some (.slice A2 S'.it.length c2))
                  case first =>
                    clear HTD HTF
                    cases dbl with
                    | true =>
                      go_wp2_with (go_at_call 77; refine (sproblem_any HW8.out (by show S'.pr.length ≤ 100000; omega) (k := 4) (b := b) (by omega) (by omega)).mono ?_; rintro e w10 ⟨rfl, hw10, hk10, hc10, hp10⟩; have hT10 := rwKp HT8.out hp10 (by decide); have j5 := hT10.cell 5; have l5 := hT10.frozen 5)
                      go_meet
                      obtain ⟨y1, y2, y3⟩ := hw10.box (i := 5) hT10 hBt (hc10.trans HA2.out) HLB.out (.bool false)
                      exact ⟨by rw [← HS2.out]; exact y1, hT10.set 5 _, (HK8.out.trans (skFT hk10)).trans y2, y3.trans (hc10.trans HA2.out)⟩
                    | false =>
                      go_wp2_with fail
                      go_meet
                      exact ⟨by rw [← HS2.out]; exact HW8.out, HT8.out, HK8.out, HA2.out⟩
                  case rest =>
                    obtain ⟨hw10, hT10, hk10, hA10⟩ := hcut
                    have HHN := Lib.hid (show tNote u (S'.see b) d h b path = { S2 with it := S'.it ++ [⟨d, b, X, path ++ X, fol, dbl, ⟨#[]⟩, false⟩] } from by
                      rw [← HS2.out, ← HDB.out, ← HXX.out, ← HFL.out]
                      unfold tNote
                      split <;> rfl)
                    obtain ⟨L2, hL2⟩ : ∃ L, S'.it.length = L := ⟨_, rfl⟩
                    obtain ⟨xs, hxs⟩ : ∃ xs, S'.it.flatMap encSI = xs := ⟨_, rfl⟩
                    have hlb := HLB.out
                    rw [hL2, hxs] at hw10
                    rw [hL2] at hA10 hlb
                    have HLL := Lib.hid hL2
                    have HXS := Lib.hid hxs
                    have HLB2 := Lib.hid hlb
                    have hLn : L2 ≤ 1000 := by omega
                    have hL2i : (L2 : Int) ≤ 1000 := by omega
                    obtain ⟨j0, hj0, hj1, hj2, hj3⟩ := info_parts infoSI
                    have J0 := Lib.hid hj0
                    have J1 := Lib.hid hj1
                    have J2 := Lib.hid hj2
                    have J3 := Lib.hid hj3
                    have HOI := Lib.hid (show wc.ownsRow B 61 6 (.slice A2 L2 c2) L2 xs from by
                      obtain ⟨⟨A1, c1, A2', c2', cs, r1, r2, r3⟩, _⟩ := hw10
                      have e := r1.cell 2
                      rw [hA10] at e
                      simp only [List.getElem?_toArray, List.getElem?_cons_succ, List.getElem?_cons_zero, Option.some.injEq, Value.slice.injEq, true_and] at e
                      obtain ⟨rfl, rfl⟩ := e
                      exact r3)
                    have HQR := Lib.hid (show ∃ cs, Row wc q 59 cs ∧ cs.size = 4 ∧ cs[2]? = some (.slice A2 L2 c2) from by
                      obtain ⟨⟨A1, c1, A2', c2', cs, r1, r2, r3⟩, _⟩ := hw10
                      exact ⟨_, r1, rfl, (r1.cell 2).symm.trans hA10⟩)
                    have HADD := Lib.hid (fun (W w3 : World) (gg cap : Nat) (hb : Below wc.heap.size wc W) (ho : w3.ownsRow B 61 6 (.slice (some ⟨gg, 0, none⟩) (L2 + 1) cap) (L2 + 1) (xs ++ [.int .i64 (b : Int), .int .i64 (d : Int), .bool fol, .string X, .string ⟨#[]⟩, .bool (!dbl)])) (hg : W.grownBy w3 (Value.slice A2 L2 c2).ownBlock) =>
                      show SkW (w3.setCell ⟨q, 2, none⟩ (.slice (some ⟨gg, 0, none⟩) (L2 + 1) cap)) q n B gs (some ⟨ba, oa, none⟩) cd s S2 (L2 + 1) (xs ++ [.int .i64 (b : Int), .int .i64 (d : Int), .bool fol, .string X, .string ⟨#[]⟩, .bool (!dbl)]) ∧ Kp skT 0 B wc (w3.setCell ⟨q, 2, none⟩ (.slice (some ⟨gg, 0, none⟩) (L2 + 1) cap)) from by
                        have hq : q < wc.heap.size := by obtain ⟨⟨A1, c1, A2', c2', cs, r1, r2, r3⟩, _⟩ := hw10; exact r1.lt
                        have := (hw10.below hb).addI ((hb.cell (p := ⟨q, 2, none⟩) hq).trans hA10) hg ho
                        exact ⟨this.1, (Kp.ofBelow hb).trans this.2⟩)
                    have HT10 := Lib.hid hT10
                    have HK10 := Lib.hid hk10
                    have hB10 : B ≤ wc.heap.size := hw10.bs
                    have hqt : bt ≠ q := by
                      obtain ⟨⟨A1, c1, A2', c2', cs, r1, r2, r3⟩, _⟩ := hw10
                      rintro rfl
                      obtain ⟨fr, h1, _⟩ := r1
                      rw [show wc.heap[bt]? = _ from hT10] at h1
                      simp at h1
                    have v0 := hT10.cell 0
                    have v1 := hT10.cell 1
                    have v2 := hT10.cell 2
                    have v3 := hT10.cell 3
                    have v4 := hT10.cell 4
                    have v5 := hT10.cell 5
                    have HQT := Lib.hid hqt
                    clear hw10 hT10 hk10 hL2 hxs hj0 hj1 hj2 hj3 hlb i3 hqt HW8 HT8 HK8 HA2 HW7 HK7 HLB
                    go_upto_region 16 with fail
                    go_cut [10] (fun s10 wx => s10 = .int .i64 L2 ∧ ∃ gg cap, SkW wx q n B gs (some ⟨ba, oa, none⟩) cd s S2 (L2 + 1) (xs ++ [.int .i64 (b : Int), .int .i64 (d : Int), .bool fol, .string X, .string ⟨#[]⟩, .bool (!dbl)]) ∧ wx.cell? ⟨q, 2, none⟩ = some (.slice (some ⟨gg, 0, none⟩) (L2 + 1) cap) ∧ bt ≠ gg ∧ Rw wx bt 61 #[.int .i64 (b : Int), .int .i64 (d : Int), .bool fol, .string X, .string ⟨#[]⟩, .bool (!dbl)] ∧ Kp skT 0 B wc wx)
                    case first =>
                      obtain ⟨cs, hrq, hcs4, hcs3⟩ := HQR.out
                      have HRQ := Lib.hid hrq
                      have HCS := Lib.hid hcs4
                      have HC3S := Lib.hid hcs3
                      have hneq : some q ≠ (Value.slice A2 L2 c2).ownBlock := own_ne HOI.out hrq (by decide)
                      have HNEQ := Lib.hid hneq
                      have hba := (Below.refl wc.heap.size wc).alloc (Nat.le_refl _) (.cells #[.int .i64 (b : Int), .int .i64 (d : Int), .bool fol, .string X, .string ⟨#[]⟩, .bool (!dbl)] 61)
                      have hqa := (hba.cell (p := ⟨q, 2, none⟩) hrq.lt).trans hA10
                      have HBA := Lib.hid hba.drew
                      have HBL := Lib.hid HT10.out.lt
                      clear hba
                      clear hrq hcs4 hneq hcs3 HTD HTF
                      go_region_law (refine step_append_lies _ (by rfl) _ _ _ (by rfl) B 61 j0 _ 6 64 Tryz.underlying56 J0.out J1.out J2.out J3.out rfl (by omega) (.slice A2 L2 c2) L2 _ (by rfl) ((HOI.out.alloc _).drew) ⟨wc.heap.size, 0, none⟩ 1 1 [.int .i64 (b : Int), .int .i64 (d : Int), .bool fol, .string X, .string ⟨#[]⟩, .bool (!dbl)] (by rfl) (by rfl) (newsS6 _ _ _ _ _ _ _ _) (by simp [Value.oneCell']) (by omega) (by simp only [maxLen]; omega) (by omega) (by simp; omega) (wc.heap.size + 1) (by simp) ?_; intro gg cap w3 ho3 hgrow hat hlt3; have hr3 := Row.grown ((HRQ.out.alloc _).drew) hgrow HNEQ.out; have hf3 := hr3.frozen (i := 2) (by rw [HCS.out]; omega); have hc3 := (hr3.cell 2).trans HC3S.out)
                      all_goals
                        go_wp2_with fail
                        go_meet
                        have hTa : Rw _ bt _ _ := (HT10.out.alloc (.cells #[.int .i64 (b : Int), .int .i64 (d : Int), .bool fol, .string X, .string ⟨#[]⟩, .bool (!dbl)] 61)).drew
                        have hTg : Rw w3 bt 61 #[.int .i64 (b : Int), .int .i64 (d : Int), .bool fol, .string X, .string ⟨#[]⟩, .bool (!dbl)] := (hgrow.block bt hTa.lt (fun e => by have := HLB2.out bt e.symm; omega)).trans hTa
                        have hAD := HADD.out _ _ _ _ HBA.out ho3 hgrow
                        have hgq : bt ≠ gg := by
                          rintro rfl
                          have h1 := HBL.out
                          rcases hat with h2 | h2
                          · have := HLB2.out _ h2; omega
                          · omega
                        have hcq : (w3.setCell ⟨q, 2, none⟩ (.slice (some ⟨gg, 0, none⟩) (L2 + 1) cap)).cell? ⟨q, 2, none⟩ = some (.slice (some ⟨gg, 0, none⟩) (L2 + 1) cap) := by
                          have := (hr3.set 2 (.slice (some ⟨gg, 0, none⟩) (L2 + 1) cap)).cell 2
                          rw [this, Array.getElem?_setIfInBounds]
                          rw [if_pos rfl, if_pos (by show 2 < cs.size; rw [HCS.out]; omega)]
                        exact ⟨rfl, gg, cap, hAD.1, hcq, hgq, hTg.far (p := ⟨q, 2, none⟩) HQT.out _, hAD.2⟩
                    case rest =>
                      obtain ⟨rfl, gg, cap, hw11, hc11, hgb, hT11, hk11⟩ := hcut
                      have HT11 := Lib.hid hT11
                      have HK11 := Lib.hid (HK10.out.trans hk11)
                      have HC11 := Lib.hid hc11
                      have HGB := Lib.hid hgb
                      have hNu : (tNote u (S'.see b) d h b path).uns n = (S'.see b).uns n := by unfold TS.uns; rw [tNote_sn]
                      have hun1 : (S'.see b).uns n + 1 = S'.uns n := uns_see hbn HSN.out
                      have hmu1 : (S'.see b).mu n + 20 = S'.mu n := mu_see hbn HSN.out
                      have hNm := tNote_mu (n := n) (u := u) (S'.see b) d h b path
                      have hNl := tNote_le (n := n) (u := u) (h := h) path (rfl : S'.see b = S'.see b) hbn HSN.out hsd2
                      have hNit : (tNote u (S'.see b) d h b path).it = S'.it ++ [⟨d, b, X, path ++ X, fol, dbl, ⟨#[]⟩, false⟩] := by rw [HHN.out]
                      have hNsn : (tNote u (S'.see b) d h b path).sn = S2.sn := by rw [HHN.out]
                      have hNpr : (tNote u (S'.see b) d h b path).pr = S2.pr := by rw [HHN.out]
                      have hNb : (tNote u (S'.see b) d h b path).sn b = true := by rw [tNote_sn]; simp [TS.see]
                      obtain ⟨N, hN⟩ : ∃ N, tNote u (S'.see b) d h b path = N := ⟨_, rfl⟩
                      have HTD2 := Lib.hid (fun p => hN ▸ HTD.out p)
                      have HTF2 := Lib.hid (fun p => hN ▸ HTF.out p)
                      rw [hN] at hNu hNm hNl hNit hNsn hNpr hNb
                      have hNlen : N.it.length = L2 + 1 := by rw [hNit, List.length_append, HLL.out]; rfl
                      have HW11 := Lib.hid (hw11.same hNsn hNpr)
                      have HNL := Lib.hid hNl
                      have HNB := Lib.hid hNb
                      have HNIT := Lib.hid hNit
                      have HLEN := Lib.hid hNlen
                      have hitl2 := hNl.itl
                      clear hw11 hT11 hk11 hc11 hgb hNl hNit hNb hNsn hNpr hN HTD HTF HADD HT10 HK10 HLB2 HOI HQR v0 v1 v2 v3 v4 v5 hA10 HHN
                      by_cases h4 : u b 0 = 4
                      · have v2 := HT11.out.cell 2
                        obtain rfl : fol = true := by rw [← HFL.out]; exact decide_eq_true h4
                        have HCE := Lib.hid (HTD2.out h4)
                        clear h4
                        have hlst : xs ++ ([.int .i64 (b : Int), .int .i64 (d : Int), .bool true, .string X, .string ⟨#[]⟩, .bool (!dbl)] : List Value) = N.it.flatMap encSI := by
                          rw [HNIT.out, List.flatMap_append, HXS.out]
                          simp [encSI]
                        have hwN : SkW wc q n B gs (some ⟨ba, oa, none⟩) cd s N N.it.length (N.it.flatMap encSI) := by
                          have := HW11.out
                          rw [hlst] at this
                          rw [HLEN.out]
                          exact this
                        have HIH := Lib.hid (IH.out G1 (by omega) wc q n B gs cd b 12 (some ⟨ba, oa, none⟩) s u N (path ++ tnm (u b) ++ slashB) HUE.out hwN hn H32.out (by omega) (by omega) (by omega) HNB.out hbn (by omega))
                        have HRL := Lib.hid (show TLe n b N (tDir n u G1 (path ++ tnm (u b) ++ slashB) b 12 N) ∧ (tDir n u G1 (path ++ tnm (u b) ++ slashB) b 12 N).mu n ≤ N.mu n + 8 from tPre_le (n := n) (u := u) (g := G1) (path := path ++ tnm (u b) ++ slashB) (t := 12) HNB.out 8)
                        obtain ⟨R, hR⟩ : ∃ R, tDir n u G1 (path ++ tnm (u b) ++ slashB) b 12 N = R := ⟨_, rfl⟩
                        rw [hR] at HIH HCE HRL
                        clear hR hwN hlst
                        go_upto_region 5 with (go_at_call 79; refine HIH.out.mono ?_; rintro e w12 ⟨rfl, hw12, hk12⟩)
                        obtain ⟨k0, cs12, k1⟩ := hw12.head
                        obtain ⟨_, _, e1, _, hca⟩ := hw12.disk b hbn
                        simp only [Option.some.injEq, Addr.mk.injEq, and_true] at e1
                        obtain ⟨rfl, rfl⟩ := e1
                        dsimp only at hca
                        rw [HX.out] at hca
                        have hg2 := byteAt_get x 2 (by omega)
                        obtain ⟨x2, hx2⟩ : ∃ y, (byteAt x 2).toNat = y := ⟨_, rfl⟩
                        have b2 : x2 < 256 := by rw [← hx2]; exact UInt8.toNat_lt _
                        have hce := HCE.out
                        rw [HUB.out, hx2] at hce
                        have HCE2 := Lib.hid hce
                        have HW12 := Lib.hid hw12
                        have HK12 := Lib.hid (HK11.out.trans hk12)
                        have hru := HRL.out.1.uns
                        have hrm := HRL.out.2
                        have HLR := Lib.hid (HLE.out.trans (HNL.out.inner HRL.out.1 HSN.out))
                        clear hw12 hk12 v2 hce
                        go_wp2_with fail
                        go_roundg (R.uns n + 1)
                        case measure => omega
                        case rel => exact ⟨x2, G1, R, Nat.le_refl _, rfl, b2, HCE2.out.symm.trans HCH.out, by omega, by omega, HLR.out, by omega, HW12.out, HK12.out⟩
                      · have v2 := HT11.out.cell 2
                        obtain rfl : fol = false := by rw [← HFL.out]; exact decide_eq_false h4
                        have hce := HTF2.out h4
                        have hf0 := sfile_any HW11.out hn H32.out (by omega) hbn
                        rw [← HUE.out, ← HU.out b] at hf0
                        have hFit := tFile_it (n := n) (u := u) 256 N b (u b 14).toNat 1 ⟨#[]⟩
                        have hFle := tFile_le (n := n) (u := u) d 256 N b (u b 14).toNat 1 ⟨#[]⟩
                        have hFmu := tFile_mu (n := n) (u := u) 256 N b (u b 14).toNat 1 ⟨#[]⟩
                        obtain ⟨F, hF⟩ : ∃ F, tFile n u 256 N b (u b 14).toNat 1 ⟨#[]⟩ = F := ⟨_, rfl⟩
                        rw [hF] at hce hf0 hFit hFle hFmu
                        have HCE := Lib.hid hce
                        have HFI := Lib.hid hf0
                        have HFLE := Lib.hid hFle
                        have HSTL := Lib.hid (show setLast N.it F.2 = S'.it ++ [⟨d, b, X, path ++ X, false, dbl, datO F.2, F.2.isSome⟩] from by rw [HNIT.out, setLast_snoc])
                        have HFN := Lib.hid hFit
                        clear h4 hce hf0 hFit hFle hF
                        obtain ⟨Dt, hDt⟩ : ∃ y, datO F.2 = y := ⟨_, rfl⟩
                        obtain ⟨ok, hok⟩ : ∃ y, F.2.isSome = y := ⟨_, rfl⟩
                        unfold SFilOut at HFI
                        rw [hDt, hok] at HFI HSTL
                        have HDT := Lib.hid hDt
                        have HOK := Lib.hid hok
                        clear hDt hok
                        have hxl : xs.length = L2 * 6 := by rw [← HXS.out, encSI_len, HLL.out]
                        have hLi : (L2 : Int) < (L2 : Int) + 1 := by omega
                        have hL0 : (0 : Int) ≤ (L2 : Int) := by omega
                        have hLl : L2 < L2 + 1 := by omega
                        go_upto_region 20 with (go_at_call 112; refine HFI.out.mono ?_; rintro e w12 ⟨rfl, hw12, hk12, hc12⟩)
                        have d2 := hc12.trans HC11.out
                        have hT12 := rwKp HT11.out hk12 (by decide)
                        obtain ⟨⟨y, hy⟩, hfz, hwS, hkS, hcS, _⟩ := hw12.setX d2 (i := L2 * 6 + 4) (by omega) (.string Dt)
                        have HTS := Lib.hid (hT12.far (p := ⟨gg, L2 * 6 + 4, none⟩) HGB.out (.string Dt))
                        have HWS := Lib.hid hwS
                        have HKS := Lib.hid ((HK11.out.trans (skFT hk12)).trans hkS)
                        have HCS := Lib.hid (hcS.trans d2)
                        clear hw12 hk12 hc12 hT12 hwS hkS hcS v2
                        go_upto_region 21 with fail
                        generalize w12.setCell ⟨gg, L2 * 6 + 4, none⟩ (.string Dt) = w13 at *
                        clear hy hfz d2
                        have d3 := HCS.out
                        have e5 := HTS.out.cell 5
                        obtain ⟨⟨y, hy⟩, hfz, hwU, hkU, hcU, _⟩ := HWS.out.setX d3 (i := L2 * 6 + 5) (by omega) (.bool (!dbl && ok))
                        have HWU := Lib.hid hwU
                        have HKU := Lib.hid (HKS.out.trans hkU)
                        clear hwU hkU hcU
                        obtain ⟨R, hR⟩ : ∃ R : TS, { F.1 with it := setLast N.it F.2 } = R := ⟨_, rfl⟩
                        have hRi : R.it = S'.it ++ [⟨d, b, X, path ++ X, false, dbl, Dt, ok⟩] := by rw [← hR]; exact HSTL.out
                        have hlst : ((xs ++ ([.int .i64 (b : Int), .int .i64 (d : Int), .bool false, .string X, .string ⟨#[]⟩, .bool (!dbl)] : List Value)).set (L2 * 6 + 4) (.string Dt)).set (L2 * 6 + 5) (.bool (!dbl && ok)) = R.it.flatMap encSI := by
                          rw [hRi, ← HLL.out, ← HXS.out]
                          exact encSI_set S'.it ⟨d, b, X, path ++ X, false, dbl, ⟨#[]⟩, false⟩ (!dbl) Dt ok
                        have HFIN := Lib.hid (fun (W : World) (hb : Below w13.heap.size (w13.setCell ⟨gg, L2 * 6 + 5, none⟩ (.bool (!dbl && ok))) W) => show SkW W q n B gs (some ⟨ba, oa, none⟩) cd s R R.it.length (R.it.flatMap encSI) ∧ Kp skT 0 B w W from by
                          rw [show w13.heap.size = (w13.setCell ⟨gg, L2 * 6 + 5, none⟩ (.bool (!dbl && ok))).heap.size from by simp] at hb
                          refine ⟨?_, HKU.out.trans (Kp.ofBelow hb)⟩
                          have h1 := (HWU.out.below hb).same (S' := R) (by rw [← hR]) (by rw [← hR])
                          rw [hlst] at h1
                          rw [show R.it.length = L2 + 1 by rw [hRi, List.length_append, HLL.out]; rfl]
                          exact h1)
                        have hg2 := byteAt_get x 2 (by omega)
                        obtain ⟨x2, hx2⟩ : ∃ y, (byteAt x 2).toNat = y := ⟨_, rfl⟩
                        have b2 : x2 < 256 := by rw [← hx2]; exact UInt8.toNat_lt _
                        have hce := HCE.out
                        rw [hR, HUB.out, hx2] at hce
                        have HCE2 := Lib.hid hce
                        have hRu : R.uns n = F.1.uns n := by rw [← hR]; rfl
                        have hRm : R.mu n = F.1.mu n := by rw [← hR]; rfl
                        have hfu := HFLE.out.uns
                        have HLR := Lib.hid (HLE.out.trans ((HNL.out.trans HFLE.out).last (S2 := R) (o := F.2) (by rw [← hR, HFN.out]) (by rw [← hR])))
                        clear hR hRi hlst hce
                        cases dbl with
                        | true =>
                          go_still_tail 12, (by kernel_rfl)
                          go_upto_region 5 with fail
                          obtain ⟨hw14, hk14⟩ := HFIN.out ((w13.setCell ⟨gg, L2 * 6 + 5, none⟩ (.bool false)).drew) ((Below.refl _ _).drew)
                          clear hy hfz d3 e5
                          generalize (w13.setCell ⟨gg, L2 * 6 + 5, none⟩ (.bool false)).drew = w14 at *
                          obtain ⟨k0, cs12, k1⟩ := hw14.head
                          obtain ⟨_, _, e1, _, hca⟩ := hw14.disk b hbn
                          simp only [Option.some.injEq, Addr.mk.injEq, and_true] at e1
                          obtain ⟨rfl, rfl⟩ := e1
                          dsimp only at hca
                          rw [HX.out] at hca
                          have HW14 := Lib.hid hw14
                          have HK14 := Lib.hid hk14
                          clear hw14 hk14
                          go_wp2_with fail
                          go_roundg (R.uns n + 1)
                          case measure => omega
                          case rel => exact ⟨x2, G1, R, Nat.le_refl _, rfl, b2, HCE2.out.symm.trans HCH.out, by omega, by omega, HLR.out, by omega, HW14.out, HK14.out⟩
                        | false =>
                          go_still_tail 12, (by kernel_rfl)
                          go_upto_region 5 with fail
                          obtain ⟨hw14, hk14⟩ := HFIN.out ((w13.setCell ⟨gg, L2 * 6 + 5, none⟩ (.bool ok)).drew) ((Below.refl _ _).drew)
                          clear hy hfz d3 e5
                          generalize (w13.setCell ⟨gg, L2 * 6 + 5, none⟩ (.bool ok)).drew = w14 at *
                          obtain ⟨k0, cs12, k1⟩ := hw14.head
                          obtain ⟨_, _, e1, _, hca⟩ := hw14.disk b hbn
                          simp only [Option.some.injEq, Addr.mk.injEq, and_true] at e1
                          obtain ⟨rfl, rfl⟩ := e1
                          dsimp only at hca
                          rw [HX.out] at hca
                          have HW14 := Lib.hid hw14
                          have HK14 := Lib.hid hk14
                          clear hw14 hk14
                          go_wp2_with fail
                          go_roundg (R.uns n + 1)
                          case measure => omega
                          case rel => exact ⟨x2, G1, R, Nat.le_refl _, rfl, b2, HCE2.out.symm.trans HCH.out, by omega, by omega, HLR.out, by omega, HW14.out, HK14.out⟩
            · have HDE := Lib.hid (fun W => specEntry_any x d hz32 (by omega) false ⟨fun h => (by cases h), fun h => absurd (by rw [HUB.out]; exact h) hent⟩ W)
              have HYS := Lib.hid (show tPre n u g path d t S (h + 1) = S'.prob 2 b from HY.out.trans (HCH.out.symm.trans ((tChn_stop h0 (by rw [HEN.out hent])).trans (by rw [HEN.out hent]))))
              clear hent
              go_wp2_with (first | (go_at_call 110; refine (HDE.out _).mono ?_; rintro e w6 ⟨rfl, hb6⟩) | (go_at_call 77; refine (sproblem_any (HW5.out.below hb6) (by omega) (k := 2) (b := b) (by omega) (by omega)).mono ?_; rintro e w7 ⟨rfl, hw7, hk7, hc7, _⟩))
              go_roundw
              case rel => exact ⟨h + 1, by omega, by go_num, by rw [HYS.out]; exact hw7, (HK5.out.trans (Kp.ofBelow hb6)).trans (skFT hk7)⟩
              case measure => simp [intOf]; omega
    · obtain rfl : h = 8 := by omega
      go_wp2_with fail
      go_end0
      refine ⟨rfl, ?_, HKP.out⟩
      rw [HSH.out]
      exact HW.out
theorem sdir_all (g : Nat) : SDirOk g := Nat.strongRecOn g fun g ih => sdir_any g ih
end Go.Proofs.YtiefcgmghkkbmaaGreatDoor
