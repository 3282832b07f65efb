/-
  Disks of chains: MendLinks, both sides.
-/
import Derived.Test.YtapkckpjeoedaaaGreatDoorMendP
namespace Go.Proofs.YtapkckpjeoedaaaGreatDoor
open Go Go.ChangeShapes Go.WideShapes Go.ChangeAt Go.RowKit lib
set_option linter.unusedVariables false
set_option maxRecDepth 100000
/-- the bytes of a disk when its links are mended, and how many were -/
noncomputable def mendLU (n z E t : Nat) (u : Nat → UInt8) : (Nat → UInt8) × Nat := ((cutGo n z (walkN n z t (resGo z u t).1) (resGo z u t).1 E).1, (resGo z u t).2 + (cutGo n z (walkN n z t (resGo z u t).1) (resGo z u t).1 E).2)
theorem WRow.far {B : Nat} {w : World} {q E : Nat} {f : Nat → List Nat × Nat × Nat} (h : WRow B w q E f) {p : Addr} (hp : p.block < B) (hq : q ≠ p.block) (x : Value) : WRow B (w.setCell p x) q E f := by
  obtain ⟨cs, A, c, h1, h2, h3, h4, h5⟩ := h
  exact ⟨cs, A, c, h1.far hq x, h2, h3, fun i hi => (h4 i hi).far hp x, h5⟩
theorem WOut.grownF {B g : Nat} {w w' : World} {Aq : Option Addr} {cq m : Nat} {xs : List Value} {f : Nat → List Nat × Nat × Nat} (h : WOut B w Aq cq m xs f) (hb : w.grownBy w' (some g)) (hg : g < B) : WOut B w' Aq cq m xs f := by
  obtain ⟨h1, A, c, h2⟩ := h
  refine ⟨h1.kept hb ?_, A, c, fun i hi => ⟨(h2 i hi).1, (h2 i hi).2.grown hb (own_not (h2 i hi).2 hg)⟩⟩
  cases hv : (Value.slice Aq m cq).ownBlock with
  | none => exact .inl rfl
  | some j => exact .inr (fun e => by have := own_lt h1 j hv; injection e; omega)
theorem WOut.cell {B : Nat} {w : World} {Aq : Option Addr} {cq m : Nat} {xs : List Value} {f : Nat → List Nat × Nat × Nat} (h : WOut B w Aq cq m xs f) {i : Nat} (hi : i < m) :
    ∃ b A c, Aq = some ⟨b, 0, none⟩ ∧ w.cell? ⟨b, i * 3, none⟩ = some (.slice A (f i).1.length c) ∧ w.cell? ⟨b, i * 3 + 1, none⟩ = some (.int .i64 ((f i).2.1 : Int)) ∧ w.cell? ⟨b, i * 3 + 2, none⟩ = some (.int .i64 ((f i).2.2 : Int)) ∧ IntsR B w A c (f i).1 := by
  obtain ⟨h1, A, c, h2⟩ := h
  obtain ⟨⟨a, b, d⟩, hi2⟩ := h2 i hi
  obtain ⟨g, cs, hA, _, hr, _, hx⟩ := own_row h1 (by omega)
  refine ⟨g, A i, c i, hA, ?_, ?_, ?_, hi2⟩
  · rw [hr.cell, hx _ (by omega), a]
  · rw [hr.cell, hx _ (by omega), b]
  · rw [hr.cell, hx _ (by omega), d]
set_option maxHeartbeats 4000000 in
theorem implMendLinks_any {w : World} {p g n z E d t N c : Nat} {u : Nat → UInt8} (h : ChW w p g n z E d t N c u) (hz : 0 < z) (hn : n ≤ 128) (ht : t ≤ n) (hNz : z + n ≤ N) (hN : N ≤ 4096) (hcN : N ≤ c) (hE : E ≤ 16) (hd : d = dirN n z) (hfit : ∀ k, k < E → d * z + k * 12 + 12 ≤ N) :
    Calls Tryz.prog 41 #[.pointer (some ⟨p, 0, none⟩)] w fun r w' => r = .returned (.int .i64 ((mendLU n z E t u).2 : Int)) ∧ ChW w' p g n z E d t N c (mendLU n z E t u).1 ∧ w.grownBy w' (some g) := by
  have HH := Lib.hid h
  have HFIT := Lib.hid hfit
  have hgl := h.row.lt
  have hpl := h.plt
  have c4 := h.c4
  unfold mendLU
  clear h hfit
  go_enter Tryz.func41, Tryz.ntmps41
  go_wp2_with fail
  go_loopw [3, 15] (fun s3 s4 wr => ∃ i : Nat, i ≤ t ∧ s3 = .int .i64 ((resGo z u i).2 : Int) ∧ s4 = .int .i64 i ∧ ChW wr p g n z E d t N c (resGo z u i).1 ∧ w.grownBy wr (some g)) (fun _ s _ => t - (intOf s).toNat)
  case atStart => exact ⟨0, by omega, rfl, rfl, HH.out, only_refl _ _⟩
  case round =>
    obtain ⟨i, hi, rfl, rfl, hc, hg⟩ := hrel
    have HC := Lib.hid hc
    have HG := Lib.hid hg
    have c4r := hc.c4
    clear hg
    by_cases hlt : i < t
    · have hle := resGo_le z u i
      have HS := Lib.hid (@resGo_same z u i)
      have HT := Lib.hid (@resGo_set z u i)
      obtain ⟨r, hr⟩ : ∃ r, resGo z u i = r := ⟨_, rfl⟩
      rw [hr] at hc HC HS HT hle ⊢
      have gc := hc.row.cell (i := z + i) (by omega)
      have gf := hc.row.frozen (i := z + i) (by omega)
      obtain ⟨x, hx⟩ : ∃ x : Int, x = ((r.1 (z + i)).toNat : Int) := ⟨_, rfl⟩
      rw [← hx] at gc
      have hx3 : r.1 (z + i) = 253 ↔ x = 253 := by
        rw [hx, ← UInt8.toNat_inj, show (253 : UInt8).toNat = 253 from rfl]
        omega
      skip
      obtain ⟨r1, r2⟩ := r
      dsimp only at *
      by_cases h3 : x = 253
      · have e1 : (x != 253) = false := by simp [h3]
        have HE := Lib.hid (HS.out (hx3.2 h3))
        clear hr hx hx3 h3
        go_wp2_with (go_at_call 65; refine (implLink_any i HC.out (by omega) (by omega)).mono ?_; rintro e3 w3 ⟨rfl, rfl⟩)
        go_roundw
        case rel => exact ⟨i + 1, by omega, by rw [HE.out], by go_num, by rw [HE.out]; exact HC.out.drew, only_drew HG.out⟩
        case measure => simp [intOf]; omega
      · have e1 : (x != 253) = true := by simp [h3]
        have HE := Lib.hid (HT.out (fun q => h3 (hx3.1 q)))
        have e2 : IntKind.i64.wrap ((r2 : Int) + 1) = (r2 : Int) + 1 := by rw [IntKind.wrap_i64]; omega
        clear hr hx hx3 h3
        go_wp2_with (go_at_call 65; refine (implLink_any i HC.out (by omega) (by omega)).mono ?_; rintro e3 w3 ⟨rfl, rfl⟩)
        go_roundw
        case rel => exact ⟨i + 1, by omega, by rw [HE.out]; rfl, by go_num, by rw [HE.out]; exact (HC.out.put (z + i) 253 rfl).drew, only_drew (only_setCell HG.out (.inl rfl) _)⟩
        case measure => simp [intOf]; omega
    · have hit : i = t := by omega
      subst hit
      have hle1 := resGo_le z u i
      obtain ⟨r, hr⟩ : ∃ r, resGo z u i = r := ⟨_, rfl⟩
      rw [hr] at hc HC hle1 ⊢
      obtain ⟨u1, k1⟩ := r
      have HRR := Lib.hid hr
      dsimp only at *
      have HWK := Lib.hid (implWalks_any hc hn hNz hN hcN hE hd HFIT.out)
      generalize hW1 : wr = w1 at *
      clear hW1 hr hc
      go_wp2_with (go_at_call 71; refine HWK.out.mono ?_; rintro e1 w2 ⟨rfl, _, hw2, hb2⟩)
      have HW2 := Lib.hid hw2
      have hC2 := HC.out.below hb2
      have HC2 := Lib.hid hC2
      have hw1z := hb2.size
      have hg1l := HC.out.row.lt
      have HWS := Lib.hid (fun k => walkN_chl n z i u1 k)
      have HUS := Lib.hid (fun k => @walkN_us n z i u1 k)
      have HKP := Lib.hid (fun k i' hi => cutGo_keep (u := u1) (W := walkN n z i u1) hz (fun k => (HWS.out k).1) k k i' (Nat.le_refl _) hi)
      obtain ⟨W, hWW⟩ : ∃ W, walkN n z i u1 = W := ⟨_, rfl⟩
      rw [hWW] at HW2 HWS HUS HKP
      have HWW0 := Lib.hid hWW
      clear hWW
      clear hw2
      go_loopw [3, 37] (fun s3 s7 wr => ∃ m : Nat, m ≤ E ∧ s3 = .int .i64 ((k1 + (cutGo n z W u1 m).2 : Nat) : Int) ∧ s7 = .int .i64 m ∧ ChW wr p g n z E d i N c (cutGo n z W u1 m).1 ∧ WRow (w1.heap.size + 2) wr w1.heap.size E W ∧ w1.grownBy wr (some g)) (fun _ s _ => E - (intOf s).toNat)
      case atStart => exact ⟨0, by omega, by simp [cutGo], rfl, HC2.out, HW2.out, only_below hb2 (Nat.le_refl _) _⟩
      case round =>
        obtain ⟨m, hm, rfl, rfl, hc, hww, hg⟩ := hrel
        have HC3 := Lib.hid hc
        have HWW := Lib.hid hww
        have HG3 := Lib.hid hg
        have c2 := hc.c2
        have hwrz := hg.size
        clear hg
        by_cases hlt2 : m < E
        · have t1 := HFIT.out m hlt2
          have hcle := cutGo_le n z W u1 m
          have HS := Lib.hid (@cutGo_same n z W u1 m)
          have HT := Lib.hid (@cutGo_cut n z W u1 m)
          have hcell := hww.cell hlt2
          have hW7 := (HWS.out m).2
          have HWL := Lib.hid (HWS.out m).1
          have HUSM := Lib.hid (HUS.out m)
          have HKM := Lib.hid (HKP.out m)
          obtain ⟨Am, cm, y0, y1, y2, hii, _⟩ := hcell
          obtain ⟨Wm, hWm⟩ : ∃ Wm, W m = Wm := ⟨_, rfl⟩
          rw [hWm] at y0 y1 y2 hii hW7 HS HT HWL HUSM
          obtain ⟨l, e, bl⟩ := Wm
          dsimp only at *
          have HII := Lib.hid hii
          obtain ⟨r, hr⟩ : ∃ r, cutGo n z W u1 m = r := ⟨_, rfl⟩
          rw [hr] at hc HC3 hcle HS HT HKM ⊢
          obtain ⟨u3, k3⟩ := r
          dsimp only at *
          have hlen := HWL.out.len
          by_cases he : e = 0
          · have e1 : ((e : Int) != 0) = false := by simp [he]
            have HE := Lib.hid (HS.out he)
            clear hr hWm he hww hc
            go_wp2_with fail
            go_roundw
            case rel => exact ⟨m + 1, by omega, by rw [HE.out], by go_num, by rw [HE.out]; exact HC3.out.below ((Below.refl _ _).alloc (Nat.le_refl _) _), HWW.out.below ((Below.refl _ _).alloc (Nat.le_refl _) _), only_alloc HG3.out _⟩
            case measure => simp [intOf]; omega
          · have e1 : ((e : Int) != 0) = true := by simp; omega
            have HE := Lib.hid (HT.out he)
            have e2 : IntKind.i64.wrap (((k1 + k3 : Nat) : Int) + 1) = ((k1 + k3 : Nat) : Int) + 1 := by rw [IntKind.wrap_i64]; omega
            have HOK := Lib.hid (show okE (fun i' => u3 (d * z + m * 12 + i')) by
              have := HUSM.out he
              rw [hd]
              rw [(okE_congr (fun i' hi' => HKM.out i' hi')).1]
              exact this)
            clear hr hWm he hww
            have hbA := (Below.refl wr.heap.size wr).alloc (Nat.le_refl _) (.cells #[.slice Am l.length cm, .int .i64 (e : Int), .int .i64 (bl : Int)] 103)
            have HCA := Lib.hid (hc.below hbA)
            have HIA := Lib.hid (hii.below hbA)
            have HWA := Lib.hid (HWW.out.below hbA)
            have HGA := Lib.hid (only_alloc HG3.out (.cells #[.slice Am l.length cm, .int .i64 (e : Int), .int .i64 (bl : Int)] 103))
            go_wp2_with (go_at_call 82; refine (implCut_any m _ HCA.out HIA.out HWL.out hn hNz hN hcN rfl t1 (by omega)).mono ?_; rintro e5 w5 ⟨rfl, hc5, hg5⟩)
            go_roundw
            case rel => exact ⟨m + 1, by omega, by rw [HE.out]; simp; omega, by go_num, by rw [HE.out, ← hd]; exact hc5, HWA.out.grown hg5 (by omega) (by omega), only_trans HGA.out hg5⟩
            case measure => simp [intOf]; omega
        · obtain rfl : m = E := by omega
          clear hww
          go_wp2_with fail
          go_ret
          rw [HRR.out]
          dsimp only
          rw [HWW0.out]
          exact ⟨rfl, HC3.out, only_trans HG.out HG3.out⟩
set_option maxHeartbeats 4000000 in
theorem specMendLinks_any {w : World} {p g n z E d t N c : Nat} {u : Nat → UInt8} (h : ChW w p g n z E d t N c u) (hz : 0 < z) (hn : n ≤ 128) (ht : t ≤ n) (hNz : z + n ≤ N) (hN : N ≤ 4096) (hcN : N ≤ c) (hE : E ≤ 16) (hd : d = dirN n z) (hfit : ∀ k, k < E → d * z + k * 12 + 12 ≤ N) :
    Calls Tryz.prog 38 #[.pointer (some ⟨p, 0, none⟩)] w fun r w' => r = .returned (.int .i64 ((mendLU n z E t u).2 : Int)) ∧ ChW w' p g n z E d t N c (mendLU n z E t u).1 ∧ w.grownBy w' (some g) := by
  have HH := Lib.hid h
  have HFIT := Lib.hid hfit
  have hgl := h.row.lt
  have hpl := h.plt
  have c4 := h.c4
  unfold mendLU
  clear h hfit
  go_enter Tryz.func38, Tryz.ntmps38
  go_wp2_with fail
  go_loopw [3, 4] (fun s3 s4 wr => ∃ i : Nat, i ≤ t ∧ s3 = .int .i64 ((resGo z u i).2 : Int) ∧ s4 = .int .i64 i ∧ ChW wr p g n z E d t N c (resGo z u i).1 ∧ w.grownBy wr (some g)) (fun _ s _ => t - (intOf s).toNat)
  case atStart => exact ⟨0, by omega, rfl, rfl, HH.out, only_refl _ _⟩
  case round =>
    obtain ⟨i, hi, rfl, rfl, hc, hg⟩ := hrel
    have HC := Lib.hid hc
    have HG := Lib.hid hg
    have c4r := hc.c4
    clear hg
    by_cases hlt : i < t
    · have hle := resGo_le z u i
      have HS := Lib.hid (@resGo_same z u i)
      have HT := Lib.hid (@resGo_set z u i)
      obtain ⟨r, hr⟩ : ∃ r, resGo z u i = r := ⟨_, rfl⟩
      rw [hr] at hc HC HS HT hle ⊢
      have gc := hc.row.cell (i := z + i) (by omega)
      have gf := hc.row.frozen (i := z + i) (by omega)
      obtain ⟨x, hx⟩ : ∃ x : Int, x = ((r.1 (z + i)).toNat : Int) := ⟨_, rfl⟩
      rw [← hx] at gc
      have hx3 : r.1 (z + i) = 253 ↔ x = 253 := by
        rw [hx, ← UInt8.toNat_inj, show (253 : UInt8).toNat = 253 from rfl]
        omega
      have HLK := Lib.hid (fun (X : World) (hX : ChW X p g n z E d t N c r.1) => (specLink_any i hX (by omega) (by omega)).mono fun r' w' h => (show r' = .returned (.int .i64 x) ∧ w' = X.drew from ⟨h.1.trans (by rw [hx]), h.2⟩))
      obtain ⟨r1, r2⟩ := r
      dsimp only at *
      by_cases h3 : x = 253
      · have e1 : (x != 253) = false := by simp [h3]
        have HE := Lib.hid (HS.out (hx3.2 h3))
        clear hr hx hx3 h3
        go_wp2_with (first | (go_at_call 79; refine (HLK.out _ HC.out).mono ?_; rintro e3 w3 ⟨rfl, rfl⟩) | (go_at_call 50; refine (specSetLink_any i 253 HC.out.drew (by omega) (by omega)).mono ?_; rintro e4 w4 ⟨rfl, rfl⟩))
        go_roundw
        case rel => exact ⟨i + 1, by omega, by rw [HE.out], by go_num, by rw [HE.out]; exact HC.out.drew, only_drew HG.out⟩
        case measure => simp [intOf]; omega
      · have e1 : (x != 253) = true := by simp [h3]
        have HE := Lib.hid (HT.out (fun q => h3 (hx3.1 q)))
        have e2 : IntKind.i64.wrap ((r2 : Int) + 1) = (r2 : Int) + 1 := by rw [IntKind.wrap_i64]; omega
        clear hr hx hx3 h3
        go_wp2_with (first | (go_at_call 79; refine (HLK.out _ HC.out).mono ?_; rintro e3 w3 ⟨rfl, rfl⟩) | (go_at_call 50; refine (specSetLink_any i 253 HC.out.drew (by omega) (by omega)).mono ?_; rintro e4 w4 ⟨rfl, rfl⟩))
        go_roundw
        case rel => exact ⟨i + 1, by omega, by rw [HE.out]; rfl, by go_num, by rw [HE.out]; exact (HC.out.drew.put (z + i) 253 rfl).drew, only_drew (only_setCell (only_drew HG.out) (.inl rfl) _)⟩
        case measure => simp [intOf]; omega
    · have hit : i = t := by omega
      subst hit
      have hle1 := resGo_le z u i
      obtain ⟨r, hr⟩ : ∃ r, resGo z u i = r := ⟨_, rfl⟩
      rw [hr] at hc HC hle1 ⊢
      obtain ⟨u1, k1⟩ := r
      have HRR := Lib.hid hr
      dsimp only at *
      have HWK := Lib.hid (specWalks_any hc hn hNz hN hcN hE hd HFIT.out)
      generalize hW1 : wr = w1 at *
      clear hW1 hr hc
      go_wp2_with (go_at_call 67; refine HWK.out.mono ?_; rintro e1 w2 ⟨Aq, cq, xs, rfl, _, hw2, hb2⟩)
      have HW2 := Lib.hid hw2
      have hC2 := HC.out.below hb2
      have HC2 := Lib.hid hC2
      have hw1z := hb2.size
      have hg1l := HC.out.row.lt
      have HWS := Lib.hid (fun k => walkN_chl n z i u1 k)
      have HUS := Lib.hid (fun k => @walkN_us n z i u1 k)
      have HKP := Lib.hid (fun k i' hi => cutGo_keep (u := u1) (W := walkN n z i u1) hz (fun k => (HWS.out k).1) k k i' (Nat.le_refl _) hi)
      obtain ⟨W, hWW⟩ : ∃ W, walkN n z i u1 = W := ⟨_, rfl⟩
      rw [hWW] at HW2 HWS HUS HKP
      have HWW0 := Lib.hid hWW
      clear hWW
      clear hw2
      go_loopw [3, 7] (fun s3 s7 wr => ∃ m : Nat, m ≤ E ∧ s3 = .int .i64 ((k1 + (cutGo n z W u1 m).2 : Nat) : Int) ∧ s7 = .int .i64 m ∧ ChW wr p g n z E d i N c (cutGo n z W u1 m).1 ∧ WOut (w1.heap.size + 1) wr Aq cq E xs W ∧ w1.grownBy wr (some g)) (fun _ s _ => E - (intOf s).toNat)
      case atStart => exact ⟨0, by omega, by simp [cutGo], rfl, HC2.out, HW2.out, only_below hb2 (Nat.le_refl _) _⟩
      case round =>
        obtain ⟨m, hm, rfl, rfl, hc, hww, hg⟩ := hrel
        have HC3 := Lib.hid hc
        have HWW := Lib.hid hww
        have HG3 := Lib.hid hg
        have c2 := hc.c2
        have hwrz := hg.size
        clear hg
        by_cases hlt2 : m < E
        · have t1 := HFIT.out m hlt2
          have hcle := cutGo_le n z W u1 m
          have HS := Lib.hid (@cutGo_same n z W u1 m)
          have HT := Lib.hid (@cutGo_cut n z W u1 m)
          have hcell := hww.cell hlt2
          have hW7 := (HWS.out m).2
          have HWL := Lib.hid (HWS.out m).1
          have HUSM := Lib.hid (HUS.out m)
          have HKM := Lib.hid (HKP.out m)
          obtain ⟨bq, Am, cm, hAq, y0, y1, y2, hii⟩ := hcell
          subst hAq
          obtain ⟨Wm, hWm⟩ : ∃ Wm, W m = Wm := ⟨_, rfl⟩
          rw [hWm] at y0 y1 y2 hii hW7 HS HT HWL HUSM
          obtain ⟨l, e, bl⟩ := Wm
          dsimp only at *
          have HII := Lib.hid hii
          obtain ⟨r, hr⟩ : ∃ r, cutGo n z W u1 m = r := ⟨_, rfl⟩
          rw [hr] at hc HC3 hcle HS HT HKM ⊢
          obtain ⟨u3, k3⟩ := r
          dsimp only at *
          have hlen := HWL.out.len
          by_cases he : e = 0
          · have e1 : ((e : Int) != 0) = false := by simp [he]
            have HE := Lib.hid (HS.out he)
            clear hr hWm he hww hc
            go_wp2_with fail
            go_roundw
            case rel => exact ⟨m + 1, by omega, by rw [HE.out], by go_num, by rw [HE.out]; exact HC3.out, HWW.out, HG3.out⟩
            case measure => simp [intOf]; omega
          · have e1 : ((e : Int) != 0) = true := by simp; omega
            have HE := Lib.hid (HT.out he)
            have e2 : IntKind.i64.wrap (((k1 + k3 : Nat) : Int) + 1) = ((k1 + k3 : Nat) : Int) + 1 := by rw [IntKind.wrap_i64]; omega
            have HOK := Lib.hid (show okE (fun i' => u3 (d * z + m * 12 + i')) by
              have := HUSM.out he
              rw [hd]
              rw [(okE_congr (fun i' hi' => HKM.out i' hi')).1]
              exact this)
            clear hr hWm he hww
            go_upto_region 13 with fail
            go_region_law (go_simp; go_at_call 80; refine (specCut_any m _ HC3.out.drew HII.out.drew HWL.out hn hNz hN hcN rfl t1 (by omega) HOK.out l.length rfl).mono ?_; rintro e5 w5 ⟨rfl, hc5, hg5⟩)
            all_goals (try go_wp2_with fail)
            all_goals exact ⟨⟨m + 1, by omega, by rw [HE.out]; simp; omega, by go_num, by rw [HE.out, ← hd]; exact hc5, (HWW.out.below (Below.refl _ _).drew).grownF hg5 (by omega), only_trans (only_drew HG3.out) hg5⟩, by simp [intOf]; omega⟩
        · obtain rfl : m = E := by omega
          clear hww
          go_wp2_with fail
          go_ret
          rw [HRR.out]
          dsimp only
          rw [HWW0.out]
          exact ⟨rfl, HC3.out, only_trans HG.out HG3.out⟩
end Go.Proofs.YtapkckpjeoedaaaGreatDoor
