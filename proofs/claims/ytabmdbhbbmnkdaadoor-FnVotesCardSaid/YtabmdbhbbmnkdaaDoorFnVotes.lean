/-
  If each cell is changed in at most one of three revolutions, the majority has all cells, and the changed ones are weak: for all bytes that the track and the changes are drawn from. Conditions: none.
-/
import Derived.Test.YtabmdbhbbmnkdaaDoorRows
import Derived.Test.YtabmdbhbbmnkdaaDoorVoL
import Derived.Test.YtabmdbhbbmnkdaaDoorTkL
import Derived.Test.YtabmdbhbbmnkdaaDoorDrU
import Derived.Test.YtabmdbhbbmnkdaaDoorBsB
import Derived.Test.YtabmdbhbbmnkdaaDoorTie
import Derived.Test.YtabmdbhbbmnkdaaDoorCards
import Derived.LaidMore
import Derived.Lay
import Derived.SevenTiedAt
import Derived.Stop.Joined
import Derived.Deep.CutBlock
namespace Go.Proofs.YtabmdbhbbmnkdaaDoor.fnVotes
open Go Go.ChangeShapes Go.WideShapes Go.ChangeAt Go.RowKit Go.Joins lib
set_option linter.unusedVariables false
set_option linter.unusedSimpArgs false
set_option maxRecDepth 100000
theorem own_nat {w : World} {B c m : Nat} {A : Option Addr} {L : List Nat} (hm : L.length = m) (h : w.ownsRow B 2 1 (.slice A m c) m (natV L)) : Sl w w.heap.size A m (fun i => .int .i64 ((L.getD i 0 : Nat) : Int)) := by
  have h1 := own_sl h
  rw [Nat.mul_one] at h1
  refine h1.congr fun i hi => ?_
  have hi2 : i < L.length := by omega
  unfold natV
  rw [List.getD_eq_getElem?_getD, List.getD_eq_getElem?_getD, List.getElem?_map, List.getElem?_eq_getElem hi2]
  rfl
def row3 (C : List UInt8) (a : Nat → Nat) : Array Value := #[.string (strL (vJ C a 0)), .string (strL (vJ C a 1)), .string (strL (vJ C a 2))]
theorem row3_sl {w : World} {g : Nat} {C : List UInt8} {a : Nat → Nat} (h : Rw w g 9 (row3 C a)) : Sl w w.heap.size (some ⟨g, 0, none⟩) 3 (fun j => .string (strL (vJ C a j))) := h.sl fun i hi => by
  have : i = 0 ∨ i = 1 ∨ i = 2 := by omega
  rcases this with rfl | rfl | rfl <;> rfl
theorem row3_cell (C : List UInt8) (a : Nat → Nat) (j : Nat) (hj : j < 3) : (row3 C a)[j]? = some (.string (strL (vJ C a j))) := by
  have : j = 0 ∨ j = 1 ∨ j = 2 := by omega
  rcases this with rfl | rfl | rfl <;> rfl
theorem row3_set (C : List UInt8) (a : Nat → Nat) (t j : Nat) (ht : a t = 3) (hj : j < 3) (hl : t < C.length) : (row3 C a).setIfInBounds j (.string (strL ((vJ C a j).set t (flipY ((vJ C a j).getD t 0))))) = row3 C (setA a t j) := by
  rw [vJ_set C a t j ht hj hl]
  have : j = 0 ∨ j = 1 ∨ j = 2 := by omega
  unfold row3
  rcases this with rfl | rfl | rfl
  · rw [vJ_other C a t 0 1 ht (by omega) (by omega), vJ_other C a t 0 2 ht (by omega) (by omega)]; rfl
  · rw [vJ_other C a t 1 0 ht (by omega) (by omega), vJ_other C a t 1 2 ht (by omega) (by omega)]; rfl
  · rw [vJ_other C a t 2 0 ht (by omega) (by omega), vJ_other C a t 2 1 ht (by omega) (by omega)]; rfl
def VSt (C : List UInt8) (w : World) (g : Nat) (a : Nat → Nat) (m : Nat) (A2 : Option Addr) (c2 : Nat) (wr : World) : Prop :=
  (wantA a C.length).length = m ∧ wr.ownsRow w.heap.size 2 1 (.slice A2 m c2) m (natV (wantA a C.length)) ∧ Rw wr g 9 (row3 C a) ∧ Below w.heap.size w wr ∧ w.heap.size ≤ g
set_option maxHeartbeats 8000000 in
theorem law (A A' : Option Addr) (n c n' c' : Nat) (u u' : Nat → UInt8) (w : World) (hn : n ≤ 1048576) (hn' : n' ≤ 1048576) (hs : Sl w w.heap.size A n (fun i => .int .u8 ((u i).toNat : Int))) (hs' : Sl w w.heap.size A' n' (fun i => .int .u8 ((u' i).toNat : Int))) :
    Calls Tryd.prog 3 #[.slice A n c, .slice A' n' c'] w fun e w' => e = .returned (.bool true) ∧ Below w.heap.size w w' := by
  have HE := Lib.hid (e8Track_any A n c u w hn hs)
  have HAT := Lib.hid (fun (W : World) (hW : Below w.heap.size w W) (k m : Nat) (x y : Int) (hx : x = k) (hy : y = m) (hm1 : 1 ≤ m) (hm : m ≤ 100000) (hk : k ≤ 100000) => d8At_any A' n' c' u' k m hm1 hm hk hn' x y hx hy W ((hs'.below hW).more hW.size))
  have hni : ¬ (1048576 : Int) < (n : Int) := by omega
  have hni' : ¬ (1048576 : Int) < (n' : Int) := by omega
  clear hs hs'
  go_enter Tryd.func3, Tryd.ntmps3
  go_upto_region 4 with (go_at_call 6; refine HE.out.mono ?_; rintro e w1 ⟨f, g, L, A2, c2, hok, h3, rfl, hsl, hb1⟩; unfold trkA)
  have HB1 := Lib.hid hb1
  obtain ⟨q, hq⟩ : ∃ q, w1.heap.size = q := ⟨_, rfl⟩
  have hal : Below w1.heap.size w1 (w1.alloc (.cells #[.int .i64 f, .int .i64 g, .slice A2 L.length c2] 25)) := (Below.refl _ _).alloc (Nat.le_refl _) _
  have hsl2 := (hsl.below hal).more hal.size
  have HBT := Lib.hid (specBuild_any f g L A2 c2 _ (by omega) (fun k hk => by
    have h1 : sAt L k ∈ L := by
      unfold sAt
      rw [List.getD_eq_getElem?_getD, List.getElem?_eq_getElem hk]
      exact List.getElem_mem hk
    have := (hok.2.2.2.2.2 _ h1).len
    omega) hsl2)
  have hrx := Rw.new w1 25 #[.int .i64 f, .int .i64 g, .slice A2 L.length c2]
  have HB2 := Lib.hid (hb1.trans (hal.mono hb1.size))
  unfold trkA at HBT
  rw [hq] at hrx
  try rw [hq]
  clear hq hal hsl hsl2 hb1
  generalize w1.alloc (.cells #[.int .i64 f, .int .i64 g, .slice A2 L.length c2] 25) = W2 at *
  have x0 := hrx.cell 0
  have x1 := hrx.cell 1
  have x2 := hrx.cell 2
  clear hrx
  obtain ⟨F, hF⟩ : ∃ F : Nat, f = F := ⟨f.toNat, by have := hok.1; omega⟩
  obtain ⟨G, hG⟩ : ∃ G : Nat, g = G := ⟨g.toNat, by have := hok.2.2.1; omega⟩
  have hf3 : f123 F := by
    have h1 := hok.1
    have h2 := hok.2.1
    unfold f123
    omega
  have hG1 : 1 ≤ G := by have := hok.2.2.1; omega
  have hLok := hok.2.2.2.2.2
  have hTB := (okTB_iff f g L).2 hok
  have hbs : btS f g L = if trackN F G L ≤ 8000 then strL (trackL F G L) else .empty := by unfold btS; rw [if_pos hTB, hF, hG]; simp
  have hbc : btC f g L = if trackN F G L ≤ 8000 then 0 else 5 := by unfold btC; rw [if_pos hTB, hF, hG]; simp
  rw [hbs, hbc] at HBT
  have htl := track_len F G hf3 L hLok
  have htp := track_pos F G hf3 hG1 L hLok
  have htc := track_cells F G hf3 L
  clear hbs hbc hTB hF hG
  by_cases h8 : trackN F G L ≤ 8000
  · rw [if_pos h8, if_pos h8] at HBT
    rw [← htl] at h8
    obtain ⟨C, hC⟩ : ∃ C, trackL F G L = C := ⟨_, rfl⟩
    rw [hC] at HBT htp htc h8
    have hsz : (strL C).size = C.length := strL_size C
    have HSC := Lib.hid (show strL C = strL C from rfl)
    obtain ⟨N, hN⟩ : ∃ N, C.length = N := ⟨_, rfl⟩
    have HN := Lib.hid hN
    have HR3 := Lib.hid (fun a => rev3_vJ htc a htp h8)
    have HMJ := Lib.hid (fun a => maj_vJ htc a)
    have HWK := Lib.hid (fun a => weak_vJ htc a)
    have HTC := Lib.hid htc
    obtain ⟨S, hS⟩ : ∃ S, strL C = S := ⟨_, rfl⟩
    have HS := Lib.hid hS
    rw [hS] at HBT hsz HMJ
    rw [hN] at hsz htp h8 HMJ
    clear hC htl hLok hf3 hG1 hok htc hS hN HSC
    go_upto_region 7 with (go_at_call 7; refine HBT.out.mono ?_; rintro e w3 ⟨rfl, hb3⟩)
    have HB3 := Lib.hid (HB2.out.trans (hb3.mono HB2.out.size))
    clear hb3 x0 x1 x2
    obtain ⟨g1, hg1⟩ : ∃ g1, w3.heap.size = g1 := ⟨_, rfl⟩
    have hgz : w.heap.size ≤ g1 := by have := HB3.out.size; omega
    obtain ⟨W5, hW5⟩ : ∃ W5, (w3.alloc (.cells #[.string S, .string S, .string S] 9)).alloc (.cells #[] 2) = W5 := ⟨_, rfl⟩
    have hal3 : Below w3.heap.size w3 (w3.alloc (.cells #[.string S, .string S, .string S] 9)) := (Below.refl _ _).alloc (Nat.le_refl _) _
    have hV0 := Lib.hid (show VSt C w g1 (fun _ => 3) 0 (some ⟨g1 + 1, 0, none⟩) 0 W5 by
      refine ⟨by rw [wantA_none _ (fun _ => rfl)]; rfl, ?_, ?_, ?_, hgz⟩
      · rw [wantA_none _ (fun _ => rfl), ← hW5]
        have := own_nilE (w3.alloc (.cells #[.string S, .string S, .string S] 9)) 2 1 w.heap.size (Nat.le_trans (by omega) hal3.size)
        rw [World.size_alloc, hg1] at this
        exact this
      · unfold row3
        rw [vJ_none C 0 _ (fun _ => rfl) (by omega), vJ_none C 1 _ (fun _ => rfl) (by omega), vJ_none C 2 _ (fun _ => rfl) (by omega), HS.out, ← hW5, ← hg1]
        exact (Rw.new _ _ _).alloc _
      · rw [← hW5]
        exact (HB3.out.alloc HB3.out.size _).alloc (by rw [World.size_alloc]; omega) _)
    clear hal3
    go_upto_block 0 with fail
    clear hW5 hg1 HBT HE
    go_cut [9] (fun s9 wx => ∃ (a : Nat → Nat) (m : Nat) (A2 : Option Addr) (c2 : Nat), s9 = .slice A2 m c2 ∧ VSt C w g1 a m A2 c2 wx)
    case first =>
      go_wp2_with fail
      go_loopw [9, 10, 11] (fun s9 s10 s11 wr => ∃ (k t : Nat) (a : Nat → Nat) (m : Nat) (A2 : Option Addr) (c2 : Nat), k ≤ 40 ∧ t ≤ N ∧ m ≤ k ∧ s11 = .int .i64 k ∧ s10 = .int .i64 t ∧ s9 = .slice A2 m c2 ∧ (∀ i, t + 1 ≤ i → a i = 3) ∧ VSt C w g1 a m A2 c2 wr) (fun _ _ s11 _ => 100 - (intOf s11).toNat)
      case atStart => exact ⟨0, 0, _, 0, _, _, by omega, by omega, by omega, rfl, rfl, rfl, fun _ _ => rfl, hV0.out⟩
      case round =>
        obtain ⟨k, t, a, m, A2, c2, hk, ht, hmk, rfl, rfl, rfl, ha, hv⟩ := hrel
        have HV := Lib.hid hv
        have HA := Lib.hid ha
        have hbw := hv.2.2.2.1
        have HBW := Lib.hid hbw
        have hz := hbw.size
        clear hv ha hbw
        by_cases hc1 : k + 2 < n'
        · have hc1i : (k : Int) + 2 < (n' : Int) := by omega
          by_cases hc2 : k < 30
          · have hc2i : (k : Int) < 30 := by omega
            have HA1 := Lib.hid (HAT.out wr HBW.out k 97 (k : Int) 97 rfl rfl (by omega) (by omega) (by omega))
            go_upto_region 14 with (go_at_call 8; refine HA1.out.mono ?_; rintro e w' ⟨v, hv, rfl, hw'⟩; rw [hw']; clear hw' w')
            obtain ⟨t2, ht2⟩ : ∃ t2 : Nat, t + (1 + v) = t2 := ⟨_, rfl⟩
            have ht2i : (t : Int) + (1 + (v : Int)) = (t2 : Int) := by omega
            try rw [ht2i]
            have hlt2 : t < t2 := by omega
            clear ht2i ht2
            by_cases hc3 : t2 < N
            · have hc3i : (t2 : Int) < (N : Int) := by omega
              have HA2 := Lib.hid (fun (W : World) (hW : Below w.heap.size w W) => HAT.out W hW (k + 1) 3 ((k : Int) + 1) 3 (by omega) rfl (by omega) (by omega) (by omega))
              have hV := HV.out
              rw [show VSt C w g1 a m A2 c2 wr = VSt C w g1 a m A2 c2 wr from rfl] at hV
              have HO := Lib.hid hV.2.1
              have HG1 := Lib.hid hV.2.2.1
              have HLM := Lib.hid hV.1
              clear hV
              have hat := HA.out t2 (by omega)
              have HAT2 := Lib.hid hat
              go_upto_region 16 with (at_builtin; refine wpList_pushT (.tmp 60) (.tmp 62) 30 w.heap.size 2 (.int .i64 0) [.int .i64 (t2 : Int)] 1 8 _ m _ HO.out rfl rfl Tryd.underlying30 infoI64 rfl (by omega) rfl rfl rfl rfl (by intro u hu; simp at hu; subst hu; rfl) (by omega) (by omega) hz ?_; intro A6 c6 w6 ho6 hg6; have HO6 := Lib.hid ho6; have HG6 := Lib.hid hg6; clear ho6 hg6)
              have HB6 := Lib.hid (HBW.out.trans (below_grown HG6.out (own_lt HO.out) hz))
              have hr6 : Rw w6 g1 9 (row3 C a) := (HG6.out.block g1 HG1.out.lt (own_ne HO.out (Row.ofRw HG1.out) (by decide))).trans HG1.out
              have HR6 := Lib.hid hr6
              clear hr6
              go_upto_region 17 with (go_at_call 8; refine (HA2.out _ HB6.out).mono ?_; rintro e w' ⟨j, hj, rfl, hw'⟩; rw [hw']; clear hw' w')
              have hji : (j : Int) < 3 := by omega
              have hcj : w6.cell? ⟨g1, j, none⟩ = some (.string (strL (vJ C a j))) := by rw [HR6.out.cell]; exact row3_cell C a j hj
              have HFL := Lib.hid (d8Flip_any (vJ C a j) (vJ_cell HTC.out a j) (by rw [vJ_len, HN.out]; omega) t2 (by rw [vJ_len, HN.out]; exact hc3) (t2 : Int) rfl w6)
              have HST := Lib.hid (row3_set C a t2 j HAT2.out hj (by rw [HN.out]; exact hc3))
              have HWS := Lib.hid (wantA_step a t2 C.length j (fun i hi => HA.out i (by omega)) (by rw [HN.out]; exact hc3) hj)
              obtain ⟨X, hX⟩ : ∃ X, strL (vJ C a j) = X := ⟨_, rfl⟩
              obtain ⟨Y, hY⟩ : ∃ Y, strL ((vJ C a j).set t2 (flipY ((vJ C a j).getD t2 0))) = Y := ⟨_, rfl⟩
              rw [hX] at hcj HFL
              rw [hY] at HFL HST
              clear hX hY hat
              go_wp2_with (go_at_call 9; refine HFL.out.mono ?_; rintro e w7 ⟨rfl, hb7⟩; have hr7 := HR6.out.below hb7 HR6.out.lt; have hc7 : ∃ u, w7.cell? ⟨g1, j, none⟩ = some u := ⟨_, (hr7.cell j).trans (row3_cell C a j hj)⟩; obtain ⟨u7, hc7⟩ := hc7; have hf7 := hr7.frozen j; have HR7 := Lib.hid hr7; have HB7 := Lib.hid hb7; clear hr7 hb7)
              refine ⟨⟨k + 3, t2, setA a t2 j, m + 1, some A6, c6, by omega, by omega, by omega, by go_num, rfl, rfl, fun i hi => ?_, ?_⟩, by simp [intOf] <;> omega⟩
              · unfold setA
                rw [if_neg (by omega)]
                exact HA.out i (by omega)
              · refine ⟨by rw [HWS.out, List.length_append, HLM.out]; rfl, ?_, ?_, (HB6.out.trans (HB7.out.mono HB6.out.size)).setCell (p := ⟨g1, j, none⟩) hgz _, hgz⟩
                · rw [HWS.out]
                  unfold natV at *
                  rw [List.map_append]
                  exact World.ownsRow.kept (own_below HO6.out HB7.out) (only_setCell (g := g1) (only_refl w7 _) (.inl rfl) _) (.inr (fun e => own_ne (own_below HO6.out HB7.out) (Row.ofRw HR7.out) (by decide) e.symm))
                · rw [← HST.out]
                  exact HR7.out.set j _
            · have hc3i : ¬ (t2 : Int) < (N : Int) := by omega
              go_wp2_with fail
              go_meet
              exact ⟨a, m, A2, c2, rfl, HV.out⟩
          · have hc2i : ¬ (k : Int) < 30 := by omega
            go_wp2_with fail
            go_meet
            exact ⟨a, m, A2, c2, rfl, HV.out⟩
        · have hc1i : ¬ (k : Int) + 2 < (n' : Int) := by omega
          go_wp2_with fail
          go_meet
          exact ⟨a, m, A2, c2, rfl, HV.out⟩
    case rest =>
      obtain ⟨a, m, A3, c3, rfl, hv⟩ := hcut
      obtain ⟨hm, ho, hr, hb, _⟩ := hv
      have HM := Lib.hid hm
      have HO := Lib.hid ho
      have HB := Lib.hid hb
      have HR := Lib.hid hr
      have HMA := Lib.hid (fun W h => majority_any (HR3.out a) (some ⟨g1, 0, none⟩) 3 W h)
      have HWE := Lib.hid (fun W h => weak_any (HR3.out a) (some ⟨g1, 0, none⟩) 3 W h)
      rw [HN.out] at HMA HWE
      rw [HMJ.out] at HMA
      have hwk := HWK.out a
      rw [HN.out] at hwk
      rw [HN.out] at hm ho
      have HS3 := Lib.hid (row3_sl hr)
      clear hr
      have HLW := Lib.hid (show (wantA a N).length = m from hm)
      have HOM := Lib.hid ho
      have HWKK := Lib.hid hwk
      clear hm ho hb hwk
      go_upto_region 19 with (go_at_call 10; refine (HMA.out _ HS3.out).mono ?_; rintro e w4 ⟨rfl, hb4⟩; have HB4 := Lib.hid hb4; clear hb4)
      go_upto_region 20 with (go_at_call 11; refine (HWE.out _ ((HS3.out.below HB4.out).more HB4.out.size)).mono ?_; rintro e w5 ⟨A5, c5, rfl, ho5, hb5⟩; rw [HWKK.out] at ho5; rw [HWKK.out]; rw [HLW.out] at ho5; rw [HLW.out]; have HO5 := Lib.hid ho5; have HB5 := Lib.hid hb5; clear ho5 hb5)
      have HS5 := Lib.hid (own_nat HLW.out HO5.out)
      have HO5' := Lib.hid (own_below (own_below HOM.out HB4.out) HB5.out)
      have HS6 := Lib.hid (own_nat HLW.out HO5'.out)
      have hml : m ≤ 8000 := by
        have h1 := HLW.out
        have h2 : (wantA a N).length ≤ N := by
          unfold wantA
          have := List.length_filter_le (fun i => decide (a i < 3)) (List.range N)
          rwa [List.length_range] at this
        omega
      have HSM := Lib.hid (HLW.out ▸ fun (c d : Nat) (h1 : Sl w5 w5.heap.size A5 (wantA a N).length (fun i => .int .i64 (((wantA a N).getD i 0 : Nat) : Int))) (h2 : Sl w5 w5.heap.size A3 (wantA a N).length (fun i => .int .i64 (((wantA a N).getD i 0 : Nat) : Int))) => d8Same_true (wantA a N) A5 A3 c d w5 (by rw [HLW.out]; omega) h1 h2 : ∀ (c d : Nat), Sl w5 w5.heap.size A5 m (fun i => .int .i64 (((wantA a N).getD i 0 : Nat) : Int)) → Sl w5 w5.heap.size A3 m (fun i => .int .i64 (((wantA a N).getD i 0 : Nat) : Int)) → Calls Tryd.prog 12 #[.slice A5 m c, .slice A3 m d] w5 fun e w' => e = .returned (.bool true) ∧ Below w5.heap.size w5 w')
      go_wp2_with (go_at_call 12; refine (HSM.out _ _ HS5.out HS6.out).mono ?_; rintro e w6 ⟨rfl, hb6⟩)
      go_ret
      have b4 := HB.out.trans (HB4.out.mono HB.out.size)
      have b5 := b4.trans (HB5.out.mono b4.size)
      exact ⟨rfl, b5.trans (hb6.mono b5.size)⟩
  · rw [if_neg h8, if_neg h8] at HBT
    clear htl htp htc
    go_wp2_with (go_at_call 7; refine HBT.out.mono ?_; rintro e w3 ⟨rfl, hb3⟩)
    go_ret
    exact ⟨rfl, HB2.out.trans (hb3.mono HB2.out.size)⟩
theorem law_big (A A' : Option Addr) (n c n' c' : Nat) (w : World) (h : 1048576 < n ∨ 1048576 < n') :
    Calls Tryd.prog 3 #[.slice A n c, .slice A' n' c'] w fun e w' => e = .returned (.bool true) ∧ Below w.heap.size w w' := by
  by_cases h1 : 1048576 < n
  · have hi : (1048576 : Int) < (n : Int) := by omega
    go_enter Tryd.func3, Tryd.ntmps3
    go_wp2
    go_ret
    exact ⟨rfl, Below.refl _ _⟩
  · have hi : ¬ (1048576 : Int) < (n : Int) := by omega
    have hi2 : (1048576 : Int) < (n' : Int) := by omega
    go_enter Tryd.func3, Tryd.ntmps3
    go_wp2
    go_ret
    exact ⟨rfl, Below.refl _ _⟩
theorem bytes_of {W : World} {A : Option Addr} {n : Nat} {z : Nat → Int} (hs : Sl W W.heap.size A n (fun i => .int .u8 (z i))) (hm : ∀ i, i < n → (Lit.int .u8 (z i)).wf = true) : Sl W W.heap.size A n (fun i => .int .u8 (((UInt8.ofNat (z i).toNat).toNat : Nat) : Int)) := hs.congr fun i hi => by
  have h2 : IntKind.u8.min ≤ z i ∧ z i ≤ IntKind.u8.max := by simpa [Lit.wf] using hm i hi
  have e1 : IntKind.u8.min = 0 := rfl
  have e2 : IntKind.u8.max = 255 := rfl
  rw [e1, e2] at h2
  congr 1
  rw [UInt8.toNat_ofNat']
  omega
theorem walk (H : Type) (enc : TypeId × Value → H) (W : World) (base : Nat) (args : Array Value) (ds : List (DataW H)) (p : List MemPlace)
    (hval : ∀ (j : Nat) t v, Tryd.f3.params[j]? = some t → args[j]? = some v → Value.okWide Tryd.prog W .any base t v)
    (hA : DataW.TrodAll enc Tryd.prog W 0 (fun _ => true) true Tryd.f3.params.toList args.toList ds p) :
    Calls Tryd.prog 3 args W fun e W' => e = .returned (.bool true) ∧ Below W.heap.size W W' := by
  rw [Tryd.params3] at hA hval
  obtain ⟨v0, vs0, d0, ds0, p0, q0, hargs, rfl, rfl, h0, r0⟩ := trodAll_cons hA
  obtain ⟨v1, vs1, d1, ds1, p1, q1, rfl, rfl, rfl, h1, r1⟩ := trodAll_cons r0
  obtain ⟨rfl, rfl, rfl⟩ := trodAll_nil r1
  obtain rfl : args = #[v0, v1] := by cases args; simp_all
  obtain ⟨A, n, c, z, rfl, g1, g2, hs, hm⟩ := open_sl_int Tryd.underlying22 Tryd.underlying5 (by kernel_rfl) (hval 0 22 v0 rfl rfl) h0
  obtain ⟨A', n', c', z', rfl, g1', g2', hs', hm'⟩ := open_sl_int Tryd.underlying22 Tryd.underlying5 (by kernel_rfl) (hval 1 22 v1 rfl rfl) h1
  by_cases hn : n ≤ 1048576 ∧ n' ≤ 1048576
  · exact law A A' n c n' c' _ _ W hn.1 hn.2 (bytes_of hs hm) (bytes_of hs' hm')
  · exact law_big A A' n c n' c' W (by omega)
theorem own : ownKnob Tryd.prog.godebug = none := by kernel_rfl
theorem laidOut : laidOutB Tryd.prog = true := by kernel_rfl
theorem lifted (os : Os) (started : os.Started) (H : Type) (enc : TypeId × Value → H) :
    ReturnsInHanded {} Tryd.checked os 3 .any (fun w args => (Rows.fnVotesSpec.pre enc Tryd.prog Tryd.f3 Rows.fnVotesRow.domain false w args ∧ laidMetH Tryd.prog Rows.fnVotesRow.laid w) ∧ sizedMet enc Tryd.prog Tryd.f3 (OpenSpec.ofChange Rows.fnVotesSpec) false w args)
      (Rows.fnVotesSpec.post enc Tryd.prog Tryd.f3 false true false false) := by
  refine returnsInHanded_of_change_and (C := Tryd.checked) (X := fun w _ => laidMetH Tryd.prog Rows.fnVotesRow.laid w) (fun _ _ _ hh h => h.of_heap hh) own started (by kernel_rfl) Tryd.func3
    (ChangeSpec.witness_shaped (enc := enc) (C := Tryd.checked) (os := os) (X := fun w _ => laidMetH Tryd.prog Rows.fnVotesRow.laid w) false (World.laidAll Tryd.prog os Rows.fnVotesRow.laid) #[.slice none 0 0, .slice none 0 0] 8 (World.laidAll_os _ _ _)
      (World.shaped_of_ZipB (by kernel_rfl) (by kernel_rfl)) (by kernel_rfl) (by kernel_rfl) (by kernel_rfl)
      (by rw [MakeChecks.laidMetH_plain _ _ _ (by kernel_rfl)]; exact laidMet_laidAll _ (by kernel_rfl) (by kernel_rfl))) ?_
  intro W base args ds gs before hval hW _ _ _ _
  have hW' := hW
  obtain ⟨p, q, hA, hV, rfl, hfz, hnd⟩ := hW
  refine (walk H enc W base args ds p hval hA).mono fun e W' ⟨he, hb⟩ => ?_
  subst he
  exact ⟨_, rfl, law_post laidOut (by kernel_rfl) rfl rfl Tryd.underlying4 (fun xs hx => by
      match xs, hx with
      | [x0, x1], _ => exact ⟨rfl, rfl, rfl⟩) hW' hb⟩
theorem over : Rows.fnVotesRow.holds Tryd.pinned (OpenSpec.ofChange Rows.fnVotesSpec) :=
  OpenClaim.holds_of_wide 3 Tryd.f3 rfl rfl rfl rfl rfl rfl rfl ⟨rfl, rfl, rfl, rfl, rfl⟩ rfl rfl rfl rfl rfl (by kernel_rfl) Tryd.func3 (by kernel_rfl)
    (of_decide_eq_true (by kernel_rfl)) (by unfold Func.isWrapper; first | (rw [if_pos (by decide +kernel)]; kernel_rfl) | (rw [if_neg (by decide +kernel)]; exact ⟨rfl, rfl⟩))
    (fun os started H enc _ => lifted os started H enc)
/-- the given statement: the tied card -/
theorem proved : Rows.FnVotesCardSaid :=
  Claim7.holds_tied_plain_at .later [] [.data, .pinned] true (true, "28c7c92d896b583c277042a0b5cf5154b8bc5c3fb1d0334586ec29a6025071a5") false over (fun _ h => by cases h) (by kernel_rfl) (fun _ h => by cases h) fnVotes_row_tie rfl ⟨rfl, rfl⟩ (by kernel_rfl) rfl
    (fun f fn hf hfn => by
      obtain rfl : f = 3 := Option.some.inj ((show Tryd.prog.funcNamed "loop.example/g00899/laws.FnVotes" = some 3 by kernel_rfl).symm.trans hf) |>.symm
      obtain rfl : fn = Tryd.f3 := (Option.some.inj (Tryd.func3.symm.trans hfn)).symm
      exact ⟨by kernel_rfl, fun j t ht => by
        rw [Tryd.params3] at ht
        have hm : t ∈ [22, 22] := by simpa using Array.mem_of_getElem? ht
        have hall : ([22, 22].all fun u => !Tryd.prog.wantsStandIn u) = true := by kernel_rfl
        exact (show Tryd.prog.wantsStandIn t = false by simpa using List.all_eq_true.1 hall t hm)⟩)
    (by kernel_rfl)
end Go.Proofs.YtabmdbhbbmnkdaaDoor.fnVotes
