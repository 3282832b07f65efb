/-
  A track has as many cells as its parts, and a mark for each of its fields: for all bytes that the track is drawn from. Conditions: none.
-/
import Derived.Test.YtabmdbhbbmnkdaaDoorRows
import Derived.Test.YtabmdbhbbmnkdaaDoorMkF
import Derived.Test.YtabmdbhbbmnkdaaDoorMkG
import Derived.Test.YtabmdbhbbmnkdaaDoorMpF
import Derived.Test.YtabmdbhbbmnkdaaDoorDrU
import Derived.Test.YtabmdbhbbmnkdaaDoorBlA
import Derived.Test.YtabmdbhbbmnkdaaDoorTie
import Derived.Test.YtabmdbhbbmnkdaaDoorCards
import Derived.LaidMore
import Derived.Lay
import Derived.SevenTiedAt
import Derived.Stop.Joined
import Derived.OpenVars
import Derived.ChangeVars
namespace Go.Proofs.YtabmdbhbbmnkdaaDoor.fnLayout
open Go Go.ChangeShapes Go.WideShapes Go.ChangeAt Go.RowKit Go.Joins lib
set_option linter.unusedVariables false
set_option linter.unusedSimpArgs false
set_option maxRecDepth 100000
section
variable {H : Type} {enc : TypeId × Value → H} {P : Program}
theorem law_post1 {fn : Func} {s : ChangeSpec} {W W' : World} {args : Array Value} {ds gs : List (DataW H)} {before : List MemPlace} {tb : TypeId} {nm : String}
    (hl : laidOutB P = true) (hr : (fn.params.toList.all fun t => P.readableRec t && decide (t < P.types.size)) = true) (hv : s.vars = [nm]) (hvr : varsRowed P [nm] = true) (hres : fn.resultTypes = #[tb]) (ht : P.underlying tb = some .bool)
    (hs : ∀ (xs : List (DataW H)) (g1 : DataW H), xs.length = fn.params.toList.length → (s.fn H (xs ++ [g1])).results = [.lit (.bool true)] ∧ (s.fn H (xs ++ [g1])).args = xs ∧ (s.fn H (xs ++ [g1])).vars = [g1])
    (hW : DataW.Whole enc P fn.params.toList s.vars false W args.toList ds gs before) (hb : Below W.heap.size W W') :
    s.post enc P fn false true false false W args (.bool true) W' := by
  have hW' := hW
  obtain ⟨p, q, hA, hV, rfl, hfz, hnd⟩ := hW
  rw [hv] at hV
  obtain ⟨g1, rfl⟩ : ∃ g1, gs = [g1] := by
    match gs, hV with
    | [g1], _ => exact ⟨g1, rfl⟩
    | [], h => exact h.elim
    | _ :: _ :: _, h =>
      obtain ⟨_, _, _, _, _, _, _, _, _, _, h5, _⟩ := h
      exact h5.elim
  have hlen : ds.length = fn.params.toList.length := by
    clear hW' hfz hnd hs hr hres
    revert hA
    generalize fn.params.toList = ts
    generalize args.toList = vs
    intro hA
    induction ts generalizing vs ds p with
    | nil => obtain ⟨rfl, rfl, rfl⟩ := trodAll_nil hA; rfl
    | cons t ts ih =>
      obtain ⟨v, vs, d, ds, p, q, rfl, rfl, rfl, h0, h1⟩ := trodAll_cons hA
      simp [ih q vs h1]
  obtain ⟨s1, s2, s3⟩ := hs ds g1 hlen
  refine ⟨ds, [g1], _, [], p, q, hW', ?_, ?_, ?_, hb.frame _, fun h => by cases h⟩
  · rw [s1, hres]
    exact trodAll_mk1 (shut_bool ht _)
  · rw [s2]
    exact trodAll_below hl hb _ _ _ _ hr hA
  · rw [s3, hv]
    exact hb.trodVars hl hvr hV
end
theorem kinds_at : ∀ (l : List SS) (M : List Mk), M.map Mk.kd = (l.flatMap fun s => [1, s.kd]) → M.length = 2 * l.length ∧ ∀ i, i < l.length → (M.getD (2 * i) ⟨0, 0, 0⟩).kd = 1 ∧ (M.getD (2 * i + 1) ⟨0, 0, 0⟩).kd = (sAt l i).kd
  | [], M, h => by
    have : M = [] := by simpa using h
    subst this
    exact ⟨rfl, fun i hi => by simp at hi⟩
  | s :: r, M, h => by
    rw [List.flatMap_cons] at h
    match M, h with
    | a :: b :: M, h =>
      simp only [List.map_cons, List.cons_append, List.nil_append] at h
      injection h with h1 h
      injection h with h2 h
      obtain ⟨h3, h4⟩ := kinds_at r M h
      refine ⟨by simp only [List.length_cons]; omega, fun i hi => ?_⟩
      cases i with
      | zero => exact ⟨h1, h2⟩
      | succ i =>
        have := h4 i (by simpa using hi)
        rw [show 2 * (i + 1) = 2 * i + 1 + 1 by omega, show 2 * i + 1 + 1 + 1 = (2 * i + 1) + 1 + 1 by omega]
        simp only [List.getD_cons_succ]
        exact this
    | [a], h => simp at h
    | [], h => simp at h
set_option maxHeartbeats 8000000 in
theorem law (A : Option Addr) (n c : Nat) (u : Nat → UInt8) (w : World) (hw : GcrW w) (hn : n ≤ 1048576) (hs : Sl w w.heap.size A n (fun i => .int .u8 ((u i).toNat : Int))) :
    Calls Tryd.prog 4 #[.slice A n c] w fun e w' => e = .returned (.bool true) ∧ Below w.heap.size w w' := by
  have HE := Lib.hid (e8Track_any A n c u w hn hs)
  have HGW := Lib.hid hw
  have hni : ¬ (1048576 : Int) < (n : Int) := by omega
  clear hs hw
  go_enter Tryd.func4, Tryd.ntmps4
  go_upto_region 4 with (go_at_call 6; refine HE.out.mono ?_; rintro e w1 ⟨f, g, L, A2, c2, hok, h3, rfl, hsl, hb1⟩; unfold trkA)
  obtain ⟨q, hq⟩ : ∃ q, w1.heap.size = q := ⟨_, rfl⟩
  have hal : Below w1.heap.size w1 (w1.alloc (.cells #[.int .i64 f, .int .i64 g, .slice A2 L.length c2] 25)) := (Below.refl _ _).alloc (Nat.le_refl _) _
  have hsl2 := (hsl.below hal).more hal.size
  have hmem : ∀ k, k < L.length → sAt L k ∈ L := fun k hk => by
    unfold sAt
    rw [List.getD_eq_getElem?_getD, List.getElem?_eq_getElem hk]
    exact List.getElem_mem hk
  have HB2 := Lib.hid (hb1.trans (hal.mono hb1.size))
  have HBT := Lib.hid (implBuild_any f g L A2 c2 _ (by omega) (fun k hk => by
    have := (hok.2.2.2.2.2 _ (hmem k hk)).len
    omega) hsl2 (HGW.out.below HB2.out))
  have hrx := Rw.new w1 25 #[.int .i64 f, .int .i64 g, .slice A2 L.length c2]
  have HS2 := Lib.hid hsl2
  unfold trkA at HBT
  rw [hq] at hrx
  try rw [hq]
  clear hal hsl hsl2 hb1
  generalize w1.alloc (.cells #[.int .i64 f, .int .i64 g, .slice A2 L.length c2] 25) = W2 at *
  clear hq
  have x0 := hrx.cell 0
  have x1 := hrx.cell 1
  have x2 := hrx.cell 2
  have HRX := Lib.hid hrx
  clear hrx
  have HTC := Lib.hid (fun (W : World) (hW : Below W2.heap.size W2 W) => trackCellsX_any f g L A2 c2 W hok (by omega) ((HS2.out.below hW).more hW.size))
  unfold trkA at HTC
  obtain ⟨F, hF⟩ : ∃ F : Nat, f = F := ⟨f.toNat, by have := hok.1; omega⟩
  obtain ⟨G, hG⟩ : ∃ G : Nat, g = G := ⟨g.toNat, by have := hok.2.2.1; omega⟩
  have hf3 : f123 F := by
    have h1 := hok.1
    have h2 := hok.2.1
    unfold f123
    omega
  have hG1 : 1 ≤ G := by have := hok.2.2.1; omega
  have hLok := hok.2.2.2.2.2
  have hTB := (okTB_iff f g L).2 hok
  have hbs : btS f g L = if trackN F G L ≤ 8000 then strL (trackL F G L) else .empty := by unfold btS; rw [if_pos hTB, hF, hG]; simp
  have hbc : btC f g L = if trackN F G L ≤ 8000 then 0 else 5 := by unfold btC; rw [if_pos hTB, hF, hG]; simp
  have htn : trackN f.toNat g.toNat L = trackN F G L := by rw [hF, hG]; simp
  rw [hbs, hbc] at HBT
  rw [htn] at HTC
  have htl := track_len F G hf3 L hLok
  have htp := track_pos F G hf3 hG1 L hLok
  have htc := track_cells F G hf3 L
  have hkd := kinds_at L _ (track_marks F G hf3 hG1 L)
  clear hbs hbc hTB htn
  obtain ⟨N, hN⟩ : ∃ N, L.length = N := ⟨_, rfl⟩
  have HLN := Lib.hid hN
  rw [hN] at HBT HTC HRX x2 hkd hmem h3
  rw [hN]
  by_cases h8 : trackN F G L ≤ 8000
  · rw [if_pos h8, if_pos h8] at HBT
    rw [← htl] at h8 HTC
    obtain ⟨C, hC⟩ : ∃ C, trackL F G L = C := ⟨_, rfl⟩
    rw [hC] at HBT htp htc h8 hkd HTC
    have hsz : (strL C).size = C.length := strL_size C
    have HV := Lib.hid (fun W => specValid_true C htc htp h8 W)
    have HFM := Lib.hid (fun W => findMarks_any F hf3 C htc htp h8 (by rw [hkd.1]; omega) f hF W)
    unfold FindMOut at HFM
    rw [hkd.1] at HFM
    have HKD := Lib.hid hkd.2
    have HML := Lib.hid hkd.1
    obtain ⟨K, hK⟩ : ∃ K, 2 * N = K := ⟨_, rfl⟩
    have HK := Lib.hid hK
    rw [hK] at HFM HML
    obtain ⟨M, hM⟩ : ∃ M, marksK F C 3 = M := ⟨_, rfl⟩
    rw [hM] at HFM HKD HML
    obtain ⟨CN, hCN⟩ : ∃ CN, C.length = CN := ⟨_, rfl⟩
    obtain ⟨S, hS⟩ : ∃ S, strL C = S := ⟨_, rfl⟩
    rw [hS] at HBT hsz HV HFM
    rw [hCN] at hsz htp h8 HTC
    have HIF := Lib.hid (fun (s : SS) (hs : s.ok) (W : World) => idField_any F hf3 s hs f hF W)
    have HDF := Lib.hid (fun (s : SS) (hs : s.ok) (W : World) => dataField_any F hf3 s hs f hF W)
    have HOK := Lib.hid (fun k hk => hLok _ (hmem k hk))
    clear hC htl hLok hf3 hG1 hok htc hkd hM hCN hS hF hG hmem hN hK
    go_upto_region 7 with (go_at_call 13; refine HBT.out.mono ?_; rintro e w3 ⟨rfl, hb3⟩)
    have HB3 := Lib.hid hb3
    have HR3 := Lib.hid (HRX.out.below hb3 HRX.out.lt)
    clear hb3 x0 x1 x2
    have x0 := HR3.out.cell 0
    have x1 := HR3.out.cell 1
    have x2 := HR3.out.cell 2
    go_upto_region 9 with (first
      | (go_at_call 14; refine (HTC.out _ HB3.out).mono ?_; rintro e w4 ⟨rfl, hb4⟩)
      | (go_at_call 15; refine (HV.out _).mono ?_; rintro e w' ⟨rfl, hw'⟩; rw [hw']; clear hw' w'))
    have HB4 := Lib.hid (HB3.out.trans (hb4.mono HB3.out.size))
    have HR4 := Lib.hid (HR3.out.below hb4 HR3.out.lt)
    clear hb4 x0 x1 x2
    have x0 := HR4.out.cell 0
    have x1 := HR4.out.cell 1
    have x2 := HR4.out.cell 2
    go_upto_region 10 with (go_at_call 16; refine (HFM.out _).mono ?_; rintro e w5 ⟨g5, c5, rfl, ho5, hb5⟩)
    have HB5 := Lib.hid (HB4.out.trans (hb5.mono HB4.out.size))
    have HR5 := Lib.hid (HR4.out.below hb5 HR4.out.lt)
    have HM5 := Lib.hid ho5.sl
    clear hb5 ho5 x0 x1 x2
    have x0 := HR5.out.cell 0
    have x1 := HR5.out.cell 1
    have x2 := HR5.out.cell 2
    have hm2 : IntKind.i64.wrap (2 * (N : Int)) = (K : Int) := by rw [IntKind.wrap_i64]; have := HK.out; omega
    have hm3 : 2 * (N : Int) = (K : Int) := by have := HK.out; omega
    go_wp2_with fail
    clear hm2 hm3 x0 x1 x2
    go_loopw [8] (fun s8 wr => ∃ i : Nat, i ≤ N ∧ s8 = .int .i64 i ∧ Below w5.heap.size w5 wr) (fun s8 _ => N - (intOf s8).toNat)
    case atStart => exact ⟨0, by omega, rfl, Below.refl _ _⟩
    case round =>
      obtain ⟨i, hi, rfl, hb6⟩ := hrel
      have HB6 := Lib.hid hb6
      have HR6 := Lib.hid (HR5.out.below hb6 HR5.out.lt)
      have HB26 := Lib.hid (HB5.out.trans (hb6.mono HB5.out.size))
      clear hb6
      have x0 := HR6.out.cell 0
      have x1 := HR6.out.cell 1
      have x2 := HR6.out.cell 2
      by_cases hlt : i < N
      · have hii : (i : Int) < (N : Int) := by omega
        have hiL : i < L.length := by rw [HLN.out]; exact hlt
        obtain ⟨b, o, rfl, hbb, c0, c1, c2, c3, c4, c5, c6, c7⟩ := SSl.elem (Sl.below HS2.out HB26.out) hiL
        have HBB := Lib.hid (show b < wr.heap.size from Nat.lt_of_lt_of_le hbb HB26.out.size)
        obtain ⟨p, hp⟩ : ∃ p, 2 * i = p := ⟨_, rfl⟩
        obtain ⟨p1, hp1⟩ : ∃ p1, 2 * i + 1 = p1 := ⟨_, rfl⟩
        have hpi : 2 * (i : Int) = (p : Int) := by omega
        have hpi1 : (p : Int) + 1 = (p1 : Int) := by omega
        have hpw : IntKind.i64.wrap (2 * (i : Int)) = (p : Int) := by rw [IntKind.wrap_i64]; omega
        have hpK : (p : Int) < (K : Int) := by have := HK.out; omega
        have hpK1 : (p1 : Int) < (K : Int) := by have := HK.out; omega
        have hsm := (HM5.out.below HB6.out)
        have hk0 : wr.cell? ⟨g5, p * 3, none⟩ = some (.int .i64 1) := by
          obtain ⟨b', o', e', _, h⟩ := hsm (p * 3) (by rw [HML.out]; omega)
          injection e' with e'
          injection e' with e1 e2 _
          subst e1 e2
          rw [Nat.zero_add] at h
          rw [h]
          unfold mkC
          rw [show p * 3 / 3 = p by omega, show p * 3 % 3 = 0 by omega, ← hp]
          show some (Value.int .i64 (((M.getD (2 * i) ⟨0, 0, 0⟩).kd : Nat) : Int)) = _
          rw [(HKD.out i hlt).1]
          rfl
        have hk1 : wr.cell? ⟨g5, p1 * 3, none⟩ = some (.int .i64 ((sAt L i).kd : Nat)) := by
          obtain ⟨b', o', e', _, h⟩ := hsm (p1 * 3) (by rw [HML.out]; omega)
          injection e' with e'
          injection e' with e1 e2 _
          subst e1 e2
          rw [Nat.zero_add] at h
          rw [h]
          unfold mkC
          rw [show p1 * 3 / 3 = p1 by omega, show p1 * 3 % 3 = 0 by omega, ← hp1]
          show some (Value.int .i64 (((M.getD (2 * i + 1) ⟨0, 0, 0⟩).kd : Nat) : Int)) = _
          rw [(HKD.out i hlt).2]
        have hok := HOK.out i hlt
        have HI1 := Lib.hid (HIF.out (sAt L i) hok)
        have HD1 := Lib.hid (HDF.out (sAt L i) hok)
        have hri : (strL (fieldL F 1 (sAt L i).id (sAt L i).bi)).size = 6 := by rw [strL_size, fieldL_len]; rfl
        have hrd : (strL (fieldL F (sAt L i).kd (sAt L i).dt.data.toList (sAt L i).bd)).size = (sAt L i).dt.size + 2 := by rw [strL_size, fieldL_len]; rfl
        obtain ⟨Y, hY⟩ : ∃ Y, sAt L i = Y := ⟨_, rfl⟩
        rw [hY] at c0 c1 c2 c3 c4 c5 c6 c7 hk1 HI1 HD1 hri hrd
        obtain ⟨RI, hRI⟩ : ∃ R, strL (fieldL F 1 Y.id Y.bi) = R := ⟨_, rfl⟩
        obtain ⟨RD, hRD⟩ : ∃ R, strL (fieldL F Y.kd Y.dt.data.toList Y.bd) = R := ⟨_, rfl⟩
        rw [hRI] at HI1 hri
        rw [hRD] at HD1 hrd
        have hkd : Y.kd = if Y.dl then 3 else 2 := rfl
        rw [hkd] at hk1
        clear hY hRI hRD hok hkd hsm hp hp1 hiL hbb
        unfold SS.val SS.cells at HI1 HD1
        obtain ⟨cy, hdd, no, sz, dt, dl, bi, bd⟩ := Y
        simp only at c0 c1 c2 c3 c4 c5 c6 c7 hk1 HI1 HD1 hrd
        obtain ⟨z, hz⟩ : ∃ z, dt.size = z := ⟨_, rfl⟩
        rw [hz] at hrd
        obtain ⟨z2, hz2⟩ : ∃ z2, z + 2 = z2 := ⟨_, rfl⟩
        rw [hz2] at hrd
        have hzi : (z : Int) + 2 = (z2 : Int) := by omega
        clear hz2
        have HC := Lib.hid (show wr.cell? ⟨b, o + i * 8, none⟩ = some (.int .i64 cy) ∧ wr.cell? ⟨b, o + i * 8 + 1, none⟩ = some (.int .i64 hdd) ∧ wr.cell? ⟨b, o + i * 8 + 2, none⟩ = some (.int .i64 no) ∧ wr.cell? ⟨b, o + i * 8 + 3, none⟩ = some (.int .i64 sz) ∧ wr.cell? ⟨b, o + i * 8 + 4, none⟩ = some (.string dt) ∧ wr.cell? ⟨b, o + i * 8 + 5, none⟩ = some (.bool dl) ∧ wr.cell? ⟨b, o + i * 8 + 6, none⟩ = some (.bool bi) ∧ wr.cell? ⟨b, o + i * 8 + 7, none⟩ = some (.bool bd) from ⟨c0, c1, c2, c3, c4, c5, c6, c7⟩)
        cases dl
        · simp only [Bool.false_eq_true, if_false, if_true] at hk1
          go_upto_region 20 with fail
          clear x0 x1 x2 c0 c1 c2 c3 c4 c5 c6 c7 hk0 hk1 hpi hpi1 hpw hpK hpK1
          have R20 := Lib.hid HR6.out.drew
          have x0 := R20.out.cell 0
          have x1 := R20.out.cell 1
          have x2 := R20.out.cell 2
          obtain ⟨c0, c1, c2, c3, c4, c5, c6, c7⟩ := (show wr.drew.cell? ⟨b, o + i * 8, none⟩ = some (.int .i64 cy) ∧ wr.drew.cell? ⟨b, o + i * 8 + 1, none⟩ = some (.int .i64 hdd) ∧ wr.drew.cell? ⟨b, o + i * 8 + 2, none⟩ = some (.int .i64 no) ∧ wr.drew.cell? ⟨b, o + i * 8 + 3, none⟩ = some (.int .i64 sz) ∧ wr.drew.cell? ⟨b, o + i * 8 + 4, none⟩ = some (.string dt) ∧ wr.drew.cell? ⟨b, o + i * 8 + 5, none⟩ = some (.bool false) ∧ wr.drew.cell? ⟨b, o + i * 8 + 6, none⟩ = some (.bool bi) ∧ wr.drew.cell? ⟨b, o + i * 8 + 7, none⟩ = some (.bool bd) from HC.out)
          go_cut [10, 11] (fun s10 s11 wx => s10 = .string RI ∧ s11 = .bool true ∧ Below wr.heap.size wr wx)
          case first =>
            go_region_law (go_simp; go_at_call 17; refine (HI1.out _).mono ?_; rintro e w6 ⟨rfl, hb6⟩)
            all_goals
              go_wp2_with fail
              go_meet
              exact ⟨rfl, rfl, (Below.refl _ _).drew.trans hb6⟩
          case rest =>
            obtain ⟨rfl, rfl, hbx⟩ := hcut
            have HBX := Lib.hid hbx
            have R21 := Lib.hid (HR6.out.below hbx HR6.out.lt).drew
            clear x0 x1 x2 c0 c1 c2 c3 c4 c5 c6 c7 hbx
            have x0 := R21.out.cell 0
            have x1 := R21.out.cell 1
            have x2 := R21.out.cell 2
            obtain ⟨c0, c1, c2, c3, c4, c5, c6, c7⟩ := (show wc.drew.cell? ⟨b, o + i * 8, none⟩ = some (.int .i64 cy) ∧ wc.drew.cell? ⟨b, o + i * 8 + 1, none⟩ = some (.int .i64 hdd) ∧ wc.drew.cell? ⟨b, o + i * 8 + 2, none⟩ = some (.int .i64 no) ∧ wc.drew.cell? ⟨b, o + i * 8 + 3, none⟩ = some (.int .i64 sz) ∧ wc.drew.cell? ⟨b, o + i * 8 + 4, none⟩ = some (.string dt) ∧ wc.drew.cell? ⟨b, o + i * 8 + 5, none⟩ = some (.bool false) ∧ wc.drew.cell? ⟨b, o + i * 8 + 6, none⟩ = some (.bool bi) ∧ wc.drew.cell? ⟨b, o + i * 8 + 7, none⟩ = some (.bool bd) from ⟨(HBX.out.cell (p := ⟨b, _, none⟩) HBB.out).trans HC.out.1, (HBX.out.cell (p := ⟨b, _, none⟩) HBB.out).trans HC.out.2.1, (HBX.out.cell (p := ⟨b, _, none⟩) HBB.out).trans HC.out.2.2.1, (HBX.out.cell (p := ⟨b, _, none⟩) HBB.out).trans HC.out.2.2.2.1, (HBX.out.cell (p := ⟨b, _, none⟩) HBB.out).trans HC.out.2.2.2.2.1, (HBX.out.cell (p := ⟨b, _, none⟩) HBB.out).trans HC.out.2.2.2.2.2.1, (HBX.out.cell (p := ⟨b, _, none⟩) HBB.out).trans HC.out.2.2.2.2.2.2.1, (HBX.out.cell (p := ⟨b, _, none⟩) HBB.out).trans HC.out.2.2.2.2.2.2.2⟩)
            have HC4 := Lib.hid c4
            have HBW := Lib.hid (show b < wc.drew.heap.size from Nat.lt_of_lt_of_le HBB.out HBX.out.size)
            go_wp2_with fail
            go_region_law (go_simp; go_at_call 18; refine (HD1.out _).mono ?_; rintro e w7 ⟨rfl, hb7⟩; have HR7 := R21.out.below hb7 R21.out.lt; have y0 := HR7.cell 0; have y2 := HR7.cell 2; have d4 := (hb7.cell (p := ⟨b, o + i * 8 + 4, none⟩) HBW.out).trans HC4.out)
            all_goals
              go_wp2_with fail
              all_goals exact ⟨⟨i + 1, by omega, by go_num, HB6.out.trans ((HBX.out.trans (((Below.refl _ _).drew.trans hb7).mono HBX.out.size)).mono HB6.out.size)⟩, by simp [intOf] <;> omega⟩
        · simp only [Bool.false_eq_true, if_false, if_true] at hk1
          go_upto_region 20 with fail
          clear x0 x1 x2 c0 c1 c2 c3 c4 c5 c6 c7 hk0 hk1 hpi hpi1 hpw hpK hpK1
          have R20 := Lib.hid HR6.out.drew
          have x0 := R20.out.cell 0
          have x1 := R20.out.cell 1
          have x2 := R20.out.cell 2
          obtain ⟨c0, c1, c2, c3, c4, c5, c6, c7⟩ := (show wr.drew.cell? ⟨b, o + i * 8, none⟩ = some (.int .i64 cy) ∧ wr.drew.cell? ⟨b, o + i * 8 + 1, none⟩ = some (.int .i64 hdd) ∧ wr.drew.cell? ⟨b, o + i * 8 + 2, none⟩ = some (.int .i64 no) ∧ wr.drew.cell? ⟨b, o + i * 8 + 3, none⟩ = some (.int .i64 sz) ∧ wr.drew.cell? ⟨b, o + i * 8 + 4, none⟩ = some (.string dt) ∧ wr.drew.cell? ⟨b, o + i * 8 + 5, none⟩ = some (.bool true) ∧ wr.drew.cell? ⟨b, o + i * 8 + 6, none⟩ = some (.bool bi) ∧ wr.drew.cell? ⟨b, o + i * 8 + 7, none⟩ = some (.bool bd) from HC.out)
          go_cut [10, 11] (fun s10 s11 wx => s10 = .string RI ∧ s11 = .bool true ∧ Below wr.heap.size wr wx)
          case first =>
            go_region_law (go_simp; go_at_call 17; refine (HI1.out _).mono ?_; rintro e w6 ⟨rfl, hb6⟩)
            all_goals
              go_wp2_with fail
              go_meet
              exact ⟨rfl, rfl, (Below.refl _ _).drew.trans hb6⟩
          case rest =>
            obtain ⟨rfl, rfl, hbx⟩ := hcut
            have HBX := Lib.hid hbx
            have R21 := Lib.hid (HR6.out.below hbx HR6.out.lt).drew
            clear x0 x1 x2 c0 c1 c2 c3 c4 c5 c6 c7 hbx
            have x0 := R21.out.cell 0
            have x1 := R21.out.cell 1
            have x2 := R21.out.cell 2
            obtain ⟨c0, c1, c2, c3, c4, c5, c6, c7⟩ := (show wc.drew.cell? ⟨b, o + i * 8, none⟩ = some (.int .i64 cy) ∧ wc.drew.cell? ⟨b, o + i * 8 + 1, none⟩ = some (.int .i64 hdd) ∧ wc.drew.cell? ⟨b, o + i * 8 + 2, none⟩ = some (.int .i64 no) ∧ wc.drew.cell? ⟨b, o + i * 8 + 3, none⟩ = some (.int .i64 sz) ∧ wc.drew.cell? ⟨b, o + i * 8 + 4, none⟩ = some (.string dt) ∧ wc.drew.cell? ⟨b, o + i * 8 + 5, none⟩ = some (.bool true) ∧ wc.drew.cell? ⟨b, o + i * 8 + 6, none⟩ = some (.bool bi) ∧ wc.drew.cell? ⟨b, o + i * 8 + 7, none⟩ = some (.bool bd) from ⟨(HBX.out.cell (p := ⟨b, _, none⟩) HBB.out).trans HC.out.1, (HBX.out.cell (p := ⟨b, _, none⟩) HBB.out).trans HC.out.2.1, (HBX.out.cell (p := ⟨b, _, none⟩) HBB.out).trans HC.out.2.2.1, (HBX.out.cell (p := ⟨b, _, none⟩) HBB.out).trans HC.out.2.2.2.1, (HBX.out.cell (p := ⟨b, _, none⟩) HBB.out).trans HC.out.2.2.2.2.1, (HBX.out.cell (p := ⟨b, _, none⟩) HBB.out).trans HC.out.2.2.2.2.2.1, (HBX.out.cell (p := ⟨b, _, none⟩) HBB.out).trans HC.out.2.2.2.2.2.2.1, (HBX.out.cell (p := ⟨b, _, none⟩) HBB.out).trans HC.out.2.2.2.2.2.2.2⟩)
            have HC4 := Lib.hid c4
            have HBW := Lib.hid (show b < wc.drew.heap.size from Nat.lt_of_lt_of_le HBB.out HBX.out.size)
            go_wp2_with fail
            go_region_law (go_simp; go_at_call 18; refine (HD1.out _).mono ?_; rintro e w7 ⟨rfl, hb7⟩; have HR7 := R21.out.below hb7 R21.out.lt; have y0 := HR7.cell 0; have y2 := HR7.cell 2; have d4 := (hb7.cell (p := ⟨b, o + i * 8 + 4, none⟩) HBW.out).trans HC4.out)
            all_goals
              go_wp2_with fail
              all_goals exact ⟨⟨i + 1, by omega, by go_num, HB6.out.trans ((HBX.out.trans (((Below.refl _ _).drew.trans hb7).mono HBX.out.size)).mono HB6.out.size)⟩, by simp [intOf] <;> omega⟩
      · obtain rfl : i = N := by omega
        go_wp2_with fail
        go_ret
        exact ⟨rfl, HB2.out.trans (HB26.out.mono HB2.out.size)⟩
  · rw [if_neg h8, if_neg h8] at HBT
    have h8i : (8000 : Int) < ((trackN F G L : Nat) : Int) := by omega
    obtain ⟨T, hT⟩ : ∃ T, trackN F G L = T := ⟨_, rfl⟩
    rw [hT] at HTC h8i
    clear htl htp htc hLok hf3 hG1 hok hkd hF hG hmem hN
    go_upto_region 6 with (go_at_call 13; refine HBT.out.mono ?_; rintro e w3 ⟨rfl, hb3⟩)
    have HB3 := Lib.hid hb3
    have HR3 := HRX.out.below hb3 HRX.out.lt
    clear hb3 x0 x1 x2
    have x0 := HR3.cell 0
    have x1 := HR3.cell 1
    have x2 := HR3.cell 2
    go_wp2_with (go_at_call 14; refine (HTC.out _ HB3.out).mono ?_; rintro e w4 ⟨rfl, hb4⟩)
    go_ret
    exact ⟨rfl, HB2.out.trans ((HB3.out.trans (hb4.mono HB3.out.size)).mono HB2.out.size)⟩
theorem law_big (A : Option Addr) (n c : Nat) (w : World) (h : 1048576 < n) :
    Calls Tryd.prog 4 #[.slice A n c] w fun e w' => e = .returned (.bool true) ∧ Below w.heap.size w w' := by
  have hi : (1048576 : Int) < (n : Int) := by omega
  go_enter Tryd.func4, Tryd.ntmps4
  go_wp2
  go_ret
  exact ⟨rfl, Below.refl _ _⟩
theorem bytes_of {W : World} {A : Option Addr} {n : Nat} {z : Nat → Int} (hs : Sl W W.heap.size A n (fun i => .int .u8 (z i))) (hm : ∀ i, i < n → (Lit.int .u8 (z i)).wf = true) : Sl W W.heap.size A n (fun i => .int .u8 (((UInt8.ofNat (z i).toNat).toNat : Nat) : Int)) := hs.congr fun i hi => by
  have h2 : IntKind.u8.min ≤ z i ∧ z i ≤ IntKind.u8.max := by simpa [Lit.wf] using hm i hi
  have e1 : IntKind.u8.min = 0 := rfl
  have e2 : IntKind.u8.max = 255 := rfl
  rw [e1, e2] at h2
  congr 1
  rw [UInt8.toNat_ofNat']
  omega
theorem walk (H : Type) (enc : TypeId × Value → H) (W : World) (base : Nat) (args : Array Value) (ds : List (DataW H)) (p : List MemPlace)
    (hval : ∀ (j : Nat) t v, Tryd.f4.params[j]? = some t → args[j]? = some v → Value.okWide Tryd.prog W .any base t v)
    (hA : DataW.TrodAll enc Tryd.prog W 0 (fun _ => true) true Tryd.f4.params.toList args.toList ds p)
    (hX : laidMetH Tryd.prog Rows.fnLayoutRow.laid W) :
    Calls Tryd.prog 4 args W fun e W' => e = .returned (.bool true) ∧ Below W.heap.size W W' := by
  rw [Tryd.params4] at hA hval
  obtain ⟨v0, vs0, d0, ds0, p0, q0, hargs, rfl, rfl, h0, r0⟩ := trodAll_cons hA
  obtain ⟨rfl, rfl, rfl⟩ := trodAll_nil r0
  obtain rfl : args = #[v0] := by cases args; simp_all
  obtain ⟨A, n, c, z, rfl, g1, g2, hs, hm⟩ := open_sl_int Tryd.underlying22 Tryd.underlying5 (by kernel_rfl) (hval 0 22 v0 rfl rfl) h0
  have hL : laidMet Tryd.prog Rows.fnLayoutRow.laid W := by
    have h := hX
    rw [MakeChecks.laidMetH_plain _ _ _ (by kernel_rfl)] at h
    exact h
  have L2 := laidMet.filter (fun x => x.1 == "loop.example/g00899/impl.gcrTable") hL
  have e2 : (Rows.fnLayoutRow.laid.filter fun x => x.1 == "loop.example/g00899/impl.gcrTable") = [("loop.example/g00899/impl.gcrTable", txtData (gcrB.map fun b => b.data.toList))] := by kernel_rfl
  rw [e2] at L2
  have hw := txt_of_laid (g := 0) (t := 145) (e := 9) (n := 16) (by kernel_rfl) (by kernel_rfl) Tryd.underlying145 Tryd.underlying9 (by kernel_rfl) (by kernel_rfl) L2
  have hw' : GcrW W := by
    unfold GcrW
    rw [hw]
    rfl
  by_cases hn : n ≤ 1048576
  · exact law A n c _ W hw' hn (bytes_of hs hm)
  · exact law_big A n c W (by omega)
theorem own : ownKnob Tryd.prog.godebug = none := by kernel_rfl
theorem laidOut : laidOutB Tryd.prog = true := by kernel_rfl
theorem lifted (os : Os) (started : os.Started) (H : Type) (enc : TypeId × Value → H) :
    ReturnsInHanded {} Tryd.checked os 4 .any (fun w args => (Rows.fnLayoutSpec.pre enc Tryd.prog Tryd.f4 Rows.fnLayoutRow.domain false w args ∧ laidMetH Tryd.prog Rows.fnLayoutRow.laid w) ∧ sizedMet enc Tryd.prog Tryd.f4 (OpenSpec.ofChange Rows.fnLayoutSpec) false w args)
      (Rows.fnLayoutSpec.post enc Tryd.prog Tryd.f4 false true false false) := by
  refine returnsInHanded_of_change_and (C := Tryd.checked) (X := fun w _ => laidMetH Tryd.prog Rows.fnLayoutRow.laid w) (fun _ _ _ hh h => h.of_heap hh) own started (by kernel_rfl) Tryd.func4
    (ChangeSpec.witness_shaped (enc := enc) (C := Tryd.checked) (os := os) (X := fun w _ => laidMetH Tryd.prog Rows.fnLayoutRow.laid w) false (World.laidAll Tryd.prog os Rows.fnLayoutRow.laid) #[.slice none 0 0] 8 (World.laidAll_os _ _ _)
      (World.shaped_of_ZipB (by kernel_rfl) (by kernel_rfl)) (by kernel_rfl) (by kernel_rfl) (by kernel_rfl)
      (by rw [MakeChecks.laidMetH_plain _ _ _ (by kernel_rfl)]; exact laidMet_laidAll _ (by kernel_rfl) (by kernel_rfl))) ?_
  intro W base args ds gs before hval hW _ _ hX _
  have hW' := hW
  obtain ⟨p, q, hA, hV, rfl, hfz, hnd⟩ := hW
  refine (walk H enc W base args ds p hval hA hX).mono fun e W' ⟨he, hb⟩ => ?_
  subst he
  exact ⟨_, rfl, law_post1 laidOut (by kernel_rfl) rfl (by kernel_rfl) rfl Tryd.underlying4 (fun xs g1 hx => by
      match xs, hx with
      | [x0], _ => exact ⟨rfl, rfl, rfl⟩) hW' hb⟩
theorem over : Rows.fnLayoutRow.holds Tryd.pinned (OpenSpec.ofChange Rows.fnLayoutSpec) :=
  OpenClaim.holds_of_wide 4 Tryd.f4 rfl rfl rfl rfl rfl rfl rfl ⟨rfl, rfl, rfl, rfl, rfl⟩ rfl rfl rfl rfl rfl (by kernel_rfl) Tryd.func4 (by kernel_rfl)
    (of_decide_eq_true (by kernel_rfl)) (by unfold Func.isWrapper; first | (rw [if_pos (by decide +kernel)]; kernel_rfl) | (rw [if_neg (by decide +kernel)]; exact ⟨rfl, rfl⟩))
    (fun os started H enc _ => lifted os started H enc)
/-- the given statement: the tied card -/
theorem proved : Rows.FnLayoutCardSaid :=
  Claim7.holds_tied_plain_at .later [] [.data] true (true, "28c7c92d896b583c277042a0b5cf5154b8bc5c3fb1d0334586ec29a6025071a5") false over (fun _ h => by cases h) (by kernel_rfl) (fun _ h => by cases h) fnLayout_row_tie rfl ⟨rfl, rfl⟩ (by kernel_rfl) rfl
    (fun f fn hf hfn => by
      obtain rfl : f = 4 := Option.some.inj ((show Tryd.prog.funcNamed "loop.example/g00899/laws.FnLayout" = some 4 by kernel_rfl).symm.trans hf) |>.symm
      obtain rfl : fn = Tryd.f4 := (Option.some.inj (Tryd.func4.symm.trans hfn)).symm
      exact ⟨by kernel_rfl, fun j t ht => by
        rw [Tryd.params4] at ht
        have hm : t ∈ [22] := by simpa using Array.mem_of_getElem? ht
        have hall : ([22].all fun u => !Tryd.prog.wantsStandIn u) = true := by kernel_rfl
        exact (show Tryd.prog.wantsStandIn t = false by simpa using List.all_eq_true.1 hall t hm)⟩)
    (by kernel_rfl)
end Go.Proofs.YtabmdbhbbmnkdaaDoor.fnLayout
