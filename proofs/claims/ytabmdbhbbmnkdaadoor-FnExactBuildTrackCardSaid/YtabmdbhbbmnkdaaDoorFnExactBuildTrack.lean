/-
  The program's BuildTrack returns what the reference's returns, for all arguments. Conditions: none.
-/
import Derived.Test.YtabmdbhbbmnkdaaDoorRows
import Derived.Test.YtabmdbhbbmnkdaaDoorBlA
import Derived.Test.YtabmdbhbbmnkdaaDoorTie
import Derived.Test.YtabmdbhbbmnkdaaDoorCards
import Derived.LaidMore
import Derived.Lay
import Derived.SevenTiedAt
import Derived.Stop.Joined
import Derived.OpenVars
import Derived.ChangeVars
namespace Go.Proofs.YtabmdbhbbmnkdaaDoor.fnExactBuildTrack
open Go Go.ChangeShapes Go.WideShapes Go.ChangeAt Go.RowKit Go.Joins lib
set_option linter.unusedVariables false
set_option linter.unusedSimpArgs false
set_option maxRecDepth 100000
section
variable {H : Type} {enc : TypeId × Value → H} {P : Program}
theorem law_post1 {fn : Func} {s : ChangeSpec} {W W' : World} {args : Array Value} {ds gs : List (DataW H)} {before : List MemPlace} {tb : TypeId} {nm : String}
    (hl : laidOutB P = true) (hr : (fn.params.toList.all fun t => P.readableRec t && decide (t < P.types.size)) = true) (hv : s.vars = [nm]) (hvr : varsRowed P [nm] = true) (hres : fn.resultTypes = #[tb]) (ht : P.underlying tb = some .bool)
    (hs : ∀ (xs : List (DataW H)) (g1 : DataW H), xs.length = fn.params.toList.length → (s.fn H (xs ++ [g1])).results = [.lit (.bool true)] ∧ (s.fn H (xs ++ [g1])).args = xs ∧ (s.fn H (xs ++ [g1])).vars = [g1])
    (hW : DataW.Whole enc P fn.params.toList s.vars false W args.toList ds gs before) (hb : Below W.heap.size W W') :
    s.post enc P fn false true false false W args (.bool true) W' := by
  have hW' := hW
  obtain ⟨p, q, hA, hV, rfl, hfz, hnd⟩ := hW
  rw [hv] at hV
  obtain ⟨g1, rfl⟩ : ∃ g1, gs = [g1] := by
    match gs, hV with
    | [g1], _ => exact ⟨g1, rfl⟩
    | [], h => exact h.elim
    | _ :: _ :: _, h =>
      obtain ⟨_, _, _, _, _, _, _, _, _, _, h5, _⟩ := h
      exact h5.elim
  have hlen : ds.length = fn.params.toList.length := by
    clear hW' hfz hnd hs hr hres
    revert hA
    generalize fn.params.toList = ts
    generalize args.toList = vs
    intro hA
    induction ts generalizing vs ds p with
    | nil => obtain ⟨rfl, rfl, rfl⟩ := trodAll_nil hA; rfl
    | cons t ts ih =>
      obtain ⟨v, vs, d, ds, p, q, rfl, rfl, rfl, h0, h1⟩ := trodAll_cons hA
      simp [ih q vs h1]
  obtain ⟨s1, s2, s3⟩ := hs ds g1 hlen
  refine ⟨ds, [g1], _, [], p, q, hW', ?_, ?_, ?_, hb.frame _, fun h => by cases h⟩
  · rw [s1, hres]
    exact trodAll_mk1 (shut_bool ht _)
  · rw [s2]
    exact trodAll_below hl hb _ _ _ _ hr hA
  · rw [s3, hv]
    exact hb.trodVars hl hvr hV
end
set_option maxHeartbeats 4000000 in
theorem law (f g : Int) (L : List SS) (A : Option Addr) (c : Nat) (w : World) (hw : GcrW w) (hs : SSl w w.heap.size A L) (hov : L.length + tot (dtA L) L.length ≤ 1048576) :
    Calls Tryd.prog 5 #[.agg (trkA f g A L.length c)] w fun e w' => e = .returned (.bool true) ∧ Below w.heap.size w w' := by
  have hn : L.length ≤ 1048576 := by omega
  have hd : ∀ k, k < L.length → (sAt L k).dt.size ≤ 1048576 := fun k hk => by
    have h1 := tot_mono (dtA L) (show k + 1 ≤ L.length by omega)
    have h2 : tot (dtA L) (k + 1) = tot (dtA L) k + (sAt L k).dt.size := rfl
    omega
  have B0 : Below w.heap.size w (w.alloc (.cells (trkA f g A L.length c) 52)) := (Below.refl _ _).alloc (Nat.le_refl _) _
  have R0 := Lib.hid (Rw.new w 52 (trkA f g A L.length c))
  have BB0 := Lib.hid B0
  have HSZ := Lib.hid (fun (W : World) (hW : Below w.heap.size w W) => szTrk_any f g L A c W (1048576 - (L.length : Int) - (tot (dtA L) L.length : Nat)) (fun W' hW' => szSecS_ok L A c W' (((hs.below hW).below (hW'.mono hW.size)).more (Nat.le_trans hW.size hW'.size)) hov) (by omega))
  have HT := Lib.hid (fun (W : World) (hW : Below w.heap.size w W) => toTrk_any f g L A c W hn ((hs.below hW).more hW.size))
  have HSP := Lib.hid (fun (W : World) (A2 : Option Addr) (c2 : Nat) (h2 : SSl W W.heap.size A2 L) => specBuild_any f g L A2 c2 W hn hd h2)
  have HIM := Lib.hid (fun (W : World) (hW : Below w.heap.size w W) (A2 : Option Addr) (c2 : Nat) (h2 : SSl W W.heap.size A2 L) => implBuild_any f g L A2 c2 W hn hd h2 (hw.below hW))
  have HEQ := Lib.hid (fun (W : World) (A2 A3 : Option Addr) (c2 c3 : Nat) (h2 : SSl W W.heap.size A2 L) (h3 : SSl W W.heap.size A3 L) => eqTrk_same f g L A2 A3 c2 c3 W hn h2 h3)
  obtain ⟨bs, hbs⟩ : ∃ bs, btS f g L = bs := ⟨_, rfl⟩
  obtain ⟨bc, hbc⟩ : ∃ bc, btC f g L = bc := ⟨_, rfl⟩
  rw [hbs, hbc] at HSP HIM
  have HPOS := Lib.hid (show (0 : Int) ≤ 1048576 - (L.length : Int) - (tot (dtA L) L.length : Nat) by omega)
  obtain ⟨r, hr⟩ : ∃ r, (1048576 : Int) - (L.length : Int) - (tot (dtA L) L.length : Nat) = r := ⟨_, rfl⟩
  rw [hr] at HSZ HPOS
  have hpos := HPOS.out
  unfold trkA at *
  obtain ⟨n, hn'⟩ : ∃ n, L.length = n := ⟨_, rfl⟩
  rw [hn'] at HSZ HT HSP HIM HEQ R0 BB0 B0 hn ⊢
  have c0 := R0.out.cell 0
  have c1 := R0.out.cell 1
  have c2 := R0.out.cell 2
  clear hs hov hd hbs hbc hr hn' B0 hw
  go_enter Tryd.func5, Tryd.ntmps5
  go_wp2_with fail
  refine (HSZ.out _ BB0.out).mono ?_
  rintro e w1 ⟨rfl, hb⟩
  have BB1 := Lib.hid (BB0.out.trans (hb.mono BB0.out.size))
  have R1 := Lib.hid (R0.out.below hb R0.out.lt)
  clear hb c0 c1 c2
  have c0 := R1.out.cell 0
  have c1 := R1.out.cell 1
  have c2 := R1.out.cell 2
  go_wp2_with fail
  refine (HT.out _ BB1.out).mono ?_
  rintro e w2 ⟨A2, k2, rfl, hs2, hb⟩
  have BB2 := Lib.hid (BB1.out.trans (hb.mono BB1.out.size))
  have R2 := Lib.hid (R1.out.below hb R1.out.lt)
  have HS2 := Lib.hid hs2
  clear hb c0 c1 c2 hs2
  go_wp2_with fail
  refine (HSP.out _ _ _ HS2.out).mono ?_
  rintro e w3 ⟨rfl, hb⟩
  have BB3 := Lib.hid (BB2.out.trans (hb.mono BB2.out.size))
  have R3 := Lib.hid (R2.out.below hb R2.out.lt)
  clear hb
  have c0 := R3.out.cell 0
  have c1 := R3.out.cell 1
  have c2 := R3.out.cell 2
  go_wp2_with fail
  refine (HT.out _ BB3.out).mono ?_
  rintro e w4 ⟨A4, k4, rfl, hs4, hb⟩
  have BB4 := Lib.hid (BB3.out.trans (hb.mono BB3.out.size))
  have R4 := Lib.hid (R3.out.below hb R3.out.lt)
  have HS4 := Lib.hid hs4
  clear hb c0 c1 c2 hs4
  go_upto_region 7 with fail
  obtain ⟨q, hq⟩ : ∃ q, w4.heap.size = q := ⟨_, rfl⟩
  have rx := Rw.new w4 25 #[.int .i64 f, .int .i64 g, .slice A4 n k4]
  have hb := (Below.refl w4.heap.size w4).alloc (Nat.le_refl _) (.cells #[.int .i64 f, .int .i64 g, .slice A4 n k4] 25)
  have BB5 := Lib.hid (BB4.out.trans (hb.mono BB4.out.size))
  have R5 := Lib.hid (R4.out.below hb R4.out.lt)
  have HS5 := Lib.hid ((HS4.out.below hb).more hb.size)
  have HQ := Lib.hid hq
  rw [hq] at rx ⊢
  generalize w4.alloc (.cells #[.int .i64 f, .int .i64 g, .slice A4 n k4] 25) = w5 at *
  have RX := Lib.hid rx
  clear hq hb
  have x0 := rx.cell 0
  have x1 := rx.cell 1
  have x2 := rx.cell 2
  clear rx
  go_upto_region 8 with ((go_at_call 13; refine (HIM.out _ BB5.out _ _ HS5.out).mono ?_; rintro e w6 ⟨rfl, hb⟩))
  have BB6 := Lib.hid (BB5.out.trans (hb.mono BB5.out.size))
  have R6 := Lib.hid (R5.out.below hb R5.out.lt)
  have RX6 := Lib.hid (RX.out.below hb RX.out.lt)
  have HS6 := Lib.hid ((HS5.out.below hb).more hb.size)
  clear hb x0 x1 x2
  go_wp2_with fail
  have r6 := R6.out.drew
  have d0 : w6.drew.cell? ⟨w.heap.size, 0, none⟩ = some (.int .i64 f) := r6.cell 0
  have d1 : w6.drew.cell? ⟨w.heap.size, 1, none⟩ = some (.int .i64 g) := r6.cell 1
  have d2 : w6.drew.cell? ⟨w.heap.size, 2, none⟩ = some (.slice A n c) := r6.cell 2
  have x6 := RX6.out.drew
  have y0 : w6.drew.cell? ⟨q, 0, none⟩ = some (.int .i64 f) := x6.cell 0
  have y1 : w6.drew.cell? ⟨q, 1, none⟩ = some (.int .i64 g) := x6.cell 1
  have y2 : w6.drew.cell? ⟨q, 2, none⟩ = some (.slice A4 n k4) := x6.cell 2
  have X6 := Lib.hid x6
  clear r6 x6
  go_region_law (go_simp; (first
    | (go_at_call 20; refine (HT.out _ BB6.out.drew).mono ?_; rintro e w7 ⟨A7, k7, rfl, hs7, hb⟩; have x7 := X6.out.below hb X6.out.lt; have z0 : w7.cell? ⟨q, 0, none⟩ = some (.int .i64 f) := x7.cell 0; have z1 : w7.cell? ⟨q, 1, none⟩ = some (.int .i64 g) := x7.cell 1; have z2 : w7.cell? ⟨q, 2, none⟩ = some (.slice A4 n k4) := x7.cell 2; have B7 := Lib.hid (BB6.out.drew.trans (hb.mono BB6.out.size)); have HS7 := Lib.hid hs7; have HS8 := Lib.hid (Sl.more (Sl.below (Sl.drew HS6.out) hb) hb.size); clear hs7 hb x7)
    | (go_at_call 21; refine (HEQ.out _ _ _ _ _ HS8.out HS7.out).mono ?_; rintro e w8 ⟨rfl, hb⟩; have B8 := Lib.hid (B7.out.trans (hb.mono B7.out.size)); clear hb)))
  all_goals
    go_wp2_with fail
    go_ret
    exact ⟨rfl, B8.out⟩
set_option maxHeartbeats 4000000 in
theorem law_over (f g : Int) (L : List SS) (A : Option Addr) (c : Nat) (w : World) (hs : SSl w w.heap.size A L) (hn : L.length ≤ 9223372036854775807) (hm : ∀ k, k < L.length → (sAt L k).dt.size ≤ 9223372036854775807) (h : 1048576 < L.length + tot (dtA L) L.length) :
    Calls Tryd.prog 5 #[.agg (trkA f g A L.length c)] w fun e w' => e = .returned (.bool true) ∧ Below w.heap.size w w' := by
  have B0 : Below w.heap.size w (w.alloc (.cells (trkA f g A L.length c) 52)) := (Below.refl _ _).alloc (Nat.le_refl _) _
  have R0 := Lib.hid (Rw.new w 52 (trkA f g A L.length c))
  have BB0 := Lib.hid B0
  have HSZ := Lib.hid (fun (W : World) (hW : Below w.heap.size w W) => szTrk_any f g L A c W (-1) (fun W' hW' => szSecS_over L A c W' (((hs.below hW).below (hW'.mono hW.size)).more (Nat.le_trans hW.size hW'.size)) hn hm h) (by omega))
  unfold trkA at *
  obtain ⟨n, hn'⟩ : ∃ n, L.length = n := ⟨_, rfl⟩
  rw [hn'] at HSZ R0 BB0 B0 ⊢
  have c0 := R0.out.cell 0
  have c1 := R0.out.cell 1
  have c2 := R0.out.cell 2
  clear hs hn hm h hn' B0
  go_enter Tryd.func5, Tryd.ntmps5
  go_wp2_with fail
  refine (HSZ.out _ BB0.out).mono ?_
  rintro e w1 ⟨rfl, hb⟩
  have BB1 := Lib.hid (BB0.out.trans (hb.mono BB0.out.size))
  clear hb c0 c1 c2
  go_wp2_with fail
  go_ret
  exact ⟨rfl, BB1.out⟩
theorem walk (H : Type) (enc : TypeId × Value → H) (W : World) (base : Nat) (args : Array Value) (ds : List (DataW H)) (p : List MemPlace)
    (hval : ∀ (j : Nat) t v, Tryd.f5.params[j]? = some t → args[j]? = some v → Value.okWide Tryd.prog W .any base t v)
    (hA : DataW.TrodAll enc Tryd.prog W 0 (fun _ => true) true Tryd.f5.params.toList args.toList ds p)
    (hX : laidMetH Tryd.prog Rows.fnExactBuildTrackRow.laid W) :
    Calls Tryd.prog 5 args W fun e W' => e = .returned (.bool true) ∧ Below W.heap.size W W' := by
  rw [Tryd.params5] at hA hval
  obtain ⟨v0, vs0, d0, ds0, p0, q0, hargs, rfl, rfl, h0, r0⟩ := trodAll_cons hA
  obtain ⟨rfl, rfl, rfl⟩ := trodAll_nil r0
  obtain rfl : args = #[v0] := by cases args; simp_all
  obtain ⟨f, g, L, A, c, rfl, hn, hm, hs⟩ := open_trk Tryd.underlying52 (by kernel_rfl) (by kernel_rfl) Tryd.underlying2 Tryd.underlying2 Tryd.underlying50 Tryd.underlying113 (by kernel_rfl) (by kernel_rfl) Tryd.underlying2 Tryd.underlying2 Tryd.underlying2 Tryd.underlying2 Tryd.underlying9 Tryd.underlying4 Tryd.underlying4 Tryd.underlying4 (hval 0 52 v0 rfl rfl) h0
  have hL : laidMet Tryd.prog Rows.fnExactBuildTrackRow.laid W := by
    have h := hX
    rw [MakeChecks.laidMetH_plain _ _ _ (by kernel_rfl)] at h
    exact h
  have L2 := laidMet.filter (fun x => x.1 == "loop.example/g00899/impl.gcrTable") hL
  have e2 : (Rows.fnExactBuildTrackRow.laid.filter fun x => x.1 == "loop.example/g00899/impl.gcrTable") = [("loop.example/g00899/impl.gcrTable", txtData (gcrB.map fun b => b.data.toList))] := by kernel_rfl
  rw [e2] at L2
  have hw := txt_of_laid (g := 0) (t := 145) (e := 9) (n := 16) (by kernel_rfl) (by kernel_rfl) Tryd.underlying145 Tryd.underlying9 (by kernel_rfl) (by kernel_rfl) L2
  have hw' : GcrW W := by
    unfold GcrW
    rw [hw]
    rfl
  by_cases hov : L.length + tot (dtA L) L.length ≤ 1048576
  · exact law f g L A c W hw' hs hov
  · exact law_over f g L A c W hs hn hm (by omega)
theorem own : ownKnob Tryd.prog.godebug = none := by kernel_rfl
theorem laidOut : laidOutB Tryd.prog = true := by kernel_rfl
theorem lifted (os : Os) (started : os.Started) (H : Type) (enc : TypeId × Value → H) :
    ReturnsInHanded {} Tryd.checked os 5 .any (fun w args => (Rows.fnExactBuildTrackSpec.pre enc Tryd.prog Tryd.f5 Rows.fnExactBuildTrackRow.domain false w args ∧ laidMetH Tryd.prog Rows.fnExactBuildTrackRow.laid w) ∧ sizedMet enc Tryd.prog Tryd.f5 (OpenSpec.ofChange Rows.fnExactBuildTrackSpec) false w args)
      (Rows.fnExactBuildTrackSpec.post enc Tryd.prog Tryd.f5 false true false false) := by
  refine returnsInHanded_of_change_and (C := Tryd.checked) (X := fun w _ => laidMetH Tryd.prog Rows.fnExactBuildTrackRow.laid w) (fun _ _ _ hh h => h.of_heap hh) own started (by kernel_rfl) Tryd.func5
    (ChangeSpec.witness_shaped (enc := enc) (C := Tryd.checked) (os := os) (X := fun w _ => laidMetH Tryd.prog Rows.fnExactBuildTrackRow.laid w) false (World.laidAll Tryd.prog os Rows.fnExactBuildTrackRow.laid) #[.agg #[.int .i64 0, .int .i64 0, .slice none 0 0]] 8 (World.laidAll_os _ _ _)
      (World.shaped_of_ZipB (by kernel_rfl) (by kernel_rfl)) (by kernel_rfl) (by kernel_rfl) (by kernel_rfl)
      (by rw [MakeChecks.laidMetH_plain _ _ _ (by kernel_rfl)]; exact laidMet_laidAll _ (by kernel_rfl) (by kernel_rfl))) ?_
  intro W base args ds gs before hval hW _ _ hX _
  have hW' := hW
  obtain ⟨p, q, hA, hV, rfl, hfz, hnd⟩ := hW
  refine (walk H enc W base args ds p hval hA hX).mono fun e W' ⟨he, hb⟩ => ?_
  subst he
  exact ⟨_, rfl, law_post1 laidOut (by kernel_rfl) rfl (by kernel_rfl) rfl Tryd.underlying4 (fun xs g1 hx => by
      match xs, hx with
      | [x0], _ => exact ⟨rfl, rfl, rfl⟩) hW' hb⟩
theorem over : Rows.fnExactBuildTrackRow.holds Tryd.pinned (OpenSpec.ofChange Rows.fnExactBuildTrackSpec) :=
  OpenClaim.holds_of_wide 5 Tryd.f5 rfl rfl rfl rfl rfl rfl rfl ⟨rfl, rfl, rfl, rfl, rfl⟩ rfl rfl rfl rfl rfl (by kernel_rfl) Tryd.func5 (by kernel_rfl)
    (of_decide_eq_true (by kernel_rfl)) (by unfold Func.isWrapper; first | (rw [if_pos (by decide +kernel)]; kernel_rfl) | (rw [if_neg (by decide +kernel)]; exact ⟨rfl, rfl⟩))
    (fun os started H enc _ => lifted os started H enc)
/-- the given statement: the tied card -/
theorem proved : Rows.FnExactBuildTrackCardSaid :=
  Claim7.holds_tied_plain_at .later [] [.data] true (true, "28c7c92d896b583c277042a0b5cf5154b8bc5c3fb1d0334586ec29a6025071a5") false over (fun _ h => by cases h) (by kernel_rfl) (fun _ h => by cases h) fnExactBuildTrack_row_tie rfl ⟨rfl, rfl⟩ (by kernel_rfl) rfl
    (fun f fn hf hfn => by
      obtain rfl : f = 5 := Option.some.inj ((show Tryd.prog.funcNamed "loop.example/g00899/laws.FnExactBuildTrack" = some 5 by kernel_rfl).symm.trans hf) |>.symm
      obtain rfl : fn = Tryd.f5 := (Option.some.inj (Tryd.func5.symm.trans hfn)).symm
      exact ⟨by kernel_rfl, fun j t ht => by
        rw [Tryd.params5] at ht
        have hm : t ∈ [52] := by simpa using Array.mem_of_getElem? ht
        have hall : ([52].all fun u => !Tryd.prog.wantsStandIn u) = true := by kernel_rfl
        exact (show Tryd.prog.wantsStandIn t = false by simpa using List.all_eq_true.1 hall t hm)⟩)
    (by kernel_rfl)
end Go.Proofs.YtabmdbhbbmnkdaaDoor.fnExactBuildTrack
