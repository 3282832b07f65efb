/-
  The program's ProblemText returns what the reference's returns, for all arguments. Conditions: none.
-/
import Derived.Test.YtkabbhelmhancaaDoorRows
import Derived.Test.YtkabbhelmhancaaDoorPbT
import Derived.Test.YtkabbhelmhancaaDoorPbS
import Derived.Test.YtkabbhelmhancaaDoorTie
import Derived.Test.YtkabbhelmhancaaDoorCards
import Derived.LaidMore
import Derived.Lay
import Derived.SevenTiedAt
import Derived.Stop.Joined
import Derived.OpenVars
import Derived.ChangeVars
namespace Go.Proofs.YtkabbhelmhancaaDoor.fnExactProblemText
open Go Go.ChangeShapes Go.WideShapes Go.ChangeAt Go.RowKit Go.Joins lib
set_option linter.unusedVariables false
set_option maxRecDepth 100000
theorem toCp_any (a b c : Int) (w : World) :
    Calls Tryd.prog 5 #[cpV a b c] w fun e w' => e = .returned (cpV a b c) ∧ Below w.heap.size w w' := by
  unfold cpV
  go_enter Tryd.func5, Tryd.ntmps5
  go_wp2
  exact bodyPost_ret (v := .agg #[.int .i64 a, .int .i64 b, .int .i64 c]) (by simp [results, Tryd.results5, go_sem]) rfl ⟨rfl, by
    repeat (first | exact Below.refl _ _ | refine Below.setCell ?_ (by simp) _ | refine Below.alloc ?_ (by simp <;> omega) _)⟩
section
variable {H : Type} {enc : TypeId × Value → H} {P : Program}
theorem law_post1 {fn : Func} {s : ChangeSpec} {W W' : World} {args : Array Value} {ds gs : List (DataW H)} {before : List MemPlace} {tb : TypeId} {nm : String}
    (hl : laidOutB P = true) (hr : (fn.params.toList.all fun t => P.readableRec t && decide (t < P.types.size)) = true) (hv : s.vars = [nm]) (hvr : varsRowed P [nm] = true) (hres : fn.resultTypes = #[tb]) (ht : P.underlying tb = some .bool)
    (hs : ∀ (xs : List (DataW H)) (g1 : DataW H), xs.length = fn.params.toList.length → (s.fn H (xs ++ [g1])).results = [.lit (.bool true)] ∧ (s.fn H (xs ++ [g1])).args = xs ∧ (s.fn H (xs ++ [g1])).vars = [g1])
    (hW : DataW.Whole enc P fn.params.toList s.vars false W args.toList ds gs before) (hb : Below W.heap.size W W') :
    s.post enc P fn false true false false W args (.bool true) W' := by
  have hW' := hW
  obtain ⟨p, q, hA, hV, rfl, hfz, hnd⟩ := hW
  rw [hv] at hV
  obtain ⟨g1, rfl⟩ : ∃ g1, gs = [g1] := by
    match gs, hV with
    | [g1], _ => exact ⟨g1, rfl⟩
    | [], h => exact h.elim
    | _ :: _ :: _, h =>
      obtain ⟨_, _, _, _, _, _, _, _, _, _, h5, _⟩ := h
      exact h5.elim
  have hlen : ds.length = fn.params.toList.length := by
    clear hW' hfz hnd hs hr hres
    revert hA
    generalize fn.params.toList = ts
    generalize args.toList = vs
    intro hA
    induction ts generalizing vs ds p with
    | nil => obtain ⟨rfl, rfl, rfl⟩ := trodAll_nil hA; rfl
    | cons t ts ih =>
      obtain ⟨v, vs, d, ds, p, q, rfl, rfl, rfl, h0, h1⟩ := trodAll_cons hA
      simp [ih q vs h1]
  obtain ⟨s1, s2, s3⟩ := hs ds g1 hlen
  refine ⟨ds, [g1], _, [], p, q, hW', ?_, ?_, ?_, hb.frame _, fun h => by cases h⟩
  · rw [s1, hres]
    exact trodAll_mk1 (shut_bool ht _)
  · rw [s2]
    exact trodAll_below hl hb _ _ _ _ hr hA
  · rw [s3, hv]
    exact hb.trodVars hl hvr hV
end
theorem law (a b c : Int) (r : ByteArray) (w : World)
    (hs : ∀ w' : World, Below w.heap.size w w' → Calls Tryd.prog 4 #[cpV a b c] w' fun e w2 => e = .returned (.string r) ∧ Below w'.heap.size w' w2)
    (hi : ∀ w' : World, Below w.heap.size w w' → Calls Tryd.prog 6 #[cpV a b c] w' fun e w2 => e = .returned (.string r) ∧ Below w'.heap.size w' w2) :
    Calls Tryd.prog 3 #[cpV a b c] w fun e w' => e = .returned (.bool true) ∧ Below w.heap.size w w' := by
  have HS := Lib.hid hs
  have HI := Lib.hid hi
  clear hs hi
  have B0 : Below w.heap.size w (w.alloc (.cells #[.int .i64 a, .int .i64 b, .int .i64 c] 23)) := (Below.refl _ _).alloc (Nat.le_refl _) _
  have R0 := Lib.hid (Rw.new w 23 #[.int .i64 a, .int .i64 b, .int .i64 c])
  have BB0 := Lib.hid B0
  have c0 := R0.out.cell 0
  have c1 := R0.out.cell 1
  have c2 := R0.out.cell 2
  have HT := Lib.hid (fun w => toCp_any a b c w)
  clear B0
  unfold cpV at *
  go_enter Tryd.func3, Tryd.ntmps3
  go_wp2_with fail
  refine (HT.out _).mono ?_
  rintro e w1 ⟨rfl, hb⟩
  have BB1 := Lib.hid (BB0.out.trans (hb.mono BB0.out.size))
  have R1 := Lib.hid (R0.out.below hb R0.out.lt)
  clear hb c0 c1 c2
  go_wp2_with fail
  refine (HS.out _ BB1.out).mono ?_
  rintro e w2 ⟨rfl, hb⟩
  have BB2 := Lib.hid (BB1.out.trans (hb.mono BB1.out.size))
  have R2 := Lib.hid (R1.out.below hb R1.out.lt)
  have c0 := R2.out.cell 0
  have c1 := R2.out.cell 1
  have c2 := R2.out.cell 2
  clear hb
  go_wp2_with fail
  refine (HT.out _).mono ?_
  rintro e w3 ⟨rfl, hb⟩
  have BB3 := Lib.hid (BB2.out.trans (hb.mono BB2.out.size))
  clear hb c0 c1 c2
  go_wp2_with fail
  refine (HI.out _ BB3.out).mono ?_
  rintro e w4 ⟨rfl, hb⟩
  have BB4 := Lib.hid (BB3.out.trans (hb.mono BB3.out.size))
  clear hb
  go_wp2_with fail
  go_ret
  exact ⟨rfl, BB4.out⟩
theorem walk (H : Type) (enc : TypeId × Value → H) (W : World) (base : Nat) (args : Array Value) (ds : List (DataW H)) (p : List MemPlace)
    (hval : ∀ (j : Nat) t v, Tryd.f3.params[j]? = some t → args[j]? = some v → Value.okWide Tryd.prog W .any base t v)
    (hA : DataW.TrodAll enc Tryd.prog W 0 (fun _ => true) true Tryd.f3.params.toList args.toList ds p)
    (hX : laidMetH Tryd.prog Rows.fnExactProblemTextRow.laid W) :
    Calls Tryd.prog 3 args W fun e W' => e = .returned (.bool true) ∧ Below W.heap.size W W' := by
  rw [Tryd.params3] at hA hval
  obtain ⟨v0, vs0, d0, ds0, p0, q0, hargs, rfl, rfl, h0, r0⟩ := trodAll_cons hA
  obtain ⟨rfl, rfl, rfl⟩ := trodAll_nil r0
  obtain rfl : args = #[v0] := by cases args; simp_all
  obtain ⟨a, b, c, rfl⟩ := open_cp Tryd.underlying23 (by kernel_rfl) (by kernel_rfl) Tryd.underlying2 Tryd.underlying2 Tryd.underlying2 (hval 0 23 v0 rfl rfl) h0
  have hL : laidMet Tryd.prog Rows.fnExactProblemTextRow.laid W := by
    have h := hX
    rw [MakeChecks.laidMetH_plain _ _ _ (by kernel_rfl)] at h
    exact h
  have L1 := laidMet.filter (fun x => x.1 == "internal/strconv.uint64pow10") hL
  have L2 := laidMet.filter (fun x => x.1 == "loop.example/g00899/impl.problemWords") hL
  have e1 : (Rows.fnExactProblemTextRow.laid.filter fun x => x.1 == "internal/strconv.uint64pow10") = [("internal/strconv.uint64pow10", Lib.tabData .u64 Lib.pow10Tab)] := by kernel_rfl
  have e2 : (Rows.fnExactProblemTextRow.laid.filter fun x => x.1 == "loop.example/g00899/impl.problemWords") = [("loop.example/g00899/impl.problemWords", txtData (wordsB.map fun b => b.data.toList))] := by kernel_rfl
  rw [e1] at L1
  rw [e2] at L2
  have htab : Lib.TabIs Tryd.prog W "internal/strconv.uint64pow10" .u64 Lib.pow10Tab := Lib.tabIs_of_head (g := 1) (t := 44) (e := 37) (n := 20) (by kernel_rfl) (by kernel_rfl) Tryd.underlying44 Tryd.underlying37 (by kernel_rfl) (by kernel_rfl) L1
  have hw := txt_of_laid (g := 0) (t := 32) (e := 9) (n := 11) (by kernel_rfl) (by kernel_rfl) Tryd.underlying32 Tryd.underlying9 (by kernel_rfl) (by kernel_rfl) L2
  have hw' : W.var? Tryd.prog "loop.example/g00899/impl.problemWords" = some (wordsB.map Value.string).toArray := by rw [hw]; rfl
  by_cases hok : pbOk a b c
  · obtain ⟨⟨x1, x2⟩, ⟨x3, x4⟩, ⟨x5, x6⟩⟩ := hok
    obtain ⟨k, rfl⟩ := Int.eq_ofNat_of_zero_le (show 0 ≤ a by omega)
    obtain ⟨e, rfl⟩ := Int.eq_ofNat_of_zero_le x3
    obtain ⟨f, rfl⟩ := Int.eq_ofNat_of_zero_le x5
    exact law k e f (pbT k e f) W (fun w' _ => specPb_ok k e f (by omega) (by omega) (by omega) (by omega) w')
      (fun w' hb => implPb_ok k e f (by omega) (by omega) (by omega) (by omega) w' (tab_stays (g := 1) (by kernel_rfl) htab hb (Nat.le_refl _)) (var_stays (g := 0) (by kernel_rfl) hw' hb (Nat.le_refl _)))
  · exact law a b c ⟨#[]⟩ W (fun w' _ => specPb_bad a b c hok w') (fun w' _ => implPb_bad a b c hok w')
theorem own : ownKnob Tryd.prog.godebug = none := by kernel_rfl
theorem laidOut : laidOutB Tryd.prog = true := by kernel_rfl
theorem lifted (os : Os) (started : os.Started) (H : Type) (enc : TypeId × Value → H) :
    ReturnsInHanded {} Tryd.checked os 3 .any (fun w args => (Rows.fnExactProblemTextSpec.pre enc Tryd.prog Tryd.f3 Rows.fnExactProblemTextRow.domain false w args ∧ laidMetH Tryd.prog Rows.fnExactProblemTextRow.laid w) ∧ sizedMet enc Tryd.prog Tryd.f3 (OpenSpec.ofChange Rows.fnExactProblemTextSpec) false w args)
      (Rows.fnExactProblemTextSpec.post enc Tryd.prog Tryd.f3 false true false false) := by
  refine returnsInHanded_of_change_and (C := Tryd.checked) (X := fun w _ => laidMetH Tryd.prog Rows.fnExactProblemTextRow.laid w) (fun _ _ _ hh h => h.of_heap hh) own started (by kernel_rfl) Tryd.func3
    (ChangeSpec.witness_shaped (enc := enc) (C := Tryd.checked) (os := os) (X := fun w _ => laidMetH Tryd.prog Rows.fnExactProblemTextRow.laid w) false (World.laidAll Tryd.prog os Rows.fnExactProblemTextRow.laid) #[.agg #[.int .i64 0, .int .i64 0, .int .i64 0]] 8 (World.laidAll_os _ _ _)
      (World.shaped_of_ZipB (by kernel_rfl) (by kernel_rfl)) (by kernel_rfl) (by kernel_rfl) (by kernel_rfl)
      (by rw [MakeChecks.laidMetH_plain _ _ _ (by kernel_rfl)]; exact laidMet_laidAll _ (by kernel_rfl) (by kernel_rfl))) ?_
  intro W base args ds gs before hval hW _ _ hX _
  have hW' := hW
  obtain ⟨p, q, hA, hV, rfl, hfz, hnd⟩ := hW
  refine (walk H enc W base args ds p hval hA hX).mono fun e W' ⟨he, hb⟩ => ?_
  subst he
  exact ⟨_, rfl, law_post1 laidOut (by kernel_rfl) rfl (by kernel_rfl) rfl Tryd.underlying4 (fun xs g1 hx => by
      match xs, hx with
      | [x0], _ => exact ⟨rfl, rfl, rfl⟩) hW' hb⟩
theorem over : Rows.fnExactProblemTextRow.holds Tryd.pinned (OpenSpec.ofChange Rows.fnExactProblemTextSpec) :=
  OpenClaim.holds_of_wide 3 Tryd.f3 rfl rfl rfl rfl rfl rfl rfl ⟨rfl, rfl, rfl, rfl, rfl⟩ rfl rfl rfl rfl rfl (by kernel_rfl) Tryd.func3 (by kernel_rfl)
    (of_decide_eq_true (by kernel_rfl)) (by unfold Func.isWrapper; first | (rw [if_pos (by decide +kernel)]; kernel_rfl) | (rw [if_neg (by decide +kernel)]; exact ⟨rfl, rfl⟩))
    (fun os started H enc _ => lifted os started H enc)
/-- the given statement: the tied card -/
theorem proved : Rows.FnExactProblemTextCardSaid :=
  Claim7.holds_tied_plain_at .later [] [.data, .data, .data, .widerDeep] true (true, "44fe9629c67491966d5c338cfa4752fe9a9c55d9603d348197ba662bffa7aa78") false over (fun _ h => by cases h) (by kernel_rfl) (fun _ h => by cases h) fnExactProblemText_row_tie rfl ⟨rfl, rfl⟩ (by kernel_rfl) rfl
    (fun f fn hf hfn => by
      obtain rfl : f = 3 := Option.some.inj ((show Tryd.prog.funcNamed "loop.example/g00899/laws.FnExactProblemText" = some 3 by kernel_rfl).symm.trans hf) |>.symm
      obtain rfl : fn = Tryd.f3 := (Option.some.inj (Tryd.func3.symm.trans hfn)).symm
      exact ⟨by kernel_rfl, fun j t ht => by
        rw [Tryd.params3] at ht
        have hm : t ∈ [23] := by simpa using Array.mem_of_getElem? ht
        have hall : ([23].all fun u => !Tryd.prog.wantsStandIn u) = true := by kernel_rfl
        exact (show Tryd.prog.wantsStandIn t = false by simpa using List.all_eq_true.1 hall t hm)⟩)
    (by kernel_rfl)
end Go.Proofs.YtkabbhelmhancaaDoor.fnExactProblemText
