/-
  The program's ReadProblem returns what the reference's returns, for all arguments. Conditions: none.
-/
import Derived.Test.YtcbiaeniagacfaaDoorRows
import Derived.Test.YtcbiaeniagacfaaDoorRpT
import Derived.Test.YtcbiaeniagacfaaDoorRpS
import Derived.Test.YtcbiaeniagacfaaDoorProbs
import Derived.Test.YtcbiaeniagacfaaDoorShW
import Derived.Test.YtcbiaeniagacfaaDoorTie
import Derived.Test.YtcbiaeniagacfaaDoorCards
import Derived.LaidMore
import Derived.Lay
import Derived.SevenTiedAt
import Derived.Stop.Joined
import Derived.Stop.LaidErr
import Derived.OpenVars
import Derived.ChangeVars
namespace Go.Proofs.YtcbiaeniagacfaaDoor.fnExactReadProblem
open Go Go.ChangeShapes Go.WideShapes Go.ChangeAt Go.ChangeMaps Go.RowKit Go.Joins lib
set_option linter.unusedVariables false
set_option maxRecDepth 100000
section
variable {H : Type} {enc : TypeId × Value → H} {P : Program}
theorem law_post1 {fn : Func} {s : ChangeSpec} {W W' : World} {args : Array Value} {ds gs : List (DataW H)} {before : List MemPlace} {tb : TypeId} {nm : String}
    (hl : laidOutB P = true) (hr : (fn.params.toList.all fun t => P.readableRec t && decide (t < P.types.size)) = true) (hv : s.vars = [nm]) (hvr : varsRowed P [nm] = true) (hres : fn.resultTypes = #[tb]) (ht : P.underlying tb = some .bool)
    (hs : ∀ (xs : List (DataW H)) (g1 : DataW H), xs.length = fn.params.toList.length → (s.fn H (xs ++ [g1])).results = [.lit (.bool true)] ∧ (s.fn H (xs ++ [g1])).args = xs ∧ (s.fn H (xs ++ [g1])).vars = [g1])
    (hW : DataW.Whole enc P fn.params.toList s.vars false W args.toList ds gs before) (hb : Below W.heap.size W W') :
    s.post enc P fn false true false false W args (.bool true) W' := by
  have hW' := hW
  obtain ⟨p, q, hA, hV, rfl, hfz, hnd⟩ := hW
  rw [hv] at hV
  obtain ⟨g1, rfl⟩ : ∃ g1, gs = [g1] := by
    match gs, hV with
    | [g1], _ => exact ⟨g1, rfl⟩
    | [], h => exact h.elim
    | _ :: _ :: _, h =>
      obtain ⟨_, _, _, _, _, _, _, _, _, _, h5, _⟩ := h
      exact h5.elim
  have hlen : ds.length = fn.params.toList.length := by
    clear hW' hfz hnd hs hr hres
    revert hA
    generalize fn.params.toList = ts
    generalize args.toList = vs
    intro hA
    induction ts generalizing vs ds p with
    | nil => obtain ⟨rfl, rfl, rfl⟩ := trodAll_nil hA; rfl
    | cons t ts ih =>
      obtain ⟨v, vs, d, ds, p, q, rfl, rfl, rfl, h0, h1⟩ := trodAll_cons hA
      simp [ih q vs h1]
  obtain ⟨s1, s2, s3⟩ := hs ds g1 hlen
  refine ⟨ds, [g1], _, [], p, q, hW', ?_, ?_, ?_, hb.frame _, fun h => by cases h⟩
  · rw [s1, hres]
    exact trodAll_mk1 (shut_bool ht _)
  · rw [s2]
    exact trodAll_below hl hb _ _ _ _ hr hA
  · rw [s3, hv]
    exact hb.trodVars hl hvr hV
end
theorem law (s : ByteArray) (hz : s.size ≤ 1048576) (k e b : Int) (ok : Bool) (w : World)
    (hs : ∀ w' : World, Below w.heap.size w w' → Calls Tryd.prog 4 #[.string s] w' fun r w2 => r = .returned (.tuple #[cpV k e b, .bool ok]) ∧ Below w'.heap.size w' w2)
    (hi : ∀ w' : World, Below w.heap.size w w' → Calls Tryd.prog 5 #[.string s] w' fun r w2 => r = .returned (.tuple #[cpV k e b, .bool ok]) ∧ Below w'.heap.size w' w2) :
    Calls Tryd.prog 3 #[.string s] w fun e w' => e = .returned (.bool true) ∧ Below w.heap.size w w' := by
  have HS := Lib.hid hs
  have HI := Lib.hid hi
  have HE := Lib.hid (fun W => eqChainProblem_same k e b W)
  have t1 : decide ((s.size : Int) > 1048576) = false := by simp; omega
  have t1' : decide ((1048576 : Int) < (s.size : Int)) = false := by simp; omega
  clear hs hi
  unfold cpV at *
  go_enter Tryd.func3, Tryd.ntmps3
  go_upto_region 4 with (go_at_call 4; refine (HS.out _ (Below.refl _ _)).mono ?_; rintro r w1 ⟨rfl, hb1⟩)
  have hr1 := Rw.new w1 23 #[.int .i64 k, .int .i64 e, .int .i64 b]
  have hb2 := hb1.trans ((Below.refl w1.heap.size w1).alloc (Nat.le_refl _) (.cells #[.int .i64 k, .int .i64 e, .int .i64 b] 23) |>.mono hb1.size)
  generalize w1.alloc (.cells #[.int .i64 k, .int .i64 e, .int .i64 b] 23) = W2 at *
  generalize w1.heap.size = q at *
  go_upto_region 5 with (go_at_call 5; refine (HI.out _ hb2).mono ?_; rintro r w3 ⟨rfl, hb3⟩)
  have hr3 := (hr1.below hb3 hr1.lt).alloc (.cells #[.int .i64 k, .int .i64 e, .int .i64 b] 23)
  have hr4 := Rw.new w3 23 #[.int .i64 k, .int .i64 e, .int .i64 b]
  have hb4 := (hb2.trans (hb3.mono hb2.size))
  have hb5 := hb4.alloc hb4.size (.cells #[.int .i64 k, .int .i64 e, .int .i64 b] 23)
  have c0 := hr3.cell 0
  have c1 := hr3.cell 1
  have c2 := hr3.cell 2
  have d0 := hr4.cell 0
  have d1 := hr4.cell 1
  have d2 := hr4.cell 2
  generalize w3.alloc (.cells #[.int .i64 k, .int .i64 e, .int .i64 b] 23) = W4 at *
  generalize w3.heap.size = q2 at *
  go_wp2_with (go_at_call 6; refine (HE.out _).mono ?_; rintro r w5 ⟨rfl, hb6⟩)
  go_ret
  exact ⟨rfl, hb5.trans (hb6.mono hb5.size)⟩
theorem law_big (s : ByteArray) (w : World) (h : 1048576 < s.size) :
    Calls Tryd.prog 3 #[.string s] w fun e w' => e = .returned (.bool true) ∧ Below w.heap.size w w' := by
  go_enter Tryd.func3, Tryd.ntmps3
  go_wp2
  go_ret
  exact ⟨rfl, Below.refl _ _⟩
theorem rowErr (u : TypeId) (h : Tryd.prog.typeName? 3 u = some "*errors.errorString") : u = 92 :=
  typeName_ptr_named (nm := "errors.errorString") (by rw [show "*" ++ "errors.errorString" = "*errors.errorString" by decide]; kernel_rfl) (by kernel_rfl) (by decide) u (by rw [show "*" ++ "errors.errorString" = "*errors.errorString" by decide]; exact h)
theorem walk (H : Type) (enc : TypeId × Value → H) (W : World) (base : Nat) (args : Array Value) (ds : List (DataW H)) (p : List MemPlace)
    (hsh : W.ShapedOpen Tryd.prog)
    (hval : ∀ (j : Nat) t v, Tryd.f3.params[j]? = some t → args[j]? = some v → Value.okWide Tryd.prog W .any base t v)
    (hA : DataW.TrodAll enc Tryd.prog W 0 (fun _ => true) true Tryd.f3.params.toList args.toList ds p)
    (hX : laidMetH Tryd.prog Rows.fnExactReadProblemRow.laid W) :
    Calls Tryd.prog 3 args W fun e W' => e = .returned (.bool true) ∧ Below W.heap.size W W' := by
  rw [Tryd.params3] at hA hval
  obtain ⟨v0, vs0, d0, ds0, p0, q0, hargs, rfl, rfl, h0, r0⟩ := trodAll_cons hA
  obtain ⟨rfl, rfl, rfl⟩ := trodAll_nil r0
  obtain rfl : args = #[v0] := by cases args; simp_all
  obtain ⟨s0, rfl, rfl, rfl, m0⟩ := open_string Tryd.underlying9 (hval 0 9 v0 rfl rfl) h0
  have hL : laidMet Tryd.prog Rows.fnExactReadProblemRow.laid W := by
    have h := hX
    rw [MakeChecks.laidMetH_plain _ _ _ (by kernel_rfl)] at h
    exact h
  have L1 := laidMet.filter (fun x => x.1 == "internal/strconv.uint64pow10") hL
  have L2 := laidMet.filter (fun x => x.1 == "loop.example/g00899/impl.problemWords") hL
  have L3 := laidMet.filter (fun x => x.1 == "strconv.ErrSyntax") hL
  have L4 := laidMet.filter (fun x => x.1 == "strconv.ErrRange") hL
  have e1 : (Rows.fnExactReadProblemRow.laid.filter fun x => x.1 == "internal/strconv.uint64pow10") = [("internal/strconv.uint64pow10", Lib.tabData .u64 Lib.pow10Tab)] := by kernel_rfl
  have e2 : (Rows.fnExactReadProblemRow.laid.filter fun x => x.1 == "loop.example/g00899/impl.problemWords") = [("loop.example/g00899/impl.problemWords", txtData (wordsB.map fun b => b.data.toList))] := by kernel_rfl
  have e3 : (Rows.fnExactReadProblemRow.laid.filter fun x => x.1 == "strconv.ErrSyntax") = [("strconv.ErrSyntax", .iface "*errors.errorString" (.ptr (.agg [.lit (.string [105, 110, 118, 97, 108, 105, 100, 32, 115, 121, 110, 116, 97, 120])])))] := by kernel_rfl
  have e4 : (Rows.fnExactReadProblemRow.laid.filter fun x => x.1 == "strconv.ErrRange") = [("strconv.ErrRange", .iface "*errors.errorString" (.ptr (.agg [.lit (.string [118, 97, 108, 117, 101, 32, 111, 117, 116, 32, 111, 102, 32, 114, 97, 110, 103, 101])])))] := by kernel_rfl
  rw [e1] at L1
  rw [e2] at L2
  rw [e3] at L3
  rw [e4] at L4
  have htab : Lib.TabIs Tryd.prog W "internal/strconv.uint64pow10" .u64 Lib.pow10Tab := Lib.tabIs_of_head (g := 4) (t := 83) (e := 65) (n := 20) (by kernel_rfl) (by kernel_rfl) Tryd.underlying83 Tryd.underlying65 (by kernel_rfl) (by kernel_rfl) L1
  have hw := txt_of_laid (g := 0) (t := 39) (e := 9) (n := 11) (by kernel_rfl) (by kernel_rfl) Tryd.underlying39 Tryd.underlying9 (by kernel_rfl) (by kernel_rfl) L2
  have hw' : W.var? Tryd.prog "loop.example/g00899/impl.problemWords" = some (wordsB.map Value.string).toArray := by rw [hw]; rfl
  obtain ⟨a0, s0', hv0, _⟩ := laid_sentinel (g := 2) (ti := 49) L3 (by kernel_rfl) (by kernel_rfl) Tryd.underlying49 rowErr Tryd.underlying92 Tryd.underlying94 rfl rfl Tryd.underlying9 (by kernel_rfl) (by kernel_rfl)
  obtain ⟨a1, s1', hv1, _⟩ := laid_sentinel (g := 3) (ti := 49) L4 (by kernel_rfl) (by kernel_rfl) Tryd.underlying49 rowErr Tryd.underlying92 Tryd.underlying94 rfl rfl Tryd.underlying9 (by kernel_rfl) (by kernel_rfl)
  have hRW : RpW W := ⟨htab, hw', ⟨_, _, hv0⟩, ⟨_, _, hv1⟩, MaxL.of hsh⟩
  obtain ⟨s, rfl⟩ : ∃ z, z = s0 := ⟨_, rfl⟩
  by_cases hz : s.size ≤ 1048576
  · by_cases hp : ∃ k e b, IsPb s k e b
    · obtain ⟨k, e, b, hp⟩ := hp
      exact law s hz k e b true W (fun w' _ => (specReadProblem_any hz).mono fun r w2 h => h.is hp) (fun w' hb => (implReadProblem_any hz (hRW.below hb)).mono fun r w2 h => h.is hp)
    · have hno : ∀ k e b, ¬ IsPb s k e b := fun k e b h => hp ⟨k, e, b, h⟩
      exact law s hz 0 0 0 false W (fun w' _ => (specReadProblem_any hz).mono fun r w2 h => h.no hno) (fun w' hb => (implReadProblem_any hz (hRW.below hb)).mono fun r w2 h => h.no hno)
  · exact law_big s W (by omega)
theorem own : ownKnob Tryd.prog.godebug = none := by kernel_rfl
theorem laidOut : laidOutB Tryd.prog = true := by kernel_rfl
theorem lifted (os : Os) (started : os.Started) (H : Type) (enc : TypeId × Value → H) :
    ReturnsInHanded {} Tryd.checked os 3 .any (fun w args => (Rows.fnExactReadProblemSpec.pre enc Tryd.prog Tryd.f3 Rows.fnExactReadProblemRow.domain false w args ∧ laidMetH Tryd.prog Rows.fnExactReadProblemRow.laid w) ∧ sizedMet enc Tryd.prog Tryd.f3 (OpenSpec.ofChange Rows.fnExactReadProblemSpec) false w args)
      (Rows.fnExactReadProblemSpec.post enc Tryd.prog Tryd.f3 false true false false) := by
  refine handed_and_shaped (C := Tryd.checked) (X := fun w _ => laidMetH Tryd.prog Rows.fnExactReadProblemRow.laid w) (fun _ _ _ hh h => h.of_heap hh) own started (by kernel_rfl) Tryd.func3
    (ChangeSpec.witness_shaped (enc := enc) (C := Tryd.checked) (os := os) (X := fun w _ => laidMetH Tryd.prog Rows.fnExactReadProblemRow.laid w) false (World.laidAll Tryd.prog os Rows.fnExactReadProblemRow.laid) #[.string .empty] 8 (World.laidAll_os _ _ _)
      (World.shaped_of_ZipB (by kernel_rfl) (by kernel_rfl)) (by kernel_rfl) (by kernel_rfl) (by kernel_rfl)
      (by rw [MakeChecks.laidMetH_plain _ _ _ (by kernel_rfl)]; exact laidMet_laidAll _ (by kernel_rfl) (by kernel_rfl))) ?_
  intro W base args ds gs before hval hW _ _ hX hsh _
  have hW' := hW
  obtain ⟨p, q, hA, hV, rfl, hfz, hnd⟩ := hW
  refine (walk H enc W base args ds p hsh hval hA hX).mono fun e W' ⟨he, hb⟩ => ?_
  subst he
  exact ⟨_, rfl, law_post1 laidOut (by kernel_rfl) rfl (by kernel_rfl) rfl Tryd.underlying4 (fun xs g1 hx => by
      match xs, hx with
      | [x0], _ => exact ⟨rfl, rfl, rfl⟩) hW' hb⟩
theorem over : Rows.fnExactReadProblemRow.holds Tryd.pinned (OpenSpec.ofChange Rows.fnExactReadProblemSpec) :=
  OpenClaim.holds_of_wide 3 Tryd.f3 rfl rfl rfl rfl rfl rfl rfl ⟨rfl, rfl, rfl, rfl, rfl⟩ rfl rfl rfl rfl rfl (by kernel_rfl) Tryd.func3 (by kernel_rfl)
    (of_decide_eq_true (by kernel_rfl)) (by unfold Func.isWrapper; first | (rw [if_pos (by decide +kernel)]; kernel_rfl) | (rw [if_neg (by decide +kernel)]; exact ⟨rfl, rfl⟩))
    (fun os started H enc _ => lifted os started H enc)
/-- the given statement: the tied card -/
theorem proved : Rows.FnExactReadProblemCardSaid :=
  Claim7.holds_tied_plain_at .later [] [.data, .data, .data, .data, .sentinel, .sentinel, .widerDeep, .pinned] true (true, "761e7bb457bd00cc3f656861eda596c92b06ae0afc7c5dd5a586b09d3d1b0c43") true over (fun _ h => by cases h) (by kernel_rfl) (fun _ h => by cases h) fnExactReadProblem_row_tie rfl ⟨rfl, rfl⟩ (by kernel_rfl) rfl
    (fun f fn hf hfn => by
      obtain rfl : f = 3 := Option.some.inj ((show Tryd.prog.funcNamed "loop.example/g00899/laws.FnExactReadProblem" = some 3 by kernel_rfl).symm.trans hf) |>.symm
      obtain rfl : fn = Tryd.f3 := (Option.some.inj (Tryd.func3.symm.trans hfn)).symm
      exact ⟨by kernel_rfl, fun j t ht => by
        rw [Tryd.params3] at ht
        have hm : t ∈ [9] := by simpa using Array.mem_of_getElem? ht
        have hall : ([9].all fun u => !Tryd.prog.wantsStandIn u) = true := by kernel_rfl
        exact (show Tryd.prog.wantsStandIn t = false by simpa using List.all_eq_true.1 hall t hm)⟩)
    (by kernel_rfl)
end Go.Proofs.YtcbiaeniagacfaaDoor.fnExactReadProblem
