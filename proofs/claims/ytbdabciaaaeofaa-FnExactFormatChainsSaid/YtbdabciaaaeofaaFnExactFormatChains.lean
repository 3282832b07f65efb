/-
  The program's FormatChains returns what the reference's returns, for all arguments. Conditions: none.
-/
import Derived.Test.YtbdabciaaaeofaaRows
import Derived.Test.YtbdabciaaaeofaaChainFmt2
namespace Go.Proofs.Ytbdabciaaaeofaa.fnExactFormatChains
open Go Go.ChangeShapes Go.WideShapes Go.ChangeAt Go.RowKit lib
set_option linter.unusedVariables false
set_option maxRecDepth 100000
set_option maxHeartbeats 1000000 in
theorem law (x y : Int) (n : Nat) (code : Int) (f : Nat → ByteArray) (w : World) (hn : n ≤ 1048576)
    (hs : ∀ w : World, Calls Try.prog 7 #[.int .i64 x, .int .i64 y] w fun e w' => ∃ A c, e = .returned (.tuple #[.slice A n c, .int .i64 code]) ∧ w'.ownsRow w.heap.size 9 1 (.slice A n c) n ((List.range n).map fun (i : Nat) => Value.string (f i)) ∧ Below w.heap.size w w')
    (hi : ∀ w : World, Calls Try.prog 8 #[.int .i64 x, .int .i64 y] w fun e w' => ∃ A c, e = .returned (.tuple #[.slice A n c, .int .i64 code]) ∧ w'.ownsRow w.heap.size 9 1 (.slice A n c) n ((List.range n).map fun (i : Nat) => Value.string (f i)) ∧ Below w.heap.size w w') :
    Calls Try.prog 3 #[.int .i64 x, .int .i64 y] w fun e w' => e = .returned (.bool true) ∧ Below w.heap.size w w' := by
  have HS := Lib.hid hs
  have HI := Lib.hid hi
  clear hs hi
  go_enter Try.func3, Try.ntmps3
  go_wp2_with fail
  refine (HS.out _).mono ?_
  rintro e w1 ⟨A0, c0, rfl, o0, hb1⟩
  have B1 : Below w.heap.size w w1 := hb1
  have O0 := Lib.hid o0
  clear o0 hb1
  go_wp2_with fail
  refine (HI.out _).mono ?_
  rintro e w2 ⟨A1, c1, rfl, o1, hb2⟩
  have B2 := B1.trans (hb2.mono B1.size)
  have ap := Lib.hid (own_apart O0.out o1 (Nat.le_refl _))
  have O0 := Lib.hid (own_below O0.out hb2)
  have O1 := Lib.hid o1
  have z1 := B1.size
  clear o1 hb2
  go_wp2_with fail
  refine (eqStringS_same _ _ n _ _ f f _ hn (own_slR O1.out) (own_slR O0.out) (fun _ _ => rfl)).mono ?_
  rintro e w3 ⟨rfl, hb3⟩
  have B3 := B2.trans (hb3.mono B2.size)
  have O0 := Lib.hid (own_below O0.out hb3)
  have O1 := Lib.hid (own_below O1.out hb3)
  clear hb3
  go_wp2_with fail
  refine (markStringS_any _ n _ _ _ _ _ hn (by omega) (by omega) O1.out).mono ?_
  rintro e w4 ⟨rfl, o1, hg4⟩
  have B4 := B3.trans (below_grown hg4 (fun k hk => by have := (O1.out.lt k hk).1; omega) B3.size)
  have O0 := Lib.hid (O0.out.kept hg4 ap.out)
  have O1 := Lib.hid o1
  clear o1 hg4
  go_wp2_with fail
  refine (heldStringS_any _ n _ _ _ hn (by omega) (by omega) (own_slR O1.out)).mono ?_
  rintro e w5 ⟨rfl, hb5⟩
  have B5 := B4.trans (hb5.mono B4.size)
  have O0 := Lib.hid (own_below O0.out hb5)
  have O1 := Lib.hid (own_below O1.out hb5)
  clear hb5
  go_wp2_with fail
  refine (HI.out _).mono ?_
  rintro e w6 ⟨A2, c2, rfl, o2, hb6⟩
  have B6 := B5.trans (hb6.mono B5.size)
  have O0 := Lib.hid (own_below O0.out hb6)
  have O1 := Lib.hid (own_below O1.out hb6)
  have O2 := Lib.hid o2
  clear o2 hb6
  go_wp2_with fail
  refine (eqStringS_same _ _ n _ _ f f _ hn (own_slR O2.out) (own_slR O0.out) (fun _ _ => rfl)).mono ?_
  rintro e w7 ⟨rfl, hb7⟩
  have B7 := B6.trans (hb7.mono B6.size)
  have O1 := Lib.hid (own_below O1.out hb7)
  clear hb7
  go_wp2_with fail
  refine (heldStringS_any _ n _ _ _ hn (by omega) (by omega) (own_slR O1.out)).mono ?_
  rintro e w8 ⟨rfl, hb8⟩
  have B8 := B7.trans (hb8.mono B7.size)
  clear hb8
  go_wp2
  go_ret
  exact ⟨rfl, B8⟩
theorem walk (H : Type) (enc : TypeId × Value → H) (W : World) (base : Nat) (args : Array Value) (ds : List (DataW H)) (p : List MemPlace)
    (hval : ∀ (j : Nat) t v, Try.f3.params[j]? = some t → args[j]? = some v → Value.okWide Try.prog W .any base t v)
    (hA : DataW.TrodAll enc Try.prog W 0 (fun _ => true) true Try.f3.params.toList args.toList ds p) :
    Calls Try.prog 3 args W fun e W' => e = .returned (.bool true) ∧ Below W.heap.size W W' := by
  rw [Try.params3] at hA hval
  obtain ⟨v0, vs0, d0, ds0, p0, q0, hargs, rfl, rfl, h0, r0⟩ := trodAll_cons hA
  obtain ⟨v1, vs1, d1, ds1, p1, q1, rfl, rfl, rfl, h1, r1⟩ := trodAll_cons r0
  obtain ⟨rfl, rfl, rfl⟩ := trodAll_nil r1
  obtain rfl : args = #[v0, v1] := by cases args; simp_all
  obtain ⟨a0, rfl, rfl, rfl, w0⟩ := open_int Try.underlying2 (hval 0 2 v0 rfl rfl) h0
  obtain ⟨a1, rfl, rfl, rfl, w1⟩ := open_int Try.underlying2 (hval 1 2 v1 rfl rfl) h1
  by_cases h : 8 ≤ a0 ∧ a0 ≤ 128 ∧ (a1 = 8 ∨ a1 = 16 ∨ a1 = 32)
  · obtain ⟨n, rfl⟩ := Int.eq_ofNat_of_zero_le (show 0 ≤ a0 by omega)
    obtain ⟨z, rfl⟩ := Int.eq_ofNat_of_zero_le (show 0 ≤ a1 by omega)
    have hl : LayOk n z := ⟨by omega, by omega, by omega⟩
    exact law n z n 0 (fun i => blkOf z (fmtU n z) i) W (by omega) (fun w => specFormat_in n z w hl) (fun w => implFormat_in n z w hl)
  · exact law a0 a1 0 2 (fun _ => .empty) W (by omega) (fun w => (specFormat_out a0 a1 w h).mono fun r w' ⟨e, hb⟩ => ⟨none, 0, e, World.ownsRow_nil _ _ _ _, hb⟩)
      (fun w => (implFormat_out a0 a1 w h).mono fun r w' ⟨e, hb⟩ => ⟨none, 0, e, World.ownsRow_nil _ _ _ _, hb ▸ Below.refl _ _⟩)
theorem own : ownKnob Try.prog.godebug = none := by kernel_rfl
theorem laidOut : laidOutB Try.prog = true := by kernel_rfl
theorem lifted (os : Os) (started : os.Started) (H : Type) (enc : TypeId × Value → H) :
    ReturnsInHanded {} Try.checked os 3 .any (Rows.fnExactFormatChainsSpec.pre6 enc Try.prog Try.f3 Rows.fnExactFormatChainsRow.domain false) (Rows.fnExactFormatChainsSpec.post enc Try.prog Try.f3 false true false false) := by
  refine returnsInHanded_of_change (C := Try.checked) own started (by kernel_rfl) Try.func3
    (ChangeSpec.witness6 (enc := enc) (C := Try.checked) false ⟨#[], #[.int .i64 0, .int .i64 0], []⟩ 8 (by kernel_rfl) (by kernel_rfl) (by kernel_rfl) (by kernel_rfl)) ?_
  intro W base args ds gs before hval hW _ _
  have hW' := hW
  obtain ⟨p, q, hA, hV, rfl, hfz, hnd⟩ := hW
  refine (walk H enc W base args ds p hval hA).mono fun e W' ⟨he, hb⟩ => ?_
  subst he
  exact ⟨_, rfl, law_post laidOut (by kernel_rfl) rfl rfl Try.underlying4 (fun xs hx => by
      match xs, hx with
      | [x0, x1], _ => exact ⟨rfl, rfl, rfl⟩) hW' hb⟩
theorem over : Rows.fnExactFormatChainsRow.holds Try.pinned (OpenSpec.ofChange Rows.fnExactFormatChainsSpec) :=
  OpenClaim.holds_of_wide 3 Try.f3 rfl rfl rfl rfl rfl rfl rfl ⟨rfl, rfl, rfl, rfl, rfl⟩ rfl rfl rfl rfl rfl (by kernel_rfl) Try.func3 (by kernel_rfl)
    (of_decide_eq_true (by kernel_rfl)) (by unfold Func.isWrapper; first | (rw [if_pos (by decide +kernel)]; kernel_rfl) | (rw [if_neg (by decide +kernel)]; exact ⟨rfl, rfl⟩))
    (fun os started H enc _ => lifted os started H enc)
/-- the given statement -/
theorem proved : Rows.FnExactFormatChainsSaid := over
end Go.Proofs.Ytbdabciaaaeofaa.fnExactFormatChains
