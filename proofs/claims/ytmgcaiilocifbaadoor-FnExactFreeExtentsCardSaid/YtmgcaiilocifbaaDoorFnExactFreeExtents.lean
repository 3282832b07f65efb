/-
  The program's FreeExtents returns what the reference's returns, for all arguments. Conditions: none.
-/
import Derived.Test.YtmgcaiilocifbaaDoorRows
import Derived.Test.YtmgcaiilocifbaaDoorXrA
import Derived.Test.YtmgcaiilocifbaaDoorBase
import Derived.Test.YtmgcaiilocifbaaDoorTie
import Derived.Test.YtmgcaiilocifbaaDoorCards
import Derived.LaidMore
import Derived.Lay
import Derived.SevenTiedAt
import Derived.Stop.Joined
namespace Go.Proofs.YtmgcaiilocifbaaDoor.fnExactFreeExtents
open Go Go.ChangeShapes Go.WideShapes Go.ChangeAt Go.RowKit lib
set_option linter.unusedVariables false
set_option maxRecDepth 100000
theorem own_apart2 {w w1 : World} {B B' e e' k k' n n' : Nat} {v v' : Value} {xs xs' : List Value} (h : w.ownsRow B e k v n xs) (h' : w1.ownsRow B' e' k' v' n' xs') (hB : w.heap.size ≤ B') : v'.ownBlock = none ∨ v'.ownBlock ≠ v.ownBlock := by
  rcases own_apart h h' hB with h1 | h1
  · cases hv : v'.ownBlock with
    | none => exact .inl rfl
    | some g => exact .inr (by rw [h1]; simp)
  · exact .inr (fun he => h1 he.symm)
set_option maxHeartbeats 2000000 in
theorem law (A : Option Addr) (n c m : Nat) (code : Int) (s : Nat → ByteArray) (f : Nat → Int) (w : World) (hm : m ≤ 1048576) (ha : Sl w w.heap.size A n (fun i => .string (s i))) (hok : n + tot s n ≤ 1048576)
    (hs : ∀ (w : World) (A : Option Addr), Sl w w.heap.size A n (fun i => .string (s i)) → Calls Tryd.prog 9 #[.slice A n n] w fun e w' => ∃ A c, e = .returned (.tuple #[.slice A m c, .int .i64 code]) ∧ w'.ownsRow w.heap.size 2 1 (.slice A m c) m ((List.range m).map fun (i : Nat) => Value.int .i64 (f i)) ∧ Below w.heap.size w w')
    (hi : ∀ (w : World) (A : Option Addr), Sl w w.heap.size A n (fun i => .string (s i)) → Calls Tryd.prog 11 #[.slice A n n] w fun e w' => ∃ A c, e = .returned (.tuple #[.slice A m c, .int .i64 code]) ∧ w'.ownsRow w.heap.size 2 1 (.slice A m c) m ((List.range m).map fun (i : Nat) => Value.int .i64 (f i)) ∧ Below w.heap.size w w') :
    Calls Tryd.prog 3 #[.slice A n c] w fun e w' => e = .returned (.bool true) ∧ Below w.heap.size w w' := by
  have HS := Lib.hid hs
  have HI := Lib.hid hi
  have HA := Lib.hid ha
  clear hs hi
  have hn : n ≤ 1048576 := by omega
  go_enter Tryd.func3, Tryd.ntmps3
  go_wp2_with fail
  refine (szStringS_ok A n c 1048576 s _ (by omega) ha (by omega)).mono ?_
  rintro e w0 ⟨rfl, rfl⟩
  clear ha
  go_wp2_with fail
  refine (toStringS_any A n c s _ hn HA.out).mono ?_
  rintro e w1 ⟨rfl, o, hb⟩
  have B1 := hb
  have OZ := Lib.hid o
  clear o hb
  go_wp2_with fail
  refine (HS.out _ _ (own_slR OZ.out)).mono ?_
  rintro e w2 ⟨A0, c0, rfl, o, hb⟩
  have B2 := B1.trans (hb.mono B1.size)
  have OW := Lib.hid o
  clear o hb OZ
  go_wp2_with fail
  refine (toStringS_any A n c s _ hn ((HA.out.below B2).more B2.size)).mono ?_
  rintro e w3 ⟨rfl, o, hb⟩
  have B3 := B2.trans (hb.mono B2.size)
  have apWX := Lib.hid (own_apart OW.out o (Nat.le_refl _))
  have OX := Lib.hid o
  have hs23 := hb.size
  have zX := B2.size
  have OW := Lib.hid (own_below OW.out hb)
  clear o hb
  go_wp2_with fail
  refine (HI.out _ _ (own_slR OX.out)).mono ?_
  rintro e w4 ⟨A1, c1, rfl, o, hb⟩
  have B4 := B3.trans (hb.mono B3.size)
  have apXG := Lib.hid (own_apart2 OX.out o (Nat.le_refl _))
  have apWG := Lib.hid (own_apart OW.out o (Nat.le_refl _))
  have OG := Lib.hid o
  have zG := B3.size
  have OW := Lib.hid (own_below OW.out hb)
  have OX := Lib.hid (own_below OX.out hb)
  clear o hb
  go_wp2_with fail
  refine (eqInt64S_same _ _ m _ _ f f _ hm (own_slR OG.out) (own_slR OW.out) (fun _ _ => rfl)).mono ?_
  rintro e w5 ⟨rfl, hb⟩
  have B5 := B4.trans (hb.mono B4.size)
  have OW := Lib.hid (own_below OW.out hb)
  have OX := Lib.hid (own_below OX.out hb)
  have OG := Lib.hid (own_below OG.out hb)
  clear hb
  go_wp2_with fail
  refine (toStringS_any A n c s _ hn ((HA.out.below B5).more B5.size)).mono ?_
  rintro e w6 ⟨rfl, o, hb⟩
  have B6 := B5.trans (hb.mono B5.size)
  have OY := Lib.hid o
  have OW := Lib.hid (own_below OW.out hb)
  have OX := Lib.hid (own_below OX.out hb)
  have OG := Lib.hid (own_below OG.out hb)
  clear o hb
  go_wp2_with fail
  refine (eqStringS_same _ _ n _ _ s s _ hn (own_slR OX.out) (own_slR OY.out) (fun _ _ => rfl)).mono ?_
  rintro e w7 ⟨rfl, hb⟩
  have B7 := B6.trans (hb.mono B6.size)
  have OW := Lib.hid (own_below OW.out hb)
  have OX := Lib.hid (own_below OX.out hb)
  have OG := Lib.hid (own_below OG.out hb)
  clear hb OY
  go_wp2_with fail
  refine (markStringS_any _ n _ _ _ _ _ hn (by omega) (by omega) OX.out).mono ?_
  rintro e w8 ⟨rfl, _, hg⟩
  have B8 := B7.trans (below_grown hg (fun k hk => by have := (OX.out.lt k hk).1; omega) B7.size)
  have OW := Lib.hid (OW.out.kept hg apWX.out)
  have OG := Lib.hid (OG.out.kept hg apXG.out)
  clear hg OX
  go_wp2_with fail
  refine (eqInt64S_same _ _ m _ _ f f _ hm (own_slR OG.out) (own_slR OW.out) (fun _ _ => rfl)).mono ?_
  rintro e w9 ⟨rfl, hb⟩
  have B9 := B8.trans (hb.mono B8.size)
  have OW := Lib.hid (own_below OW.out hb)
  have OG := Lib.hid (own_below OG.out hb)
  clear hb
  go_wp2_with fail
  refine (markInt64S_any _ m _ _ _ _ _ hm (by omega) (by omega) OG.out).mono ?_
  rintro e w10 ⟨rfl, o, hg⟩
  have B10 := B9.trans (below_grown hg (fun k hk => by have := (OG.out.lt k hk).1; omega) B9.size)
  have OW := Lib.hid (OW.out.kept hg apWG.out)
  have OG := Lib.hid o
  clear o hg
  go_wp2_with fail
  refine (heldInt64S_any _ m _ _ _ hm (by omega) (by omega) (own_slR OG.out)).mono ?_
  rintro e w11 ⟨rfl, hb⟩
  have B11 := B10.trans (hb.mono B10.size)
  have OW := Lib.hid (own_below OW.out hb)
  have OG := Lib.hid (own_below OG.out hb)
  clear hb
  go_wp2_with fail
  refine (toStringS_any A n c s _ hn ((HA.out.below B11).more B11.size)).mono ?_
  rintro e w12 ⟨rfl, o, hb⟩
  have B12 := B11.trans (hb.mono B11.size)
  have OY := Lib.hid o
  have OW := Lib.hid (own_below OW.out hb)
  have OG := Lib.hid (own_below OG.out hb)
  clear o hb
  go_wp2_with fail
  refine (HI.out _ _ (own_slR OY.out)).mono ?_
  rintro e w13 ⟨A2, c2, rfl, o, hb⟩
  have B13 := B12.trans (hb.mono B12.size)
  have OH := Lib.hid o
  have OW := Lib.hid (own_below OW.out hb)
  have OG := Lib.hid (own_below OG.out hb)
  clear o hb OY
  go_wp2_with fail
  refine (eqInt64S_same _ _ m _ _ f f _ hm (own_slR OH.out) (own_slR OW.out) (fun _ _ => rfl)).mono ?_
  rintro e w14 ⟨rfl, hb⟩
  have B14 := B13.trans (hb.mono B13.size)
  have OG := Lib.hid (own_below OG.out hb)
  clear hb OH OW
  go_wp2_with fail
  refine (heldInt64S_any _ m _ _ _ hm (by omega) (by omega) (own_slR OG.out)).mono ?_
  rintro e w15 ⟨rfl, hb⟩
  have B15 := B14.trans (hb.mono B14.size)
  clear hb
  go_wp2
  go_ret
  exact ⟨rfl, B15⟩
theorem law_over (A : Option Addr) (n c : Nat) (s : Nat → ByteArray) (w : World) (hn : n ≤ 9223372036854775807) (hs : Sl w w.heap.size A n (fun i => .string (s i))) (hm : ∀ i, i < n → (s i).size ≤ 9223372036854775807) (h : 1048576 < n + tot s n) :
    Calls Tryd.prog 3 #[.slice A n c] w fun e w' => e = .returned (.bool true) ∧ Below w.heap.size w w' := by
  go_enter Tryd.func3, Tryd.ntmps3
  go_wp2_with fail
  refine (szStringS_over A n c 1048576 s _ (by omega) hn hs hm (by omega) (by omega)).mono ?_
  rintro e w1 ⟨rfl, rfl⟩
  go_wp2
  go_ret
  exact ⟨rfl, Below.refl _ _⟩
theorem walk (H : Type) (enc : TypeId × Value → H) (W : World) (base : Nat) (args : Array Value) (ds : List (DataW H)) (p : List MemPlace)
    (hval : ∀ (j : Nat) t v, Tryd.f3.params[j]? = some t → args[j]? = some v → Value.okWide Tryd.prog W .any base t v)
    (hA : DataW.TrodAll enc Tryd.prog W 0 (fun _ => true) true Tryd.f3.params.toList args.toList ds p) :
    Calls Tryd.prog 3 args W fun e W' => e = .returned (.bool true) ∧ Below W.heap.size W W' := by
  rw [Tryd.params3] at hA hval
  obtain ⟨v0, vs0, d0, ds0, p0, q0, hargs, rfl, rfl, h0, r0⟩ := trodAll_cons hA
  obtain ⟨rfl, rfl, rfl⟩ := trodAll_nil r0
  obtain rfl : args = #[v0] := by cases args; simp_all
  obtain ⟨A, n, c, s, rfl, g1, g2, hs, hm⟩ := open_sl_str Tryd.underlying22 Tryd.underlying9 (by kernel_rfl) (hval 0 22 v0 rfl rfl) h0
  by_cases hov : n + tot s n ≤ 1048576
  · have hn : n ≤ 1048576 := by omega
    by_cases ho : opensX n s
    · have hl := freeOfX_len (n := n) (s := s)
      exact law A n c (freeOfX n s).length 0 s (fun i => ((freeOfX n s).getD i 0 : Nat)) W (by have := ho.1.hi; omega) hs hov
        (fun w A hs => by rw [range_getDX]; exact specFreeTop_ok hs hm (Nat.le_refl _) (by omega) ho)
        (fun w A hs => by rw [range_getDX]; exact implFreeTop_ok hs hm (Nat.le_refl _) (by omega) ho)
    · exact law A n c 0 7 s (fun _ => 0) W (by omega) hs hov
        (fun w A hs => (specFreeTop_bad hs hm (Nat.le_refl _) (by omega) ho).mono fun r w' h => ⟨none, 0, h.1, World.ownsRow_nil _ _ _ _, h.2⟩)
        (fun w A hs => (implFreeTop_bad hs hm (Nat.le_refl _) (by omega) ho).mono fun r w' h => ⟨none, 0, h.1, World.ownsRow_nil _ _ _ _, h.2⟩)
  · exact law_over A n c s W (by omega) hs hm (by omega)
theorem own : ownKnob Tryd.prog.godebug = none := by kernel_rfl
theorem laidOut : laidOutB Tryd.prog = true := by kernel_rfl
theorem lifted (os : Os) (started : os.Started) (H : Type) (enc : TypeId × Value → H) :
    ReturnsInHanded {} Tryd.checked os 3 .any (fun w args => (Rows.fnExactFreeExtentsSpec.pre enc Tryd.prog Tryd.f3 Rows.fnExactFreeExtentsRow.domain false w args ∧ laidMetH Tryd.prog Rows.fnExactFreeExtentsRow.laid w) ∧ sizedMet enc Tryd.prog Tryd.f3 (OpenSpec.ofChange Rows.fnExactFreeExtentsSpec) false w args)
      (Rows.fnExactFreeExtentsSpec.post enc Tryd.prog Tryd.f3 false true false false) := by
  refine returnsInHanded_of_change_and (C := Tryd.checked) (X := fun w _ => laidMetH Tryd.prog Rows.fnExactFreeExtentsRow.laid w) (fun _ _ _ hh h => h.of_heap hh) own started (by kernel_rfl) Tryd.func3
    (ChangeSpec.witness_shaped (enc := enc) (C := Tryd.checked) (os := os) (X := fun w _ => laidMetH Tryd.prog Rows.fnExactFreeExtentsRow.laid w) false (World.laidAll Tryd.prog os Rows.fnExactFreeExtentsRow.laid) #[.slice none 0 0] 8 (World.laidAll_os _ _ _)
      (World.shaped_of_ZipB (by kernel_rfl) (by kernel_rfl)) (by kernel_rfl) (by kernel_rfl) (by kernel_rfl)
      (by rw [MakeChecks.laidMetH_plain _ _ _ (by kernel_rfl)]; exact laidMet_laidAll _ (by kernel_rfl) (by kernel_rfl))) ?_
  intro W base args ds gs before hval hW _ _ _ _
  have hW' := hW
  obtain ⟨p, q, hA, hV, rfl, hfz, hnd⟩ := hW
  refine (walk H enc W base args ds p hval hA).mono fun e W' ⟨he, hb⟩ => ?_
  subst he
  exact ⟨_, rfl, law_post laidOut (by kernel_rfl) rfl rfl Tryd.underlying4 (fun xs hx => by
      match xs, hx with
      | [x0], _ => exact ⟨rfl, rfl, rfl⟩) hW' hb⟩
theorem over : Rows.fnExactFreeExtentsRow.holds Tryd.pinned (OpenSpec.ofChange Rows.fnExactFreeExtentsSpec) :=
  OpenClaim.holds_of_wide 3 Tryd.f3 rfl rfl rfl rfl rfl rfl rfl ⟨rfl, rfl, rfl, rfl, rfl⟩ rfl rfl rfl rfl rfl (by kernel_rfl) Tryd.func3 (by kernel_rfl)
    (of_decide_eq_true (by kernel_rfl)) (by unfold Func.isWrapper; first | (rw [if_pos (by decide +kernel)]; kernel_rfl) | (rw [if_neg (by decide +kernel)]; exact ⟨rfl, rfl⟩))
    (fun os started H enc _ => lifted os started H enc)
/-- the given statement: the tied card -/
theorem proved : Rows.FnExactFreeExtentsCardSaid :=
  Claim7.holds_tied_plain_at .later [] [.data, .pinned] true (true, "99c1f9f512173d756fabec438d51a786df3f6281e69e6c5100a8f70f8fc1e9e4") false over (fun _ h => by cases h) (by kernel_rfl) (fun _ h => by cases h) fnExactFreeExtents_row_tie rfl ⟨rfl, rfl⟩ (by kernel_rfl) rfl
    (fun f fn hf hfn => by
      obtain rfl : f = 3 := Option.some.inj ((show Tryd.prog.funcNamed "loop.example/g00899/laws.FnExactFreeExtents" = some 3 by kernel_rfl).symm.trans hf) |>.symm
      obtain rfl : fn = Tryd.f3 := (Option.some.inj (Tryd.func3.symm.trans hfn)).symm
      exact ⟨by kernel_rfl, fun j t ht => by
        rw [Tryd.params3] at ht
        have hm : t ∈ [22] := by simpa using Array.mem_of_getElem? ht
        have hall : ([22].all fun u => !Tryd.prog.wantsStandIn u) = true := by kernel_rfl
        exact (show Tryd.prog.wantsStandIn t = false by simpa using List.all_eq_true.1 hall t hm)⟩)
    (by kernel_rfl)
end Go.Proofs.YtmgcaiilocifbaaDoor.fnExactFreeExtents
