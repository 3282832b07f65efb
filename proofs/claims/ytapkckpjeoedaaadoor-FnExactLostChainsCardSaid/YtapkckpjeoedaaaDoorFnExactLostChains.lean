/-
  The program's LostChains returns what the reference's returns, for all arguments. Conditions: none.
-/
import Derived.Test.YtapkckpjeoedaaaDoorRows
import Derived.Test.YtapkckpjeoedaaaDoorLcLaw
import Derived.Test.YtapkckpjeoedaaaDoorTie
import Derived.Test.YtapkckpjeoedaaaDoorCards
import Derived.LaidMore
import Derived.Lay
import Derived.SevenTiedAt
import Derived.Stop.Joined
namespace Go.Proofs.YtapkckpjeoedaaaDoor.fnExactLostChains
open Go Go.ChangeShapes Go.WideShapes Go.ChangeAt Go.RowKit lib
set_option linter.unusedVariables false
set_option maxRecDepth 100000
set_option maxHeartbeats 2000000 in
theorem law (A : Option Addr) (n c m : Nat) (code : Int) (s : Nat → ByteArray) (f : Nat → List Nat) (w : World) (hm : m ≤ 128) (hl : ∀ i, i < m → (f i).length ≤ 128) (ha : Sl w w.heap.size A n (fun i => .string (s i))) (hok : n + tot s n ≤ 1048576)
    (hs : ∀ (w : World) (A : Option Addr), Sl w w.heap.size A n (fun i => .string (s i)) → Calls Tryd.prog 5 #[.slice A n n] w fun e w' => ∃ A c, e = .returned (.tuple #[.slice A m c, .int .i64 code]) ∧ GL w.heap.size w' A m f ∧ Below w.heap.size w w')
    (hi : ∀ (w : World) (A : Option Addr), Sl w w.heap.size A n (fun i => .string (s i)) → Calls Tryd.prog 7 #[.slice A n n] w fun e w' => ∃ A c, e = .returned (.tuple #[.slice A m c, .int .i64 code]) ∧ GL w.heap.size w' A m f ∧ Below w.heap.size w w') :
    Calls Tryd.prog 3 #[.slice A n c] w fun e w' => e = .returned (.bool true) ∧ Below w.heap.size w w' := by
  have HS := Lib.hid hs
  have HI := Lib.hid hi
  have HA := Lib.hid ha
  have HL := Lib.hid hl
  have HL2 := Lib.hid (fun i hi => Nat.le_trans (hl i hi) (show 128 ≤ 1048576 by omega))
  clear hs hi hl
  have hn : n ≤ 1048576 := by omega
  go_enter Tryd.func3, Tryd.ntmps3
  go_wp2_with fail
  refine (szStringS_ok A n c 1048576 s _ (by omega) ha (by omega)).mono ?_
  rintro e w0 ⟨rfl, rfl⟩
  clear ha
  go_wp2_with fail
  refine (toStringS_any A n c s _ hn HA.out).mono ?_
  rintro e w1 ⟨rfl, o, hb⟩
  have B1 := hb
  have OZ := Lib.hid o
  clear o hb
  go_wp2_with fail
  refine (HS.out _ _ (own_slR OZ.out)).mono ?_
  rintro e w2 ⟨A0, c0, rfl, o, hb⟩
  have B2 := B1.trans (hb.mono B1.size)
  have OW := Lib.hid o.ls
  clear o hb OZ
  go_wp2_with fail
  refine (toStringS_any A n c s _ hn ((HA.out.below B2).more B2.size)).mono ?_
  rintro e w3 ⟨rfl, o, hb⟩
  have B3 := B2.trans (hb.mono B2.size)
  have OX := Lib.hid o
  have s23 := hb.size
  have hxlt := Lib.hid (own_ltW o)
  have OW := Lib.hid (OW.out.below hb)
  clear o hb
  go_wp2_with fail
  refine (HI.out _ _ (own_slR OX.out)).mono ?_
  rintro e w4 ⟨A1, c1, rfl, o, hb⟩
  have B4 := B3.trans (hb.mono B3.size)
  have OG := Lib.hid o
  have s34 := hb.size
  have OW := Lib.hid (OW.out.below (hb.mono s23))
  have OX := Lib.hid (own_below OX.out hb)
  clear o hb
  go_wp2_with fail
  refine (eqInt64SS_same _ _ m _ _ f _ (by omega) HL2.out OG.out.ls (OW.out.more (by omega))).mono ?_
  rintro e w5 ⟨rfl, hb⟩
  have B5 := B4.trans (hb.mono B4.size)
  have s45 := hb.size
  have OW := Lib.hid (OW.out.below (hb.mono (by omega)))
  have OX := Lib.hid (own_below OX.out hb)
  have OG := Lib.hid (OG.out.below hb)
  clear hb
  go_wp2_with fail
  refine (toStringS_any A n c s _ hn ((HA.out.below B5).more B5.size)).mono ?_
  rintro e w6 ⟨rfl, o, hb⟩
  have B6 := B5.trans (hb.mono B5.size)
  have s56 := hb.size
  have OY := Lib.hid o
  have OW := Lib.hid (OW.out.below (hb.mono (by omega)))
  have OX := Lib.hid (own_below OX.out hb)
  have OG := Lib.hid (OG.out.below hb)
  clear o hb
  go_wp2_with fail
  refine (eqStringS_same _ _ n _ _ s s _ hn (own_slR OX.out) (own_slR OY.out) (fun _ _ => rfl)).mono ?_
  rintro e w7 ⟨rfl, hb⟩
  have B7 := B6.trans (hb.mono B6.size)
  have s67 := hb.size
  have OW := Lib.hid (OW.out.below (hb.mono (by omega)))
  have OX := Lib.hid (own_below OX.out hb)
  have OG := Lib.hid (OG.out.below hb)
  clear hb OY
  go_wp2_with fail
  refine (markStringS_any _ n _ _ _ _ _ hn (by omega) (by omega) OX.out).mono ?_
  rintro e w8 ⟨rfl, _, hg⟩
  have s78 := hg.size
  have B8 := B7.trans (below_grown hg (fun k hk => by have := (OX.out.lt k hk).1; have := B2.size; omega) B7.size)
  have OW := Lib.hid (OW.out.below (below_grown hg (fun k hk => (OX.out.lt k hk).1) (by omega)))
  have OG := Lib.hid (OG.out.grown hg (fun o ho => hxlt.out o ho))
  clear hg OX
  go_wp2_with fail
  refine (eqInt64SS_same _ _ m _ _ f _ (by omega) HL2.out OG.out.ls (OW.out.more (by omega))).mono ?_
  rintro e w9 ⟨rfl, hb⟩
  have B9 := B8.trans (hb.mono B8.size)
  have s89 := hb.size
  have OW := Lib.hid (OW.out.below (hb.mono (by omega)))
  have OG := Lib.hid (OG.out.below hb)
  clear hb
  go_wp2_with fail
  refine (markInt64SS_any _ m _ w3.heap.size 1 f _ hm HL.out (by omega) (by omega) (by omega) OG.out).mono ?_
  rintro e w10 ⟨rfl, o, hb⟩
  have B10 := B9.trans (hb.mono (by have := B3.size; omega))
  have s910 := hb.size
  have OW := Lib.hid (OW.out.below (hb.mono s23))
  have OG := Lib.hid o
  clear o hb
  have hka := kAl_le (f := f) (k0 := 1) m HL.out
  have hkb := kAl_ge (f := f) (k0 := 1) m
  have hkn : m * 128 ≤ 128 * 128 := Nat.mul_le_mul_right 128 (by omega)
  obtain ⟨K, hK⟩ : ∃ K, kAl f 1 m = K := ⟨_, rfl⟩
  have HK := Lib.hid hK
  rw [hK] at hka hkb
  rw [hK]
  clear hK
  have hk0 : ¬ (K : Int) < 0 := by omega
  go_wp2_with fail
  refine (heldInt64SS_any _ m _ 1 f _ hm HL.out (by omega) (by omega) OG.out.ls).mono ?_
  rw [HK.out]
  rintro e w11 ⟨rfl, hb⟩
  have B11 := B10.trans (hb.mono B10.size)
  have s1011 := hb.size
  have OW := Lib.hid (OW.out.below (hb.mono (by omega)))
  have OG := Lib.hid (OG.out.below hb)
  clear hb
  go_wp2_with fail
  refine (toStringS_any A n c s _ hn ((HA.out.below B11).more B11.size)).mono ?_
  rintro e w12 ⟨rfl, o, hb⟩
  have B12 := B11.trans (hb.mono B11.size)
  have s1112 := hb.size
  have OY := Lib.hid o
  have OW := Lib.hid (OW.out.below (hb.mono (by omega)))
  have OG := Lib.hid (OG.out.below hb)
  clear o hb
  go_wp2_with fail
  refine (HI.out _ _ (own_slR OY.out)).mono ?_
  rintro e w13 ⟨A2, c2, rfl, o, hb⟩
  have B13 := B12.trans (hb.mono B12.size)
  have s1213 := hb.size
  have OH := Lib.hid o
  have OW := Lib.hid (OW.out.below (hb.mono (by omega)))
  have OG := Lib.hid (OG.out.below hb)
  clear o hb OY
  go_wp2_with fail
  refine (eqInt64SS_same _ _ m _ _ f _ (by omega) HL2.out OH.out.ls (OW.out.more (by omega))).mono ?_
  rintro e w14 ⟨rfl, hb⟩
  have B14 := B13.trans (hb.mono B13.size)
  have OG := Lib.hid (OG.out.below hb)
  clear hb OH OW
  go_wp2_with fail
  refine (heldInt64SS_any _ m _ 1 f _ hm HL.out (by omega) (by omega) OG.out.ls).mono ?_
  rw [HK.out]
  rintro e w15 ⟨rfl, hb⟩
  have B15 := B14.trans (hb.mono B14.size)
  clear hb
  go_wp2
  go_ret
  exact ⟨rfl, B15⟩
theorem law_over (A : Option Addr) (n c : Nat) (s : Nat → ByteArray) (w : World) (hn : n ≤ 9223372036854775807) (hs : Sl w w.heap.size A n (fun i => .string (s i))) (hm : ∀ i, i < n → (s i).size ≤ 9223372036854775807) (h : 1048576 < n + tot s n) :
    Calls Tryd.prog 3 #[.slice A n c] w fun e w' => e = .returned (.bool true) ∧ Below w.heap.size w w' := by
  go_enter Tryd.func3, Tryd.ntmps3
  go_wp2_with fail
  refine (szStringS_over A n c 1048576 s _ (by omega) hn hs hm (by omega) (by omega)).mono ?_
  rintro e w1 ⟨rfl, rfl⟩
  go_wp2
  go_ret
  exact ⟨rfl, Below.refl _ _⟩
theorem walk (H : Type) (enc : TypeId × Value → H) (W : World) (base : Nat) (args : Array Value) (ds : List (DataW H)) (p : List MemPlace)
    (hval : ∀ (j : Nat) t v, Tryd.f3.params[j]? = some t → args[j]? = some v → Value.okWide Tryd.prog W .any base t v)
    (hA : DataW.TrodAll enc Tryd.prog W 0 (fun _ => true) true Tryd.f3.params.toList args.toList ds p) :
    Calls Tryd.prog 3 args W fun e W' => e = .returned (.bool true) ∧ Below W.heap.size W W' := by
  rw [Tryd.params3] at hA hval
  obtain ⟨v0, vs0, d0, ds0, p0, q0, hargs, rfl, rfl, h0, r0⟩ := trodAll_cons hA
  obtain ⟨rfl, rfl, rfl⟩ := trodAll_nil r0
  obtain rfl : args = #[v0] := by cases args; simp_all
  obtain ⟨A, n, c, s, rfl, g1, g2, hs, hm⟩ := open_sl_str Tryd.underlying22 Tryd.underlying9 (by kernel_rfl) (hval 0 22 v0 rfl rfl) h0
  by_cases hov : n + tot s n ≤ 1048576
  · have hn : n ≤ 1048576 := by omega
    by_cases ho : opens n s
    · have hlt : ∀ x, x ∈ lostOf n s → x < n := fun x hx => lostOf_lt ho hx
      have hck := chainsC_ok (lk := lkN (s 0).size (joinU (s 0).size s)) hlt
      have hn1 := (walk_fit ho.1).1
      exact law A n c (lostsL n s).length 0 s (fun i => (lostsL n s).getD i []) W (Nat.le_trans hck.1 hn1) (fun i hi => Nat.le_trans (hck.2 _ (by rw [List.getD_eq_getElem?_getD, List.getElem?_eq_getElem hi]; exact List.getElem_mem _)) hn1) hs hov
        (fun w A hs => specLostChains_ok hs hm (Nat.le_refl _) (by omega) ho)
        (fun w A hs => implLostChains_ok hs hm (Nat.le_refl _) (by omega) ho)
    · exact law A n c 0 (openCode n s) s (fun _ => []) W (by omega) (fun i hi => absurd hi (by omega)) hs hov
        (fun w A hs => (specLostChains_bad hs hm (Nat.le_refl _) (by omega) ho).mono fun r w' h => ⟨none, 0, h.1, GL.nil _ _ _, h.2⟩)
        (fun w A hs => (implLostChains_bad hs hm (Nat.le_refl _) (by omega) ho).mono fun r w' h => ⟨none, 0, h.1, GL.nil _ _ _, h.2⟩)
  · exact law_over A n c s W (by omega) hs hm (by omega)
theorem own : ownKnob Tryd.prog.godebug = none := by kernel_rfl
theorem laidOut : laidOutB Tryd.prog = true := by kernel_rfl
theorem lifted (os : Os) (started : os.Started) (H : Type) (enc : TypeId × Value → H) :
    ReturnsInHanded {} Tryd.checked os 3 .any (fun w args => (Rows.fnExactLostChainsSpec.pre enc Tryd.prog Tryd.f3 Rows.fnExactLostChainsRow.domain false w args ∧ laidMetH Tryd.prog Rows.fnExactLostChainsRow.laid w) ∧ sizedMet enc Tryd.prog Tryd.f3 (OpenSpec.ofChange Rows.fnExactLostChainsSpec) false w args)
      (Rows.fnExactLostChainsSpec.post enc Tryd.prog Tryd.f3 false true false false) := by
  refine returnsInHanded_of_change_and (C := Tryd.checked) (X := fun w _ => laidMetH Tryd.prog Rows.fnExactLostChainsRow.laid w) (fun _ _ _ hh h => h.of_heap hh) own started (by kernel_rfl) Tryd.func3
    (ChangeSpec.witness_shaped (enc := enc) (C := Tryd.checked) (os := os) (X := fun w _ => laidMetH Tryd.prog Rows.fnExactLostChainsRow.laid w) false (World.laidAll Tryd.prog os Rows.fnExactLostChainsRow.laid) #[.slice none 0 0] 8 (World.laidAll_os _ _ _)
      (World.shaped_of_ZipB (by kernel_rfl) (by kernel_rfl)) (by kernel_rfl) (by kernel_rfl) (by kernel_rfl)
      (by rw [MakeChecks.laidMetH_plain _ _ _ (by kernel_rfl)]; exact laidMet_laidAll _ (by kernel_rfl) (by kernel_rfl))) ?_
  intro W base args ds gs before hval hW _ _ _ _
  have hW' := hW
  obtain ⟨p, q, hA, hV, rfl, hfz, hnd⟩ := hW
  refine (walk H enc W base args ds p hval hA).mono fun e W' ⟨he, hb⟩ => ?_
  subst he
  exact ⟨_, rfl, law_post laidOut (by kernel_rfl) rfl rfl Tryd.underlying4 (fun xs hx => by
      match xs, hx with
      | [x0], _ => exact ⟨rfl, rfl, rfl⟩) hW' hb⟩
theorem over : Rows.fnExactLostChainsRow.holds Tryd.pinned (OpenSpec.ofChange Rows.fnExactLostChainsSpec) :=
  OpenClaim.holds_of_wide 3 Tryd.f3 rfl rfl rfl rfl rfl rfl rfl ⟨rfl, rfl, rfl, rfl, rfl⟩ rfl rfl rfl rfl rfl (by kernel_rfl) Tryd.func3 (by kernel_rfl)
    (of_decide_eq_true (by kernel_rfl)) (by unfold Func.isWrapper; first | (rw [if_pos (by decide +kernel)]; kernel_rfl) | (rw [if_neg (by decide +kernel)]; exact ⟨rfl, rfl⟩))
    (fun os started H enc _ => lifted os started H enc)
/-- the given statement: the tied card -/
theorem proved : Rows.FnExactLostChainsCardSaid :=
  Claim7.holds_tied_plain_at .later [] [.data, .pinned] true (true, "a2736a6e424be5b47215c3bb2b9edc59f9b88a57c4dba901066bd1f255994003") false over (fun _ h => by cases h) (by kernel_rfl) (fun _ h => by cases h) fnExactLostChains_row_tie rfl ⟨rfl, rfl⟩ (by kernel_rfl) rfl
    (fun f fn hf hfn => by
      obtain rfl : f = 3 := Option.some.inj ((show Tryd.prog.funcNamed "loop.example/g00899/laws.FnExactLostChains" = some 3 by kernel_rfl).symm.trans hf) |>.symm
      obtain rfl : fn = Tryd.f3 := (Option.some.inj (Tryd.func3.symm.trans hfn)).symm
      exact ⟨by kernel_rfl, fun j t ht => by
        rw [Tryd.params3] at ht
        have hm : t ∈ [22] := by simpa using Array.mem_of_getElem? ht
        have hall : ([22].all fun u => !Tryd.prog.wantsStandIn u) = true := by kernel_rfl
        exact (show Tryd.prog.wantsStandIn t = false by simpa using List.all_eq_true.1 hall t hm)⟩)
    (by kernel_rfl)
end Go.Proofs.YtapkckpjeoedaaaDoor.fnExactLostChains
