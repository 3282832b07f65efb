/-
  The program's CheckTree returns what the reference's returns, for all arguments. Conditions: none.
-/
import Derived.Test.YtiefcgmghkkbmaaDoorRows
import Derived.Test.YtiefcgmghkkbmaaDoorBase
import Derived.Test.YtiefcgmghkkbmaaDoorProbsT
import Derived.Test.YtiefcgmghkkbmaaDoorTreCk
import Derived.Test.YtiefcgmghkkbmaaDoorTie
import Derived.Test.YtiefcgmghkkbmaaDoorCards
import Derived.LaidMore
import Derived.Lay
import Derived.SevenTiedAt
import Derived.Stop.Joined
namespace Go.Proofs.YtiefcgmghkkbmaaDoor.fnExactCheckTree
open Go Go.ChangeShapes Go.WideShapes Go.ChangeAt Go.RowKit lib
set_option linter.unusedVariables false
set_option maxRecDepth 100000
theorem own_apart2 {w w1 : World} {B B' e e' k k' n n' : Nat} {v v' : Value} {xs xs' : List Value} (h : w.ownsRow B e k v n xs) (h' : w1.ownsRow B' e' k' v' n' xs') (hB : w.heap.size ≤ B') : v'.ownBlock = none ∨ v'.ownBlock ≠ v.ownBlock := by
  rcases own_apart h h' hB with h1 | h1
  · cases hv : v'.ownBlock with
    | none => exact .inl rfl
    | some g => exact .inr (by rw [h1]; simp)
  · exact .inr (fun he => h1 he.symm)
theorem own_slR2 {w : World} {B e n c : Nat} {A : Option Addr} {g : Nat → Value} (h : w.ownsRow B e 2 (.slice A n c) n ((List.range (n * 2)).map g)) : Sl w w.heap.size A (n * 2) g := by
  have h1 := own_sl h
  exact h1.congr fun i hi => by simp [hi]
theorem tot_at {s : Nat → ByteArray} : ∀ (n i : Nat), i < n → (s i).size ≤ tot s n
  | 0, i, h => absurd h (by omega)
  | n + 1, i, h => by
    have hs : tot s (n + 1) = tot s n + (s n).size := rfl
    rcases Nat.lt_or_ge i n with h1 | h1
    · have := tot_at (s := s) n i h1
      omega
    · obtain rfl : i = n := by omega
      omega
set_option maxHeartbeats 4000000 in
theorem law (A : Option Addr) (n c : Nat) (s : Nat → ByteArray) (m : Nat) (f : Nat → Int) (w : World) (hm : m ≤ 1048576) (ha : Sl w w.heap.size A n (fun i => .string (s i))) (hok : (n + tot s n) ≤ 1048576)
    (hs : ∀ (w : World) (A : Option Addr), Sl w w.heap.size A n (fun i => .string (s i)) → Calls Tryd.prog 10 #[.slice A n n] w fun e w' => ∃ A c, e = .returned (.slice A m c) ∧ w'.ownsRow w.heap.size 44 2 (.slice A m c) m ((List.range (m * 2)).map fun (i : Nat) => Value.int .i64 (f i)) ∧ Below w.heap.size w w')
    (hi : ∀ (w : World) (A : Option Addr), Sl w w.heap.size A n (fun i => .string (s i)) → Calls Tryd.prog 11 #[.slice A n n] w fun e w' => ∃ A c, e = .returned (.slice A m c) ∧ w'.ownsRow w.heap.size 44 2 (.slice A m c) m ((List.range (m * 2)).map fun (i : Nat) => Value.int .i64 (f i)) ∧ Below w.heap.size w w') :
    Calls Tryd.prog 4 #[.slice A n c] w fun e w' => e = .returned (.bool true) ∧ Below w.heap.size w w' := by
  have HS := Lib.hid hs
  have HI := Lib.hid hi
  clear hs hi
  have HA := Lib.hid ha
  clear ha
  have hn : n ≤ 1048576 := by omega
  have hbb := Below.refl w.heap.size w
  have BB := Lib.hid hbb
  clear hbb
  go_enter Tryd.func4, Tryd.ntmps4
  go_wp2_with fail
  refine (szStringS_ok A n c _ s _ (by omega) ((HA.out.below BB.out).more BB.out.size) (by omega)).mono ?_
  rintro e w_ ⟨rfl, rfl⟩
  go_wp2_with fail
  refine (toStringS_any A n c s _ hn ((HA.out.below BB.out).more BB.out.size)).mono ?_
  rintro e w_ ⟨rfl, o, hb⟩
  have OZ := Lib.hid o
  clear o
  have BB := Lib.hid (BB.out.trans (hb.mono BB.out.size))
  have hzz := BB.out.size
  clear hb
  go_wp2_with fail
  refine (HS.out _ _ (own_slR OZ.out)).mono ?_
  rintro e w_ ⟨A_w, c_w, rfl, o, hb⟩
  have OW := Lib.hid o
  clear o
  have OZ := Lib.hid (own_below OZ.out hb)
  have BB := Lib.hid (BB.out.trans (hb.mono BB.out.size))
  have hzz := BB.out.size
  clear hb
  clear OZ
  go_wp2_with fail
  refine (toStringS_any A n c s _ hn ((HA.out.below BB.out).more BB.out.size)).mono ?_
  rintro e w_ ⟨rfl, o, hb⟩
  have apOWOX := Lib.hid (own_apart OW.out o (Nat.le_refl _))
  have OX := Lib.hid o
  clear o
  have OW := Lib.hid (own_below OW.out hb)
  have BB := Lib.hid (BB.out.trans (hb.mono BB.out.size))
  have hzz := BB.out.size
  clear hb
  go_wp2_with fail
  refine (HI.out _ _ (own_slR OX.out)).mono ?_
  rintro e w_ ⟨A_g, c_g, rfl, o, hb⟩
  have apOWOG := Lib.hid (own_apart OW.out o (Nat.le_refl _))
  have apOGOX := Lib.hid (own_apart2 OX.out o (Nat.le_refl _))
  have OG := Lib.hid o
  clear o
  have OW := Lib.hid (own_below OW.out hb)
  have OX := Lib.hid (own_below OX.out hb)
  have BB := Lib.hid (BB.out.trans (hb.mono BB.out.size))
  have hzz := BB.out.size
  clear hb
  go_wp2_with fail
  refine (eqTreeProblemS_same _ _ m _ _ f f _ hm (own_slR2 OG.out) (own_slR2 OW.out) (fun _ _ => rfl)).mono ?_
  rintro e w_ ⟨rfl, hb⟩
  have OW := Lib.hid (own_below OW.out hb)
  have OX := Lib.hid (own_below OX.out hb)
  have OG := Lib.hid (own_below OG.out hb)
  have BB := Lib.hid (BB.out.trans (hb.mono BB.out.size))
  have hzz := BB.out.size
  clear hb
  go_wp2_with fail
  refine (toStringS_any A n c s _ hn ((HA.out.below BB.out).more BB.out.size)).mono ?_
  rintro e w_ ⟨rfl, o, hb⟩
  have OY := Lib.hid o
  clear o
  have OW := Lib.hid (own_below OW.out hb)
  have OX := Lib.hid (own_below OX.out hb)
  have OG := Lib.hid (own_below OG.out hb)
  have BB := Lib.hid (BB.out.trans (hb.mono BB.out.size))
  have hzz := BB.out.size
  clear hb
  go_wp2_with fail
  refine (eqStringS_same _ _ n _ _ s s _ hn (own_slR OX.out) (own_slR OY.out) (fun _ _ => rfl)).mono ?_
  rintro e w_ ⟨rfl, hb⟩
  have OW := Lib.hid (own_below OW.out hb)
  have OX := Lib.hid (own_below OX.out hb)
  have OG := Lib.hid (own_below OG.out hb)
  have OY := Lib.hid (own_below OY.out hb)
  have BB := Lib.hid (BB.out.trans (hb.mono BB.out.size))
  have hzz := BB.out.size
  clear hb
  clear OY
  go_wp2_with fail
  refine (markStringS_any _ n _ _ _ _ _ (by omega) (by omega) (by omega) OX.out).mono ?_
  rintro e w_ ⟨rfl, o, hg⟩
  have BB := Lib.hid (BB.out.trans (below_grown hg (fun k hk => by have := (OX.out.lt k hk).1; omega) BB.out.size))
  have OW := Lib.hid (OW.out.kept hg apOWOX.out)
  have OG := Lib.hid (OG.out.kept hg apOGOX.out)
  have OX := Lib.hid o
  clear o hg
  have hzz := BB.out.size
  clear OX
  go_wp2_with fail
  refine (eqTreeProblemS_same _ _ m _ _ f f _ hm (own_slR2 OG.out) (own_slR2 OW.out) (fun _ _ => rfl)).mono ?_
  rintro e w_ ⟨rfl, hb⟩
  have OW := Lib.hid (own_below OW.out hb)
  have OG := Lib.hid (own_below OG.out hb)
  have BB := Lib.hid (BB.out.trans (hb.mono BB.out.size))
  have hzz := BB.out.size
  clear hb
  go_wp2_with fail
  refine (markTreeProblemS_any _ m _ _ _ _ _ (by omega) (by omega) (by omega) OG.out).mono ?_
  rintro e w_ ⟨rfl, o, hg⟩
  have BB := Lib.hid (BB.out.trans (below_grown hg (fun k hk => by have := (OG.out.lt k hk).1; omega) BB.out.size))
  have OW := Lib.hid (OW.out.kept hg apOWOG.out)
  have OG := Lib.hid o
  clear o hg
  have hzz := BB.out.size
  go_wp2_with fail
  refine (heldTreeProblemS_any _ m _ _ _ hm (by omega) (by omega) (own_slR2 OG.out)).mono ?_
  rintro e w_ ⟨rfl, hb⟩
  have OW := Lib.hid (own_below OW.out hb)
  have OG := Lib.hid (own_below OG.out hb)
  have BB := Lib.hid (BB.out.trans (hb.mono BB.out.size))
  have hzz := BB.out.size
  clear hb
  go_wp2_with fail
  refine (toStringS_any A n c s _ hn ((HA.out.below BB.out).more BB.out.size)).mono ?_
  rintro e w_ ⟨rfl, o, hb⟩
  have OV := Lib.hid o
  clear o
  have OW := Lib.hid (own_below OW.out hb)
  have OG := Lib.hid (own_below OG.out hb)
  have BB := Lib.hid (BB.out.trans (hb.mono BB.out.size))
  have hzz := BB.out.size
  clear hb
  go_wp2_with fail
  refine (HI.out _ _ (own_slR OV.out)).mono ?_
  rintro e w_ ⟨A_h, c_h, rfl, o, hb⟩
  have OH := Lib.hid o
  clear o
  have OW := Lib.hid (own_below OW.out hb)
  have OG := Lib.hid (own_below OG.out hb)
  have OV := Lib.hid (own_below OV.out hb)
  have BB := Lib.hid (BB.out.trans (hb.mono BB.out.size))
  have hzz := BB.out.size
  clear hb
  clear OV
  go_wp2_with fail
  refine (eqTreeProblemS_same _ _ m _ _ f f _ hm (own_slR2 OH.out) (own_slR2 OW.out) (fun _ _ => rfl)).mono ?_
  rintro e w_ ⟨rfl, hb⟩
  have OW := Lib.hid (own_below OW.out hb)
  have OG := Lib.hid (own_below OG.out hb)
  have OH := Lib.hid (own_below OH.out hb)
  have BB := Lib.hid (BB.out.trans (hb.mono BB.out.size))
  have hzz := BB.out.size
  clear hb
  clear OH
  clear OW
  go_wp2_with fail
  refine (heldTreeProblemS_any _ m _ _ _ hm (by omega) (by omega) (own_slR2 OG.out)).mono ?_
  rintro e w_ ⟨rfl, hb⟩
  have OG := Lib.hid (own_below OG.out hb)
  have BB := Lib.hid (BB.out.trans (hb.mono BB.out.size))
  have hzz := BB.out.size
  clear hb
  go_wp2
  go_ret
  exact ⟨rfl, BB.out⟩
theorem law_over0 (A : Option Addr) (n c : Nat) (s : Nat → ByteArray) (w : World) (ha : Sl w w.heap.size A n (fun i => .string (s i))) (hk : n ≤ 9223372036854775807) (hm : ∀ i, i < n → (s i).size ≤ 9223372036854775807) (h : 1048576 < (n + tot s n)) :
    Calls Tryd.prog 4 #[.slice A n c] w fun e w' => e = .returned (.bool true) ∧ Below w.heap.size w w' := by
  have hbb := Below.refl w.heap.size w
  have BB := Lib.hid hbb
  clear hbb
  have HA := Lib.hid ha
  clear ha
  go_enter Tryd.func4, Tryd.ntmps4
  go_wp2_with fail
  refine (szStringS_over A n c _ s _ (by omega) hk ((HA.out.below BB.out).more BB.out.size) hm (by omega) (by omega)).mono ?_
  rintro e w_ ⟨rfl, rfl⟩
  go_wp2
  go_ret
  exact ⟨rfl, BB.out⟩
theorem walk (H : Type) (enc : TypeId × Value → H) (W : World) (base : Nat) (args : Array Value) (ds : List (DataW H)) (p : List MemPlace)
    (hval : ∀ (j : Nat) t v, Tryd.f4.params[j]? = some t → args[j]? = some v → Value.okWide Tryd.prog W .any base t v)
    (hA : DataW.TrodAll enc Tryd.prog W 0 (fun _ => true) true Tryd.f4.params.toList args.toList ds p) :
    Calls Tryd.prog 4 args W fun e W' => e = .returned (.bool true) ∧ Below W.heap.size W W' := by
  rw [Tryd.params4] at hA hval
  obtain ⟨v0, vs0, d0, ds0, p0, q0, hargs, rfl, rfl, h0, r0⟩ := trodAll_cons hA
  obtain ⟨rfl, rfl, rfl⟩ := trodAll_nil r0
  obtain rfl : args = #[v0] := by cases args; simp_all
  obtain ⟨A, n, c, s, rfl, g1, g2, hs, hm⟩ := open_sl_str Tryd.underlying22 Tryd.underlying9 (by kernel_rfl) (hval 0 22 v0 rfl rfl) h0
  by_cases hov0 : (n + tot s n) ≤ 1048576
  · skip
    exact law A n c s (ckL n s).length (ckF (ckL n s)) W (by have := ckL_le n s; omega) hs hov0
      (fun w A hs => (specCheck_any (by omega) hs).mono fun e w' h => (by obtain ⟨A2, c2, h1, h2, h3⟩ := h; exact ⟨A2, c2, h1, by rw [ckF_range]; exact h2, h3⟩))
      (fun w A hs => (implCheck_any (by omega) hs).mono fun e w' h => (by obtain ⟨A2, c2, h1, h2, h3⟩ := h; exact ⟨A2, c2, h1, by rw [ckF_range]; exact h2, h3⟩))
  · exact law_over0 A n c s W hs (by omega) hm (by omega)
theorem own : ownKnob Tryd.prog.godebug = none := by kernel_rfl
theorem laidOut : laidOutB Tryd.prog = true := by kernel_rfl
theorem lifted (os : Os) (started : os.Started) (H : Type) (enc : TypeId × Value → H) :
    ReturnsInHanded {} Tryd.checked os 4 .any (fun w args => (Rows.fnExactCheckTreeSpec.pre enc Tryd.prog Tryd.f4 Rows.fnExactCheckTreeRow.domain false w args ∧ laidMetH Tryd.prog Rows.fnExactCheckTreeRow.laid w) ∧ sizedMet enc Tryd.prog Tryd.f4 (OpenSpec.ofChange Rows.fnExactCheckTreeSpec) false w args)
      (Rows.fnExactCheckTreeSpec.post enc Tryd.prog Tryd.f4 false true false false) := by
  refine returnsInHanded_of_change_and (C := Tryd.checked) (X := fun w _ => laidMetH Tryd.prog Rows.fnExactCheckTreeRow.laid w) (fun _ _ _ hh h => h.of_heap hh) own started (by kernel_rfl) Tryd.func4
    (ChangeSpec.witness_shaped (enc := enc) (C := Tryd.checked) (os := os) (X := fun w _ => laidMetH Tryd.prog Rows.fnExactCheckTreeRow.laid w) false (World.laidAll Tryd.prog os Rows.fnExactCheckTreeRow.laid) #[.slice none 0 0] 8 (World.laidAll_os _ _ _)
      (World.shaped_of_ZipB (by kernel_rfl) (by kernel_rfl)) (by kernel_rfl) (by kernel_rfl) (by kernel_rfl)
      (by rw [MakeChecks.laidMetH_plain _ _ _ (by kernel_rfl)]; exact laidMet_laidAll _ (by kernel_rfl) (by kernel_rfl))) ?_
  intro W base args ds gs before hval hW _ _ _ _
  have hW' := hW
  obtain ⟨p, q, hA, hV, rfl, hfz, hnd⟩ := hW
  refine (walk H enc W base args ds p hval hA).mono fun e W' ⟨he, hb⟩ => ?_
  subst he
  exact ⟨_, rfl, law_post laidOut (by kernel_rfl) rfl rfl Tryd.underlying4 (fun xs hx => by
      match xs, hx with
      | [x0], _ => exact ⟨rfl, rfl, rfl⟩) hW' hb⟩
theorem over : Rows.fnExactCheckTreeRow.holds Tryd.pinned (OpenSpec.ofChange Rows.fnExactCheckTreeSpec) :=
  OpenClaim.holds_of_wide 4 Tryd.f4 rfl rfl rfl rfl rfl rfl rfl ⟨rfl, rfl, rfl, rfl, rfl⟩ rfl rfl rfl rfl rfl (by kernel_rfl) Tryd.func4 (by kernel_rfl)
    (of_decide_eq_true (by kernel_rfl)) (by unfold Func.isWrapper; first | (rw [if_pos (by decide +kernel)]; kernel_rfl) | (rw [if_neg (by decide +kernel)]; exact ⟨rfl, rfl⟩))
    (fun os started H enc _ => lifted os started H enc)
/-- the given statement: the tied card -/
theorem proved : Rows.FnExactCheckTreeCardSaid :=
  Claim7.holds_tied_plain_at .later [] [.data, .pinned] true (true, "985243f884f0b5f701f659e407ac076c4f7fdf4b44d66e68b30789228571f046") false over (fun _ h => by cases h) (by kernel_rfl) (fun _ h => by cases h) fnExactCheckTree_row_tie rfl ⟨rfl, rfl⟩ (by kernel_rfl) rfl
    (fun f fn hf hfn => by
      obtain rfl : f = 4 := Option.some.inj ((show Tryd.prog.funcNamed "loop.example/g00899/laws.FnExactCheckTree" = some 4 by kernel_rfl).symm.trans hf) |>.symm
      obtain rfl : fn = Tryd.f4 := (Option.some.inj (Tryd.func4.symm.trans hfn)).symm
      exact ⟨by kernel_rfl, fun j t ht => by
        rw [Tryd.params4] at ht
        have hm : t ∈ [22] := by simpa using Array.mem_of_getElem? ht
        have hall : ([22].all fun u => !Tryd.prog.wantsStandIn u) = true := by kernel_rfl
        exact (show Tryd.prog.wantsStandIn t = false by simpa using List.all_eq_true.1 hall t hm)⟩)
    (by kernel_rfl)
end Go.Proofs.YtiefcgmghkkbmaaDoor.fnExactCheckTree
