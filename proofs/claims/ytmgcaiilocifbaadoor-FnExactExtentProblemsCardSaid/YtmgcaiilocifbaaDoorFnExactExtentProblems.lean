/-
  The program's ExtentProblems returns what the reference's returns, for all arguments. Conditions: none.
-/
import Derived.Test.YtmgcaiilocifbaaDoorRows
import Derived.Test.YtmgcaiilocifbaaDoorXpbA
import Derived.Test.YtmgcaiilocifbaaDoorXpbL
import Derived.Test.YtmgcaiilocifbaaDoorTie
import Derived.Test.YtmgcaiilocifbaaDoorCards
import Derived.LaidMore
import Derived.Lay
import Derived.SevenTiedAt
import Derived.Stop.Joined
namespace Go.Proofs.YtmgcaiilocifbaaDoor.fnExactExtentProblems
open Go Go.ChangeShapes Go.WideShapes Go.ChangeAt Go.RowKit lib
set_option linter.unusedVariables false
set_option maxRecDepth 100000
theorem own_apart2 {w w1 : World} {B B' e e' k k' n n' : Nat} {v v' : Value} {xs xs' : List Value} (h : w.ownsRow B e k v n xs) (h' : w1.ownsRow B' e' k' v' n' xs') (hB : w.heap.size ≤ B') : v'.ownBlock = none ∨ v'.ownBlock ≠ v.ownBlock := by
  rcases own_apart h h' hB with h1 | h1
  · cases hv : v'.ownBlock with
    | none => exact .inl rfl
    | some g => exact .inr (by rw [h1]; simp)
  · exact .inr (fun he => h1 he.symm)
theorem own_slR3 {w : World} {B e n c : Nat} {A : Option Addr} {g : Nat → Value} (h : w.ownsRow B e 3 (.slice A n c) n ((List.range (n * 3)).map g)) : Sl w w.heap.size A (n * 3) g := by
  have h1 := own_sl h
  exact h1.congr fun i hi => by simp [hi]
theorem tot_at {s : Nat → ByteArray} : ∀ (n i : Nat), i < n → (s i).size ≤ tot s n
  | 0, i, h => absurd h (by omega)
  | n + 1, i, h => by
    have hs : tot s (n + 1) = tot s n + (s n).size := rfl
    rcases Nat.lt_or_ge i n with h1 | h1
    · have := tot_at (s := s) n i h1
      omega
    · obtain rfl : i = n := by omega
      omega
set_option maxHeartbeats 4000000 in
theorem law (Aa : Option Addr) (na ca : Nat) (sa : Nat → ByteArray) (m : Nat) (f : Nat → Int) (v1 : Int) (w : World) (hm : m ≤ 1048576) (haa : Sl w w.heap.size Aa na (fun i => .string (sa i))) (hok : (na + tot sa na) ≤ 1048576)
    (hs : ∀ (w : World) (Aa : Option Addr), Sl w w.heap.size Aa na (fun i => .string (sa i)) → Calls Tryd.prog 20 #[.slice Aa na na] w fun e w' => ∃ A c, e = .returned (.tuple #[.slice A m c, .int .i64 v1]) ∧ w'.ownsRow w.heap.size 68 3 (.slice A m c) m ((List.range (m * 3)).map fun (i : Nat) => Value.int .i64 (f i)) ∧ Below w.heap.size w w')
    (hi : ∀ (w : World) (Aa : Option Addr), Sl w w.heap.size Aa na (fun i => .string (sa i)) → Calls Tryd.prog 21 #[.slice Aa na na] w fun e w' => ∃ A c, e = .returned (.tuple #[.slice A m c, .int .i64 v1]) ∧ w'.ownsRow w.heap.size 68 3 (.slice A m c) m ((List.range (m * 3)).map fun (i : Nat) => Value.int .i64 (f i)) ∧ Below w.heap.size w w') :
    Calls Tryd.prog 5 #[.slice Aa na ca] w fun e w' => e = .returned (.bool true) ∧ Below w.heap.size w w' := by
  have HS := Lib.hid hs
  have HI := Lib.hid hi
  clear hs hi
  have HAa := Lib.hid haa
  clear haa
  have hna : na ≤ 1048576 := by omega
  have hbb := Below.refl w.heap.size w
  have BB := Lib.hid hbb
  clear hbb
  go_enter Tryd.func5, Tryd.ntmps5
  go_wp2_with fail
  refine (szStringS_ok Aa na ca _ sa _ (by omega) ((HAa.out.below BB.out).more BB.out.size) (by omega)).mono ?_
  rintro e w_ ⟨rfl, rfl⟩
  go_wp2_with fail
  refine (toStringS_any Aa na ca sa _ hna ((HAa.out.below BB.out).more BB.out.size)).mono ?_
  rintro e w_ ⟨rfl, o, hb⟩
  have OZa := Lib.hid o
  clear o
  have BB := Lib.hid (BB.out.trans (hb.mono BB.out.size))
  have hzz := BB.out.size
  clear hb
  go_wp2_with fail
  refine (HS.out _ _ (own_slR OZa.out)).mono ?_
  rintro e w_ ⟨A_w, c_w, rfl, o, hb⟩
  have OW := Lib.hid o
  clear o
  have OZa := Lib.hid (own_below OZa.out hb)
  have BB := Lib.hid (BB.out.trans (hb.mono BB.out.size))
  have hzz := BB.out.size
  clear hb
  clear OZa
  go_wp2_with fail
  refine (toStringS_any Aa na ca sa _ hna ((HAa.out.below BB.out).more BB.out.size)).mono ?_
  rintro e w_ ⟨rfl, o, hb⟩
  have apOWOXa := Lib.hid (own_apart OW.out o (Nat.le_refl _))
  have OXa := Lib.hid o
  clear o
  have OW := Lib.hid (own_below OW.out hb)
  have BB := Lib.hid (BB.out.trans (hb.mono BB.out.size))
  have hzz := BB.out.size
  clear hb
  go_wp2_with fail
  refine (HI.out _ _ (own_slR OXa.out)).mono ?_
  rintro e w_ ⟨A_g, c_g, rfl, o, hb⟩
  have apOWOG := Lib.hid (own_apart OW.out o (Nat.le_refl _))
  have apOGOXa := Lib.hid (own_apart2 OXa.out o (Nat.le_refl _))
  have OG := Lib.hid o
  clear o
  have OW := Lib.hid (own_below OW.out hb)
  have OXa := Lib.hid (own_below OXa.out hb)
  have BB := Lib.hid (BB.out.trans (hb.mono BB.out.size))
  have hzz := BB.out.size
  clear hb
  go_wp2_with fail
  refine (eqExtentProblemS_same _ _ m _ _ f f _ hm (own_slR3 OG.out) (own_slR3 OW.out) (fun _ _ => rfl)).mono ?_
  rintro e w_ ⟨rfl, hb⟩
  have OW := Lib.hid (own_below OW.out hb)
  have OXa := Lib.hid (own_below OXa.out hb)
  have OG := Lib.hid (own_below OG.out hb)
  have BB := Lib.hid (BB.out.trans (hb.mono BB.out.size))
  have hzz := BB.out.size
  clear hb
  go_wp2_with fail
  refine (toStringS_any Aa na ca sa _ hna ((HAa.out.below BB.out).more BB.out.size)).mono ?_
  rintro e w_ ⟨rfl, o, hb⟩
  have OY := Lib.hid o
  clear o
  have OW := Lib.hid (own_below OW.out hb)
  have OXa := Lib.hid (own_below OXa.out hb)
  have OG := Lib.hid (own_below OG.out hb)
  have BB := Lib.hid (BB.out.trans (hb.mono BB.out.size))
  have hzz := BB.out.size
  clear hb
  go_wp2_with fail
  refine (eqStringS_same _ _ na _ _ sa sa _ hna (own_slR OXa.out) (own_slR OY.out) (fun _ _ => rfl)).mono ?_
  rintro e w_ ⟨rfl, hb⟩
  have OW := Lib.hid (own_below OW.out hb)
  have OXa := Lib.hid (own_below OXa.out hb)
  have OG := Lib.hid (own_below OG.out hb)
  have OY := Lib.hid (own_below OY.out hb)
  have BB := Lib.hid (BB.out.trans (hb.mono BB.out.size))
  have hzz := BB.out.size
  clear hb
  clear OY
  go_wp2_with fail
  refine (markStringS_any _ na _ _ _ _ _ (by omega) (by omega) (by omega) OXa.out).mono ?_
  rintro e w_ ⟨rfl, o, hg⟩
  have BB := Lib.hid (BB.out.trans (below_grown hg (fun k hk => by have := (OXa.out.lt k hk).1; omega) BB.out.size))
  have OW := Lib.hid (OW.out.kept hg apOWOXa.out)
  have OG := Lib.hid (OG.out.kept hg apOGOXa.out)
  have OXa := Lib.hid o
  clear o hg
  have hzz := BB.out.size
  clear OXa
  go_wp2_with fail
  refine (eqExtentProblemS_same _ _ m _ _ f f _ hm (own_slR3 OG.out) (own_slR3 OW.out) (fun _ _ => rfl)).mono ?_
  rintro e w_ ⟨rfl, hb⟩
  have OW := Lib.hid (own_below OW.out hb)
  have OG := Lib.hid (own_below OG.out hb)
  have BB := Lib.hid (BB.out.trans (hb.mono BB.out.size))
  have hzz := BB.out.size
  clear hb
  go_wp2_with fail
  refine (markExtentProblemS_any _ m _ _ _ _ _ (by omega) (by omega) (by omega) OG.out).mono ?_
  rintro e w_ ⟨rfl, o, hg⟩
  have BB := Lib.hid (BB.out.trans (below_grown hg (fun k hk => by have := (OG.out.lt k hk).1; omega) BB.out.size))
  have OW := Lib.hid (OW.out.kept hg apOWOG.out)
  have OG := Lib.hid o
  clear o hg
  have hzz := BB.out.size
  go_wp2_with fail
  refine (heldExtentProblemS_any _ m _ _ _ hm (by omega) (by omega) (own_slR3 OG.out)).mono ?_
  rintro e w_ ⟨rfl, hb⟩
  have OW := Lib.hid (own_below OW.out hb)
  have OG := Lib.hid (own_below OG.out hb)
  have BB := Lib.hid (BB.out.trans (hb.mono BB.out.size))
  have hzz := BB.out.size
  clear hb
  go_wp2_with fail
  refine (toStringS_any Aa na ca sa _ hna ((HAa.out.below BB.out).more BB.out.size)).mono ?_
  rintro e w_ ⟨rfl, o, hb⟩
  have OVa := Lib.hid o
  clear o
  have OW := Lib.hid (own_below OW.out hb)
  have OG := Lib.hid (own_below OG.out hb)
  have BB := Lib.hid (BB.out.trans (hb.mono BB.out.size))
  have hzz := BB.out.size
  clear hb
  go_wp2_with fail
  refine (HI.out _ _ (own_slR OVa.out)).mono ?_
  rintro e w_ ⟨A_h, c_h, rfl, o, hb⟩
  have OH := Lib.hid o
  clear o
  have OW := Lib.hid (own_below OW.out hb)
  have OG := Lib.hid (own_below OG.out hb)
  have OVa := Lib.hid (own_below OVa.out hb)
  have BB := Lib.hid (BB.out.trans (hb.mono BB.out.size))
  have hzz := BB.out.size
  clear hb
  clear OVa
  go_wp2_with fail
  refine (eqExtentProblemS_same _ _ m _ _ f f _ hm (own_slR3 OH.out) (own_slR3 OW.out) (fun _ _ => rfl)).mono ?_
  rintro e w_ ⟨rfl, hb⟩
  have OW := Lib.hid (own_below OW.out hb)
  have OG := Lib.hid (own_below OG.out hb)
  have OH := Lib.hid (own_below OH.out hb)
  have BB := Lib.hid (BB.out.trans (hb.mono BB.out.size))
  have hzz := BB.out.size
  clear hb
  clear OH
  clear OW
  go_wp2_with fail
  refine (heldExtentProblemS_any _ m _ _ _ hm (by omega) (by omega) (own_slR3 OG.out)).mono ?_
  rintro e w_ ⟨rfl, hb⟩
  have OG := Lib.hid (own_below OG.out hb)
  have BB := Lib.hid (BB.out.trans (hb.mono BB.out.size))
  have hzz := BB.out.size
  clear hb
  go_wp2
  go_ret
  exact ⟨rfl, BB.out⟩
theorem law_over0 (Aa : Option Addr) (na ca : Nat) (sa : Nat → ByteArray) (w : World) (haa : Sl w w.heap.size Aa na (fun i => .string (sa i))) (hka : na ≤ 9223372036854775807) (hma : ∀ i, i < na → (sa i).size ≤ 9223372036854775807) (h : 1048576 < (na + tot sa na)) :
    Calls Tryd.prog 5 #[.slice Aa na ca] w fun e w' => e = .returned (.bool true) ∧ Below w.heap.size w w' := by
  have hbb := Below.refl w.heap.size w
  have BB := Lib.hid hbb
  clear hbb
  have HAa := Lib.hid haa
  clear haa
  go_enter Tryd.func5, Tryd.ntmps5
  go_wp2_with fail
  refine (szStringS_over Aa na ca _ sa _ (by omega) hka ((HAa.out.below BB.out).more BB.out.size) hma (by omega) (by omega)).mono ?_
  rintro e w_ ⟨rfl, rfl⟩
  go_wp2
  go_ret
  exact ⟨rfl, BB.out⟩
theorem walk (H : Type) (enc : TypeId × Value → H) (W : World) (base : Nat) (args : Array Value) (ds : List (DataW H)) (p : List MemPlace)
    (hval : ∀ (j : Nat) t v, Tryd.f5.params[j]? = some t → args[j]? = some v → Value.okWide Tryd.prog W .any base t v)
    (hA : DataW.TrodAll enc Tryd.prog W 0 (fun _ => true) true Tryd.f5.params.toList args.toList ds p) :
    Calls Tryd.prog 5 args W fun e W' => e = .returned (.bool true) ∧ Below W.heap.size W W' := by
  rw [Tryd.params5] at hA hval
  obtain ⟨v0, vs0, d0, ds0, p0, q0, hargs, rfl, rfl, h0, r0⟩ := trodAll_cons hA
  obtain ⟨rfl, rfl, rfl⟩ := trodAll_nil r0
  obtain rfl : args = #[v0] := by cases args; simp_all
  obtain ⟨Aa, na, ca, sa, rfl, g1a, g2a, hsa, hma⟩ := open_sl_str Tryd.underlying22 Tryd.underlying9 (by kernel_rfl) (hval 0 22 v0 rfl rfl) h0
  by_cases hov0 : (na + tot sa na) ≤ 1048576
  · skip
    have hna : na ≤ 1048576 := by omega
    by_cases ho : opensX na sa
    · have hl : (probsX na sa).length ≤ 1048576 := by
        obtain ⟨f1, f2, f3, f4, f5, f6, f7, f8, f9⟩ := shapeX ho
        exact Nat.le_trans (allP_len (entsX na)) (by omega)
      exact law Aa na ca sa (probsX na sa).length (pIntX (probsX na sa)) 0 W hl hsa hov0
        (fun w A hs => (specPbTop_ok hs hma (Nat.le_refl _) (by omega) ho).mono fun r w' h => (by obtain ⟨A2, c2, h1, h2, h3⟩ := h; unfold PRX at h2; rw [cellsP_range] at h2; exact ⟨A2, c2, h1, h2, h3⟩))
        (fun w A hs => (implPbTop_ok hs hma (Nat.le_refl _) (by omega) ho).mono fun r w' h => (by obtain ⟨A2, c2, h1, h2, h3⟩ := h; unfold PRX at h2; rw [cellsP_range] at h2; exact ⟨A2, c2, h1, h2, h3⟩))
    · exact law Aa na ca sa 0 (fun _ => 0) 7 W (by omega) hsa hov0
        (fun w A hs => (specPbTop_bad hs hma (Nat.le_refl _) (by omega) ho).mono fun r w' h => ⟨none, 0, h.1, World.ownsRow_nil _ _ _ _, h.2⟩)
        (fun w A hs => (implPbTop_bad hs hma (Nat.le_refl _) (by omega) ho).mono fun r w' h => ⟨none, 0, h.1, World.ownsRow_nil _ _ _ _, h.2⟩)
  · exact law_over0 Aa na ca sa W hsa (by omega) hma (by omega)
theorem own : ownKnob Tryd.prog.godebug = none := by kernel_rfl
theorem laidOut : laidOutB Tryd.prog = true := by kernel_rfl
theorem lifted (os : Os) (started : os.Started) (H : Type) (enc : TypeId × Value → H) :
    ReturnsInHanded {} Tryd.checked os 5 .any (fun w args => (Rows.fnExactExtentProblemsSpec.pre enc Tryd.prog Tryd.f5 Rows.fnExactExtentProblemsRow.domain false w args ∧ laidMetH Tryd.prog Rows.fnExactExtentProblemsRow.laid w) ∧ sizedMet enc Tryd.prog Tryd.f5 (OpenSpec.ofChange Rows.fnExactExtentProblemsSpec) false w args)
      (Rows.fnExactExtentProblemsSpec.post enc Tryd.prog Tryd.f5 false true false false) := by
  refine returnsInHanded_of_change_and (C := Tryd.checked) (X := fun w _ => laidMetH Tryd.prog Rows.fnExactExtentProblemsRow.laid w) (fun _ _ _ hh h => h.of_heap hh) own started (by kernel_rfl) Tryd.func5
    (ChangeSpec.witness_shaped (enc := enc) (C := Tryd.checked) (os := os) (X := fun w _ => laidMetH Tryd.prog Rows.fnExactExtentProblemsRow.laid w) false (World.laidAll Tryd.prog os Rows.fnExactExtentProblemsRow.laid) #[.slice none 0 0] 8 (World.laidAll_os _ _ _)
      (World.shaped_of_ZipB (by kernel_rfl) (by kernel_rfl)) (by kernel_rfl) (by kernel_rfl) (by kernel_rfl)
      (by rw [MakeChecks.laidMetH_plain _ _ _ (by kernel_rfl)]; exact laidMet_laidAll _ (by kernel_rfl) (by kernel_rfl))) ?_
  intro W base args ds gs before hval hW _ _ _ _
  have hW' := hW
  obtain ⟨p, q, hA, hV, rfl, hfz, hnd⟩ := hW
  refine (walk H enc W base args ds p hval hA).mono fun e W' ⟨he, hb⟩ => ?_
  subst he
  exact ⟨_, rfl, law_post laidOut (by kernel_rfl) rfl rfl Tryd.underlying4 (fun xs hx => by
      match xs, hx with
      | [x0], _ => exact ⟨rfl, rfl, rfl⟩) hW' hb⟩
theorem over : Rows.fnExactExtentProblemsRow.holds Tryd.pinned (OpenSpec.ofChange Rows.fnExactExtentProblemsSpec) :=
  OpenClaim.holds_of_wide 5 Tryd.f5 rfl rfl rfl rfl rfl rfl rfl ⟨rfl, rfl, rfl, rfl, rfl⟩ rfl rfl rfl rfl rfl (by kernel_rfl) Tryd.func5 (by kernel_rfl)
    (of_decide_eq_true (by kernel_rfl)) (by unfold Func.isWrapper; first | (rw [if_pos (by decide +kernel)]; kernel_rfl) | (rw [if_neg (by decide +kernel)]; exact ⟨rfl, rfl⟩))
    (fun os started H enc _ => lifted os started H enc)
/-- the given statement: the tied card -/
theorem proved : Rows.FnExactExtentProblemsCardSaid :=
  Claim7.holds_tied_plain_at .later [] [.data, .pinned] true (true, "99c1f9f512173d756fabec438d51a786df3f6281e69e6c5100a8f70f8fc1e9e4") false over (fun _ h => by cases h) (by kernel_rfl) (fun _ h => by cases h) fnExactExtentProblems_row_tie rfl ⟨rfl, rfl⟩ (by kernel_rfl) rfl
    (fun f fn hf hfn => by
      obtain rfl : f = 5 := Option.some.inj ((show Tryd.prog.funcNamed "loop.example/g00899/laws.FnExactExtentProblems" = some 5 by kernel_rfl).symm.trans hf) |>.symm
      obtain rfl : fn = Tryd.f5 := (Option.some.inj (Tryd.func5.symm.trans hfn)).symm
      exact ⟨by kernel_rfl, fun j t ht => by
        rw [Tryd.params5] at ht
        have hm : t ∈ [22] := by simpa using Array.mem_of_getElem? ht
        have hall : ([22].all fun u => !Tryd.prog.wantsStandIn u) = true := by kernel_rfl
        exact (show Tryd.prog.wantsStandIn t = false by simpa using List.all_eq_true.1 hall t hm)⟩)
    (by kernel_rfl)
end Go.Proofs.YtmgcaiilocifbaaDoor.fnExactExtentProblems
