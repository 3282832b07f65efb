/-
  The program's GuessSystem returns what the reference's returns, for all arguments. Conditions: none.
-/
import Derived.Test.YtjbpibapbonkpaaGreatDoorRows
import Derived.Test.YtjbpibapbonkpaaGreatDoorBase
import Derived.Test.YtjbpibapbonkpaaGreatDoorGsZ
import Derived.Test.YtjbpibapbonkpaaGreatDoorTie
import Derived.Test.YtjbpibapbonkpaaGreatDoorCards
import Derived.LaidMore
import Derived.Lay
import Derived.SevenTiedAt
import Derived.Stop.Joined
namespace Go.Proofs.YtjbpibapbonkpaaGreatDoor.fnExactGuessSystem
open Go Go.ChangeShapes Go.WideShapes Go.ChangeAt Go.RowKit lib
set_option linter.unusedVariables false
set_option maxRecDepth 100000
theorem own_apart2 {w w1 : World} {B B' e e' k k' n n' : Nat} {v v' : Value} {xs xs' : List Value} (h : w.ownsRow B e k v n xs) (h' : w1.ownsRow B' e' k' v' n' xs') (hB : w.heap.size ≤ B') : v'.ownBlock = none ∨ v'.ownBlock ≠ v.ownBlock := by
  rcases own_apart h h' hB with h1 | h1
  · cases hv : v'.ownBlock with
    | none => exact .inl rfl
    | some g => exact .inr (by rw [h1]; simp)
  · exact .inr (fun he => h1 he.symm)
theorem tot_at {s : Nat → ByteArray} : ∀ (n i : Nat), i < n → (s i).size ≤ tot s n
  | 0, i, h => absurd h (by omega)
  | n + 1, i, h => by
    have hs : tot s (n + 1) = tot s n + (s n).size := rfl
    rcases Nat.lt_or_ge i n with h1 | h1
    · have := tot_at (s := s) n i h1
      omega
    · obtain rfl : i = n := by omega
      omega
set_option maxHeartbeats 4000000 in
theorem law (Ad : Option Addr) (nd cd : Nat) (sd : Nat → ByteArray) (v0 : Int) (v1 : Int) (w : World) (had : Sl w w.heap.size Ad nd (fun i => .string (sd i))) (hok : (nd + tot sd nd) ≤ 1048576)
    (hs : ∀ (w : World) (Ad : Option Addr), Sl w w.heap.size Ad nd (fun i => .string (sd i)) → Calls Tryz.prog 5 #[.slice Ad nd nd] w fun e w' => e = .returned (.tuple #[.int .i64 v0, .int .i64 v1]) ∧ Below w.heap.size w w')
    (hi : ∀ (w : World) (Ad : Option Addr), Sl w w.heap.size Ad nd (fun i => .string (sd i)) → Calls Tryz.prog 7 #[.slice Ad nd nd] w fun e w' => e = .returned (.tuple #[.int .i64 v0, .int .i64 v1]) ∧ Below w.heap.size w w') :
    Calls Tryz.prog 3 #[.slice Ad nd cd] w fun e w' => e = .returned (.bool true) ∧ Below w.heap.size w w' := by
  have HS := Lib.hid hs
  have HI := Lib.hid hi
  clear hs hi
  have HAd := Lib.hid had
  clear had
  have hnd : nd ≤ 1048576 := by omega
  have hbb := Below.refl w.heap.size w
  have BB := Lib.hid hbb
  clear hbb
  go_enter Tryz.func3, Tryz.ntmps3
  go_wp2_with fail
  refine (szStringS_ok Ad nd cd _ sd _ (by omega) ((HAd.out.below BB.out).more BB.out.size) (by omega)).mono ?_
  rintro e w_ ⟨rfl, rfl⟩
  go_wp2_with fail
  refine (toStringS_any Ad nd cd sd _ hnd ((HAd.out.below BB.out).more BB.out.size)).mono ?_
  rintro e w_ ⟨rfl, o, hb⟩
  have OZd := Lib.hid o
  clear o
  have BB := Lib.hid (BB.out.trans (hb.mono BB.out.size))
  have hzz := BB.out.size
  clear hb
  go_wp2_with fail
  refine (HS.out _ _ (own_slR OZd.out)).mono ?_
  rintro e w_ ⟨rfl, hb⟩
  have OZd := Lib.hid (own_below OZd.out hb)
  have BB := Lib.hid (BB.out.trans (hb.mono BB.out.size))
  have hzz := BB.out.size
  clear hb
  clear OZd
  go_wp2_with fail
  refine (toStringS_any Ad nd cd sd _ hnd ((HAd.out.below BB.out).more BB.out.size)).mono ?_
  rintro e w_ ⟨rfl, o, hb⟩
  have OXd := Lib.hid o
  clear o
  have BB := Lib.hid (BB.out.trans (hb.mono BB.out.size))
  have hzz := BB.out.size
  clear hb
  go_wp2_with fail
  refine (HI.out _ _ (own_slR OXd.out)).mono ?_
  rintro e w_ ⟨rfl, hb⟩
  have OXd := Lib.hid (own_below OXd.out hb)
  have BB := Lib.hid (BB.out.trans (hb.mono BB.out.size))
  have hzz := BB.out.size
  clear hb
  go_wp2_with fail
  refine (toStringS_any Ad nd cd sd _ hnd ((HAd.out.below BB.out).more BB.out.size)).mono ?_
  rintro e w_ ⟨rfl, o, hb⟩
  have OY := Lib.hid o
  clear o
  have OXd := Lib.hid (own_below OXd.out hb)
  have BB := Lib.hid (BB.out.trans (hb.mono BB.out.size))
  have hzz := BB.out.size
  clear hb
  go_wp2_with fail
  refine (eqStringS_same _ _ nd _ _ sd sd _ hnd (own_slR OXd.out) (own_slR OY.out) (fun _ _ => rfl)).mono ?_
  rintro e w_ ⟨rfl, hb⟩
  have OXd := Lib.hid (own_below OXd.out hb)
  have OY := Lib.hid (own_below OY.out hb)
  have BB := Lib.hid (BB.out.trans (hb.mono BB.out.size))
  have hzz := BB.out.size
  clear hb
  clear OY
  go_wp2
  go_ret
  exact ⟨rfl, BB.out⟩
theorem law_over0 (Ad : Option Addr) (nd cd : Nat) (sd : Nat → ByteArray) (w : World) (had : Sl w w.heap.size Ad nd (fun i => .string (sd i))) (hkd : nd ≤ 9223372036854775807) (hmd : ∀ i, i < nd → (sd i).size ≤ 9223372036854775807) (h : 1048576 < (nd + tot sd nd)) :
    Calls Tryz.prog 3 #[.slice Ad nd cd] w fun e w' => e = .returned (.bool true) ∧ Below w.heap.size w w' := by
  have hbb := Below.refl w.heap.size w
  have BB := Lib.hid hbb
  clear hbb
  have HAd := Lib.hid had
  clear had
  go_enter Tryz.func3, Tryz.ntmps3
  go_wp2_with fail
  refine (szStringS_over Ad nd cd _ sd _ (by omega) hkd ((HAd.out.below BB.out).more BB.out.size) hmd (by omega) (by omega)).mono ?_
  rintro e w_ ⟨rfl, rfl⟩
  go_wp2
  go_ret
  exact ⟨rfl, BB.out⟩
theorem walk (H : Type) (enc : TypeId × Value → H) (W : World) (base : Nat) (args : Array Value) (ds : List (DataW H)) (p : List MemPlace)
    (hval : ∀ (j : Nat) t v, Tryz.f3.params[j]? = some t → args[j]? = some v → Value.okWide Tryz.prog W .any base t v)
    (hA : DataW.TrodAll enc Tryz.prog W 0 (fun _ => true) true Tryz.f3.params.toList args.toList ds p) :
    Calls Tryz.prog 3 args W fun e W' => e = .returned (.bool true) ∧ Below W.heap.size W W' := by
  rw [Tryz.params3] at hA hval
  obtain ⟨v0, vs0, d0, ds0, p0, q0, hargs, rfl, rfl, h0, r0⟩ := trodAll_cons hA
  obtain ⟨rfl, rfl, rfl⟩ := trodAll_nil r0
  obtain rfl : args = #[v0] := by cases args; simp_all
  obtain ⟨Ad, nd, cd, sd, rfl, g1d, g2d, hsd, hmd⟩ := open_sl_str Tryz.underlying22 Tryz.underlying9 (by kernel_rfl) (hval 0 22 v0 rfl rfl) h0
  by_cases hov0 : (nd + tot sd nd) ≤ 1048576
  · skip
    exact law Ad nd cd sd (gsT nd sd).1 (gsT nd sd).2 W hsd hov0
      (fun w A hs => specGuess_any (by omega) (Nat.le_refl _) hmd hs)
      (fun w A hs => implGuess_any (by omega) (Nat.le_refl _) hmd hs)
  · exact law_over0 Ad nd cd sd W hsd (by omega) hmd (by omega)
theorem own : ownKnob Tryz.prog.godebug = none := by kernel_rfl
theorem laidOut : laidOutB Tryz.prog = true := by kernel_rfl
theorem lifted (os : Os) (started : os.Started) (H : Type) (enc : TypeId × Value → H) :
    ReturnsInHanded {} Tryz.checked os 3 .any (fun w args => (Rows.fnExactGuessSystemSpec.pre enc Tryz.prog Tryz.f3 Rows.fnExactGuessSystemRow.domain false w args ∧ laidMetH Tryz.prog Rows.fnExactGuessSystemRow.laid w) ∧ sizedMet enc Tryz.prog Tryz.f3 (OpenSpec.ofChange Rows.fnExactGuessSystemSpec) false w args)
      (Rows.fnExactGuessSystemSpec.post enc Tryz.prog Tryz.f3 false true false false) := by
  refine returnsInHanded_of_change_and (C := Tryz.checked) (X := fun w _ => laidMetH Tryz.prog Rows.fnExactGuessSystemRow.laid w) (fun _ _ _ hh h => h.of_heap hh) own started (by kernel_rfl) Tryz.func3
    (ChangeSpec.witness_shaped (enc := enc) (C := Tryz.checked) (os := os) (X := fun w _ => laidMetH Tryz.prog Rows.fnExactGuessSystemRow.laid w) false (World.laidAll Tryz.prog os Rows.fnExactGuessSystemRow.laid) #[.slice none 0 0] 8 (World.laidAll_os _ _ _)
      (World.shaped_of_ZipB (by kernel_rfl) (by kernel_rfl)) (by kernel_rfl) (by kernel_rfl) (by kernel_rfl)
      (by rw [MakeChecks.laidMetH_plain _ _ _ (by kernel_rfl)]; exact laidMet_laidAll _ (by kernel_rfl) (by kernel_rfl))) ?_
  intro W base args ds gs before hval hW _ _ _ _
  have hW' := hW
  obtain ⟨p, q, hA, hV, rfl, hfz, hnd⟩ := hW
  refine (walk H enc W base args ds p hval hA).mono fun e W' ⟨he, hb⟩ => ?_
  subst he
  exact ⟨_, rfl, law_post laidOut (by kernel_rfl) rfl rfl Tryz.underlying4 (fun xs hx => by
      match xs, hx with
      | [x0], _ => exact ⟨rfl, rfl, rfl⟩) hW' hb⟩
theorem over : Rows.fnExactGuessSystemRow.holds Tryz.pinned (OpenSpec.ofChange Rows.fnExactGuessSystemSpec) :=
  OpenClaim.holds_of_wide 3 Tryz.f3 rfl rfl rfl rfl rfl rfl rfl ⟨rfl, rfl, rfl, rfl, rfl⟩ rfl rfl rfl rfl rfl (by kernel_rfl) Tryz.func3 (by kernel_rfl)
    (of_decide_eq_true (by kernel_rfl)) (by unfold Func.isWrapper; first | (rw [if_pos (by decide +kernel)]; kernel_rfl) | (rw [if_neg (by decide +kernel)]; exact ⟨rfl, rfl⟩))
    (fun os started H enc _ => lifted os started H enc)
/-- the given statement: the tied card -/
theorem proved : Rows.FnExactGuessSystemCardSaid :=
  Claim7.holds_tied_plain_at .later [] [.data, .pinned] true (true, "d9bfceaa0fc53a42c8ed691c4b65568c90b457f956ace988e73c60e3e1c3a720") false over (fun _ h => by cases h) (by kernel_rfl) (fun _ h => by cases h) fnExactGuessSystem_row_tie rfl ⟨rfl, rfl⟩ (by kernel_rfl) rfl
    (fun f fn hf hfn => by
      obtain rfl : f = 3 := Option.some.inj ((show Tryz.prog.funcNamed "loop.example/g00899/laws.FnExactGuessSystem" = some 3 by kernel_rfl).symm.trans hf) |>.symm
      obtain rfl : fn = Tryz.f3 := (Option.some.inj (Tryz.func3.symm.trans hfn)).symm
      exact ⟨by kernel_rfl, fun j t ht => by
        rw [Tryz.params3] at ht
        have hm : t ∈ [22] := by simpa using Array.mem_of_getElem? ht
        have hall : ([22].all fun u => !Tryz.prog.wantsStandIn u) = true := by kernel_rfl
        exact (show Tryz.prog.wantsStandIn t = false by simpa using List.all_eq_true.1 hall t hm)⟩)
    (by kernel_rfl)
end Go.Proofs.YtjbpibapbonkpaaGreatDoor.fnExactGuessSystem
