/-
  The program's DeleteTree returns what the reference's returns, for all arguments. Conditions: none.
-/
import Derived.Test.YtiefcgmghkkbmaaGreatDoorRows
import Derived.Test.YtiefcgmghkkbmaaGreatDoorBase
import Derived.Test.YtiefcgmghkkbmaaGreatDoorTreD2
import Derived.Test.YtiefcgmghkkbmaaGreatDoorTie
import Derived.Test.YtiefcgmghkkbmaaGreatDoorCards
import Derived.LaidMore
import Derived.Lay
import Derived.SevenTiedAt
import Derived.Stop.Joined
import Derived.ChangeMaps5
namespace Go.Proofs.YtiefcgmghkkbmaaGreatDoor.fnExactDeleteTree
open Go Go.ChangeMaps Go.ChangeShapes Go.WideShapes Go.ChangeAt Go.RowKit lib
set_option linter.unusedVariables false
set_option maxRecDepth 100000
theorem own_apart2 {w w1 : World} {B B' e e' k k' n n' : Nat} {v v' : Value} {xs xs' : List Value} (h : w.ownsRow B e k v n xs) (h' : w1.ownsRow B' e' k' v' n' xs') (hB : w.heap.size ≤ B') : v'.ownBlock = none ∨ v'.ownBlock ≠ v.ownBlock := by
  rcases own_apart h h' hB with h1 | h1
  · cases hv : v'.ownBlock with
    | none => exact .inl rfl
    | some g => exact .inr (by rw [h1]; simp)
  · exact .inr (fun he => h1 he.symm)
theorem tot_at {s : Nat → ByteArray} : ∀ (n i : Nat), i < n → (s i).size ≤ tot s n
  | 0, i, h => absurd h (by omega)
  | n + 1, i, h => by
    have hs : tot s (n + 1) = tot s n + (s n).size := rfl
    rcases Nat.lt_or_ge i n with h1 | h1
    · have := tot_at (s := s) n i h1
      omega
    · obtain rfl : i = n := by omega
      omega
set_option maxHeartbeats 4000000 in
theorem law (Ad : Option Addr) (nd cd : Nat) (sd : Nat → ByteArray) (p : ByteArray) (m : Nat) (f : Nat → ByteArray) (v1 : Int) (w : World) (hm : m ≤ 1048576) (had : Sl w w.heap.size Ad nd (fun i => .string (sd i))) (hok : (nd + tot sd nd) ≤ 1048576) (hzp : p.size ≤ 1048576) (hml : MaxL w)
    (hs : ∀ (w : World) (Ad : Option Addr), Sl w w.heap.size Ad nd (fun i => .string (sd i)) → MaxL w → Calls Tryz.prog 20 #[.slice Ad nd nd, .string p] w fun e w' => ∃ A c, e = .returned (.tuple #[.slice A m c, .int .i64 v1]) ∧ w'.ownsRow w.heap.size 9 1 (.slice A m c) m ((List.range m).map fun (i : Nat) => Value.string (f i)) ∧ Below w.heap.size w w')
    (hi : ∀ (w : World) (Ad : Option Addr), Sl w w.heap.size Ad nd (fun i => .string (sd i)) → MaxL w → Calls Tryz.prog 21 #[.slice Ad nd nd, .string p] w fun e w' => ∃ A c, e = .returned (.tuple #[.slice A m c, .int .i64 v1]) ∧ w'.ownsRow w.heap.size 9 1 (.slice A m c) m ((List.range m).map fun (i : Nat) => Value.string (f i)) ∧ Below w.heap.size w w') :
    Calls Tryz.prog 6 #[.slice Ad nd cd, .string p] w fun e w' => e = .returned (.bool true) ∧ Below w.heap.size w w' := by
  have HS := Lib.hid hs
  have HI := Lib.hid hi
  clear hs hi
  have HML := Lib.hid hml
  clear hml
  have HAd := Lib.hid had
  clear had
  have hnd : nd ≤ 1048576 := by omega
  have hbb := Below.refl w.heap.size w
  have BB := Lib.hid hbb
  clear hbb
  go_enter Tryz.func6, Tryz.ntmps6
  go_wp2_with fail
  refine (szStringS_ok Ad nd cd _ sd _ (by omega) ((HAd.out.below BB.out).more BB.out.size) (by omega)).mono ?_
  rintro e w_ ⟨rfl, rfl⟩
  go_wp2_with fail
  refine (toStringS_any Ad nd cd sd _ hnd ((HAd.out.below BB.out).more BB.out.size)).mono ?_
  rintro e w_ ⟨rfl, o, hb⟩
  have OZd := Lib.hid o
  clear o
  have BB := Lib.hid (BB.out.trans (hb.mono BB.out.size))
  have hzz := BB.out.size
  clear hb
  go_wp2_with fail
  refine (HS.out _ _ (own_slR OZd.out) (HML.out.below BB.out)).mono ?_
  rintro e w_ ⟨A_w, c_w, rfl, o, hb⟩
  have OW := Lib.hid o
  clear o
  have OZd := Lib.hid (own_below OZd.out hb)
  have BB := Lib.hid (BB.out.trans (hb.mono BB.out.size))
  have hzz := BB.out.size
  clear hb
  clear OZd
  go_wp2_with fail
  refine (toStringS_any Ad nd cd sd _ hnd ((HAd.out.below BB.out).more BB.out.size)).mono ?_
  rintro e w_ ⟨rfl, o, hb⟩
  have apOWOXd := Lib.hid (own_apart OW.out o (Nat.le_refl _))
  have OXd := Lib.hid o
  clear o
  have OW := Lib.hid (own_below OW.out hb)
  have BB := Lib.hid (BB.out.trans (hb.mono BB.out.size))
  have hzz := BB.out.size
  clear hb
  go_wp2_with fail
  refine (HI.out _ _ (own_slR OXd.out) (HML.out.below BB.out)).mono ?_
  rintro e w_ ⟨A_g, c_g, rfl, o, hb⟩
  have apOWOG := Lib.hid (own_apart OW.out o (Nat.le_refl _))
  have apOGOXd := Lib.hid (own_apart2 OXd.out o (Nat.le_refl _))
  have OG := Lib.hid o
  clear o
  have OW := Lib.hid (own_below OW.out hb)
  have OXd := Lib.hid (own_below OXd.out hb)
  have BB := Lib.hid (BB.out.trans (hb.mono BB.out.size))
  have hzz := BB.out.size
  clear hb
  go_wp2_with fail
  refine (eqStringS_same _ _ m _ _ f f _ hm (own_slR OG.out) (own_slR OW.out) (fun _ _ => rfl)).mono ?_
  rintro e w_ ⟨rfl, hb⟩
  have OW := Lib.hid (own_below OW.out hb)
  have OXd := Lib.hid (own_below OXd.out hb)
  have OG := Lib.hid (own_below OG.out hb)
  have BB := Lib.hid (BB.out.trans (hb.mono BB.out.size))
  have hzz := BB.out.size
  clear hb
  go_wp2_with fail
  refine (toStringS_any Ad nd cd sd _ hnd ((HAd.out.below BB.out).more BB.out.size)).mono ?_
  rintro e w_ ⟨rfl, o, hb⟩
  have OY := Lib.hid o
  clear o
  have OW := Lib.hid (own_below OW.out hb)
  have OXd := Lib.hid (own_below OXd.out hb)
  have OG := Lib.hid (own_below OG.out hb)
  have BB := Lib.hid (BB.out.trans (hb.mono BB.out.size))
  have hzz := BB.out.size
  clear hb
  go_wp2_with fail
  refine (eqStringS_same _ _ nd _ _ sd sd _ hnd (own_slR OXd.out) (own_slR OY.out) (fun _ _ => rfl)).mono ?_
  rintro e w_ ⟨rfl, hb⟩
  have OW := Lib.hid (own_below OW.out hb)
  have OXd := Lib.hid (own_below OXd.out hb)
  have OG := Lib.hid (own_below OG.out hb)
  have OY := Lib.hid (own_below OY.out hb)
  have BB := Lib.hid (BB.out.trans (hb.mono BB.out.size))
  have hzz := BB.out.size
  clear hb
  clear OY
  go_wp2_with fail
  refine (markStringS_any _ nd _ _ _ _ _ (by omega) (by omega) (by omega) OXd.out).mono ?_
  rintro e w_ ⟨rfl, o, hg⟩
  have BB := Lib.hid (BB.out.trans (below_grown hg (fun k hk => by have := (OXd.out.lt k hk).1; omega) BB.out.size))
  have OW := Lib.hid (OW.out.kept hg apOWOXd.out)
  have OG := Lib.hid (OG.out.kept hg apOGOXd.out)
  have OXd := Lib.hid o
  clear o hg
  have hzz := BB.out.size
  clear OXd
  go_wp2_with fail
  refine (eqStringS_same _ _ m _ _ f f _ hm (own_slR OG.out) (own_slR OW.out) (fun _ _ => rfl)).mono ?_
  rintro e w_ ⟨rfl, hb⟩
  have OW := Lib.hid (own_below OW.out hb)
  have OG := Lib.hid (own_below OG.out hb)
  have BB := Lib.hid (BB.out.trans (hb.mono BB.out.size))
  have hzz := BB.out.size
  clear hb
  go_wp2_with fail
  refine (markStringS_any _ m _ _ _ _ _ (by omega) (by omega) (by omega) OG.out).mono ?_
  rintro e w_ ⟨rfl, o, hg⟩
  have BB := Lib.hid (BB.out.trans (below_grown hg (fun k hk => by have := (OG.out.lt k hk).1; omega) BB.out.size))
  have OW := Lib.hid (OW.out.kept hg apOWOG.out)
  have OG := Lib.hid o
  clear o hg
  have hzz := BB.out.size
  go_wp2_with fail
  refine (heldStringS_any _ m _ _ _ hm (by omega) (by omega) (own_slR OG.out)).mono ?_
  rintro e w_ ⟨rfl, hb⟩
  have OW := Lib.hid (own_below OW.out hb)
  have OG := Lib.hid (own_below OG.out hb)
  have BB := Lib.hid (BB.out.trans (hb.mono BB.out.size))
  have hzz := BB.out.size
  clear hb
  go_wp2_with fail
  refine (toStringS_any Ad nd cd sd _ hnd ((HAd.out.below BB.out).more BB.out.size)).mono ?_
  rintro e w_ ⟨rfl, o, hb⟩
  have OVd := Lib.hid o
  clear o
  have OW := Lib.hid (own_below OW.out hb)
  have OG := Lib.hid (own_below OG.out hb)
  have BB := Lib.hid (BB.out.trans (hb.mono BB.out.size))
  have hzz := BB.out.size
  clear hb
  go_wp2_with fail
  refine (HI.out _ _ (own_slR OVd.out) (HML.out.below BB.out)).mono ?_
  rintro e w_ ⟨A_h, c_h, rfl, o, hb⟩
  have OH := Lib.hid o
  clear o
  have OW := Lib.hid (own_below OW.out hb)
  have OG := Lib.hid (own_below OG.out hb)
  have OVd := Lib.hid (own_below OVd.out hb)
  have BB := Lib.hid (BB.out.trans (hb.mono BB.out.size))
  have hzz := BB.out.size
  clear hb
  clear OVd
  go_wp2_with fail
  refine (eqStringS_same _ _ m _ _ f f _ hm (own_slR OH.out) (own_slR OW.out) (fun _ _ => rfl)).mono ?_
  rintro e w_ ⟨rfl, hb⟩
  have OW := Lib.hid (own_below OW.out hb)
  have OG := Lib.hid (own_below OG.out hb)
  have OH := Lib.hid (own_below OH.out hb)
  have BB := Lib.hid (BB.out.trans (hb.mono BB.out.size))
  have hzz := BB.out.size
  clear hb
  clear OH
  clear OW
  go_wp2_with fail
  refine (heldStringS_any _ m _ _ _ hm (by omega) (by omega) (own_slR OG.out)).mono ?_
  rintro e w_ ⟨rfl, hb⟩
  have OG := Lib.hid (own_below OG.out hb)
  have BB := Lib.hid (BB.out.trans (hb.mono BB.out.size))
  have hzz := BB.out.size
  clear hb
  go_wp2
  go_ret
  exact ⟨rfl, BB.out⟩
theorem law_over0 (Ad : Option Addr) (nd cd : Nat) (sd : Nat → ByteArray) (p : ByteArray) (w : World) (had : Sl w w.heap.size Ad nd (fun i => .string (sd i))) (hkd : nd ≤ 9223372036854775807) (hmd : ∀ i, i < nd → (sd i).size ≤ 9223372036854775807) (h : 1048576 < (nd + tot sd nd)) (hzp : p.size ≤ 1048576) :
    Calls Tryz.prog 6 #[.slice Ad nd cd, .string p] w fun e w' => e = .returned (.bool true) ∧ Below w.heap.size w w' := by
  have hbb := Below.refl w.heap.size w
  have BB := Lib.hid hbb
  clear hbb
  have HAd := Lib.hid had
  clear had
  go_enter Tryz.func6, Tryz.ntmps6
  go_wp2_with fail
  refine (szStringS_over Ad nd cd _ sd _ (by omega) hkd ((HAd.out.below BB.out).more BB.out.size) hmd (by omega) (by omega)).mono ?_
  rintro e w_ ⟨rfl, rfl⟩
  go_wp2
  go_ret
  exact ⟨rfl, BB.out⟩
theorem law_big0 (Ad : Option Addr) (nd cd : Nat) (sd : Nat → ByteArray) (p : ByteArray) (w : World) (h : 1048576 < p.size) :
    Calls Tryz.prog 6 #[.slice Ad nd cd, .string p] w fun e w' => e = .returned (.bool true) ∧ Below w.heap.size w w' := by
  go_enter Tryz.func6, Tryz.ntmps6
  go_wp2
  go_ret
  exact ⟨rfl, Below.refl _ _⟩
theorem walk (H : Type) (enc : TypeId × Value → H) (W : World) (base : Nat) (args : Array Value) (ds : List (DataW H)) (p : List MemPlace)
    (hsh : W.ShapedOpen Tryz.prog)
    (hval : ∀ (j : Nat) t v, Tryz.f6.params[j]? = some t → args[j]? = some v → Value.okWide Tryz.prog W .any base t v)
    (hA : DataW.TrodAll enc Tryz.prog W 0 (fun _ => true) true Tryz.f6.params.toList args.toList ds p) :
    Calls Tryz.prog 6 args W fun e W' => e = .returned (.bool true) ∧ Below W.heap.size W W' := by
  rw [Tryz.params6] at hA hval
  obtain ⟨v0, vs0, d0, ds0, p0, q0, hargs, rfl, rfl, h0, r0⟩ := trodAll_cons hA
  obtain ⟨v1, vs1, d1, ds1, p1, q1, rfl, rfl, rfl, h1, r1⟩ := trodAll_cons r0
  obtain ⟨rfl, rfl, rfl⟩ := trodAll_nil r1
  obtain rfl : args = #[v0, v1] := by cases args; simp_all
  obtain ⟨s1, rfl, rfl, rfl, m1⟩ := open_string Tryz.underlying9 (hval 1 9 v1 rfl rfl) h1
  obtain ⟨Ad, nd, cd, sd, rfl, g1d, g2d, hsd, hmd⟩ := open_sl_str Tryz.underlying22 Tryz.underlying9 (by kernel_rfl) (hval 0 22 v0 rfl rfl) h0
  obtain ⟨p, rfl⟩ : ∃ z, z = s1 := ⟨_, rfl⟩
  by_cases hzp : p.size ≤ 1048576
  · skip
    by_cases hov0 : (nd + tot sd nd) ≤ 1048576
    · skip
      exact law Ad nd cd sd p (dltN nd sd p) (dltF nd sd p) (dltC nd sd p) W (by have : dltN nd sd p ≤ nd := (by unfold dltN; split <;> omega); omega) hsd hov0 hzp (MaxL.of hsh)
        (fun w A hs hl => specDelete_any (by omega) hzp hs)
        (fun w A hs hl => implDelete_any (by omega) hzp hs hl)
    · exact law_over0 Ad nd cd sd p W hsd (by omega) hmd (by omega) hzp
  · exact law_big0 Ad nd cd sd p W (by omega)
theorem own : ownKnob Tryz.prog.godebug = none := by kernel_rfl
theorem laidOut : laidOutB Tryz.prog = true := by kernel_rfl
theorem lifted (os : Os) (started : os.Started) (H : Type) (enc : TypeId × Value → H) :
    ReturnsInHanded {} Tryz.checked os 6 .any (fun w args => (Rows.fnExactDeleteTreeSpec.pre enc Tryz.prog Tryz.f6 Rows.fnExactDeleteTreeRow.domain false w args ∧ laidMetH Tryz.prog Rows.fnExactDeleteTreeRow.laid w) ∧ sizedMet enc Tryz.prog Tryz.f6 (OpenSpec.ofChange Rows.fnExactDeleteTreeSpec) false w args)
      (Rows.fnExactDeleteTreeSpec.post enc Tryz.prog Tryz.f6 false true false false) := by
  refine handed_and_shaped (C := Tryz.checked) (X := fun w _ => laidMetH Tryz.prog Rows.fnExactDeleteTreeRow.laid w) (fun _ _ _ hh h => h.of_heap hh) own started (by kernel_rfl) Tryz.func6
    (ChangeSpec.witness_shaped (enc := enc) (C := Tryz.checked) (os := os) (X := fun w _ => laidMetH Tryz.prog Rows.fnExactDeleteTreeRow.laid w) false (World.laidAll Tryz.prog os Rows.fnExactDeleteTreeRow.laid) #[.slice none 0 0, .string .empty] 8 (World.laidAll_os _ _ _)
      (World.shaped_of_ZipB (by kernel_rfl) (by kernel_rfl)) (by kernel_rfl) (by kernel_rfl) (by kernel_rfl)
      (by rw [MakeChecks.laidMetH_plain _ _ _ (by kernel_rfl)]; exact laidMet_laidAll _ (by kernel_rfl) (by kernel_rfl))) ?_
  intro W base args ds gs before hval hW _ _ _ hsh _
  have hW' := hW
  obtain ⟨p, q, hA, hV, rfl, hfz, hnd⟩ := hW
  refine (walk H enc W base args ds p hsh hval hA).mono fun e W' ⟨he, hb⟩ => ?_
  subst he
  exact ⟨_, rfl, law_post laidOut (by kernel_rfl) rfl rfl Tryz.underlying4 (fun xs hx => by
      match xs, hx with
      | [x0, x1], _ => exact ⟨rfl, rfl, rfl⟩) hW' hb⟩
theorem over : Rows.fnExactDeleteTreeRow.holds Tryz.pinned (OpenSpec.ofChange Rows.fnExactDeleteTreeSpec) :=
  OpenClaim.holds_of_wide 6 Tryz.f6 rfl rfl rfl rfl rfl rfl rfl ⟨rfl, rfl, rfl, rfl, rfl⟩ rfl rfl rfl rfl rfl (by kernel_rfl) Tryz.func6 (by kernel_rfl)
    (of_decide_eq_true (by kernel_rfl)) (by unfold Func.isWrapper; first | (rw [if_pos (by decide +kernel)]; kernel_rfl) | (rw [if_neg (by decide +kernel)]; exact ⟨rfl, rfl⟩))
    (fun os started H enc _ => lifted os started H enc)
/-- the given statement: the tied card -/
theorem proved : Rows.FnExactDeleteTreeCardSaid :=
  Claim7.holds_tied_plain_at .later [] [.data, .pinned] true (true, "1b76330f5c5fb7b704dce2ed5fd254416fa2388c50670fe648a4ae3d7122087d") false over (fun _ h => by cases h) (by kernel_rfl) (fun _ h => by cases h) fnExactDeleteTree_row_tie rfl ⟨rfl, rfl⟩ (by kernel_rfl) rfl
    (fun f fn hf hfn => by
      obtain rfl : f = 6 := Option.some.inj ((show Tryz.prog.funcNamed "loop.example/g00899/laws.FnExactDeleteTree" = some 6 by kernel_rfl).symm.trans hf) |>.symm
      obtain rfl : fn = Tryz.f6 := (Option.some.inj (Tryz.func6.symm.trans hfn)).symm
      exact ⟨by kernel_rfl, fun j t ht => by
        rw [Tryz.params6] at ht
        have hm : t ∈ [22, 9] := by simpa using Array.mem_of_getElem? ht
        have hall : ([22, 9].all fun u => !Tryz.prog.wantsStandIn u) = true := by kernel_rfl
        exact (show Tryz.prog.wantsStandIn t = false by simpa using List.all_eq_true.1 hall t hm)⟩)
    (by kernel_rfl)
end Go.Proofs.YtiefcgmghkkbmaaGreatDoor.fnExactDeleteTree
