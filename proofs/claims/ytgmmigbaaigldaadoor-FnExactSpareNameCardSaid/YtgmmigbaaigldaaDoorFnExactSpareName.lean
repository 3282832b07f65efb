/-
  The program's SpareName returns what the reference's returns, for all arguments. Conditions: none.
-/
import Derived.Test.YtgmmigbaaigldaaDoorRows
import Derived.Test.YtgmmigbaaigldaaDoorSpareName
import Derived.Test.YtgmmigbaaigldaaDoorTie
import Derived.Test.YtgmmigbaaigldaaDoorCards
import Derived.LaidMore
import Derived.Lay
import Derived.SevenTiedAt
import Derived.Stop.Joined
import Derived.ChangeMaps5
namespace Go.Proofs.YtgmmigbaaigldaaDoor.fnExactSpareName
open Go Go.ChangeMaps Go.ChangeShapes Go.WideShapes Go.ChangeAt Go.RowKit lib
set_option linter.unusedVariables false
set_option maxRecDepth 100000
theorem own_apart2 {w w1 : World} {B B' e e' k k' n n' : Nat} {v v' : Value} {xs xs' : List Value} (h : w.ownsRow B e k v n xs) (h' : w1.ownsRow B' e' k' v' n' xs') (hB : w.heap.size ≤ B') : v'.ownBlock = none ∨ v'.ownBlock ≠ v.ownBlock := by
  rcases own_apart h h' hB with h1 | h1
  · cases hv : v'.ownBlock with
    | none => exact .inl rfl
    | some g => exact .inr (by rw [h1]; simp)
  · exact .inr (fun he => h1 he.symm)
set_option maxHeartbeats 2000000 in
theorem law (A : Option Addr) (n c : Nat) (nm : ByteArray) (T : ByteArray) (code : Int) (s : Nat → ByteArray) (w : World) (ha : Sl w w.heap.size A n (fun i => .string (s i))) (hok : n + tot s n ≤ 1048576) (hsznm : nm.size ≤ 1048576)
    (hs : ∀ (w : World) (A : Option Addr), Sl w w.heap.size A n (fun i => .string (s i)) → Calls Tryd.prog 24 #[.slice A n n, .string nm] w fun e w' => e = .returned (.tuple #[.string T, .int .i64 code]) ∧ Below w.heap.size w w')
    (hi : ∀ (w : World) (A : Option Addr), Sl w w.heap.size A n (fun i => .string (s i)) → Calls Tryd.prog 25 #[.slice A n n, .string nm] w fun e w' => e = .returned (.tuple #[.string T, .int .i64 code]) ∧ Below w.heap.size w w') :
    Calls Tryd.prog 6 #[.slice A n c, .string nm] w fun e w' => e = .returned (.bool true) ∧ Below w.heap.size w w' := by
  have HS := Lib.hid hs
  have HI := Lib.hid hi
  have HA := Lib.hid ha
  clear hs hi
  have hn : n ≤ 1048576 := by omega
  go_enter Tryd.func6, Tryd.ntmps6
  go_wp2_with fail
  refine (szStringS_ok A n c 1048576 s _ (by omega) ha (by omega)).mono ?_
  rintro e w0 ⟨rfl, rfl⟩
  clear ha
  go_wp2_with fail
  refine (toStringS_any A n c s _ hn HA.out).mono ?_
  rintro e w1 ⟨rfl, o, hb⟩
  have B1 := hb
  have OZ := Lib.hid o
  clear o hb
  go_wp2_with fail
  refine (HS.out _ _ (own_slR OZ.out)).mono ?_
  rintro e w2 ⟨rfl, hb⟩
  have B2 := B1.trans (hb.mono B1.size)
  clear hb OZ
  go_wp2_with fail
  refine (toStringS_any A n c s _ hn ((HA.out.below B2).more B2.size)).mono ?_
  rintro e w3 ⟨rfl, o, hb⟩
  have B3 := B2.trans (hb.mono B2.size)
  have OX := Lib.hid o
  clear o hb
  go_wp2_with fail
  refine (HI.out _ _ (own_slR OX.out)).mono ?_
  rintro e w4 ⟨rfl, hb⟩
  have B4 := B3.trans (hb.mono B3.size)
  have OX := Lib.hid (own_below OX.out hb)
  clear hb
  go_wp2_with fail
  refine (toStringS_any A n c s _ hn ((HA.out.below B4).more B4.size)).mono ?_
  rintro e w6 ⟨rfl, o, hb⟩
  have B6 := B4.trans (hb.mono B4.size)
  have OY := Lib.hid o
  have OX := Lib.hid (own_below OX.out hb)
  clear o hb
  go_wp2_with fail
  refine (eqStringS_same _ _ n _ _ s s _ hn (own_slR OX.out) (own_slR OY.out) (fun _ _ => rfl)).mono ?_
  rintro e w7 ⟨rfl, hb⟩
  have B7 := B6.trans (hb.mono B6.size)
  clear hb OY
  go_wp2
  go_ret
  exact ⟨rfl, B7⟩
theorem law_over (A : Option Addr) (n c : Nat) (nm : ByteArray) (s : Nat → ByteArray) (w : World) (hn : n ≤ 9223372036854775807) (hs : Sl w w.heap.size A n (fun i => .string (s i))) (hm : ∀ i, i < n → (s i).size ≤ 9223372036854775807) (h : 1048576 < n + tot s n) (hsznm : nm.size ≤ 1048576) :
    Calls Tryd.prog 6 #[.slice A n c, .string nm] w fun e w' => e = .returned (.bool true) ∧ Below w.heap.size w w' := by
  go_enter Tryd.func6, Tryd.ntmps6
  go_wp2_with fail
  refine (szStringS_over A n c 1048576 s _ (by omega) hn hs hm (by omega) (by omega)).mono ?_
  rintro e w1 ⟨rfl, rfl⟩
  go_wp2
  go_ret
  exact ⟨rfl, Below.refl _ _⟩
theorem law_big (A : Option Addr) (n c : Nat) (nm : ByteArray) (s : Nat → ByteArray) (w : World) (h : 1048576 < nm.size) :
    Calls Tryd.prog 6 #[.slice A n c, .string nm] w fun e w' => e = .returned (.bool true) ∧ Below w.heap.size w w' := by
  go_enter Tryd.func6, Tryd.ntmps6
  go_wp2
  go_ret
  exact ⟨rfl, Below.refl _ _⟩
theorem walk (H : Type) (enc : TypeId × Value → H) (W : World) (base : Nat) (args : Array Value) (ds : List (DataW H)) (p : List MemPlace)
    (hval : ∀ (j : Nat) t v, Tryd.f6.params[j]? = some t → args[j]? = some v → Value.okWide Tryd.prog W .any base t v)
    (hA : DataW.TrodAll enc Tryd.prog W 0 (fun _ => true) true Tryd.f6.params.toList args.toList ds p) :
    Calls Tryd.prog 6 args W fun e W' => e = .returned (.bool true) ∧ Below W.heap.size W W' := by
  rw [Tryd.params6] at hA hval
  obtain ⟨v0, vs0, d0, ds0, p0, q0, hargs, rfl, rfl, h0, r0⟩ := trodAll_cons hA
  obtain ⟨v1, vs1, d1, ds1, p1, q1, rfl, rfl, rfl, h1, r1⟩ := trodAll_cons r0
  obtain ⟨rfl, rfl, rfl⟩ := trodAll_nil r1
  obtain rfl : args = #[v0, v1] := by cases args; simp_all
  obtain ⟨s1, rfl, rfl, rfl, m1⟩ := open_string Tryd.underlying9 (hval 1 9 v1 rfl rfl) h1
  obtain ⟨A, n, c, s, rfl, g1, g2, hs, hm⟩ := open_sl_str Tryd.underlying22 Tryd.underlying9 (by kernel_rfl) (hval 0 22 v0 rfl rfl) h0
  by_cases hsz1 : s1.size ≤ 1048576
  · by_cases hov : n + tot s n ≤ 1048576
    · have hn : n ≤ 1048576 := by omega
      exact law A n c s1 (spTxt n s s1) (spCode n s s1) s W hs hov hsz1
        (fun w A hs => specSpareName s1 hsz1 hs hm (Nat.le_refl _) (by omega))
        (fun w A hs => implSpareName s1 hsz1 hs hm (Nat.le_refl _) (by omega))
    · exact law_over A n c s1 s W (by omega) hs hm (by omega) hsz1
  · exact law_big A n c s1 s W (by omega)
theorem own : ownKnob Tryd.prog.godebug = none := by kernel_rfl
theorem laidOut : laidOutB Tryd.prog = true := by kernel_rfl
theorem lifted (os : Os) (started : os.Started) (H : Type) (enc : TypeId × Value → H) :
    ReturnsInHanded {} Tryd.checked os 6 .any (fun w args => (Rows.fnExactSpareNameSpec.pre enc Tryd.prog Tryd.f6 Rows.fnExactSpareNameRow.domain false w args ∧ laidMetH Tryd.prog Rows.fnExactSpareNameRow.laid w) ∧ sizedMet enc Tryd.prog Tryd.f6 (OpenSpec.ofChange Rows.fnExactSpareNameSpec) false w args)
      (Rows.fnExactSpareNameSpec.post enc Tryd.prog Tryd.f6 false true false false) := by
  refine returnsInHanded_of_change_and (C := Tryd.checked) (X := fun w _ => laidMetH Tryd.prog Rows.fnExactSpareNameRow.laid w) (fun _ _ _ hh h => h.of_heap hh) own started (by kernel_rfl) Tryd.func6
    (ChangeSpec.witness_shaped (enc := enc) (C := Tryd.checked) (os := os) (X := fun w _ => laidMetH Tryd.prog Rows.fnExactSpareNameRow.laid w) false (World.laidAll Tryd.prog os Rows.fnExactSpareNameRow.laid) #[.slice none 0 0, .string .empty] 8 (World.laidAll_os _ _ _)
      (World.shaped_of_ZipB (by kernel_rfl) (by kernel_rfl)) (by kernel_rfl) (by kernel_rfl) (by kernel_rfl)
      (by rw [MakeChecks.laidMetH_plain _ _ _ (by kernel_rfl)]; exact laidMet_laidAll _ (by kernel_rfl) (by kernel_rfl))) ?_
  intro W base args ds gs before hval hW _ _ _ _
  have hW' := hW
  obtain ⟨p, q, hA, hV, rfl, hfz, hnd⟩ := hW
  refine (walk H enc W base args ds p hval hA).mono fun e W' ⟨he, hb⟩ => ?_
  subst he
  exact ⟨_, rfl, law_post laidOut (by kernel_rfl) rfl rfl Tryd.underlying4 (fun xs hx => by
      match xs, hx with
      | [x0, x1], _ => exact ⟨rfl, rfl, rfl⟩) hW' hb⟩
theorem over : Rows.fnExactSpareNameRow.holds Tryd.pinned (OpenSpec.ofChange Rows.fnExactSpareNameSpec) :=
  OpenClaim.holds_of_wide 6 Tryd.f6 rfl rfl rfl rfl rfl rfl rfl ⟨rfl, rfl, rfl, rfl, rfl⟩ rfl rfl rfl rfl rfl (by kernel_rfl) Tryd.func6 (by kernel_rfl)
    (of_decide_eq_true (by kernel_rfl)) (by unfold Func.isWrapper; first | (rw [if_pos (by decide +kernel)]; kernel_rfl) | (rw [if_neg (by decide +kernel)]; exact ⟨rfl, rfl⟩))
    (fun os started H enc _ => lifted os started H enc)
/-- the given statement: the tied card -/
theorem proved : Rows.FnExactSpareNameCardSaid :=
  Claim7.holds_tied_plain_at .later [] [.data, .data, .data, .data, .pinned] true (true, "4058e913342ce287439f5370fd2d3ceb2e077cd6501f87953a5a65900660dd61") false over (fun _ h => by cases h) (by kernel_rfl) (fun _ h => by cases h) fnExactSpareName_row_tie rfl ⟨rfl, rfl⟩ (by kernel_rfl) rfl
    (fun f fn hf hfn => by
      obtain rfl : f = 6 := Option.some.inj ((show Tryd.prog.funcNamed "loop.example/g00899/laws.FnExactSpareName" = some 6 by kernel_rfl).symm.trans hf) |>.symm
      obtain rfl : fn = Tryd.f6 := (Option.some.inj (Tryd.func6.symm.trans hfn)).symm
      exact ⟨by kernel_rfl, fun j t ht => by
        rw [Tryd.params6] at ht
        have hm : t ∈ [22, 9] := by simpa using Array.mem_of_getElem? ht
        have hall : ([22, 9].all fun u => !Tryd.prog.wantsStandIn u) = true := by kernel_rfl
        exact (show Tryd.prog.wantsStandIn t = false by simpa using List.all_eq_true.1 hall t hm)⟩)
    (by kernel_rfl)
end Go.Proofs.YtgmmigbaaigldaaDoor.fnExactSpareName
