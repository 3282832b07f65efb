/-
  The program's ReadExtents returns what the reference's returns, for all arguments. Conditions: none.
-/
import Derived.Test.YtmgcaiilocifbaaDoorRows
import Derived.Test.YtmgcaiilocifbaaDoorXrdX
import Derived.Test.YtmgcaiilocifbaaDoorBase
import Derived.Test.YtmgcaiilocifbaaDoorTie
import Derived.Test.YtmgcaiilocifbaaDoorCards
import Derived.LaidMore
import Derived.Lay
import Derived.SevenTiedAt
import Derived.Stop.Joined
import Derived.ChangeMaps5
namespace Go.Proofs.YtmgcaiilocifbaaDoor.fnExactReadExtents
open Go Go.ChangeMaps Go.ChangeShapes Go.WideShapes Go.ChangeAt Go.RowKit lib
set_option linter.unusedVariables false
set_option maxRecDepth 100000
theorem own_apart2 {w w1 : World} {B B' e e' k k' n n' : Nat} {v v' : Value} {xs xs' : List Value} (h : w.ownsRow B e k v n xs) (h' : w1.ownsRow B' e' k' v' n' xs') (hB : w.heap.size ≤ B') : v'.ownBlock = none ∨ v'.ownBlock ≠ v.ownBlock := by
  rcases own_apart h h' hB with h1 | h1
  · cases hv : v'.ownBlock with
    | none => exact .inl rfl
    | some g => exact .inr (by rw [h1]; simp)
  · exact .inr (fun he => h1 he.symm)
theorem tot_at {s : Nat → ByteArray} : ∀ (n i : Nat), i < n → (s i).size ≤ tot s n
  | 0, i, h => absurd h (by omega)
  | n + 1, i, h => by
    have hs : tot s (n + 1) = tot s n + (s n).size := rfl
    rcases Nat.lt_or_ge i n with h1 | h1
    · have := tot_at (s := s) n i h1
      omega
    · obtain rfl : i = n := by omega
      omega
set_option maxHeartbeats 4000000 in
theorem law (Aa : Option Addr) (na ca : Nat) (sa : Nat → ByteArray) (b : ByteArray) (v0 : ByteArray) (v1 : Int) (w : World) (haa : Sl w w.heap.size Aa na (fun i => .string (sa i))) (hok : (na + tot sa na) ≤ 1048576) (hzb : b.size ≤ 1048576)
    (hs : ∀ (w : World) (Aa : Option Addr), Sl w w.heap.size Aa na (fun i => .string (sa i)) → Calls Tryd.prog 25 #[.slice Aa na na, .string b] w fun e w' => e = .returned (.tuple #[.string v0, .int .i64 v1]) ∧ Below w.heap.size w w')
    (hi : ∀ (w : World) (Aa : Option Addr), Sl w w.heap.size Aa na (fun i => .string (sa i)) → Calls Tryd.prog 26 #[.slice Aa na na, .string b] w fun e w' => e = .returned (.tuple #[.string v0, .int .i64 v1]) ∧ Below w.heap.size w w') :
    Calls Tryd.prog 6 #[.slice Aa na ca, .string b] w fun e w' => e = .returned (.bool true) ∧ Below w.heap.size w w' := by
  have HS := Lib.hid hs
  have HI := Lib.hid hi
  clear hs hi
  have HAa := Lib.hid haa
  clear haa
  have hna : na ≤ 1048576 := by omega
  have hbb := Below.refl w.heap.size w
  have BB := Lib.hid hbb
  clear hbb
  go_enter Tryd.func6, Tryd.ntmps6
  go_wp2_with fail
  refine (szStringS_ok Aa na ca _ sa _ (by omega) ((HAa.out.below BB.out).more BB.out.size) (by omega)).mono ?_
  rintro e w_ ⟨rfl, rfl⟩
  go_wp2_with fail
  refine (toStringS_any Aa na ca sa _ hna ((HAa.out.below BB.out).more BB.out.size)).mono ?_
  rintro e w_ ⟨rfl, o, hb⟩
  have OZa := Lib.hid o
  clear o
  have BB := Lib.hid (BB.out.trans (hb.mono BB.out.size))
  have hzz := BB.out.size
  clear hb
  go_wp2_with fail
  refine (HS.out _ _ (own_slR OZa.out)).mono ?_
  rintro e w_ ⟨rfl, hb⟩
  have OZa := Lib.hid (own_below OZa.out hb)
  have BB := Lib.hid (BB.out.trans (hb.mono BB.out.size))
  have hzz := BB.out.size
  clear hb
  clear OZa
  go_wp2_with fail
  refine (toStringS_any Aa na ca sa _ hna ((HAa.out.below BB.out).more BB.out.size)).mono ?_
  rintro e w_ ⟨rfl, o, hb⟩
  have OXa := Lib.hid o
  clear o
  have BB := Lib.hid (BB.out.trans (hb.mono BB.out.size))
  have hzz := BB.out.size
  clear hb
  go_wp2_with fail
  refine (HI.out _ _ (own_slR OXa.out)).mono ?_
  rintro e w_ ⟨rfl, hb⟩
  have OXa := Lib.hid (own_below OXa.out hb)
  have BB := Lib.hid (BB.out.trans (hb.mono BB.out.size))
  have hzz := BB.out.size
  clear hb
  go_wp2_with fail
  refine (toStringS_any Aa na ca sa _ hna ((HAa.out.below BB.out).more BB.out.size)).mono ?_
  rintro e w_ ⟨rfl, o, hb⟩
  have OY := Lib.hid o
  clear o
  have OXa := Lib.hid (own_below OXa.out hb)
  have BB := Lib.hid (BB.out.trans (hb.mono BB.out.size))
  have hzz := BB.out.size
  clear hb
  go_wp2_with fail
  refine (eqStringS_same _ _ na _ _ sa sa _ hna (own_slR OXa.out) (own_slR OY.out) (fun _ _ => rfl)).mono ?_
  rintro e w_ ⟨rfl, hb⟩
  have OXa := Lib.hid (own_below OXa.out hb)
  have OY := Lib.hid (own_below OY.out hb)
  have BB := Lib.hid (BB.out.trans (hb.mono BB.out.size))
  have hzz := BB.out.size
  clear hb
  clear OY
  go_wp2
  go_ret
  exact ⟨rfl, BB.out⟩
theorem law_over0 (Aa : Option Addr) (na ca : Nat) (sa : Nat → ByteArray) (b : ByteArray) (w : World) (haa : Sl w w.heap.size Aa na (fun i => .string (sa i))) (hka : na ≤ 9223372036854775807) (hma : ∀ i, i < na → (sa i).size ≤ 9223372036854775807) (h : 1048576 < (na + tot sa na)) (hzb : b.size ≤ 1048576) :
    Calls Tryd.prog 6 #[.slice Aa na ca, .string b] w fun e w' => e = .returned (.bool true) ∧ Below w.heap.size w w' := by
  have hbb := Below.refl w.heap.size w
  have BB := Lib.hid hbb
  clear hbb
  have HAa := Lib.hid haa
  clear haa
  go_enter Tryd.func6, Tryd.ntmps6
  go_wp2_with fail
  refine (szStringS_over Aa na ca _ sa _ (by omega) hka ((HAa.out.below BB.out).more BB.out.size) hma (by omega) (by omega)).mono ?_
  rintro e w_ ⟨rfl, rfl⟩
  go_wp2
  go_ret
  exact ⟨rfl, BB.out⟩
theorem law_big0 (Aa : Option Addr) (na ca : Nat) (sa : Nat → ByteArray) (b : ByteArray) (w : World) (h : 1048576 < b.size) :
    Calls Tryd.prog 6 #[.slice Aa na ca, .string b] w fun e w' => e = .returned (.bool true) ∧ Below w.heap.size w w' := by
  go_enter Tryd.func6, Tryd.ntmps6
  go_wp2
  go_ret
  exact ⟨rfl, Below.refl _ _⟩
theorem walk (H : Type) (enc : TypeId × Value → H) (W : World) (base : Nat) (args : Array Value) (ds : List (DataW H)) (p : List MemPlace)
    (hval : ∀ (j : Nat) t v, Tryd.f6.params[j]? = some t → args[j]? = some v → Value.okWide Tryd.prog W .any base t v)
    (hA : DataW.TrodAll enc Tryd.prog W 0 (fun _ => true) true Tryd.f6.params.toList args.toList ds p) :
    Calls Tryd.prog 6 args W fun e W' => e = .returned (.bool true) ∧ Below W.heap.size W W' := by
  rw [Tryd.params6] at hA hval
  obtain ⟨v0, vs0, d0, ds0, p0, q0, hargs, rfl, rfl, h0, r0⟩ := trodAll_cons hA
  obtain ⟨v1, vs1, d1, ds1, p1, q1, rfl, rfl, rfl, h1, r1⟩ := trodAll_cons r0
  obtain ⟨rfl, rfl, rfl⟩ := trodAll_nil r1
  obtain rfl : args = #[v0, v1] := by cases args; simp_all
  obtain ⟨s1, rfl, rfl, rfl, m1⟩ := open_string Tryd.underlying9 (hval 1 9 v1 rfl rfl) h1
  obtain ⟨Aa, na, ca, sa, rfl, g1a, g2a, hsa, hma⟩ := open_sl_str Tryd.underlying22 Tryd.underlying9 (by kernel_rfl) (hval 0 22 v0 rfl rfl) h0
  obtain ⟨b, rfl⟩ : ∃ z, z = s1 := ⟨_, rfl⟩
  by_cases hzb : b.size ≤ 1048576
  · skip
    by_cases hov0 : (na + tot sa na) ≤ 1048576
    · skip
      have hna : na ≤ 1048576 := by omega
      exact law Aa na ca sa b (rdXText na sa b) (rdXCode na sa b) W hsa hov0 hzb
        (fun w A hs => specRdX_any b (by omega) hs hma (Nat.le_refl _) (by omega))
        (fun w A hs => implRdX_any b (by omega) hs hma (Nat.le_refl _) (by omega))
    · exact law_over0 Aa na ca sa b W hsa (by omega) hma (by omega) hzb
  · exact law_big0 Aa na ca sa b W (by omega)
theorem own : ownKnob Tryd.prog.godebug = none := by kernel_rfl
theorem laidOut : laidOutB Tryd.prog = true := by kernel_rfl
theorem lifted (os : Os) (started : os.Started) (H : Type) (enc : TypeId × Value → H) :
    ReturnsInHanded {} Tryd.checked os 6 .any (fun w args => (Rows.fnExactReadExtentsSpec.pre enc Tryd.prog Tryd.f6 Rows.fnExactReadExtentsRow.domain false w args ∧ laidMetH Tryd.prog Rows.fnExactReadExtentsRow.laid w) ∧ sizedMet enc Tryd.prog Tryd.f6 (OpenSpec.ofChange Rows.fnExactReadExtentsSpec) false w args)
      (Rows.fnExactReadExtentsSpec.post enc Tryd.prog Tryd.f6 false true false false) := by
  refine returnsInHanded_of_change_and (C := Tryd.checked) (X := fun w _ => laidMetH Tryd.prog Rows.fnExactReadExtentsRow.laid w) (fun _ _ _ hh h => h.of_heap hh) own started (by kernel_rfl) Tryd.func6
    (ChangeSpec.witness_shaped (enc := enc) (C := Tryd.checked) (os := os) (X := fun w _ => laidMetH Tryd.prog Rows.fnExactReadExtentsRow.laid w) false (World.laidAll Tryd.prog os Rows.fnExactReadExtentsRow.laid) #[.slice none 0 0, .string .empty] 8 (World.laidAll_os _ _ _)
      (World.shaped_of_ZipB (by kernel_rfl) (by kernel_rfl)) (by kernel_rfl) (by kernel_rfl) (by kernel_rfl)
      (by rw [MakeChecks.laidMetH_plain _ _ _ (by kernel_rfl)]; exact laidMet_laidAll _ (by kernel_rfl) (by kernel_rfl))) ?_
  intro W base args ds gs before hval hW _ _ _ _
  have hW' := hW
  obtain ⟨p, q, hA, hV, rfl, hfz, hnd⟩ := hW
  refine (walk H enc W base args ds p hval hA).mono fun e W' ⟨he, hb⟩ => ?_
  subst he
  exact ⟨_, rfl, law_post laidOut (by kernel_rfl) rfl rfl Tryd.underlying4 (fun xs hx => by
      match xs, hx with
      | [x0, x1], _ => exact ⟨rfl, rfl, rfl⟩) hW' hb⟩
theorem over : Rows.fnExactReadExtentsRow.holds Tryd.pinned (OpenSpec.ofChange Rows.fnExactReadExtentsSpec) :=
  OpenClaim.holds_of_wide 6 Tryd.f6 rfl rfl rfl rfl rfl rfl rfl ⟨rfl, rfl, rfl, rfl, rfl⟩ rfl rfl rfl rfl rfl (by kernel_rfl) Tryd.func6 (by kernel_rfl)
    (of_decide_eq_true (by kernel_rfl)) (by unfold Func.isWrapper; first | (rw [if_pos (by decide +kernel)]; kernel_rfl) | (rw [if_neg (by decide +kernel)]; exact ⟨rfl, rfl⟩))
    (fun os started H enc _ => lifted os started H enc)
/-- the given statement: the tied card -/
theorem proved : Rows.FnExactReadExtentsCardSaid :=
  Claim7.holds_tied_plain_at .later [] [.data, .pinned] true (true, "99c1f9f512173d756fabec438d51a786df3f6281e69e6c5100a8f70f8fc1e9e4") false over (fun _ h => by cases h) (by kernel_rfl) (fun _ h => by cases h) fnExactReadExtents_row_tie rfl ⟨rfl, rfl⟩ (by kernel_rfl) rfl
    (fun f fn hf hfn => by
      obtain rfl : f = 6 := Option.some.inj ((show Tryd.prog.funcNamed "loop.example/g00899/laws.FnExactReadExtents" = some 6 by kernel_rfl).symm.trans hf) |>.symm
      obtain rfl : fn = Tryd.f6 := (Option.some.inj (Tryd.func6.symm.trans hfn)).symm
      exact ⟨by kernel_rfl, fun j t ht => by
        rw [Tryd.params6] at ht
        have hm : t ∈ [22, 9] := by simpa using Array.mem_of_getElem? ht
        have hall : ([22, 9].all fun u => !Tryd.prog.wantsStandIn u) = true := by kernel_rfl
        exact (show Tryd.prog.wantsStandIn t = false by simpa using List.all_eq_true.1 hall t hm)⟩)
    (by kernel_rfl)
end Go.Proofs.YtmgcaiilocifbaaDoor.fnExactReadExtents
