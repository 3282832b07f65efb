/-
  The program's ReadFiles returns what the reference's returns, for all arguments. Conditions: none.
-/
import Derived.Test.YtigemmahnmcbdaaRows
import Derived.Test.YtigemmahnmcbdaaFMk
import Derived.Test.YtigemmahnmcbdaaRfxI
import Derived.Test.YtigemmahnmcbdaaRfxS
import Derived.ChangeMaps5
namespace Go.Proofs.Ytigemmahnmcbdaa.fnExactReadFiles
open Go Go.ChangeMaps Go.ChangeShapes Go.WideShapes Go.ChangeAt Go.RowKit lib
set_option linter.unusedVariables false
set_option maxRecDepth 100000
theorem own_apart2 {w w1 : World} {B B' e e' k k' n n' : Nat} {v v' : Value} {xs xs' : List Value} (h : w.ownsRow B e k v n xs) (h' : w1.ownsRow B' e' k' v' n' xs') (hB : w.heap.size ≤ B') : v'.ownBlock = none ∨ v'.ownBlock ≠ v.ownBlock := by
  rcases own_apart h h' hB with h1 | h1
  · cases hv : v'.ownBlock with
    | none => exact .inl rfl
    | some g => exact .inr (by rw [h1]; simp)
  · exact .inr (fun he => h1 he.symm)
theorem own_slR2 {w : World} {B e n c : Nat} {A : Option Addr} {g : Nat → Value} (h : w.ownsRow B e 2 (.slice A n c) n ((List.range (n * 2)).map g)) : Sl w w.heap.size A (n * 2) g := by
  have h1 := own_sl h
  exact h1.congr fun i hi => by simp [hi]
theorem tot_at {s : Nat → ByteArray} : ∀ (n i : Nat), i < n → (s i).size ≤ tot s n
  | 0, i, h => absurd h (by omega)
  | n + 1, i, h => by
    have hs : tot s (n + 1) = tot s n + (s n).size := rfl
    rcases Nat.lt_or_ge i n with h1 | h1
    · have := tot_at (s := s) n i h1
      omega
    · obtain rfl : i = n := by omega
      omega
set_option maxHeartbeats 4000000 in
theorem law (s : ByteArray) (m : Nat) (f : Nat → ByteArray) (v1 : Bool) (w : World) (hm : m ≤ 1048576) (hzs : s.size ≤ 1048576)
    (hs : ∀ (w : World), Calls Try.prog 4 #[.string s] w fun e w' => ∃ A c, e = .returned (.tuple #[.slice A m c, .bool v1]) ∧ w'.ownsRow w.heap.size 31 2 (.slice A m c) m ((List.range (m * 2)).map fun (i : Nat) => Value.string (f i)) ∧ Below w.heap.size w w')
    (hi : ∀ (w : World), Calls Try.prog 5 #[.string s] w fun e w' => ∃ A c, e = .returned (.tuple #[.slice A m c, .bool v1]) ∧ w'.ownsRow w.heap.size 31 2 (.slice A m c) m ((List.range (m * 2)).map fun (i : Nat) => Value.string (f i)) ∧ Below w.heap.size w w') :
    Calls Try.prog 3 #[.string s] w fun e w' => e = .returned (.bool true) ∧ Below w.heap.size w w' := by
  have HS := Lib.hid hs
  have HI := Lib.hid hi
  clear hs hi
  have hbb := Below.refl w.heap.size w
  have BB := Lib.hid hbb
  clear hbb
  go_enter Try.func3, Try.ntmps3
  go_wp2_with fail
  refine (HS.out _).mono ?_
  rintro e w_ ⟨A_w, c_w, rfl, o, hb⟩
  have OW := Lib.hid o
  clear o
  have BB := Lib.hid (BB.out.trans (hb.mono BB.out.size))
  have hzz := BB.out.size
  clear hb
  go_wp2_with fail
  refine (HI.out _).mono ?_
  rintro e w_ ⟨A_g, c_g, rfl, o, hb⟩
  have apOWOG := Lib.hid (own_apart OW.out o (Nat.le_refl _))
  have OG := Lib.hid o
  clear o
  have OW := Lib.hid (own_below OW.out hb)
  have BB := Lib.hid (BB.out.trans (hb.mono BB.out.size))
  have hzz := BB.out.size
  clear hb
  go_wp2_with fail
  refine (eqFileS_same _ _ m _ _ f f _ hm (own_slR2 OG.out) (own_slR2 OW.out) (fun _ _ => rfl)).mono ?_
  rintro e w_ ⟨rfl, hb⟩
  have OW := Lib.hid (own_below OW.out hb)
  have OG := Lib.hid (own_below OG.out hb)
  have BB := Lib.hid (BB.out.trans (hb.mono BB.out.size))
  have hzz := BB.out.size
  clear hb
  go_wp2_with fail
  refine (markFileS_any _ m _ _ _ _ _ (by omega) (by omega) (by omega) OG.out).mono ?_
  rintro e w_ ⟨rfl, o, hg⟩
  have BB := Lib.hid (BB.out.trans (below_grown hg (fun k hk => by have := (OG.out.lt k hk).1; omega) BB.out.size))
  have OW := Lib.hid (OW.out.kept hg apOWOG.out)
  have OG := Lib.hid o
  clear o hg
  have hzz := BB.out.size
  go_wp2_with fail
  refine (heldFileS_any _ m _ _ _ hm (by omega) (by omega) (own_slR2 OG.out)).mono ?_
  rintro e w_ ⟨rfl, hb⟩
  have OW := Lib.hid (own_below OW.out hb)
  have OG := Lib.hid (own_below OG.out hb)
  have BB := Lib.hid (BB.out.trans (hb.mono BB.out.size))
  have hzz := BB.out.size
  clear hb
  go_wp2_with fail
  refine (HI.out _).mono ?_
  rintro e w_ ⟨A_h, c_h, rfl, o, hb⟩
  have OH := Lib.hid o
  clear o
  have OW := Lib.hid (own_below OW.out hb)
  have OG := Lib.hid (own_below OG.out hb)
  have BB := Lib.hid (BB.out.trans (hb.mono BB.out.size))
  have hzz := BB.out.size
  clear hb
  go_wp2_with fail
  refine (eqFileS_same _ _ m _ _ f f _ hm (own_slR2 OH.out) (own_slR2 OW.out) (fun _ _ => rfl)).mono ?_
  rintro e w_ ⟨rfl, hb⟩
  have OW := Lib.hid (own_below OW.out hb)
  have OG := Lib.hid (own_below OG.out hb)
  have OH := Lib.hid (own_below OH.out hb)
  have BB := Lib.hid (BB.out.trans (hb.mono BB.out.size))
  have hzz := BB.out.size
  clear hb
  clear OH
  clear OW
  go_wp2_with fail
  refine (heldFileS_any _ m _ _ _ hm (by omega) (by omega) (own_slR2 OG.out)).mono ?_
  rintro e w_ ⟨rfl, hb⟩
  have OG := Lib.hid (own_below OG.out hb)
  have BB := Lib.hid (BB.out.trans (hb.mono BB.out.size))
  have hzz := BB.out.size
  clear hb
  go_wp2
  go_ret
  exact ⟨rfl, BB.out⟩
theorem law_big0 (s : ByteArray) (w : World) (h : 1048576 < s.size) :
    Calls Try.prog 3 #[.string s] w fun e w' => e = .returned (.bool true) ∧ Below w.heap.size w w' := by
  go_enter Try.func3, Try.ntmps3
  go_wp2
  go_ret
  exact ⟨rfl, Below.refl _ _⟩
theorem walk (H : Type) (enc : TypeId × Value → H) (W : World) (base : Nat) (args : Array Value) (ds : List (DataW H)) (p : List MemPlace)
    (hval : ∀ (j : Nat) t v, Try.f3.params[j]? = some t → args[j]? = some v → Value.okWide Try.prog W .any base t v)
    (hA : DataW.TrodAll enc Try.prog W 0 (fun _ => true) true Try.f3.params.toList args.toList ds p) :
    Calls Try.prog 3 args W fun e W' => e = .returned (.bool true) ∧ Below W.heap.size W W' := by
  rw [Try.params3] at hA hval
  obtain ⟨v0, vs0, d0, ds0, p0, q0, hargs, rfl, rfl, h0, r0⟩ := trodAll_cons hA
  obtain ⟨rfl, rfl, rfl⟩ := trodAll_nil r0
  obtain rfl : args = #[v0] := by cases args; simp_all
  obtain ⟨s0, rfl, rfl, rfl, m0⟩ := open_string Try.underlying9 (hval 0 9 v0 rfl rfl) h0
  obtain ⟨s, rfl⟩ : ∃ z, z = s0 := ⟨_, rfl⟩
  by_cases hzs : s.size ≤ 1048576
  · skip
    have hS := fun (w : World) => specReadFiles_any (w := w) (s := s) (by omega)
    have hI := fun (w : World) => (callsIn_wide (n := 4)).1 (implReadFiles_in 4 (by omega) s (by omega) w)
    by_cases hex : ∃ L, IsText s L
    · obtain ⟨L, hL⟩ := hex
      have hl : L.length ≤ 1048576 := by have := hL.1.1; omega
      exact law s L.length (nthF L) true W hl hzs (fun w => (hS w).mono fun r w' h => RfOut.is hL h) (fun w => (hI w).mono fun r w' h => RfOut.is hL h)
    · exact law s 0 (nthF []) false W (by omega) hzs (fun w => (hS w).mono fun r w' h => RfOut.no hex h) (fun w => (hI w).mono fun r w' h => RfOut.no hex h)
  · exact law_big0 s W (by omega)
theorem own : ownKnob Try.prog.godebug = none := by kernel_rfl
theorem laidOut : laidOutB Try.prog = true := by kernel_rfl
theorem lifted (os : Os) (started : os.Started) (H : Type) (enc : TypeId × Value → H) :
    ReturnsInHanded {} Try.checked os 3 .any (Rows.fnExactReadFilesSpec.pre6 enc Try.prog Try.f3 Rows.fnExactReadFilesRow.domain false) (Rows.fnExactReadFilesSpec.post enc Try.prog Try.f3 false true false false) := by
  refine returnsInHanded_of_change (C := Try.checked) own started (by kernel_rfl) Try.func3
    (ChangeSpec.witness6 (enc := enc) (C := Try.checked) false ⟨#[], #[.string .empty], []⟩ 8 (by kernel_rfl) (by kernel_rfl) (by kernel_rfl) (by kernel_rfl)) ?_
  intro W base args ds gs before hval hW _ _
  have hW' := hW
  obtain ⟨p, q, hA, hV, rfl, hfz, hnd⟩ := hW
  refine (walk H enc W base args ds p hval hA).mono fun e W' ⟨he, hb⟩ => ?_
  subst he
  exact ⟨_, rfl, law_post laidOut (by kernel_rfl) rfl rfl Try.underlying4 (fun xs hx => by
      match xs, hx with
      | [x0], _ => exact ⟨rfl, rfl, rfl⟩) hW' hb⟩
theorem over : Rows.fnExactReadFilesRow.holds Try.pinned (OpenSpec.ofChange Rows.fnExactReadFilesSpec) :=
  OpenClaim.holds_of_wide 3 Try.f3 rfl rfl rfl rfl rfl rfl rfl ⟨rfl, rfl, rfl, rfl, rfl⟩ rfl rfl rfl rfl rfl (by kernel_rfl) Try.func3 (by kernel_rfl)
    (of_decide_eq_true (by kernel_rfl)) (by unfold Func.isWrapper; first | (rw [if_pos (by decide +kernel)]; kernel_rfl) | (rw [if_neg (by decide +kernel)]; exact ⟨rfl, rfl⟩))
    (fun os started H enc _ => lifted os started H enc)
/-- the given statement -/
theorem proved : Rows.FnExactReadFilesSaid := over
end Go.Proofs.Ytigemmahnmcbdaa.fnExactReadFiles
