/-
  The program's FilesText returns what the reference's returns, for all arguments. Conditions: none.
-/
import Derived.Test.YtcbebhigbafigaaRows
import Derived.Test.YtcbebhigbafigaaFtT
namespace Go.Proofs.Ytcbebhigbafigaa.fnExactFilesText
open Go Go.ChangeShapes Go.WideShapes Go.ChangeAt Go.RowKit lib
set_option linter.unusedVariables false
set_option maxRecDepth 100000
theorem tot_at {s : Nat → ByteArray} : ∀ (n i : Nat), i < n → (s i).size ≤ tot s n
  | 0, i, h => absurd h (by omega)
  | n + 1, i, h => by
    have hs : tot s (n + 1) = tot s n + (s n).size := rfl
    rcases Nat.lt_or_ge i n with h1 | h1
    · have := tot_at (s := s) n i h1
      omega
    · obtain rfl : i = n := by omega
      omega
theorem law_ok (A : Option Addr) (n c : Nat) (s : Nat → ByteArray) (w : World) (hs : Sl w w.heap.size A (n * 2) (fun i => .string (s i))) (h : n + tot s (n * 2) ≤ 1048576) :
    Calls Try.prog 3 #[.slice A n c] w fun e w' => e = .returned (.bool true) ∧ Below w.heap.size w w' := by
  have hsz : ∀ i, i < n * 2 → (s i).size ≤ 1048576 := fun i hi => by have := tot_at (s := s) _ i hi; omega
  have HSZ := Lib.hid hsz
  clear hsz
  go_enter Try.func3, Try.ntmps3
  go_wp2_with fail
  refine (szFileS_ok A n c _ s _ (by omega) hs (by omega)).mono ?_
  rintro e w2 ⟨rfl, hb2⟩
  have B2 : Below w.heap.size w w2 := hb2
  go_wp2_with fail
  refine (toFileS_any A n c s _ (by omega) ((hs.below B2).more B2.size)).mono ?_
  rintro e w3 ⟨g3, c3, rfl, hg3, r3, f3, hb3⟩
  have B3 := B2.trans (hb3.mono B2.size)
  go_wp2_with fail
  refine (specFilesText_any _ n n s _ (by omega) HSZ.out (r3.sl f3)).mono ?_
  rintro e w5 ⟨rfl, hb5⟩
  have B5 := B3.trans (hb5.mono B3.size)
  clear hb3 hb5 r3 f3 B2 B3
  go_wp2_with fail
  refine (toFileS_any A n c s _ (by omega) ((hs.below B5).more B5.size)).mono ?_
  rintro e w6 ⟨g6, c6, rfl, hg6, r6, f6, hb6⟩
  have B6 := B5.trans (hb6.mono B5.size)
  go_wp2_with fail
  refine (implFilesText_any _ n n s _ (by omega) HSZ.out (r6.sl f6)).mono ?_
  rintro e w8 ⟨rfl, hb8⟩
  have B8 := B6.trans (hb8.mono B6.size)
  have r68 := r6.below hb8 r6.lt
  clear hb6 hb8 B5 B6 r6
  go_wp2_with fail
  refine (toFileS_any A n c s _ (by omega) ((hs.below B8).more B8.size)).mono ?_
  rintro e w9 ⟨g9, c9, rfl, hg9, r9, f9, hb9⟩
  have B9 := B8.trans (hb9.mono B8.size)
  have r69 := r68.below hb9 r68.lt
  clear hb9 B8 r68
  go_wp2_with fail
  refine (eqFileS_same _ _ n n n s s _ (by omega) (r69.sl f6) (r9.sl f9) (fun _ _ => rfl)).mono ?_
  rintro e wa ⟨rfl, hba⟩
  have Ba := B9.trans (hba.mono B9.size)
  go_wp2
  go_ret
  exact ⟨rfl, Ba⟩
theorem law_over (A : Option Addr) (n c : Nat) (s : Nat → ByteArray) (w : World) (hn : n ≤ 9223372036854775807) (hs : Sl w w.heap.size A (n * 2) (fun i => .string (s i)))
    (hm : ∀ i, i < n * 2 → (s i).size ≤ 9223372036854775807) (h : 1048576 < n + tot s (n * 2)) :
    Calls Try.prog 3 #[.slice A n c] w fun e w' => e = .returned (.bool true) ∧ Below w.heap.size w w' := by
  go_enter Try.func3, Try.ntmps3
  go_wp2_with fail
  refine (szFileS_over A n c _ s _ (by omega) hn hs hm (by omega) (by omega)).mono ?_
  rintro e w1 ⟨rfl, hb1⟩
  go_wp2
  go_ret
  exact ⟨rfl, hb1⟩
theorem walk (H : Type) (enc : TypeId × Value → H) (W : World) (base : Nat) (args : Array Value) (ds : List (DataW H)) (p : List MemPlace)
    (hval : ∀ (j : Nat) t v, Try.f3.params[j]? = some t → args[j]? = some v → Value.okWide Try.prog W .any base t v)
    (hA : DataW.TrodAll enc Try.prog W 0 (fun _ => true) true Try.f3.params.toList args.toList ds p) :
    Calls Try.prog 3 args W fun e W' => e = .returned (.bool true) ∧ Below W.heap.size W W' := by
  rw [Try.params3] at hA hval
  obtain ⟨v0, vs0, d0, ds0, p0, q0, hargs, rfl, rfl, h0, r0⟩ := trodAll_cons hA
  obtain ⟨rfl, rfl, rfl⟩ := trodAll_nil r0
  obtain rfl : args = #[v0] := by cases args; simp_all
  obtain ⟨A, n, c, s, rfl, g1, g2, hs, hm⟩ := open_sl_str2 Try.underlying22 Try.underlying31 (by kernel_rfl) (by kernel_rfl) Try.underlying9 Try.underlying9 (hval 0 22 v0 rfl rfl) h0
  by_cases h1 : n + tot s (n * 2) ≤ 1048576
  · exact law_ok A n c s W hs h1
  · exact law_over A n c s W (by omega) hs hm (by omega)
theorem own : ownKnob Try.prog.godebug = none := by kernel_rfl
theorem laidOut : laidOutB Try.prog = true := by kernel_rfl
theorem lifted (os : Os) (started : os.Started) (H : Type) (enc : TypeId × Value → H) :
    ReturnsInHanded {} Try.checked os 3 .any (Rows.fnExactFilesTextSpec.pre6 enc Try.prog Try.f3 Rows.fnExactFilesTextRow.domain false) (Rows.fnExactFilesTextSpec.post enc Try.prog Try.f3 false true false false) := by
  refine returnsInHanded_of_change (C := Try.checked) own started (by kernel_rfl) Try.func3
    (ChangeSpec.witness6 (enc := enc) (C := Try.checked) false ⟨#[], #[.slice none 0 0], []⟩ 8 (by kernel_rfl) (by kernel_rfl) (by kernel_rfl) (by kernel_rfl)) ?_
  intro W base args ds gs before hval hW _ _
  have hW' := hW
  obtain ⟨p, q, hA, hV, rfl, hfz, hnd⟩ := hW
  refine (walk H enc W base args ds p hval hA).mono fun e W' ⟨he, hb⟩ => ?_
  subst he
  exact ⟨_, rfl, law_post laidOut (by kernel_rfl) rfl rfl Try.underlying4 (fun xs hx => by
      match xs, hx with
      | [x0], _ => exact ⟨rfl, rfl, rfl⟩) hW' hb⟩
theorem over : Rows.fnExactFilesTextRow.holds Try.pinned (OpenSpec.ofChange Rows.fnExactFilesTextSpec) :=
  OpenClaim.holds_of_wide 3 Try.f3 rfl rfl rfl rfl rfl rfl rfl ⟨rfl, rfl, rfl, rfl, rfl⟩ rfl rfl rfl rfl rfl (by kernel_rfl) Try.func3 (by kernel_rfl)
    (of_decide_eq_true (by kernel_rfl)) (by unfold Func.isWrapper; first | (rw [if_pos (by decide +kernel)]; kernel_rfl) | (rw [if_neg (by decide +kernel)]; exact ⟨rfl, rfl⟩))
    (fun os started H enc _ => lifted os started H enc)
/-- the given statement -/
theorem proved : Rows.FnExactFilesTextSaid := over
end Go.Proofs.Ytcbebhigbafigaa.fnExactFilesText
