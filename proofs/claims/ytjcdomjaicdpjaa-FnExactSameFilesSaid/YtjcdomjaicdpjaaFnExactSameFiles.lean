/-
  The program's SameFiles returns what the reference's returns, for all arguments. Conditions: none.
-/
import Derived.Test.YtjcdomjaicdpjaaRows
import Derived.Test.YtjcdomjaicdpjaaFiles
namespace Go.Proofs.Ytjcdomjaicdpjaa.fnExactSameFiles
open Go Go.ChangeShapes Go.WideShapes Go.ChangeAt Go.RowKit lib
set_option linter.unusedVariables false
set_option maxRecDepth 100000
/-- a list that came in, weighed within the bound -/
theorem law_ok (A B : Option Addr) (n m c d : Nat) (s t : Nat → ByteArray) (w : World) (hs : Sl w w.heap.size A (n * 2) (fun i => .string (s i))) (ht : Sl w w.heap.size B (m * 2) (fun i => .string (t i)))
    (h : n + tot s (n * 2) + (m + tot t (m * 2)) ≤ 1048576) :
    Calls Try.prog 7 #[.slice A n c, .slice B m d] w fun e w' => e = .returned (.bool true) ∧ Below w.heap.size w w' := by
  go_enter Try.func7, Try.ntmps7
  go_wp2_with fail
  refine (szFileS_ok A n c _ s _ (by omega) hs (by omega)).mono ?_
  rintro e w1 ⟨rfl, hb1⟩
  have B1 : Below w.heap.size w w1 := hb1
  go_wp2_with fail
  refine (szFileS_ok B m d _ t _ (by omega) ((ht.below B1).more B1.size) (by omega)).mono ?_
  rintro e w2 ⟨rfl, hb2⟩
  have B2 := B1.trans (hb2.mono B1.size)
  clear hb1 hb2 B1
  go_wp2_with fail
  refine (toFileS_any A n c s _ (by omega) ((hs.below B2).more B2.size)).mono ?_
  rintro e w3 ⟨g3, c3, rfl, hg3, r3, f3, hb3⟩
  have B3 := B2.trans (hb3.mono B2.size)
  go_wp2_with fail
  refine (toFileS_any B m d t _ (by omega) ((ht.below B3).more B3.size)).mono ?_
  rintro e w4 ⟨g4, c4, rfl, hg4, r4, f4, hb4⟩
  have B4 := B3.trans (hb4.mono B3.size)
  have r34 := r3.below hb4 r3.lt
  go_wp2_with fail
  refine (specSameFiles_any _ _ n m n m s t _ (by omega) (by omega) (r34.sl f3) (r4.sl f4)).mono ?_
  rintro e w5 ⟨rfl, hb5⟩
  have B5 := B4.trans (hb5.mono B4.size)
  clear hb3 hb4 hb5 r34 r3 r4 f3 f4 B2 B3 B4
  go_wp2_with fail
  refine (toFileS_any A n c s _ (by omega) ((hs.below B5).more B5.size)).mono ?_
  rintro e w6 ⟨g6, c6, rfl, hg6, r6, f6, hb6⟩
  have B6 := B5.trans (hb6.mono B5.size)
  go_wp2_with fail
  refine (toFileS_any B m d t _ (by omega) ((ht.below B6).more B6.size)).mono ?_
  rintro e w7 ⟨g7, c7, rfl, hg7, r7, f7, hb7⟩
  have B7 := B6.trans (hb7.mono B6.size)
  have r67 := r6.below hb7 r6.lt
  clear hb6 hb7 B5 B6 r6
  go_wp2_with fail
  refine (implSameFiles_any _ _ n m n m s t _ (by omega) (by omega) (r67.sl f6) (r7.sl f7)).mono ?_
  rintro e w8 ⟨rfl, hb8⟩
  have B8 := B7.trans (hb8.mono B7.size)
  have r68 := r67.below hb8 r67.lt
  have r78 := r7.below hb8 r7.lt
  clear hb8 B7 r67 r7
  go_wp2_with fail
  refine (toFileS_any A n c s _ (by omega) ((hs.below B8).more B8.size)).mono ?_
  rintro e w9 ⟨g9, c9, rfl, hg9, r9, f9, hb9⟩
  have B9 := B8.trans (hb9.mono B8.size)
  have r69 := r68.below hb9 r68.lt
  have r79 := r78.below hb9 r78.lt
  clear hb9 B8 r68 r78
  go_wp2_with fail
  refine (eqFileS_same _ _ n n n s s _ (by omega) (r69.sl f6) (r9.sl f9) (fun _ _ => rfl)).mono ?_
  rintro e wa ⟨rfl, hba⟩
  have Ba := B9.trans (hba.mono B9.size)
  have r7a := r79.below hba r79.lt
  clear hba B9 r69 r79 r9 f9 f6
  go_wp2_with fail
  refine (toFileS_any B m d t _ (by omega) ((ht.below Ba).more Ba.size)).mono ?_
  rintro e wb ⟨gb, cb, rfl, hgb, rb, fb, hbb⟩
  have Bb := Ba.trans (hbb.mono Ba.size)
  have r7b := r7a.below hbb r7a.lt
  clear hbb Ba r7a
  go_wp2_with fail
  refine (eqFileS_same _ _ m m m t t _ (by omega) (r7b.sl f7) (rb.sl fb) (fun _ _ => rfl)).mono ?_
  rintro e wc ⟨rfl, hbc⟩
  have Bc := Bb.trans (hbc.mono Bb.size)
  go_wp2
  go_ret
  exact ⟨rfl, Bc⟩
theorem law_over1 (A B : Option Addr) (n m c d : Nat) (s : Nat → ByteArray) (w : World) (hn : n ≤ 9223372036854775807) (hs : Sl w w.heap.size A (n * 2) (fun i => .string (s i)))
    (hm : ∀ i, i < n * 2 → (s i).size ≤ 9223372036854775807) (h : 1048576 < n + tot s (n * 2)) :
    Calls Try.prog 7 #[.slice A n c, .slice B m d] w fun e w' => e = .returned (.bool true) ∧ Below w.heap.size w w' := by
  go_enter Try.func7, Try.ntmps7
  go_wp2_with fail
  refine (szFileS_over A n c _ s _ (by omega) hn hs hm (by omega) (by omega)).mono ?_
  rintro e w1 ⟨rfl, hb1⟩
  go_wp2
  go_ret
  exact ⟨rfl, hb1⟩
theorem law_over2 (A B : Option Addr) (n m c d : Nat) (s t : Nat → ByteArray) (w : World) (hn : m ≤ 9223372036854775807) (hs : Sl w w.heap.size A (n * 2) (fun i => .string (s i))) (ht : Sl w w.heap.size B (m * 2) (fun i => .string (t i)))
    (hm : ∀ i, i < m * 2 → (t i).size ≤ 9223372036854775807) (h0 : n + tot s (n * 2) ≤ 1048576) (h : 1048576 < n + tot s (n * 2) + (m + tot t (m * 2))) :
    Calls Try.prog 7 #[.slice A n c, .slice B m d] w fun e w' => e = .returned (.bool true) ∧ Below w.heap.size w w' := by
  go_enter Try.func7, Try.ntmps7
  go_wp2_with fail
  refine (szFileS_ok A n c _ s _ (by omega) hs (by omega)).mono ?_
  rintro e w1 ⟨rfl, hb1⟩
  go_wp2_with fail
  refine (szFileS_over B m d _ t _ (by omega) hn ((ht.below hb1).more hb1.size) hm (by omega) (by omega)).mono ?_
  rintro e w2 ⟨rfl, hb2⟩
  go_wp2
  go_ret
  exact ⟨rfl, hb1.trans (hb2.mono hb1.size)⟩
theorem walk (H : Type) (enc : TypeId × Value → H) (W : World) (base : Nat) (args : Array Value) (ds : List (DataW H)) (p : List MemPlace)
    (hval : ∀ (j : Nat) t v, Try.f7.params[j]? = some t → args[j]? = some v → Value.okWide Try.prog W .any base t v)
    (hA : DataW.TrodAll enc Try.prog W 0 (fun _ => true) true Try.f7.params.toList args.toList ds p) :
    Calls Try.prog 7 args W fun e W' => e = .returned (.bool true) ∧ Below W.heap.size W W' := by
  rw [Try.params7] at hA hval
  obtain ⟨v0, vs0, d0, ds0, p0, q0, hargs, rfl, rfl, h0, r0⟩ := trodAll_cons hA
  obtain ⟨v1, vs1, d1, ds1, p1, q1, rfl, rfl, rfl, h1, r1⟩ := trodAll_cons r0
  obtain ⟨rfl, rfl, rfl⟩ := trodAll_nil r1
  obtain rfl : args = #[v0, v1] := by cases args; simp_all
  obtain ⟨A, n, c, s, rfl, g1, g2, hs, hm⟩ := open_sl_str2 Try.underlying30 Try.underlying44 (by kernel_rfl) (by kernel_rfl) Try.underlying9 Try.underlying9 (hval 0 30 v0 rfl rfl) h0
  obtain ⟨B, m, d, t, rfl, g3, g4, ht, hm'⟩ := open_sl_str2 Try.underlying30 Try.underlying44 (by kernel_rfl) (by kernel_rfl) Try.underlying9 Try.underlying9 (hval 1 30 v1 rfl rfl) h1
  by_cases h1 : n + tot s (n * 2) ≤ 1048576
  · by_cases h2 : n + tot s (n * 2) + (m + tot t (m * 2)) ≤ 1048576
    · exact law_ok A B n m c d s t W hs ht h2
    · exact law_over2 A B n m c d s t W (by omega) hs ht hm' h1 (by omega)
  · exact law_over1 A B n m c d s W (by omega) hs hm (by omega)
theorem own : ownKnob Try.prog.godebug = none := by kernel_rfl
theorem laidOut : laidOutB Try.prog = true := by kernel_rfl
theorem lifted (os : Os) (started : os.Started) (H : Type) (enc : TypeId × Value → H) :
    ReturnsInHanded {} Try.checked os 7 .any (Rows.fnExactSameFilesSpec.pre6 enc Try.prog Try.f7 Rows.fnExactSameFilesRow.domain false) (Rows.fnExactSameFilesSpec.post enc Try.prog Try.f7 false true false false) := by
  refine returnsInHanded_of_change (C := Try.checked) own started (by kernel_rfl) Try.func7
    (ChangeSpec.witness6 (enc := enc) (C := Try.checked) false ⟨#[], #[.slice none 0 0, .slice none 0 0], []⟩ 8 (by kernel_rfl) (by kernel_rfl) (by kernel_rfl) (by kernel_rfl)) ?_
  intro W base args ds gs before hval hW _ _
  have hW' := hW
  obtain ⟨p, q, hA, hV, rfl, hfz, hnd⟩ := hW
  refine (walk H enc W base args ds p hval hA).mono fun e W' ⟨he, hb⟩ => ?_
  subst he
  exact ⟨_, rfl, law_post laidOut (by kernel_rfl) rfl rfl Try.underlying4 (fun xs hx => by
      match xs, hx with
      | [x0, x1], _ => exact ⟨rfl, rfl, rfl⟩) hW' hb⟩
theorem over : Rows.fnExactSameFilesRow.holds Try.pinned (OpenSpec.ofChange Rows.fnExactSameFilesSpec) :=
  OpenClaim.holds_of_wide 7 Try.f7 rfl rfl rfl rfl rfl rfl rfl ⟨rfl, rfl, rfl, rfl, rfl⟩ rfl rfl rfl rfl rfl (by kernel_rfl) Try.func7 (by kernel_rfl)
    (of_decide_eq_true (by kernel_rfl)) (by unfold Func.isWrapper; first | (rw [if_pos (by decide +kernel)]; kernel_rfl) | (rw [if_neg (by decide +kernel)]; exact ⟨rfl, rfl⟩))
    (fun os started H enc _ => lifted os started H enc)
/-- the given statement -/
theorem proved : Rows.FnExactSameFilesSaid := over
end Go.Proofs.Ytjcdomjaicdpjaa.fnExactSameFiles
