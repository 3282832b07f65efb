/-
  A problem's text: the reference's side.
-/
import Derived.Test.YtcbiaeniagacfaaDoorPbP
import Derived.Test.YtcbiaeniagacfaaDoorShelf
import Derived.Lib.AppendIntMem
import Derived.Deep.RegionHeld3
import Derived.Deep.CutBlock
namespace Go.Proofs.YtcbiaeniagacfaaDoor
open Go Go.ChangeShapes Go.WideShapes Go.ChangeAt Go.RowKit Go.Joins lib
set_option linter.unusedVariables false
set_option linter.unusedSimpArgs false
set_option maxRecDepth 100000
theorem wpAnyH_weak {P : Program} {md : Region.Mode} {ops : Array Oper} {Q : Exit → Act → World → Prop} {S S2 : World → Prop} (h : ∀ w, S2 w → S w) :
    ∀ (fuel : Nat) (listed : Array Bool) (a : Act) (w : World), wpAnyH P md ops Q S2 fuel listed a w → wpAnyH P md ops Q S fuel listed a w
  | 0, _, _, _, x => x
  | fuel + 1, _, _, _, x => ⟨x.1, fun i hi => wpOp_mono (fun a' w' y => ⟨h _ y.1, wpAnyH_weak h fuel _ a' w' y.2⟩) (x.2 i hi)⟩
theorem l19Words_any (w : World) : Calls Tryd.prog 9 #[] w fun e w' => ∃ p, e = .returned (.slice (some ⟨p, 0, none⟩) 11 11) ∧ p < w'.heap.size ∧ (∀ k, k < 11 → w'.cell? ⟨p, k, none⟩ = some (.string (wordAt k))) ∧ Below w.heap.size w w' := by
  go_enter Tryd.func9, Tryd.ntmps9
  go_wp2_with fail
  go_ret
  refine ⟨_, rfl, by simp, fun k hk => ?_, (Below.refl _ _).alloc (Nat.le_refl _) _⟩
  have : k = 0 ∨ k = 1 ∨ k = 2 ∨ k = 3 ∨ k = 4 ∨ k = 5 ∨ k = 6 ∨ k = 7 ∨ k = 8 ∨ k = 9 ∨ k = 10 := by omega
  rcases this with rfl | rfl | rfl | rfl | rfl | rfl | rfl | rfl | rfl | rfl | rfl <;> (rw [World.cell?_alloc_new]; rfl)
theorem specPb_bad (a b c : Int) (h : ¬ pbOk a b c) (w : World) : Calls Tryd.prog 10 #[cpV a b c] w fun e w' => e = .returned (.string ⟨#[]⟩) ∧ Below w.heap.size w w' := by
  have hc : (decide ((1 : Int) ≤ a) && decide (a ≤ 10)) = false ∨ ((decide ((1 : Int) ≤ a) && decide (a ≤ 10)) = true ∧ (decide ((0 : Int) ≤ b) && decide (b ≤ 15)) = false) ∨ ((decide ((1 : Int) ≤ a) && decide (a ≤ 10)) = true ∧ (decide ((0 : Int) ≤ b) && decide (b ≤ 15)) = true ∧ (decide ((0 : Int) ≤ c) && decide (c ≤ 127)) = false) := by
    cases h1 : (decide ((1 : Int) ≤ a) && decide (a ≤ 10))
    · exact .inl rfl
    · cases h2 : (decide ((0 : Int) ≤ b) && decide (b ≤ 15))
      · exact .inr (.inl ⟨rfl, rfl⟩)
      · cases h3 : (decide ((0 : Int) ≤ c) && decide (c ≤ 127))
        · exact .inr (.inr ⟨rfl, rfl, rfl⟩)
        · exfalso
          simp only [Bool.and_eq_true, decide_eq_true_eq] at h1 h2 h3
          exact h ⟨h1, h2, h3⟩
  clear h
  unfold cpV
  rcases hc with h1 | ⟨h1, h2⟩ | ⟨h1, h2, h3⟩
  · have H1 := Lib.hid h1
    clear h1
    go_enter Tryd.func10, Tryd.ntmps10
    go_wp2_with (go_at_call 15; refine (l00In_any _ _ _ _).mono ?_; rw [H1.out]; rintro e w' ⟨rfl, rfl⟩)
    go_ret
    exact ⟨rfl, (Below.refl _ _).alloc (Nat.le_refl _) _⟩
  · have H1 := Lib.hid h1
    have H2 := Lib.hid h2
    clear h1 h2
    go_enter Tryd.func10, Tryd.ntmps10
    go_wp2_with (go_at_call 15; refine (l00In_any _ _ _ _).mono ?_; (first | rw [H1.out] | rw [H2.out]); rintro e w' ⟨rfl, rfl⟩)
    go_ret
    exact ⟨rfl, (Below.refl _ _).alloc (Nat.le_refl _) _⟩
  · have H1 := Lib.hid h1
    have H2 := Lib.hid h2
    have H3 := Lib.hid h3
    clear h1 h2 h3
    go_enter Tryd.func10, Tryd.ntmps10
    go_wp2_with (go_at_call 15; refine (l00In_any _ _ _ _).mono ?_; (first | rw [H1.out] | rw [H2.out] | rw [H3.out]); rintro e w' ⟨rfl, rfl⟩)
    go_ret
    exact ⟨rfl, (Below.refl _ _).alloc (Nat.le_refl _) _⟩
set_option maxHeartbeats 8000000 in
theorem specPb_ok (k e c : Nat) (h1 : 1 ≤ k) (h2 : k ≤ 10) (h3 : e ≤ 15) (h4 : c ≤ 127) (w : World) : Calls Tryd.prog 10 #[cpV k e c] w fun r w' => r = .returned (.string (pbT k e c)) ∧ Below w.heap.size w w' := by
  have H1 := Lib.hid (show (decide ((1 : Int) ≤ k) && decide ((k : Int) ≤ 10)) = true by simp; omega)
  have H2 := Lib.hid (show (decide ((0 : Int) ≤ e) && decide ((e : Int) ≤ 15)) = true by simp; omega)
  have H3 := Lib.hid (show (decide ((0 : Int) ≤ c) && decide ((c : Int) ≤ 127)) = true by simp; omega)
  have HE := Lib.hid (fun (x : Int) (W : World) (hx : x = (e : Int)) => show Calls Tryd.prog 16 #[.int .i64 x] W fun e' w' => e' = .returned (.string (decT e)) ∧ Below W.heap.size W w' by rw [hx]; exact l09Dec_any e (by omega) W)
  have HC := Lib.hid (fun (x : Int) (W : World) (hx : x = (c : Int)) => show Calls Tryd.prog 16 #[.int .i64 x] W fun e' w' => e' = .returned (.string (decT c)) ∧ Below W.heap.size W w' by rw [hx]; exact l09Dec_any c (by omega) W)
  have hk : k < 11 := by omega
  have hki : (k : Int) < 11 := by omega
  have z1 := wordAt_size k hk
  have z2 := decT_size e
  have z3 := decT_size c
  have hpb : wordAt k ++ ⟨#[32]⟩ ++ decT e ++ ⟨#[32]⟩ ++ decT c = pbT k e c := rfl
  obtain ⟨X, hX⟩ : ∃ X, pbT k e c = X := ⟨_, rfl⟩
  rw [hX] at hpb ⊢
  obtain ⟨V, hV⟩ : ∃ V, wordAt k = V := ⟨_, rfl⟩
  have HV := Lib.hid hV
  rw [hV] at hpb z1
  obtain ⟨E, hE⟩ : ∃ E, decT e = E := ⟨_, rfl⟩
  rw [hE] at hpb z2 HE
  obtain ⟨D, hD⟩ : ∃ D, decT c = D := ⟨_, rfl⟩
  rw [hD] at hpb z3 HC
  have s1 : (⟨#[32]⟩ : ByteArray).size = 1 := rfl
  have a1 : ∀ W : World, (Op.stringOp .add V ⟨#[32]⟩).run Tryd.prog W = .ok (.string (V ++ ⟨#[32]⟩)) W := fun W => run_string_add_sum _ _ _ (by omega)
  have a2 : ∀ W : World, (Op.stringOp .add (V ++ ⟨#[32]⟩) E).run Tryd.prog W = .ok (.string (V ++ ⟨#[32]⟩ ++ E)) W := fun W => run_string_add_sum _ _ _ (by simp only [ByteArray.size_append]; omega)
  have a3 : ∀ W : World, (Op.stringOp .add (V ++ ⟨#[32]⟩ ++ E) ⟨#[32]⟩).run Tryd.prog W = .ok (.string (V ++ ⟨#[32]⟩ ++ E ++ ⟨#[32]⟩)) W := fun W => run_string_add_sum _ _ _ (by simp only [ByteArray.size_append]; omega)
  have a4 : ∀ W : World, (Op.stringOp .add (V ++ ⟨#[32]⟩ ++ E ++ ⟨#[32]⟩) D).run Tryd.prog W = .ok (.string X) W := fun W => by rw [run_string_add_sum _ _ _ (by simp only [ByteArray.size_append]; omega), hpb]
  have B0 : Below w.heap.size w (w.alloc (.cells #[.int .i64 k, .int .i64 e, .int .i64 c] 23)) := (Below.refl _ _).alloc (Nat.le_refl _) _
  have R0 := Lib.hid (Rw.new w 23 #[.int .i64 k, .int .i64 e, .int .i64 c])
  have c0 := R0.out.cell 0
  have c1 := R0.out.cell 1
  have c2 := R0.out.cell 2
  have BB := Lib.hid B0
  clear hX hV hE hD hpb B0
  have keep1 : ∀ a b : World, (a.cell? ⟨w.heap.size, 0, none⟩ = some (.int .i64 k) ∧ a.cell? ⟨w.heap.size, 1, none⟩ = some (.int .i64 e) ∧ a.cell? ⟨w.heap.size, 2, none⟩ = some (.int .i64 c) ∧ Below w.heap.size w a ∧ w.heap.size < a.heap.size) → Below a.heap.size a b →
      (b.cell? ⟨w.heap.size, 0, none⟩ = some (.int .i64 k) ∧ b.cell? ⟨w.heap.size, 1, none⟩ = some (.int .i64 e) ∧ b.cell? ⟨w.heap.size, 2, none⟩ = some (.int .i64 c) ∧ Below w.heap.size w b ∧ w.heap.size < b.heap.size) := fun a b h hb =>
    ⟨(hb.cell (p := ⟨w.heap.size, 0, none⟩) h.2.2.2.2).trans h.1, (hb.cell (p := ⟨w.heap.size, 1, none⟩) h.2.2.2.2).trans h.2.1, (hb.cell (p := ⟨w.heap.size, 2, none⟩) h.2.2.2.2).trans h.2.2.1, h.2.2.2.1.trans (hb.mono h.2.2.2.1.size), Nat.lt_of_lt_of_le h.2.2.2.2 hb.size⟩
  have S0 := Lib.hid (show (w.alloc (.cells #[.int .i64 k, .int .i64 e, .int .i64 c] 23)).cell? ⟨w.heap.size, 0, none⟩ = some (.int .i64 k) ∧ (w.alloc (.cells #[.int .i64 k, .int .i64 e, .int .i64 c] 23)).cell? ⟨w.heap.size, 1, none⟩ = some (.int .i64 e) ∧ (w.alloc (.cells #[.int .i64 k, .int .i64 e, .int .i64 c] 23)).cell? ⟨w.heap.size, 2, none⟩ = some (.int .i64 c) ∧ Below w.heap.size w (w.alloc (.cells #[.int .i64 k, .int .i64 e, .int .i64 c] 23)) ∧ w.heap.size < (w.alloc (.cells #[.int .i64 k, .int .i64 e, .int .i64 c] 23)).heap.size from ⟨c0, c1, c2, BB.out, R0.out.lt⟩)
  clear c0 c1 c2
  unfold cpV
  go_enter Tryd.func10, Tryd.ntmps10
  go_upto_region 3 with (go_at_call 15; refine (l00In_any _ _ _ _).mono ?_; (first | rw [H1.out] | rw [H2.out] | rw [H3.out]); rintro e w' ⟨rfl, rfl⟩)
  generalize w.alloc (.cells #[.int .i64 k, .int .i64 e, .int .i64 c] 23) = W1 at *
  have hc0 := S0.out
  have hc1 := keep1 _ _ S0.out (Below.refl _ W1).drew
  refine wp_region_held_drew (S := (fun w' => w'.cell? ⟨w.heap.size, 0, none⟩ = some (.int .i64 k) ∧ w'.cell? ⟨w.heap.size, 1, none⟩ = some (.int .i64 e) ∧ w'.cell? ⟨w.heap.size, 2, none⟩ = some (.int .i64 c) ∧ Below w.heap.size w w' ∧ w.heap.size < w'.heap.size)) (by kernel_rfl) hc1 (fun hHeld => ?_)
  refine wpAnyH_take (i := 1) (v := ?v1) rfl (by kernel_rfl) (by kernel_rfl) (by kernel_rfl) (fun _ _ _ h => h) (Or.inl ⟨by rfl, ?hy1⟩) (by assumption) ?rest1
  case hy1 => (intro w hSw; (try dsimp only at hSw); go_simp; try with_reducible rfl)
  case rest1 =>
  try simp only [Act.put, List.setIfInBounds_toArray, List.set_cons_zero, List.set_cons_succ]
  refine wpAnyH_take (i := 2) (v := ?v2) rfl (by kernel_rfl) (by kernel_rfl) (by kernel_rfl) (fun _ _ _ h => h) (Or.inl ⟨by rfl, ?hy2⟩) (by assumption) ?rest2
  case hy2 => (intro w hSw; (try dsimp only at hSw); go_simp; try with_reducible rfl)
  case rest2 =>
  try simp only [Act.put, List.setIfInBounds_toArray, List.set_cons_zero, List.set_cons_succ]
  refine wpAnyH_take (i := 6) (v := ?v6) rfl (by kernel_rfl) (by kernel_rfl) (by kernel_rfl) (fun _ _ _ h => h) (Or.inl ⟨by rfl, ?hy6⟩) (by assumption) ?rest6
  case hy6 => (intro w hSw; (try dsimp only at hSw); go_simp; try with_reducible rfl)
  case rest6 =>
  try simp only [Act.put, List.setIfInBounds_toArray, List.set_cons_zero, List.set_cons_succ]
  refine wpAnyH_take (i := 7) (v := ?v7) rfl (by kernel_rfl) (by kernel_rfl) (by kernel_rfl) (fun _ _ _ h => h) (Or.inl ⟨by rfl, ?hy7⟩) (by assumption) ?rest7
  case hy7 => (intro w hSw; (try dsimp only at hSw); go_simp; try with_reducible rfl)
  case rest7 =>
  try simp only [Act.put, List.setIfInBounds_toArray, List.set_cons_zero, List.set_cons_succ]
  refine wpAnyH_take (i := 11) (v := ?v11) rfl (by kernel_rfl) (by kernel_rfl) (by kernel_rfl) (fun _ _ _ h => h) (Or.inl ⟨by rfl, ?hy11⟩) (by assumption) ?rest11
  case hy11 => (intro w hSw; (try dsimp only at hSw); go_simp; try with_reducible rfl)
  case rest11 =>
  try simp only [Act.put, List.setIfInBounds_toArray, List.set_cons_zero, List.set_cons_succ]
  refine wpAnyH_take (i := 12) (v := ?v12) rfl (by kernel_rfl) (by kernel_rfl) (by kernel_rfl) (fun _ _ _ h => h) (Or.inl ⟨by rfl, ?hy12⟩) (by assumption) ?rest12
  case hy12 => (intro w hSw; (try dsimp only at hSw); go_simp; try with_reducible rfl)
  case rest12 =>
  try simp only [Act.put, List.setIfInBounds_toArray, List.set_cons_zero, List.set_cons_succ]
  refine wpAnyH_ready (rs := [0]) (by kernel_rfl) (by simp) ?_
  refine AllReadyH.cons rfl (fun K hK => ?_) AllReadyH.nil
  go_simp; go_at_call 9; refine (l19Words_any _).mono ?_; rintro e1 w1 ⟨p, rfl, hpz, hp, hb⟩; have hc1 := keep1 _ _ hc1 hb; have q := hp k hk; rw [HV.out] at q; clear hp
  refine hK.out _ _ (hc1) (fun hHeld => ?_)
  clear hK K
  try simp only [Act.put, List.setIfInBounds_toArray, List.set_cons_zero, List.set_cons_succ]
  refine wpAnyH_weak (S2 := (fun w' => w'.cell? ⟨w.heap.size, 0, none⟩ = some (.int .i64 k) ∧ w'.cell? ⟨w.heap.size, 1, none⟩ = some (.int .i64 e) ∧ w'.cell? ⟨w.heap.size, 2, none⟩ = some (.int .i64 c) ∧ Below w.heap.size w w' ∧ w.heap.size < w'.heap.size ∧ w'.cell? ⟨p, k, none⟩ = some (.string V) ∧ p < w'.heap.size)) (fun w' h => ⟨h.1, h.2.1, h.2.2.1, h.2.2.2.1, h.2.2.2.2.1⟩) _ _ _ _ ?_
  have hc2 : (fun w' => w'.cell? ⟨w.heap.size, 0, none⟩ = some (.int .i64 k) ∧ w'.cell? ⟨w.heap.size, 1, none⟩ = some (.int .i64 e) ∧ w'.cell? ⟨w.heap.size, 2, none⟩ = some (.int .i64 c) ∧ Below w.heap.size w w' ∧ w.heap.size < w'.heap.size ∧ w'.cell? ⟨p, k, none⟩ = some (.string V) ∧ p < w'.heap.size) w1 := ⟨hc1.1, hc1.2.1, hc1.2.2.1, hc1.2.2.2.1, hc1.2.2.2.2, q, hpz⟩
  refine wpAnyH_take (i := 3) (v := ?v3) rfl (by kernel_rfl) (by kernel_rfl) (by kernel_rfl) (fun _ _ _ h => h) (Or.inl ⟨by rfl, ?hy3⟩) (by assumption) ?rest3
  case hy3 => (intro w hSw; (try dsimp only at hSw); go_simp; try with_reducible rfl)
  case rest3 =>
  try simp only [Act.put, List.setIfInBounds_toArray, List.set_cons_zero, List.set_cons_succ]
  refine wpAnyH_take (i := 4) (v := ?v4) rfl (by kernel_rfl) (by kernel_rfl) (by kernel_rfl) (fun _ _ _ h => h) (Or.inl ⟨by rfl, ?hy4⟩) (by assumption) ?rest4
  case hy4 => (intro w hSw; (try dsimp only at hSw); go_simp; try with_reducible rfl)
  case rest4 =>
  try simp only [Act.put, List.setIfInBounds_toArray, List.set_cons_zero, List.set_cons_succ]
  refine wpAnyH_take (i := 5) (v := ?v5) rfl (by kernel_rfl) (by kernel_rfl) (by kernel_rfl) (fun _ _ _ h => h) (Or.inl ⟨by rfl, ?hy5⟩) (by assumption) ?rest5
  case hy5 => (intro w hSw; (try dsimp only at hSw); go_simp; try with_reducible rfl)
  case rest5 =>
  try simp only [Act.put, List.setIfInBounds_toArray, List.set_cons_zero, List.set_cons_succ]
  refine wpAnyH_ready (rs := [8]) (by kernel_rfl) (by simp) ?_
  refine AllReadyH.cons rfl (fun K hK => ?_) AllReadyH.nil
  go_simp; go_at_call 16; refine (HE.out _ _ (by with_reducible rfl)).mono ?_; rintro e2 w2 ⟨rfl, hb⟩; have hc3 := keep1 _ _ hc1 hb; have q3 := (hb.cell (p := ⟨p, k, none⟩) hpz).trans q; have hpz3 := Nat.lt_of_lt_of_le hpz hb.size
  refine hK.out _ _ (⟨hc3.1, hc3.2.1, hc3.2.2.1, hc3.2.2.2.1, hc3.2.2.2.2, q3, hpz3⟩) (fun hHeld => ?_)
  clear hK K
  try simp only [Act.put, List.setIfInBounds_toArray, List.set_cons_zero, List.set_cons_succ]
  refine wpAnyH_take (i := 9) (v := ?v9) rfl (by kernel_rfl) (by kernel_rfl) (by kernel_rfl) (fun _ _ _ h => h) (Or.inl ⟨by rfl, ?hy9⟩) (by assumption) ?rest9
  case hy9 => (intro w hSw; (try dsimp only at hSw); go_simp; try with_reducible rfl)
  case rest9 =>
  try simp only [Act.put, List.setIfInBounds_toArray, List.set_cons_zero, List.set_cons_succ]
  refine wpAnyH_take (i := 10) (v := ?v10) rfl (by kernel_rfl) (by kernel_rfl) (by kernel_rfl) (fun _ _ _ h => h) (Or.inl ⟨by rfl, ?hy10⟩) (by assumption) ?rest10
  case hy10 => (intro w hSw; (try dsimp only at hSw); go_simp; try with_reducible rfl)
  case rest10 =>
  try simp only [Act.put, List.setIfInBounds_toArray, List.set_cons_zero, List.set_cons_succ]
  refine wpAnyH_ready (rs := [13]) (by kernel_rfl) (by simp) ?_
  refine AllReadyH.cons rfl (fun K hK => ?_) AllReadyH.nil
  go_simp; go_at_call 16; refine (HC.out _ _ (by with_reducible rfl)).mono ?_; rintro e3 w3 ⟨rfl, hb⟩; have hc4 := keep1 _ _ hc3 hb; have q5 := (hb.cell (p := ⟨p, k, none⟩) hpz3).trans q3; have hpz4 := Nat.lt_of_lt_of_le hpz3 hb.size
  refine hK.out _ _ (⟨hc4.1, hc4.2.1, hc4.2.2.1, hc4.2.2.2.1, hc4.2.2.2.2, q5, hpz4⟩) (fun hHeld => ?_)
  clear hK K
  try simp only [Act.put, List.setIfInBounds_toArray, List.set_cons_zero, List.set_cons_succ]
  refine wpAnyH_take (i := 14) (v := ?v14) rfl (by kernel_rfl) (by kernel_rfl) (by kernel_rfl) (fun _ _ _ h => h) (Or.inl ⟨by rfl, ?hy14⟩) (by assumption) ?rest14
  case hy14 => (intro w hSw; (try dsimp only at hSw); go_simp; try with_reducible rfl)
  case rest14 =>
  try simp only [Act.put, List.setIfInBounds_toArray, List.set_cons_zero, List.set_cons_succ]
  refine wpAnyH_take (i := 15) (v := ?v15) rfl (by kernel_rfl) (by kernel_rfl) (by kernel_rfl) (fun _ _ _ h => h) (Or.inl ⟨by rfl, ?hy15⟩) (by assumption) ?rest15
  case hy15 => (intro w hSw; (try dsimp only at hSw); go_simp; try with_reducible rfl)
  case rest15 =>
  try simp only [Act.put, List.setIfInBounds_toArray, List.set_cons_zero, List.set_cons_succ]
  refine wpAnyH_done (by kernel_rfl) ?_ _
  go_wp2_with fail
  go_ret
  exact ⟨rfl, hc4.2.2.2.1⟩
end Go.Proofs.YtcbiaeniagacfaaDoor
