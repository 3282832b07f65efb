/-
  A problem's text: the program's side.
-/
import Derived.Test.YtcbiaeniagacfaaDoorPbP
import Derived.Test.YtcbiaeniagacfaaDoorShelf
import Derived.Lib.AppendIntMem
import Derived.Deep.RegionHeld3
import Derived.Deep.CutBlock
namespace Go.Proofs.YtcbiaeniagacfaaDoor
open Go Go.ChangeShapes Go.WideShapes Go.ChangeAt Go.RowKit Go.Joins lib
set_option linter.unusedVariables false
set_option maxRecDepth 100000
theorem decimalT (n : Nat) (hn : n < 1000) (w : World) (htab : Lib.TabIs Tryd.prog w "internal/strconv.uint64pow10" .u64 Lib.pow10Tab) :
    Calls Tryd.prog 21 #[.int .i64 n] w fun e w' => e = .returned (.string (decT n)) ∧ Below w.heap.size w w' := by
  have hd : Lib.itoa (n : Int) = Lib.decDigits n := by unfold Lib.itoa; rw [if_neg (by omega), Int.toNat_natCast]
  have HF := Lib.hid (by have h := Tryd.strconv_FormatInt_10 (n : Int) (by omega) (by omega) w htab; rw [hd] at h; exact h)
  clear hd htab
  go_enter Tryd.func21, Tryd.ntmps21
  go_wp2_with (go_at_call 25; refine HF.out.mono ?_; rintro e w1 ⟨rfl, k, os, rfl⟩)
  go_ret
  exact ⟨rfl, Lib.below_grow _ _ (Nat.le_refl _) _ _⟩
theorem implPb_bad (a b c : Int) (h : ¬ pbOk a b c) (w : World) : Calls Tryd.prog 14 #[cpV a b c] w fun e w' => e = .returned (.string ⟨#[]⟩) ∧ Below w.heap.size w w' := by
  have hc : (decide ((1 : Int) ≤ a) && decide (a ≤ 10)) = false ∨ ((decide ((1 : Int) ≤ a) && decide (a ≤ 10)) = true ∧ (decide ((0 : Int) ≤ b) && decide (b ≤ 15)) = false) ∨ ((decide ((1 : Int) ≤ a) && decide (a ≤ 10)) = true ∧ (decide ((0 : Int) ≤ b) && decide (b ≤ 15)) = true ∧ (decide ((0 : Int) ≤ c) && decide (c ≤ 127)) = false) := by
    cases h1 : (decide ((1 : Int) ≤ a) && decide (a ≤ 10))
    · exact .inl rfl
    · cases h2 : (decide ((0 : Int) ≤ b) && decide (b ≤ 15))
      · exact .inr (.inl ⟨rfl, rfl⟩)
      · cases h3 : (decide ((0 : Int) ≤ c) && decide (c ≤ 127))
        · exact .inr (.inr ⟨rfl, rfl, rfl⟩)
        · exfalso
          simp only [Bool.and_eq_true, decide_eq_true_eq] at h1 h2 h3
          exact h ⟨h1, h2, h3⟩
  clear h
  unfold cpV
  rcases hc with h1 | ⟨h1, h2⟩ | ⟨h1, h2, h3⟩
  · have H1 := Lib.hid h1
    clear h1
    go_enter Tryd.func14, Tryd.ntmps14
    go_wp2_with (go_at_call 20; refine (within_any _ _ _ _).mono ?_; rw [H1.out]; rintro e w' ⟨rfl, rfl⟩)
    go_ret
    exact ⟨rfl, (Below.refl _ _).alloc (Nat.le_refl _) _⟩
  · have H1 := Lib.hid h1
    have H2 := Lib.hid h2
    clear h1 h2
    go_enter Tryd.func14, Tryd.ntmps14
    go_wp2_with (go_at_call 20; refine (within_any _ _ _ _).mono ?_; (first | rw [H1.out] | rw [H2.out]); rintro e w' ⟨rfl, rfl⟩)
    go_ret
    exact ⟨rfl, (Below.refl _ _).alloc (Nat.le_refl _) _⟩
  · have H1 := Lib.hid h1
    have H2 := Lib.hid h2
    have H3 := Lib.hid h3
    clear h1 h2 h3
    go_enter Tryd.func14, Tryd.ntmps14
    go_wp2_with (go_at_call 20; refine (within_any _ _ _ _).mono ?_; (first | rw [H1.out] | rw [H2.out] | rw [H3.out]); rintro e w' ⟨rfl, rfl⟩)
    go_ret
    exact ⟨rfl, (Below.refl _ _).alloc (Nat.le_refl _) _⟩
set_option maxHeartbeats 4000000 in
theorem implPb_ok (k e c : Nat) (h1 : 1 ≤ k) (h2 : k ≤ 10) (h3 : e ≤ 15) (h4 : c ≤ 127) (w : World) (htab : Lib.TabIs Tryd.prog w "internal/strconv.uint64pow10" .u64 Lib.pow10Tab)
    (hw : w.var? Tryd.prog "loop.example/g00899/impl.problemWords" = some (wordsB.map Value.string).toArray) : Calls Tryd.prog 14 #[cpV k e c] w fun r w' => r = .returned (.string (pbT k e c)) ∧ Below w.heap.size w w' := by
  have H1 := Lib.hid (show (decide ((1 : Int) ≤ k) && decide ((k : Int) ≤ 10)) = true by simp; omega)
  have H2 := Lib.hid (show (decide ((0 : Int) ≤ e) && decide ((e : Int) ≤ 15)) = true by simp; omega)
  have H3 := Lib.hid (show (decide ((0 : Int) ≤ c) && decide ((c : Int) ≤ 127)) = true by simp; omega)
  have HT := Lib.hid (fun (W : World) (hb : Below w.heap.size w W) => tab_stays (g := 4) (by kernel_rfl) htab hb (Nat.le_refl _))
  have HE := Lib.hid (fun (x : Int) (W : World) (hx : x = (e : Int)) (hb : Below w.heap.size w W) => show Calls Tryd.prog 21 #[.int .i64 x] W fun e' w' => e' = .returned (.string (decT e)) ∧ Below W.heap.size W w' by rw [hx]; exact decimalT e (by omega) W (HT.out W hb))
  have HC := Lib.hid (fun (x : Int) (W : World) (hx : x = (c : Int)) (hb : Below w.heap.size w W) => show Calls Tryd.prog 21 #[.int .i64 x] W fun e' w' => e' = .returned (.string (decT c)) ∧ Below W.heap.size W w' by rw [hx]; exact decimalT c (by omega) W (HT.out W hb))
  have hk : k < 11 := by omega
  have hki : (k : Int) < 11 := by omega
  have H0 := Lib.hid (show 0 < w.heap.size by
    rcases Nat.eq_zero_or_pos w.heap.size with h | h
    · exfalso
      have := World.var?_cell (P := Tryd.prog) (n := "loop.example/g00899/impl.problemWords") (g := 0) (by kernel_rfl) hw 0
      simp [World.cell?, h] at this
      cases this
    · exact h)
  have B0 : Below w.heap.size w (w.alloc (.cells #[.int .i64 k, .int .i64 e, .int .i64 c] 23)) := (Below.refl _ _).alloc (Nat.le_refl _) _
  have q : (w.alloc (.cells #[.int .i64 k, .int .i64 e, .int .i64 c] 23)).cell? ⟨0, k, none⟩ = some (.string (wordAt k)) := by
    rw [World.var?_cell (P := Tryd.prog) (n := "loop.example/g00899/impl.problemWords") (by kernel_rfl) (var_stays (g := 0) (by kernel_rfl) hw B0 (Nat.le_refl _)) k]
    have : k = 0 ∨ k = 1 ∨ k = 2 ∨ k = 3 ∨ k = 4 ∨ k = 5 ∨ k = 6 ∨ k = 7 ∨ k = 8 ∨ k = 9 ∨ k = 10 := by omega
    rcases this with rfl | rfl | rfl | rfl | rfl | rfl | rfl | rfl | rfl | rfl | rfl <;> rfl
  have z1 := wordAt_size k hk
  have z2 := decT_size e
  have z3 := decT_size c
  have hpb : wordAt k ++ ⟨#[32]⟩ ++ decT e ++ ⟨#[32]⟩ ++ decT c = pbT k e c := rfl
  obtain ⟨X, hX⟩ : ∃ X, pbT k e c = X := ⟨_, rfl⟩
  rw [hX] at hpb ⊢
  obtain ⟨V, hV⟩ : ∃ V, wordAt k = V := ⟨_, rfl⟩
  rw [hV] at hpb z1 q
  have q2 : (w.alloc (.cells #[.int .i64 k, .int .i64 e, .int .i64 c] 23)).cell? ⟨0, 0 + k, none⟩ = some (.string V) := by rw [Nat.zero_add]; exact q
  obtain ⟨E, hE⟩ : ∃ E, decT e = E := ⟨_, rfl⟩
  rw [hE] at hpb z2 HE
  obtain ⟨D, hD⟩ : ∃ D, decT c = D := ⟨_, rfl⟩
  rw [hD] at hpb z3 HC
  have s1 : (⟨#[32]⟩ : ByteArray).size = 1 := rfl
  have a1 : ∀ W : World, (Op.stringOp .add V ⟨#[32]⟩).run Tryd.prog W = .ok (.string (V ++ ⟨#[32]⟩)) W := fun W => run_string_add_sum _ _ _ (by omega)
  have a2 : ∀ W : World, (Op.stringOp .add (V ++ ⟨#[32]⟩) E).run Tryd.prog W = .ok (.string (V ++ ⟨#[32]⟩ ++ E)) W := fun W => run_string_add_sum _ _ _ (by simp only [ByteArray.size_append]; omega)
  have a3 : ∀ W : World, (Op.stringOp .add (V ++ ⟨#[32]⟩ ++ E) ⟨#[32]⟩).run Tryd.prog W = .ok (.string (V ++ ⟨#[32]⟩ ++ E ++ ⟨#[32]⟩)) W := fun W => run_string_add_sum _ _ _ (by simp only [ByteArray.size_append]; omega)
  have a4 : ∀ W : World, (Op.stringOp .add (V ++ ⟨#[32]⟩ ++ E ++ ⟨#[32]⟩) D).run Tryd.prog W = .ok (.string X) W := fun W => by rw [run_string_add_sum _ _ _ (by simp only [ByteArray.size_append]; omega), hpb]
  have R0 := Lib.hid (Rw.new w 23 #[.int .i64 k, .int .i64 e, .int .i64 c])
  have c0 := R0.out.cell 0
  have c1 := R0.out.cell 1
  have c2 := R0.out.cell 2
  have BB1 := Lib.hid B0
  clear hX hV hE hD hpb B0 htab hw
  unfold cpV
  have h0 := H0.out
  have keep1 : ∀ a b : World, (a.cell? ⟨w.heap.size, 0, none⟩ = some (.int .i64 k) ∧ a.cell? ⟨w.heap.size, 1, none⟩ = some (.int .i64 e) ∧ a.cell? ⟨w.heap.size, 2, none⟩ = some (.int .i64 c) ∧ a.cell? ⟨0, k, none⟩ = some (.string V) ∧ Below w.heap.size w a ∧ w.heap.size < a.heap.size) → Below a.heap.size a b →
      (b.cell? ⟨w.heap.size, 0, none⟩ = some (.int .i64 k) ∧ b.cell? ⟨w.heap.size, 1, none⟩ = some (.int .i64 e) ∧ b.cell? ⟨w.heap.size, 2, none⟩ = some (.int .i64 c) ∧ b.cell? ⟨0, k, none⟩ = some (.string V) ∧ Below w.heap.size w b ∧ w.heap.size < b.heap.size) := fun a b h hb =>
    ⟨(hb.cell (p := ⟨w.heap.size, 0, none⟩) h.2.2.2.2.2).trans h.1, (hb.cell (p := ⟨w.heap.size, 1, none⟩) h.2.2.2.2.2).trans h.2.1, (hb.cell (p := ⟨w.heap.size, 2, none⟩) h.2.2.2.2.2).trans h.2.2.1, (hb.cell (p := ⟨0, k, none⟩) (Nat.lt_trans h0 h.2.2.2.2.2)).trans h.2.2.2.1, h.2.2.2.2.1.trans (hb.mono h.2.2.2.2.1.size), Nat.lt_of_lt_of_le h.2.2.2.2.2 hb.size⟩
  have S0 := Lib.hid (show (w.alloc (.cells #[.int .i64 k, .int .i64 e, .int .i64 c] 23)).cell? ⟨w.heap.size, 0, none⟩ = some (.int .i64 k) ∧ (w.alloc (.cells #[.int .i64 k, .int .i64 e, .int .i64 c] 23)).cell? ⟨w.heap.size, 1, none⟩ = some (.int .i64 e) ∧ (w.alloc (.cells #[.int .i64 k, .int .i64 e, .int .i64 c] 23)).cell? ⟨w.heap.size, 2, none⟩ = some (.int .i64 c) ∧ (w.alloc (.cells #[.int .i64 k, .int .i64 e, .int .i64 c] 23)).cell? ⟨0, k, none⟩ = some (.string V) ∧ Below w.heap.size w (w.alloc (.cells #[.int .i64 k, .int .i64 e, .int .i64 c] 23)) ∧ w.heap.size < (w.alloc (.cells #[.int .i64 k, .int .i64 e, .int .i64 c] 23)).heap.size from ⟨c0, c1, c2, q, BB1.out, R0.out.lt⟩)
  clear c0 c1 c2 q q2 h0
  go_enter Tryd.func14, Tryd.ntmps14
  go_upto_region 3 with (go_at_call 20; refine (within_any _ _ _ _).mono ?_; (first | rw [H1.out] | rw [H2.out] | rw [H3.out]); rintro e w' ⟨rfl, rfl⟩)
  generalize w.alloc (.cells #[.int .i64 k, .int .i64 e, .int .i64 c] 23) = W1 at *
  have hc0 := S0.out
  have hc1 := keep1 _ _ S0.out (Below.refl _ W1).drew
  go_region_held3 (fun w' => w'.cell? ⟨w.heap.size, 0, none⟩ = some (.int .i64 k) ∧ w'.cell? ⟨w.heap.size, 1, none⟩ = some (.int .i64 e) ∧ w'.cell? ⟨w.heap.size, 2, none⟩ = some (.int .i64 c) ∧ w'.cell? ⟨0, k, none⟩ = some (.string V) ∧ Below w.heap.size w w' ∧ w.heap.size < w'.heap.size) (first | exact hc1 | exact hc1.1 | exact hc1.2.1 | exact hc1.2.2.1 | exact hc1.2.2.2.1 | exact hc0 | exact hc0.1 | exact hc0.2.1 | exact hc0.2.2.1 | exact hc0.2.2.2.1 | go_keep) ((first
    | (go_at_call 21; refine (HE.out _ _ (by with_reducible rfl) (by first | exact hc1.2.2.2.2.1 | exact hc0.2.2.2.2.1)).mono ?_; rintro e2 w2 ⟨rfl, hb⟩; have hc1 := keep1 _ _ (by first | exact hc1 | exact hc0) hb)
    | (go_at_call 21; refine (HC.out _ _ (by with_reducible rfl) (by first | exact hc1.2.2.2.2.1 | exact hc0.2.2.2.2.1)).mono ?_; rintro e3 w3 ⟨rfl, hb⟩; have hc1 := keep1 _ _ (by first | exact hc1 | exact hc0) hb)))
  all_goals
    go_wp2_with fail
    go_ret
    exact ⟨rfl, hc1.2.2.2.2.1⟩
end Go.Proofs.YtcbiaeniagacfaaDoor
