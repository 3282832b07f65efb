/-
  Disks of chains: WalksOf, both sides.
-/
import Derived.Test.YtgmmigbaaigldaaDoorWkM
import Derived.Test.YtgmmigbaaigldaaDoorChainTop
namespace Go.Proofs.YtgmmigbaaigldaaDoor
open Go Go.ChangeShapes Go.WideShapes Go.ChangeAt Go.RowKit lib
set_option linter.unusedVariables false
set_option maxRecDepth 100000
/-- the walks of a disk -/
noncomputable def walksF (n : Nat) (s : Nat → ByteArray) : Nat → List Nat × Nat × Nat := walkN n (s 0).size (dataN n (s 0).size) (joinU (s 0).size s)
theorem wout_ws {B : Nat} {w : World} {Aq : Option Addr} {cq m : Nat} {xs : List Value} {f : Nat → List Nat × Nat × Nat} (h : WOut B w Aq cq m xs f) : WS w.heap.size w Aq m f := by
  intro i hi
  obtain ⟨h1, A, c, h2⟩ := h
  obtain ⟨⟨x0, x1, x2⟩, hi4⟩ := h2 i hi
  have hlen := h1.1
  have hsl := own_sl h1
  obtain ⟨q, o, hA, hq, c0⟩ := hsl (i * 3) (by omega)
  obtain ⟨q1, o1, hA1, _, c1⟩ := hsl (i * 3 + 1) (by omega)
  obtain ⟨q2, o2, hA2, _, c2⟩ := hsl (i * 3 + 2) (by omega)
  rw [hA] at hA1 hA2
  injection hA1 with hA1
  injection hA1 with e1 e2 _
  injection hA2 with hA2
  injection hA2 with e3 e4 _
  subst e1 e2 e3 e4
  dsimp only at c0 c1 c2
  rw [List.getD_eq_getElem?_getD, x0] at c0
  rw [List.getD_eq_getElem?_getD, x1] at c1
  rw [List.getD_eq_getElem?_getD, x2] at c2
  exact ⟨q, o, A i, c i, hA, hq, c0, by rw [Nat.add_assoc]; exact c1, by rw [Nat.add_assoc]; exact c2, hi4.sl⟩
theorem implWalksOf_ok {w : World} {n c : Nat} {A : Option Addr} {s : Nat → ByteArray} (hs : Sl w w.heap.size A n (fun i => .string (s i))) (hsz : ∀ i, i < n → (s i).size ≤ 9223372036854775807) (hn : n ≤ c) (hn2 : n ≤ 9223372036854775807) (ho : opens n s) :
    Calls Tryd.prog 18 #[.slice A n c] w fun r w' => ∃ A c, r = .returned (.tuple #[.slice A (entsN n) c, .int .i64 0]) ∧ GW w.heap.size w' A (entsN n) (walksF n s) ∧ Below w.heap.size w w' := by
  have HO := Lib.hid (implOpen hs hsz hn hn2)
  obtain ⟨f1, f2, f3, f4, f5, f6⟩ := walk_fit ho.1
  unfold walksF
  obtain ⟨z, hz⟩ : ∃ z, (s 0).size = z := ⟨_, rfl⟩
  rw [hz] at f2 f3 f5 f6 ⊢
  have HZ := Lib.hid hz
  have HL := Lib.hid ho
  have F6 := Lib.hid f6
  clear ho hs hsz hz f6
  go_enter Tryd.func18, Tryd.ntmps18
  go_wp2_with (first
    | (go_at_call 35; refine HO.out.mono ?_; rintro r w1 ⟨h1, _⟩; obtain ⟨p, rfl, ow⟩ := h1 HL.out; rw [HZ.out] at ow; obtain ⟨g, cc, hc, hcap, hb1, hp, hg⟩ := ow)
    | (go_at_call 37; refine (implWalks_any hc f1 f2 f3 hcap f4 rfl F6.out).mono ?_; rintro r w2 ⟨rfl, _, hw2, hb2⟩))
  go_ret2
  exact ⟨_, _, rfl, (.inr ⟨_, _, rfl, hb1.size, Nat.le_trans hb1.size (Nat.le_add_right _ 2), hw2⟩), hb1.trans (hb2.mono hb1.size)⟩
theorem implWalksOf_bad {w : World} {n c : Nat} {A : Option Addr} {s : Nat → ByteArray} (hs : Sl w w.heap.size A n (fun i => .string (s i))) (hsz : ∀ i, i < n → (s i).size ≤ 9223372036854775807) (hn : n ≤ c) (hn2 : n ≤ 9223372036854775807) (ho : ¬ opens n s) :
    Calls Tryd.prog 18 #[.slice A n c] w fun r w' => r = .returned (.tuple #[.slice none 0 0, .int .i64 (openCode n s)]) ∧ Below w.heap.size w w' := by
  have HO := Lib.hid (implOpen hs hsz hn hn2)
  have hne := openCode_ne n s
  have HL := Lib.hid ho
  obtain ⟨code, hcode⟩ : ∃ code, openCode n s = code := ⟨_, rfl⟩
  rw [hcode] at hne ⊢
  have HCD := Lib.hid hcode
  clear ho hs hsz hcode
  rcases hne with rfl | rfl
  all_goals
    go_enter Tryd.func18, Tryd.ntmps18
    go_wp2_with (go_at_call 35; refine HO.out.mono ?_; rintro r w1 ⟨_, h1⟩; have h2 := h1 HL.out; rw [HCD.out] at h2; obtain ⟨rfl, hb1⟩ := h2)
    go_ret2
    exact ⟨rfl, hb1⟩
theorem specWalksOf_ok {w : World} {n c : Nat} {A : Option Addr} {s : Nat → ByteArray} (hs : Sl w w.heap.size A n (fun i => .string (s i))) (hsz : ∀ i, i < n → (s i).size ≤ 9223372036854775807) (hn : n ≤ c) (hn2 : n ≤ 9223372036854775807) (ho : opens n s) :
    Calls Tryd.prog 17 #[.slice A n c] w fun r w' => ∃ A c, r = .returned (.tuple #[.slice A (entsN n) c, .int .i64 0]) ∧ WS w'.heap.size w' A (entsN n) (walksF n s) ∧ Below w.heap.size w w' := by
  have HO := Lib.hid (specOpen hs hsz hn hn2)
  obtain ⟨f1, f2, f3, f4, f5, f6⟩ := walk_fit ho.1
  unfold walksF
  obtain ⟨z, hz⟩ : ∃ z, (s 0).size = z := ⟨_, rfl⟩
  rw [hz] at f2 f3 f5 f6 ⊢
  have HZ := Lib.hid hz
  have HL := Lib.hid ho
  have F6 := Lib.hid f6
  clear ho hs hsz hz f6
  go_enter Tryd.func17, Tryd.ntmps17
  go_wp2_with (first
    | (go_at_call 31; refine HO.out.mono ?_; rintro r w1 ⟨h1, _⟩; obtain ⟨p, rfl, ow⟩ := h1 HL.out; rw [HZ.out] at ow; obtain ⟨g, cc, hc, hcap, hb1, hp, hg⟩ := ow)
    | (go_at_call 33; refine (specWalks_any hc f1 f2 f3 hcap f4 rfl F6.out).mono ?_; rintro r w2 ⟨Aq, cq, xs, rfl, _, hw2, hb2⟩))
  go_ret2
  exact ⟨_, _, rfl, wout_ws hw2, hb1.trans (hb2.mono hb1.size)⟩
theorem specWalksOf_bad {w : World} {n c : Nat} {A : Option Addr} {s : Nat → ByteArray} (hs : Sl w w.heap.size A n (fun i => .string (s i))) (hsz : ∀ i, i < n → (s i).size ≤ 9223372036854775807) (hn : n ≤ c) (hn2 : n ≤ 9223372036854775807) (ho : ¬ opens n s) :
    Calls Tryd.prog 17 #[.slice A n c] w fun r w' => r = .returned (.tuple #[.slice none 0 0, .int .i64 (openCode n s)]) ∧ Below w.heap.size w w' := by
  have HO := Lib.hid (specOpen hs hsz hn hn2)
  have hne := openCode_ne n s
  have HL := Lib.hid ho
  obtain ⟨code, hcode⟩ : ∃ code, openCode n s = code := ⟨_, rfl⟩
  rw [hcode] at hne ⊢
  have HCD := Lib.hid hcode
  clear ho hs hsz hcode
  rcases hne with rfl | rfl
  all_goals
    go_enter Tryd.func17, Tryd.ntmps17
    go_wp2_with (go_at_call 31; refine HO.out.mono ?_; rintro r w1 ⟨_, h1⟩; have h2 := h1 HL.out; rw [HCD.out] at h2; obtain ⟨rfl, hb1⟩ := h2)
    go_ret2
    exact ⟨rfl, hb1⟩
end Go.Proofs.YtgmmigbaaigldaaDoor
