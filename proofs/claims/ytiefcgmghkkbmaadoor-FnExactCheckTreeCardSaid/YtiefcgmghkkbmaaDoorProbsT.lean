/-
  The laws' own helpers on lists of a tree's problems.
-/
import Derived.Test.YtiefcgmghkkbmaaDoorBase
namespace Go.Proofs.YtiefcgmghkkbmaaDoor
open Go Go.ChangeShapes Go.WideShapes Go.ChangeAt Go.RowKit lib
set_option linter.unusedVariables false
set_option maxRecDepth 100000
theorem eqTreeProblem_same (x y : Int) (w : World) : Calls Tryd.prog 26 #[.agg #[.int .i64 x, .int .i64 y], .agg #[.int .i64 x, .int .i64 y]] w fun e w' => e = .returned (.bool true) ∧ Below w.heap.size w w' := by
  go_enter Tryd.func26, Tryd.ntmps26
  go_wp2
  go_ret
  exact ⟨rfl, ((Below.refl _ _).alloc (Nat.le_refl _) _).alloc (by simp) _⟩
theorem eqTreeProblemS_same (A B : Option Addr) (n c d : Nat) (s t : Nat → Int) (w : World) (hn : n ≤ 1048576) (hs : Sl w w.heap.size A (n * 2) (fun i => .int .i64 (s i))) (ht : Sl w w.heap.size B (n * 2) (fun i => .int .i64 (t i)))
    (h : ∀ i, i < n * 2 → s i = t i) :
    Calls Tryd.prog 12 #[.slice A n c, .slice B n d] w fun e w' => e = .returned (.bool true) ∧ Below w.heap.size w w' := by
  go_enter Tryd.func12, Tryd.ntmps12
  go_wp2
  go_loopw [5] (fun s5 wr => ∃ k : Nat, k ≤ n ∧ s5 = .int .i64 k ∧ Below w.heap.size w wr) (fun i _ => n - (intOf i).toNat)
  case atStart => exact ⟨0, by omega, rfl, Below.refl _ _⟩
  case round =>
    obtain ⟨k, hk, rfl, hb⟩ := hrel
    by_cases hlt : k < n
    · obtain ⟨b, o, rfl, hbb, h0⟩ := (hs.below hb) (k * 2) (by omega)
      obtain ⟨b1, o1, e1, _, h1⟩ := (hs.below hb) (k * 2 + 1) (by omega)
      injection e1 with e1; injection e1 with e1 e1' _; subst e1 e1'
      obtain ⟨b', o', rfl, hbb', h0'⟩ := (ht.below hb) (k * 2) (by omega)
      obtain ⟨b1, o1, e1, _, h1'⟩ := (ht.below hb) (k * 2 + 1) (by omega)
      injection e1 with e1; injection e1 with e1 e1' _; subst e1 e1'
      simp only [← h (k * 2) (by omega)] at h0'
      simp only [← h (k * 2 + 1) (by omega)] at h1'
      obtain ⟨x, hx⟩ : ∃ x, x = s (k * 2) := ⟨_, rfl⟩
      obtain ⟨y, hy⟩ : ∃ x, x = s (k * 2 + 1) := ⟨_, rfl⟩
      simp only [← hx] at h0 h0'
      simp only [← hy] at h1 h1'
      rw [← Nat.add_assoc] at h1 h1'
      have hzz := hb.size
      clear hx hy hs ht h
      go_wp2_with fail
      go_region_law (go_simp; go_at_call 26; refine (eqTreeProblem_same x y _).mono ?_; rintro e w2 ⟨rfl, hb2⟩)
      all_goals
        go_wp2_with fail
        go_roundw
        case rel => exact ⟨k + 1, by omega, by go_num, hb.drew.trans (hb2.mono hzz)⟩
        case measure => simp [intOf]; omega
    · go_wp2
      go_ret
      exact ⟨rfl, hb⟩
theorem markTreeProblemS_any (A : Option Addr) (n c B : Nat) (k0 : Int) (xs : List Value) (w : World) (hn : n ≤ 1048576) (h0 : 1 ≤ k0) (h1 : k0 ≤ 4194304) (hown : w.ownsRow B 44 2 (.slice A n c) n xs) :
    Calls Tryd.prog 14 #[.slice A n c, .int .i64 k0] w fun e w' => e = .returned (.int .i64 (k0 + (n * 2 : Nat))) ∧ w'.ownsRow B 44 2 (.slice A n c) n ((List.range (n * 2)).map fun (i : Nat) => Value.int .i64 (k0 + i)) ∧ w.grownBy w' (Value.slice A n c).ownBlock := by
  go_enter Tryd.func14, Tryd.ntmps14
  go_wp2
  go_loopw [1, 5] (fun s1 s5 wr => ∃ k : Nat, k ≤ n ∧ s5 = .int .i64 k ∧ s1 = .int .i64 (k0 + (k * 2 : Nat)) ∧ wr.ownsRow B 44 2 (.slice A n c) n (((List.range (k * 2)).map fun (i : Nat) => Value.int .i64 (k0 + i)) ++ xs.drop (k * 2)) ∧ w.grownBy wr (Value.slice A n c).ownBlock) (fun _ i _ => n - (intOf i).toNat)
  case atStart => exact ⟨0, by omega, rfl, by simp, by simpa using hown, only_refl _ _⟩
  case round =>
    obtain ⟨k, hk, rfl, rfl, ho, hg⟩ := hrel
    have hz := hg.size
    by_cases hlt : k < n
    · obtain ⟨g, cap, hv, hbg, hgl⟩ := ho.form (by omega)
      injection hv with hA _ hC
      subst hA hC
      have hxl := hown.1
      have n1 := set_next ((List.range (k * 2)).map fun (i : Nat) => Value.int .i64 (k0 + i)) xs (.int .i64 (k0 + (k * 2 : Nat))) (k * 2) (by simp) (by omega)
      have n2 := set_next (((List.range (k * 2)).map fun (i : Nat) => Value.int .i64 (k0 + i)) ++ [.int .i64 (k0 + (k * 2 : Nat))]) xs (.int .i64 (k0 + (k * 2 : Nat) + 1)) (k * 2 + 1) (by simp) (by omega)
      have HO := Lib.hid ho
      clear ho hown
      obtain ⟨⟨u0, hu0⟩, hf0⟩ := own_cell (i := k * 2) HO.out (by omega)
      have ho1 := own_set (i := k * 2) HO.out (by omega) (.int .i64 (k0 + (k * 2 : Nat)))
      rw [n1] at ho1
      obtain ⟨⟨u1, hu1⟩, hf1⟩ := own_cell (i := k * 2 + 1) ho1 (by omega)
      have ho2 := own_set (i := k * 2 + 1) ho1 (by omega) (.int .i64 (k0 + (k * 2 : Nat) + 1))
      rw [n2] at ho2
      have HO3 := Lib.hid ho2
      have HL : Hid (((List.range (k * 2)).map fun (i : Nat) => Value.int .i64 (k0 + i)) ++ [.int .i64 (k0 + (k * 2 : Nat))] ++ [.int .i64 (k0 + (k * 2 : Nat) + 1)] = (List.range ((k + 1) * 2)).map fun (i : Nat) => Value.int .i64 (k0 + i)) := Lib.hid (by
        rw [show (k + 1) * 2 = k * 2 + 1 + 1 by omega, List.range_succ, List.range_succ]
        simp [Int.add_assoc])
      have hv0 : k0 + ((k * 2 : Nat) : Int) ≤ 8388608 ∧ 1 ≤ k0 + ((k * 2 : Nat) : Int) := by omega
      have HNX := Lib.hid (show k0 + (((k + 1) * 2 : Nat) : Int) = k0 + ((k * 2 : Nat) : Int) + 1 + 1 by omega)
      clear n1 n2 ho1 ho2
      generalize k0 + ((k * 2 : Nat) : Int) = v at *
      go_wp2_with fail
      go_roundw
      case rel =>
        refine ⟨k + 1, by omega, by go_num, by rw [HNX.out], ?_, only_setCell (p := ⟨g, k * 2 + 1, none⟩) (only_setCell (p := ⟨g, k * 2, none⟩) hg (.inl rfl) _) (.inl rfl) _⟩
        have h := HO3.out
        rw [HL.out] at h
        rw [show (k + 1) * 2 = k * 2 + 1 + 1 by omega] at h ⊢
        simpa using h
      case measure => simp [intOf]; omega
    · go_wp2
      go_ret
      obtain rfl : k = n := by omega
      rw [List.drop_of_length_le (by have := hown.1; omega), List.append_nil] at ho
      exact ⟨rfl, ho, hg⟩
theorem heldTreeProblemS_any (A : Option Addr) (n c : Nat) (k0 : Int) (w : World) (hn : n ≤ 1048576) (h0 : 1 ≤ k0) (h1 : k0 ≤ 4194304) (hs : Sl w w.heap.size A (n * 2) (fun i => .int .i64 (k0 + i))) :
    Calls Tryd.prog 15 #[.slice A n c, .int .i64 k0] w fun e w' => e = .returned (.int .i64 (k0 + (n * 2 : Nat))) ∧ Below w.heap.size w w' := by
  go_enter Tryd.func15, Tryd.ntmps15
  go_wp2
  go_loopw [1, 5] (fun s1 s5 wr => ∃ k : Nat, k ≤ n ∧ s5 = .int .i64 k ∧ s1 = .int .i64 (k0 + (k * 2 : Nat)) ∧ Below w.heap.size w wr) (fun _ i _ => n - (intOf i).toNat)
  case atStart => exact ⟨0, by omega, rfl, by simp, Below.refl _ _⟩
  case round =>
    obtain ⟨k, hk, rfl, rfl, hb⟩ := hrel
    have hz := hb.size
    by_cases hlt : k < n
    · obtain ⟨b, o, rfl, hbb, h0'⟩ := (hs.below hb) (k * 2) (by omega)
      obtain ⟨b1, o1, e1, _, h1'⟩ := (hs.below hb) (k * 2 + 1) (by omega)
      injection e1 with e1; injection e1 with e1 e1' _; subst e1 e1'
      dsimp only at h0' h1'
      rw [← Nat.add_assoc] at h1'
      rw [show ((k * 2 + 1 : Nat) : Int) = ((k * 2 : Nat) : Int) + 1 by omega, ← Int.add_assoc] at h1'
      clear hs
      go_wp2_with fail
      go_roundw
      case rel => exact ⟨k + 1, by omega, by go_num, by go_num, hb⟩
      case measure => simp [intOf]; omega
    · go_wp2
      go_ret
      obtain rfl : k = n := by omega
      exact ⟨rfl, hb⟩
end Go.Proofs.YtiefcgmghkkbmaaDoor
