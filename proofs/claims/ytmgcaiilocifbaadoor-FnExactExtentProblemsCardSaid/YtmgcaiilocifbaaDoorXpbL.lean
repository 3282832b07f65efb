/-
  The laws' own helpers on lists of problems of extents.
-/
import Derived.Test.YtmgcaiilocifbaaDoorBase
namespace Go.Proofs.YtmgcaiilocifbaaDoor
open Go Go.ChangeShapes Go.WideShapes Go.ChangeAt Go.RowKit lib
set_option linter.unusedVariables false
set_option maxRecDepth 100000
theorem eqExtentProblem_same (x y z : Int) (w : World) : Calls Tryd.prog 46 #[.agg #[.int .i64 x, .int .i64 y, .int .i64 z], .agg #[.int .i64 x, .int .i64 y, .int .i64 z]] w fun e w' => e = .returned (.bool true) ∧ Below w.heap.size w w' := by
  go_enter Tryd.func46, Tryd.ntmps46
  go_wp2
  go_ret
  exact ⟨rfl, ((Below.refl _ _).alloc (Nat.le_refl _) _).alloc (by simp) _⟩
theorem eqExtentProblemS_same (A B : Option Addr) (n c d : Nat) (s t : Nat → Int) (w : World) (hn : n ≤ 1048576) (hs : Sl w w.heap.size A (n * 3) (fun i => .int .i64 (s i))) (ht : Sl w w.heap.size B (n * 3) (fun i => .int .i64 (t i)))
    (h : ∀ i, i < n * 3 → s i = t i) :
    Calls Tryd.prog 22 #[.slice A n c, .slice B n d] w fun e w' => e = .returned (.bool true) ∧ Below w.heap.size w w' := by
  go_enter Tryd.func22, Tryd.ntmps22
  go_wp2
  go_loopw [5] (fun s5 wr => ∃ k : Nat, k ≤ n ∧ s5 = .int .i64 k ∧ Below w.heap.size w wr) (fun i _ => n - (intOf i).toNat)
  case atStart => exact ⟨0, by omega, rfl, Below.refl _ _⟩
  case round =>
    obtain ⟨k, hk, rfl, hb⟩ := hrel
    by_cases hlt : k < n
    · obtain ⟨b, o, rfl, hbb, h0⟩ := (hs.below hb) (k * 3) (by omega)
      obtain ⟨b1, o1, e1, _, h1⟩ := (hs.below hb) (k * 3 + 1) (by omega)
      obtain ⟨b2, o2, e2, _, h2⟩ := (hs.below hb) (k * 3 + 2) (by omega)
      injection e1 with e1; injection e1 with e1 e1' _; subst e1 e1'
      injection e2 with e2; injection e2 with e2 e2' _; subst e2 e2'
      obtain ⟨b', o', rfl, hbb', h0'⟩ := (ht.below hb) (k * 3) (by omega)
      obtain ⟨b1, o1, e1, _, h1'⟩ := (ht.below hb) (k * 3 + 1) (by omega)
      obtain ⟨b2, o2, e2, _, h2'⟩ := (ht.below hb) (k * 3 + 2) (by omega)
      injection e1 with e1; injection e1 with e1 e1' _; subst e1 e1'
      injection e2 with e2; injection e2 with e2 e2' _; subst e2 e2'
      simp only [← h (k * 3) (by omega)] at h0'
      simp only [← h (k * 3 + 1) (by omega)] at h1'
      simp only [← h (k * 3 + 2) (by omega)] at h2'
      obtain ⟨x, hx⟩ : ∃ x, x = s (k * 3) := ⟨_, rfl⟩
      obtain ⟨y, hy⟩ : ∃ x, x = s (k * 3 + 1) := ⟨_, rfl⟩
      obtain ⟨z, hz⟩ : ∃ x, x = s (k * 3 + 2) := ⟨_, rfl⟩
      simp only [← hx] at h0 h0'
      simp only [← hy] at h1 h1'
      simp only [← hz] at h2 h2'
      rw [← Nat.add_assoc] at h1 h2 h1' h2'
      have hzz := hb.size
      clear hx hy hz hs ht h
      go_wp2_with fail
      go_region_law (go_simp; go_at_call 46; refine (eqExtentProblem_same x y z _).mono ?_; rintro e w2 ⟨rfl, hb2⟩)
      all_goals
        go_wp2_with fail
        go_roundw
        case rel => exact ⟨k + 1, by omega, by go_num, hb.drew.trans (hb2.mono hzz)⟩
        case measure => simp [intOf]; omega
    · go_wp2
      go_ret
      exact ⟨rfl, hb⟩
theorem markExtentProblemS_any (A : Option Addr) (n c B : Nat) (k0 : Int) (xs : List Value) (w : World) (hn : n ≤ 1048576) (h0 : 1 ≤ k0) (h1 : k0 ≤ 4194304) (hown : w.ownsRow B 68 3 (.slice A n c) n xs) :
    Calls Tryd.prog 23 #[.slice A n c, .int .i64 k0] w fun e w' => e = .returned (.int .i64 (k0 + (n * 3 : Nat))) ∧ w'.ownsRow B 68 3 (.slice A n c) n ((List.range (n * 3)).map fun (i : Nat) => Value.int .i64 (k0 + i)) ∧ w.grownBy w' (Value.slice A n c).ownBlock := by
  go_enter Tryd.func23, Tryd.ntmps23
  go_wp2
  go_loopw [1, 5] (fun s1 s5 wr => ∃ k : Nat, k ≤ n ∧ s5 = .int .i64 k ∧ s1 = .int .i64 (k0 + (k * 3 : Nat)) ∧ wr.ownsRow B 68 3 (.slice A n c) n (((List.range (k * 3)).map fun (i : Nat) => Value.int .i64 (k0 + i)) ++ xs.drop (k * 3)) ∧ w.grownBy wr (Value.slice A n c).ownBlock) (fun _ i _ => n - (intOf i).toNat)
  case atStart => exact ⟨0, by omega, rfl, by simp, by simpa using hown, only_refl _ _⟩
  case round =>
    obtain ⟨k, hk, rfl, rfl, ho, hg⟩ := hrel
    have hz := hg.size
    by_cases hlt : k < n
    · obtain ⟨g, cap, hv, hbg, hgl⟩ := ho.form (by omega)
      injection hv with hA _ hC
      subst hA hC
      have hxl := hown.1
      have n1 := set_next ((List.range (k * 3)).map fun (i : Nat) => Value.int .i64 (k0 + i)) xs (.int .i64 (k0 + (k * 3 : Nat))) (k * 3) (by simp) (by omega)
      have n2 := set_next (((List.range (k * 3)).map fun (i : Nat) => Value.int .i64 (k0 + i)) ++ [.int .i64 (k0 + (k * 3 : Nat))]) xs (.int .i64 (k0 + (k * 3 : Nat) + 1)) (k * 3 + 1) (by simp) (by omega)
      have n3 := set_next ((((List.range (k * 3)).map fun (i : Nat) => Value.int .i64 (k0 + i)) ++ [.int .i64 (k0 + (k * 3 : Nat))]) ++ [.int .i64 (k0 + (k * 3 : Nat) + 1)]) xs (.int .i64 (k0 + (k * 3 : Nat) + 1 + 1)) (k * 3 + 2) (by simp) (by omega)
      have HO := Lib.hid ho
      clear ho hown
      obtain ⟨⟨u0, hu0⟩, hf0⟩ := own_cell (i := k * 3) HO.out (by omega)
      have ho1 := own_set (i := k * 3) HO.out (by omega) (.int .i64 (k0 + (k * 3 : Nat)))
      rw [n1] at ho1
      obtain ⟨⟨u1, hu1⟩, hf1⟩ := own_cell (i := k * 3 + 1) ho1 (by omega)
      have ho2 := own_set (i := k * 3 + 1) ho1 (by omega) (.int .i64 (k0 + (k * 3 : Nat) + 1))
      rw [n2] at ho2
      obtain ⟨⟨u2, hu2⟩, hf2⟩ := own_cell (i := k * 3 + 2) ho2 (by omega)
      have ho3 := own_set (i := k * 3 + 2) ho2 (by omega) (.int .i64 (k0 + (k * 3 : Nat) + 1 + 1))
      rw [n3] at ho3
      have HO3 := Lib.hid ho3
      have HL : Hid ((((List.range (k * 3)).map fun (i : Nat) => Value.int .i64 (k0 + i)) ++ [.int .i64 (k0 + (k * 3 : Nat))] ++ [.int .i64 (k0 + (k * 3 : Nat) + 1)]) ++ [.int .i64 (k0 + (k * 3 : Nat) + 1 + 1)] = (List.range ((k + 1) * 3)).map fun (i : Nat) => Value.int .i64 (k0 + i)) := Lib.hid (by
        rw [show (k + 1) * 3 = k * 3 + 1 + 1 + 1 by omega, List.range_succ, List.range_succ, List.range_succ]
        simp [Int.add_assoc])
      have hv0 : k0 + ((k * 3 : Nat) : Int) ≤ 8388608 ∧ 1 ≤ k0 + ((k * 3 : Nat) : Int) := by omega
      have HNX := Lib.hid (show k0 + (((k + 1) * 3 : Nat) : Int) = k0 + ((k * 3 : Nat) : Int) + 1 + 1 + 1 by omega)
      clear n1 n2 n3 ho1 ho2 ho3
      generalize k0 + ((k * 3 : Nat) : Int) = v at *
      go_wp2_with fail
      go_roundw
      case rel =>
        refine ⟨k + 1, by omega, by go_num, by rw [HNX.out], ?_, only_setCell (p := ⟨g, k * 3 + 2, none⟩) (only_setCell (p := ⟨g, k * 3 + 1, none⟩) (only_setCell (p := ⟨g, k * 3, none⟩) hg (.inl rfl) _) (.inl rfl) _) (.inl rfl) _⟩
        have h := HO3.out
        rw [HL.out] at h
        rw [show (k + 1) * 3 = k * 3 + 2 + 1 by omega] at h ⊢
        simpa using h
      case measure => simp [intOf]; omega
    · go_wp2
      go_ret
      obtain rfl : k = n := by omega
      rw [List.drop_of_length_le (by have := hown.1; omega), List.append_nil] at ho
      exact ⟨rfl, ho, hg⟩
theorem heldExtentProblemS_any (A : Option Addr) (n c : Nat) (k0 : Int) (w : World) (hn : n ≤ 1048576) (h0 : 1 ≤ k0) (h1 : k0 ≤ 4194304) (hs : Sl w w.heap.size A (n * 3) (fun i => .int .i64 (k0 + i))) :
    Calls Tryd.prog 24 #[.slice A n c, .int .i64 k0] w fun e w' => e = .returned (.int .i64 (k0 + (n * 3 : Nat))) ∧ Below w.heap.size w w' := by
  go_enter Tryd.func24, Tryd.ntmps24
  go_wp2
  go_loopw [1, 5] (fun s1 s5 wr => ∃ k : Nat, k ≤ n ∧ s5 = .int .i64 k ∧ s1 = .int .i64 (k0 + (k * 3 : Nat)) ∧ Below w.heap.size w wr) (fun _ i _ => n - (intOf i).toNat)
  case atStart => exact ⟨0, by omega, rfl, by simp, Below.refl _ _⟩
  case round =>
    obtain ⟨k, hk, rfl, rfl, hb⟩ := hrel
    have hz := hb.size
    by_cases hlt : k < n
    · obtain ⟨b, o, rfl, hbb, h0'⟩ := (hs.below hb) (k * 3) (by omega)
      obtain ⟨b1, o1, e1, _, h1'⟩ := (hs.below hb) (k * 3 + 1) (by omega)
      obtain ⟨b2, o2, e2, _, h2'⟩ := (hs.below hb) (k * 3 + 2) (by omega)
      injection e1 with e1; injection e1 with e1 e1' _; subst e1 e1'
      injection e2 with e2; injection e2 with e2 e2' _; subst e2 e2'
      dsimp only at h0' h1' h2'
      rw [← Nat.add_assoc] at h1' h2'
      rw [show ((k * 3 + 1 : Nat) : Int) = ((k * 3 : Nat) : Int) + 1 by omega, ← Int.add_assoc] at h1'
      rw [show ((k * 3 + 2 : Nat) : Int) = ((k * 3 : Nat) : Int) + 1 + 1 by omega, ← Int.add_assoc, ← Int.add_assoc] at h2'
      clear hs
      go_wp2_with fail
      go_roundw
      case rel => exact ⟨k + 1, by omega, by go_num, by go_num, hb⟩
      case measure => simp [intOf]; omega
    · go_wp2
      go_ret
      obtain rfl : k = n := by omega
      exact ⟨rfl, hb⟩
end Go.Proofs.YtmgcaiilocifbaaDoor
