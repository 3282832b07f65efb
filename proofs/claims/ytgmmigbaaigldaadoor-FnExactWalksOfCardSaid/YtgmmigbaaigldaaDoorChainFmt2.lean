/-
  Disks of chains: an empty disk, the program's side; shapes.
-/
import Derived.Test.YtgmmigbaaigldaaDoorChainFmt
namespace Go.Proofs.YtgmmigbaaigldaaDoor
open Go Go.ChangeShapes Go.WideShapes Go.ChangeAt Go.RowKit lib
set_option linter.unusedVariables false
set_option maxRecDepth 100000
/-- whether a number is among the first n -/
def hasZ (z : Nat → Int) (n : Nat) (v : Int) : Bool := (List.range n).any fun i => z i == v
theorem hasZ_true {z : Nat → Int} {n : Nat} {v : Int} {k : Nat} (hk : k < n) (h : z k = v) : hasZ z n v = true := by
  unfold hasZ
  rw [List.any_eq_true]
  exact ⟨k, by simpa using hk, by simpa using h⟩
theorem hasZ_false {z : Nat → Int} {n : Nat} {v : Int} (h : ∀ k, k < n → z k ≠ v) : hasZ z n v = false := by
  unfold hasZ
  rw [List.any_eq_false]
  intro k hk
  simpa using h k (by simpa using hk)
theorem l00Has_any {w : World} {B n c : Nat} {A : Option Addr} (z : Nat → Int) (v : Int) (h : Sl w B A n (fun i => .int .i64 (z i))) (hn : n ≤ 1048576) : Calls Tryd.prog 85 #[.slice A n c, .int .i64 v] w fun e w' => e = .returned (.bool (hasZ z n v)) ∧ w = w' := by
  go_enter Tryd.func85, Tryd.ntmps85
  go_wp2_with fail
  go_loopw [5] (fun s5 wr => ∃ k : Nat, k ≤ n ∧ s5 = .int .i64 k ∧ (∀ j, j < k → z j ≠ v) ∧ wr = w) (fun i _ => n - (intOf i).toNat)
  case atStart => exact ⟨0, Nat.zero_le _, rfl, fun j hj => absurd hj (by omega), rfl⟩
  case round =>
    obtain ⟨k, hk, rfl, hz, rfl⟩ := hrel
    by_cases hlt : k < n
    · obtain ⟨b, o, rfl, hb, hc⟩ := h k hlt
      by_cases he : z k = v
      · have HT := Lib.hid (hasZ_true hlt he)
        subst he
        clear hz
        go_wp2
        go_ret
        exact ⟨by rw [HT.out]; rfl, rfl⟩
      · have he' : (z k = v) = False := by simpa using he
        have he2 : (z k == v) = false := by simpa using he
        dsimp only at hc
        have HZ := Lib.hid hz
        clear hz he
        go_wp2
        exact ⟨⟨k + 1, by omega, by go_num, fun j hj => by
          rcases Nat.lt_succ_iff_lt_or_eq.1 hj with h | rfl
          · exact HZ.out j h
          · simpa using he', trivial⟩, by simp [intOf]; omega⟩
    · obtain rfl : k = n := by omega
      have HZ := Lib.hid (hasZ_false hz)
      clear hz
      go_wp2
      go_ret
      exact ⟨by rw [HZ.out]; rfl, rfl⟩
theorem l16Shape_any (n z : Int) (w : World) : Calls Tryd.prog 59 #[.int .i64 n, .int .i64 z] w fun r w' => r = .returned (.bool (decide (8 ≤ n ∧ n ≤ 128 ∧ (z = 8 ∨ z = 16 ∨ z = 32)))) ∧ Below w.heap.size w w' := by
  by_cases hn : 8 ≤ n ∧ n ≤ 128
  · have hw : (decide ((8 : Int) ≤ n) && decide (n ≤ 128)) = true := by simp; omega
    have hb : decide (8 ≤ n ∧ n ≤ 128 ∧ (z = 8 ∨ z = 16 ∨ z = 32)) = hasZ (fun i => [8, 16, 32].getD i 0) 3 z := by
      have : hasZ (fun i => [8, 16, 32].getD i 0) 3 z = (((8 : Int) == z) || (((16 : Int) == z) || (((32 : Int) == z) || false))) := rfl
      rw [this, Bool.eq_iff_iff, decide_eq_true_iff]
      constructor
      · rintro ⟨_, _, rfl | rfl | rfl⟩ <;> rfl
      · intro h
        simp at h
        omega
    rw [hb]
    clear hb hn
    have hs : Sl (w.alloc (.cells #[.int .i64 8, .int .i64 16, .int .i64 32] 2)) (w.heap.size + 1) (some ⟨w.heap.size, 0, none⟩) 3 (fun i => .int .i64 ([8, 16, 32].getD i 0)) := by
      have := (Rw.new w 2 #[.int .i64 8, .int .i64 16, .int .i64 32]).sl (n := 3) (f := fun i => .int .i64 ([8, 16, 32].getD i 0)) (fun i hi => by
        match i, hi with
        | 0, _ => rfl
        | 1, _ => rfl
        | 2, _ => rfl)
      simpa using this
    go_enter Tryd.func59, Tryd.ntmps59
    go_wp2_with (first
      | (go_at_call 32; refine (l00In_any _ _ _ _).mono ?_; rw [hw]; rintro e w' ⟨rfl, rfl⟩)
      | (go_at_call 85; refine (l00Has_any _ z hs (by omega)).mono ?_; rintro e w' ⟨rfl, rfl⟩))
    go_ret
    exact ⟨rfl, (Below.refl _ _).alloc (Nat.le_refl _) _⟩
  · have hw : (decide ((8 : Int) ≤ n) && decide (n ≤ 128)) = false := by
      rw [Bool.eq_false_iff]
      intro h
      simp at h
      exact hn h
    have hb : decide (8 ≤ n ∧ n ≤ 128 ∧ (z = 8 ∨ z = 16 ∨ z = 32)) = false := by
      rw [decide_eq_false_iff_not]
      exact fun h => hn ⟨h.1, h.2.1⟩
    rw [hb]
    clear hb hn
    go_enter Tryd.func59, Tryd.ntmps59
    go_wp2_with (go_at_call 32; refine (l00In_any _ _ _ _).mono ?_; rw [hw]; rintro e w' ⟨rfl, rfl⟩)
    go_ret
    exact ⟨rfl, Below.refl _ _⟩
end Go.Proofs.YtgmmigbaaigldaaDoor
