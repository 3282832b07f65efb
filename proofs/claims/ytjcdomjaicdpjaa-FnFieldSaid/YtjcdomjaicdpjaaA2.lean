/-
  Small helpers of the laws: a2Long, a2Byte.
-/
import Derived.Test.YtjcdomjaicdpjaaLib
import Derived.Test.YtjcdomjaicdpjaaChecked
namespace Go.Proofs.Ytjcdomjaicdpjaa
open Go Go.ChangeShapes Go.WideShapes Go.ChangeAt Go.RowKit lib
set_option linter.unusedVariables false
set_option maxRecDepth 100000
theorem a2Long_short (A B : Option Addr) (n m c d : Nat) (w : World) (hn : n ≤ 3000) (hm : m ≤ 3000) :
    Calls Try.prog 13 #[.slice A n c, .slice B m d] w fun e w' => e = .returned (.bool false) ∧ w = w' := by
  go_enter Try.func13, Try.ntmps13
  go_wp2
  all_goals go_ret
  all_goals simp_all
  all_goals omega
theorem a2Long_long (A B : Option Addr) (n m c d : Nat) (w : World) (h : 3000 < n ∨ 3000 < m) :
    Calls Try.prog 13 #[.slice A n c, .slice B m d] w fun e w' => e = .returned (.bool true) ∧ w = w' := by
  by_cases hn : 3000 < n
  · go_enter Try.func13, Try.ntmps13
    go_wp2
    all_goals go_ret
    all_goals simp_all
  · have hm : 3000 < m := by omega
    go_enter Try.func13, Try.ntmps13
    go_wp2
    all_goals go_ret
    all_goals simp_all
    all_goals omega
/-- some number below n -/
def SomeBelow (n : Nat) (w : World) (e : Ending) (w' : World) : Prop := ∃ x : Nat, x < n ∧ e = .returned (.int .i64 x) ∧ w = w'
theorem a2Byte_any (A : Option Addr) (l c k n : Nat) (z : Nat → Int) (w : World) (hl : l ≤ 9223372036854775807) (hs : Sl w w.heap.size A l (fun i => .int .u8 (z i))) (hz : ∀ i, i < l → (Lit.int .u8 (z i)).wf = true)
    (hk : k ≤ 3000) (hn0 : 1 ≤ n) (hn1 : n ≤ 65536) :
    Calls Try.prog 14 #[.slice A l c, .int .i64 k, .int .i64 n] w (SomeBelow n w) := by
  by_cases h1 : k < l
  · obtain ⟨b, o, rfl, hb, h1c⟩ := hs k h1
    obtain ⟨x, hx⟩ : ∃ x, x = z k := ⟨_, rfl⟩
    have x0 : 0 ≤ x ∧ x ≤ 255 := by rw [hx]; simpa [Lit.wf, IntKind.min, IntKind.max, IntKind.signed, IntKind.bits] using hz k h1
    simp only [← hx] at h1c
    clear hx
    by_cases h2 : k + 1 < l
    · obtain ⟨b', o', e', hb', h2c⟩ := hs (k + 1) h2
      simp only [Option.some.injEq, Addr.mk.injEq] at e'
      obtain ⟨rfl, rfl, _⟩ := e'
      obtain ⟨y, hy⟩ : ∃ y, y = z (k + 1) := ⟨_, rfl⟩
      have y0 : 0 ≤ y ∧ y ≤ 255 := by rw [hy]; simpa [Lit.wf, IntKind.min, IntKind.max, IntKind.signed, IntKind.bits] using hz (k + 1) h2
      simp only [← hy] at h2c
      clear hy hs hz
      go_enter Try.func14, Try.ntmps14
      go_wp2
      go_ret
      exact ⟨((256 * x + y) % (n : Int)).toNat, by have := Int.emod_lt_of_pos (256 * x + y) (show (0 : Int) < n by omega); have := Int.emod_nonneg (256 * x + y) (show (n : Int) ≠ 0 by omega); omega,
        ret_int (by have := Int.emod_nonneg (256 * x + y) (show (n : Int) ≠ 0 by omega); omega), rfl⟩
    · clear hs hz
      go_enter Try.func14, Try.ntmps14
      go_wp2
      go_ret
      exact ⟨(x % (n : Int)).toNat, by have := Int.emod_lt_of_pos x (show (0 : Int) < n by omega); have := Int.emod_nonneg x (show (n : Int) ≠ 0 by omega); omega,
        ret_int (by have := Int.emod_nonneg x (show (n : Int) ≠ 0 by omega); omega), rfl⟩
  · clear hs hz
    go_enter Try.func14, Try.ntmps14
    go_wp2
    go_ret
    exact ⟨0, by omega, rfl, rfl⟩
end Go.Proofs.Ytjcdomjaicdpjaa
