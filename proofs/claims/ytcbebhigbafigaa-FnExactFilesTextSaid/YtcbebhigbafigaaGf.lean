/-
  The walks of the program's and the reference's functions of GF(256).
-/
import Derived.Test.YtcbebhigbafigaaLib
import Derived.Test.YtcbebhigbafigaaGfm
import Derived.Lib.Hide
import Derived.Test.YtcbebhigbafigaaChecked
namespace Go.Proofs.Ytcbebhigbafigaa
open Go Go.ChangeShapes Go.WideShapes Go.ChangeAt Go.RowKit lib
set_option linter.unusedVariables false
set_option maxRecDepth 100000
theorem x2_hi (x : Nat) (h : 255 < 2 * x) : gf.x2 x = (x * 2) ^^^ 285 := by unfold gf.x2; rw [if_pos h, Nat.mul_comm]
theorem x2_lo (x : Nat) (h : ¬ 255 < 2 * x) : gf.x2 x = x * 2 := by unfold gf.x2; rw [if_neg h, Nat.mul_comm]
/-- the product of two numbers, 0 outside -/
def gfMulI (a b : Int) : Int := if 0 ≤ a ∧ a ≤ 255 ∧ 0 ≤ b ∧ b ≤ 255 then (gf.gmul a.toNat b.toNat : Nat) else 0
theorem gfMulI_in (a b : Nat) (ha : a < 256) (hb : b < 256) : gfMulI a b = (gf.gmul a b : Nat) := by
  unfold gfMulI; rw [if_pos (by omega)]; rfl
/-- one round, as the walks end it -/
theorem gf_round {a b n out x y : Nat} (hm : gf.Mid a b n out x y) (hy : 0 < y) {o' x' : Nat} (ho : o' = if y % 2 = 1 then out ^^^ x else out) (hx : x' = gf.x2 x) :
    ∃ n o z : Nat, ∃ q : Nat, gf.Mid a b n o z q ∧ (x' : Int) = z ∧ (y : Int) / 2 = q ∧ (o' : Int) = o := by
  obtain ⟨m, h⟩ := gf.mid_next hm hy
  exact ⟨m, _, _, _, h, by rw [hx], by omega, by rw [ho]⟩
end Go.Proofs.Ytcbebhigbafigaa
