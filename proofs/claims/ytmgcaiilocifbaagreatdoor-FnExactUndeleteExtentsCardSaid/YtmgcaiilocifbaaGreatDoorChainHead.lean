/-
  Disks of chains: the header.
-/
import Derived.Test.YtmgcaiilocifbaaGreatDoorChA
import Derived.Test.YtmgcaiilocifbaaGreatDoorShelf
import Derived.Deep.RegionHeld3
namespace Go.Proofs.YtmgcaiilocifbaaGreatDoor
open Go Go.ChangeShapes Go.WideShapes Go.ChangeAt Go.RowKit lib
set_option linter.unusedVariables false
set_option maxRecDepth 100000
def zerosB (n : Nat) : ByteArray := ⟨(List.replicate n (0 : UInt8)).toArray⟩
/-- the first four bytes -/
def head4 (n e : Nat) : ByteArray := ⟨#[67, 72]⟩ ++ ⟨#[UInt8.ofNat n, UInt8.ofNat e]⟩
/-- the first six bytes -/
def head6 (n e : Nat) : ByteArray := head4 n e ++ word2 (crcN (byteAt (head4 n e)) (head4 n e).size 65535)
theorem zeros_any (n : Nat) (w : World) (hn : n ≤ 1048576) : Calls Tryz.prog 55 #[.int .i64 n] w fun r w' => r = .returned (.string (zerosB n)) ∧ Below w.heap.size w w' := by
  have e : (⟨(Lib.repeatL (⟨#[0]⟩ : ByteArray).data.toList n).toArray⟩ : ByteArray) = zerosB n := by
    unfold zerosB
    congr 2
    induction n with
    | zero => rfl
    | succ k ih => rw [List.replicate_succ, ← ih (by omega)]; rfl
  go_enter Tryz.func55, Tryz.ntmps55
  go_wp2_with (go_at_call 73; refine (Tryz.strings_Repeat ⟨#[0]⟩ n _ (by omega) (by show 1 * n ≤ _; omega)).mono ?_; rw [e]; rintro e w' ⟨rfl, hb⟩)
  go_ret
  exact ⟨rfl, hb⟩
end Go.Proofs.YtmgcaiilocifbaaGreatDoor
