/-
  Disks of chains: entries of the directory: which are valid.
  Disks of chains: the bytes of an entry.
-/
import Derived.Test.YtmgcaiilocifbaaName
import Derived.Test.YtmgcaiilocifbaaChainTop
namespace Go.Proofs.Ytmgcaiilocifbaa
open Go Go.ChangeShapes Go.WideShapes Go.ChangeAt Go.RowKit lib
set_option linter.unusedVariables false
set_option maxRecDepth 100000
end Go.Proofs.Ytmgcaiilocifbaa
namespace Go.Proofs.Ytmgcaiilocifbaa
open Go Go.ChangeShapes Go.WideShapes Go.ChangeAt Go.RowKit lib
set_option linter.unusedVariables false
set_option maxRecDepth 100000
/-- 'copy(dst, s)', s a string: the walk's step in a plain region -/
theorem wpList_copy_str {P : Program} {ops : Array Oper} {rest : List Oper} {o : Oper} {a : Act} {w : World} {Q : Exit → Act → World → Prop} (hgd : o.guard = none) (d x : Operand) (dT sT : TypeId)
    (hop : o.op = Op.call { callee := Callee.builtin Builtin.copy, args := #[d, x], argTypes := #[dT, sT] }) (elem : TypeId) (hu : P.underlying dT = some (.slice elem)) (hz : ∀ w, (Go.sizeOf elem).run P w = .ok 1 w)
    (b off dLen dCap : Nat) (hd : a.eval d = .slice (some ⟨b, off, none⟩) dLen dCap) (t : ByteArray) (hx : a.eval x = .string t) (hle : t.size ≤ dLen)
    (hc : ∀ j, j < t.size → (w.cell? ⟨b, off + j, none⟩).isSome = true) (hf : ∀ j, j < t.size → w.frozen? ⟨b, off + j, none⟩ = false)
    (hK : wpList P ops Q rest (a.put o.dst (goInt t.size)) (w.setCells b off (t.data.toList.map fun x => Value.int .u8 (x.toNat : Int)))) : wpList P ops Q (o :: rest) a w := by
  refine wpList_plain hgd fun K hK' => ?_
  have hrun := run_copy_string (P := P) w dT sT o.type elem b off dLen dCap t hu hz hle hc hf
  unfold Oper.wp
  simp [execOp, hop, resolve, invoke, builtin, hd, hx, hrun, Result.andThen]
  exact hK' _ _ hK
/-- the bytes of a valid entry but the last -/
def entB0 (nm : ByteArray) (f l : Nat) : Nat → UInt8 := upd (upd (upd (putU (fun _ => 0) 0 nm.data.toList) 8 (UInt8.ofNat f)) 9 (UInt8.ofNat (l / 256))) 10 (UInt8.ofNat (l % 256))
/-- the bytes of a valid entry -/
def entB (nm : ByteArray) (f l : Nat) (us de : Bool) : Nat → UInt8 := if us then upd (entB0 nm f l) 11 1 else if de then upd (entB0 nm f l) 11 2 else entB0 nm f l
theorem entB_ff (nm : ByteArray) (f l : Nat) : entB nm f l false false = entB0 nm f l := rfl
theorem entB_ft (nm : ByteArray) (f l : Nat) : entB nm f l false true = upd (entB0 nm f l) 11 2 := rfl
theorem entB_t (nm : ByteArray) (f l : Nat) (de : Bool) : entB nm f l true de = upd (entB0 nm f l) 11 1 := rfl
theorem u8_ofNat' {x : Nat} (h : x < 256) : ((UInt8.ofNat x).toNat : Int) = (x : Int) := by
  rw [UInt8.toNat_ofNat']
  omega
end Go.Proofs.Ytmgcaiilocifbaa
