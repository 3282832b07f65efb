/-
  Disks of chains: an entry is stored.
  Disks of chains: an entry is stored by the reference: what may turn.
-/
import Derived.Test.YtmgcaiilocifbaaEntA
import Derived.Laws.IdiomCopy
namespace Go.Proofs.Ytmgcaiilocifbaa
open Go Go.ChangeShapes Go.WideShapes Go.ChangeAt Go.RowKit lib
set_option linter.unusedVariables false
set_option maxRecDepth 100000
/-- 'copy(dst, src)', src a row of bytes no longer than dst: a step of a region that draws -/
theorem step_copy_bytes {P : Program} {ops : Array Oper} {o : Oper} {a : Act} {w : World} {K : Act → World → Prop} {Q : Exit → Act → World → Prop} {E : Prop}
    (hg : o.guard = none) (d x : Operand) (dT sT : TypeId) (hop : o.op = Op.call { callee := Callee.builtin Builtin.copy, args := #[d, x], argTypes := #[dT, sT] })
    (elem : TypeId) (hu : P.underlying dT = some (.slice elem)) (hs1 : (P.info? elem).map (·.size) = some 1)
    (b off dLen dCap : Nat) (hd : a.eval d = .slice (some ⟨b, off, none⟩) dLen dCap) (g2 m c2 : Nat) (v : Nat → UInt8) (hx : a.eval x = .slice (some ⟨g2, 0, none⟩) m c2) (hle : m ≤ dLen) (hsrc : BRow w elem g2 m v)
    (hc : ∀ j, j < m → (w.cell? ⟨b, off + j, none⟩).isSome = true) (hf : ∀ j, j < m → w.frozen? ⟨b, off + j, none⟩ = false)
    (hK : K (a.put o.dst (goInt m)) (w.setCells b off (((List.range m).map v).map fun x => Value.int .u8 (x.toNat : Int)))) :
    if Region.wanted o (yielded ops a.tmps) = true then Oper.wp P o a w K Q else E := by
  have hw : Region.wanted o (yielded ops a.tmps) = true := by simp [Region.wanted, hg]
  rw [if_pos hw]
  have hl : (((List.range m).map v).map fun x => Value.int .u8 (x.toNat : Int)).length = m := by simp
  have hrun := run_copy_cells (P := P) w dT sT o.type elem b off dLen dCap ⟨g2, 0, none⟩ m c2 (((List.range m).map v).map fun x => Value.int .u8 (x.toNat : Int)) hu hs1
    (by rw [hl]; exact (Nat.min_eq_left hle).symm)
    (fun j u hj => by
      have hjm : j < m := by have := (List.getElem?_eq_some_iff.1 hj).1; rwa [hl] at this
      rw [Addr.add_lit, Nat.zero_add, hsrc.cell hjm, ← hj]
      simp [hjm])
    (by rw [hl]; exact hc) (by rw [hl]; exact hf) (by
      intro u hu
      obtain ⟨_, _, rfl⟩ := List.mem_map.1 hu
      rfl)
  rw [hl] at hrun
  generalize (((List.range m).map v).map fun x => Value.int .u8 (x.toNat : Int)) = L at hrun hK
  unfold Oper.wp
  simp [execOp, hop, resolve, invoke, builtin, hd, hx, hrun, Result.andThen]
  exact hK
theorem size8 : (Try.prog.info? 5).map (·.size) = some 1 := by kernel_rfl
/-- the bytes of a disk with an entry stored -/
def putE (u : Nat → UInt8) (at' : Nat) (nm : ByteArray) (f l : Nat) (us de : Bool) : Nat → UInt8 := putU u at' ((List.range 12).map (entB nm f l us de))
theorem dir_fits {n z k : Nat} (h : LayOk n z) (hk : k < entsN n) : dirN n z * z + k * 12 + 12 ≤ n * z := by
  have h1 := Nat.mul_le_mul_right z h.data
  have hz : 0 < z := by rcases h.sz with h | h | h <;> omega
  have h2 : dataN n z * z = dirN n z * z + (entsN n * 12 + z - 1) / z * z := by unfold dataN; rw [Nat.add_mul]
  have h3 := Nat.div_add_mod (entsN n * 12 + z - 1) z
  have h4 := Nat.mod_lt (entsN n * 12 + z - 1) hz
  rw [Nat.mul_comm] at h3
  omega
end Go.Proofs.Ytmgcaiilocifbaa
namespace Go.Proofs.Ytmgcaiilocifbaa
open Go Go.ChangeShapes Go.WideShapes Go.ChangeAt Go.RowKit lib
set_option linter.unusedVariables false
set_option maxRecDepth 100000
end Go.Proofs.Ytmgcaiilocifbaa
