/-
  copy(dst, s) from a string longer than dst; copy of a row of bytes; plain.
-/
import Derived.Test.YtmgcaiilocifbaaGreatDoorCopy
import Derived.Lib.LazyBuf
import Derived.Laws.IdiomCopy
namespace Go.Proofs.YtmgcaiilocifbaaGreatDoor
open Go Go.ChangeShapes Go.WideShapes Go.ChangeAt Go.RowKit lib
set_option linter.unusedVariables false
set_option linter.unusedSimpArgs false
set_option maxRecDepth 100000
/-- 'copy(dst, s)', s a string no shorter than dst: dst is filled -/
theorem run_copy_cut {P : Program} (w : World) (dT sT ty elem : TypeId) (b o dLen dCap : Nat) (t : ByteArray)
    (hu : P.underlying dT = some (.slice elem)) (hz : ∀ w, (Go.sizeOf elem).run P w = .ok 1 w) (hle : dLen ≤ t.size)
    (hc : ∀ j, j < dLen → (w.cell? ⟨b, o + j, none⟩).isSome = true) (hf : ∀ j, j < dLen → w.frozen? ⟨b, o + j, none⟩ = false) :
    (Builtin.copy_ #[dT, sT] ty #[.slice (some ⟨b, o, none⟩) dLen dCap, .string t]).run P w = .ok (goInt dLen) (w.setCells b o ((t.data.toList.take dLen).map fun x => Value.int .u8 (x.toNat : Int))) := by
  have hmin : Nat.min t.size dLen = dLen := Nat.min_eq_right hle
  have hl : ((t.data.toList.take dLen).map fun x => Value.int .u8 (x.toNat : Int)).length = dLen := by
    rw [List.length_map, List.length_take, ← Lib.size_eq]
    omega
  have hst := run_storeCells_cells (P := P) b o ((t.data.toList.take dLen).map fun x => Value.int .u8 (x.toNat : Int)) 0 w (by rw [hl]; simpa using hc) (by rw [hl]; simpa using hf) (by
    intro v hv
    obtain ⟨x, _, rfl⟩ := List.mem_map.1 hv
    rfl)
  simp [Builtin.copy_, run_underlying hu, Builtin.lenOf, Builtin.firstCells, hz, hmin]
  rw [← List.map_take, hst]
  rfl
/-- .. the walk's step in a plain region -/
theorem wpList_copy_cut {P : Program} {ops : Array Oper} {rest : List Oper} {o : Oper} {a : Act} {w : World} {Q : Exit → Act → World → Prop} (hgd : o.guard = none) (d x : Operand) (dT sT : TypeId)
    (hop : o.op = Op.call { callee := Callee.builtin Builtin.copy, args := #[d, x], argTypes := #[dT, sT] }) (elem : TypeId) (hu : P.underlying dT = some (.slice elem)) (hz : ∀ w, (Go.sizeOf elem).run P w = .ok 1 w)
    (b off dLen dCap : Nat) (hd : a.eval d = .slice (some ⟨b, off, none⟩) dLen dCap) (t : ByteArray) (hx : a.eval x = .string t) (hle : dLen ≤ t.size)
    (hc : ∀ j, j < dLen → (w.cell? ⟨b, off + j, none⟩).isSome = true) (hf : ∀ j, j < dLen → w.frozen? ⟨b, off + j, none⟩ = false)
    (hK : wpList P ops Q rest (a.put o.dst (goInt dLen)) (w.setCells b off ((t.data.toList.take dLen).map fun x => Value.int .u8 (x.toNat : Int)))) : wpList P ops Q (o :: rest) a w := by
  refine wpList_plain hgd fun K hK' => ?_
  have hrun := run_copy_cut (P := P) w dT sT o.type elem b off dLen dCap t hu hz hle hc hf
  simp only [List.map_take] at hrun hK
  unfold Oper.wp
  simp [execOp, hop, resolve, invoke, builtin, hd, hx, hrun, Result.andThen]
  exact hK' _ _ hK
/-- .. a step of a region that draws -/
theorem step_copy_cut {P : Program} {ops : Array Oper} {o : Oper} {a : Act} {w : World} {K : Act → World → Prop} {Q : Exit → Act → World → Prop} {E : Prop}
    (hg : o.guard = none) (d x : Operand) (dT sT : TypeId) (hop : o.op = Op.call { callee := Callee.builtin Builtin.copy, args := #[d, x], argTypes := #[dT, sT] })
    (elem : TypeId) (hu : P.underlying dT = some (.slice elem)) (hz : ∀ w, (Go.sizeOf elem).run P w = .ok 1 w)
    (b off dLen dCap : Nat) (hd : a.eval d = .slice (some ⟨b, off, none⟩) dLen dCap) (t : ByteArray) (hx : a.eval x = .string t) (hle : dLen ≤ t.size)
    (hc : ∀ j, j < dLen → (w.cell? ⟨b, off + j, none⟩).isSome = true) (hf : ∀ j, j < dLen → w.frozen? ⟨b, off + j, none⟩ = false)
    (hK : K (a.put o.dst (goInt dLen)) (w.setCells b off ((t.data.toList.take dLen).map fun x => Value.int .u8 (x.toNat : Int)))) :
    if Region.wanted o (yielded ops a.tmps) = true then Oper.wp P o a w K Q else E := by
  have hw : Region.wanted o (yielded ops a.tmps) = true := by simp [Region.wanted, hg]
  rw [if_pos hw]
  have hrun := run_copy_cut (P := P) w dT sT o.type elem b off dLen dCap t hu hz hle hc hf
  simp only [List.map_take] at hrun hK
  unfold Oper.wp
  simp [execOp, hop, resolve, invoke, builtin, hd, hx, hrun, Result.andThen]
  exact hK
/-- 'copy(dst, src)', src a row of bytes no longer than dst: a step of a region that draws -/
theorem step_copyB {P : Program} {ops : Array Oper} {o : Oper} {a : Act} {w : World} {K : Act → World → Prop} {Q : Exit → Act → World → Prop} {E : Prop}
    (hg : o.guard = none) (d x : Operand) (dT sT : TypeId) (hop : o.op = Op.call { callee := Callee.builtin Builtin.copy, args := #[d, x], argTypes := #[dT, sT] })
    (elem : TypeId) (hu : P.underlying dT = some (.slice elem)) (hs1 : (P.info? elem).map (·.size) = some 1)
    (b off dLen dCap : Nat) (hd : a.eval d = .slice (some ⟨b, off, none⟩) dLen dCap) (g2 m c2 : Nat) (v : Nat → UInt8) (hx : a.eval x = .slice (some ⟨g2, 0, none⟩) m c2) (hle : m ≤ dLen) (hsrc : BRow w elem g2 m v)
    (hc : ∀ j, j < m → (w.cell? ⟨b, off + j, none⟩).isSome = true) (hf : ∀ j, j < m → w.frozen? ⟨b, off + j, none⟩ = false)
    (hK : K (a.put o.dst (goInt m)) (w.setCells b off (((List.range m).map v).map fun x => Value.int .u8 (x.toNat : Int)))) :
    if Region.wanted o (yielded ops a.tmps) = true then Oper.wp P o a w K Q else E := by
  have hw : Region.wanted o (yielded ops a.tmps) = true := by simp [Region.wanted, hg]
  rw [if_pos hw]
  have hl : (((List.range m).map v).map fun x => Value.int .u8 (x.toNat : Int)).length = m := by simp
  have hrun := run_copy_cells (P := P) w dT sT o.type elem b off dLen dCap ⟨g2, 0, none⟩ m c2 (((List.range m).map v).map fun x => Value.int .u8 (x.toNat : Int)) hu hs1
    (by rw [hl]; exact (Nat.min_eq_left hle).symm)
    (fun j u hj => by
      have hjm : j < m := by have := (List.getElem?_eq_some_iff.1 hj).1; rwa [hl] at this
      rw [Addr.add_lit, Nat.zero_add, hsrc.cell hjm, ← hj]
      simp [hjm])
    (by rw [hl]; exact hc) (by rw [hl]; exact hf) (by
      intro u hu
      obtain ⟨_, _, rfl⟩ := List.mem_map.1 hu
      rfl)
  rw [hl] at hrun
  generalize (((List.range m).map v).map fun x => Value.int .u8 (x.toNat : Int)) = L at hrun hK
  unfold Oper.wp
  simp [execOp, hop, resolve, invoke, builtin, hd, hx, hrun, Result.andThen]
  exact hK
/-- 'string' of a sum of texts cut short: the name's bytes with blanks behind -/
theorem padded (nm : ByteArray) (h : nm.size ≤ 8) : ∀ j, j < 8 → ((nm ++ (⟨#[32, 32, 32, 32, 32, 32, 32, 32]⟩ : ByteArray)).data.toList.take 8).getD j 0 = if j < nm.size then byteAt nm j else 32 := by
  intro j hj
  rw [List.getD_eq_getElem?_getD, List.getElem?_take, if_pos hj, ByteArray.data_append, Array.toList_append]
  have hs : nm.data.toList.length = nm.size := by rw [Array.length_toList]; rfl
  split
  · rename_i h1
    rw [List.getElem?_append_left (by omega)]
    unfold byteAt
    rw [List.getD_eq_getElem?_getD]
  · rename_i h1
    rw [List.getElem?_append_right (by omega), hs]
    have : j - nm.size < 8 := by omega
    generalize j - nm.size = i at *
    have : i = 0 ∨ i = 1 ∨ i = 2 ∨ i = 3 ∨ i = 4 ∨ i = 5 ∨ i = 6 ∨ i = 7 := by omega
    rcases this with rfl | rfl | rfl | rfl | rfl | rfl | rfl | rfl <;> rfl
end Go.Proofs.YtmgcaiilocifbaaGreatDoor
