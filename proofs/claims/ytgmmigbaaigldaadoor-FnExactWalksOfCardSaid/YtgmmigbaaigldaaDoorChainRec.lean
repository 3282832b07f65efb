/-
  Disks of chains: the record behind a pointer.
-/
import Derived.Test.YtgmmigbaaigldaaDoorChain
namespace Go.Proofs.YtgmmigbaaigldaaDoor
open Go Go.ChangeShapes Go.WideShapes Go.ChangeAt Go.RowKit lib
set_option linter.unusedVariables false
set_option maxRecDepth 100000
/-- a disk of chains at block p: layout, bytes at block g -/
structure ChW (w : World) (p g n z e d t N c : Nat) (u : Nat → UInt8) : Prop where
  c0 : w.cell? ⟨p, 0, none⟩ = some (.int .i64 n)
  c1 : w.cell? ⟨p, 1, none⟩ = some (.int .i64 z)
  c2 : w.cell? ⟨p, 2, none⟩ = some (.int .i64 e)
  c3 : w.cell? ⟨p, 3, none⟩ = some (.int .i64 d)
  c4 : w.cell? ⟨p, 4, none⟩ = some (.int .i64 t)
  c5 : w.cell? ⟨p, 5, none⟩ = some (.slice (some ⟨g, 0, none⟩) N c)
  row : BRow w 5 g N u
  ne : p ≠ g
  plt : p < w.heap.size
theorem ChW.below {w w' : World} {p g n z e d t N c : Nat} {u : Nat → UInt8} (h : ChW w p g n z e d t N c u) (hb : Below w.heap.size w w') : ChW w' p g n z e d t N c u :=
  ⟨(hb.cell (p := ⟨p, 0, none⟩) h.plt).trans h.c0, (hb.cell (p := ⟨p, 1, none⟩) h.plt).trans h.c1, (hb.cell (p := ⟨p, 2, none⟩) h.plt).trans h.c2, (hb.cell (p := ⟨p, 3, none⟩) h.plt).trans h.c3, (hb.cell (p := ⟨p, 4, none⟩) h.plt).trans h.c4, (hb.cell (p := ⟨p, 5, none⟩) h.plt).trans h.c5, h.row.below hb h.row.lt, h.ne, Nat.lt_of_lt_of_le h.plt hb.size⟩
theorem ChW.drew {w : World} {p g n z e d t N c : Nat} {u : Nat → UInt8} (h : ChW w p g n z e d t N c u) : ChW w.drew p g n z e d t N c u :=
  ⟨h.c0, h.c1, h.c2, h.c3, h.c4, h.c5, h.row.drew, h.ne, h.plt⟩
/-- a byte is stored -/
theorem ChW.put {w : World} {p g n z e d t N c : Nat} {u : Nat → UInt8} (h : ChW w p g n z e d t N c u) (i : Nat) (x : UInt8) {y : Int} (hy : y = (x.toNat : Int)) : ChW (w.setCell ⟨g, i, none⟩ (.int .u8 y)) p g n z e d t N c (upd u i x) := by
  have hne : ∀ j, (⟨g, i, none⟩ : Addr) ≠ ⟨p, j, none⟩ := fun j q => h.ne (congrArg Addr.block q).symm
  have far : ∀ j, (w.setCell ⟨g, i, none⟩ (.int .u8 y)).cell? ⟨p, j, none⟩ = w.cell? ⟨p, j, none⟩ := fun j => World.cell?_setCell_other _ _ _ _ (hne j)
  exact ⟨(far 0).trans h.c0, (far 1).trans h.c1, (far 2).trans h.c2, (far 3).trans h.c3, (far 4).trans h.c4, (far 5).trans h.c5, h.row.set x hy, h.ne, by simp; exact h.plt⟩
theorem specLink_any {w : World} {p g n z e d t N c : Nat} {u : Nat → UInt8} (k : Nat) (h : ChW w p g n z e d t N c u) (hk : z + k < N) (hN : N ≤ 1048576) : Calls Tryd.prog 84 #[.pointer (some ⟨p, 0, none⟩), .int .i64 k] w fun r w' => r = .returned (.int .i64 ((u (z + k)).toNat : Int)) ∧ w' = w.drew := by
  have h1 := h.c1
  have h5 := h.c5
  have hr := h.row.cell hk
  have hs : IntKind.i64.wrap ((z : Int) + k) = (z : Int) + k := by rw [IntKind.wrap_i64]; omega
  have hi0 : (0 : Int) ≤ (z : Int) + k := by omega
  have hi1 : (z : Int) + k < N := by omega
  have hi2 : ((z : Int) + k).toNat = z + k := by omega
  go_enter Tryd.func84, Tryd.ntmps84
  go_wp2_with fail
  go_region
  go_wp2
  go_ret
  exact ⟨ret_int (by have := (u (z + k)).toNat_lt; unfold wrap64; omega), rfl⟩
theorem implLink_any {w : World} {p g n z e d t N c : Nat} {u : Nat → UInt8} (k : Nat) (h : ChW w p g n z e d t N c u) (hk : z + k < N) (hN : N ≤ 1048576) : Calls Tryd.prog 88 #[.pointer (some ⟨p, 0, none⟩), .int .i64 k] w fun r w' => r = .returned (.pointer (some ⟨g, z + k, none⟩)) ∧ w' = w.drew := by
  have h1 := h.c1
  have h5 := h.c5
  have hr := h.row.cell hk
  have hs : IntKind.i64.wrap ((z : Int) + k) = (z : Int) + k := by rw [IntKind.wrap_i64]; omega
  have hi0 : (0 : Int) ≤ (z : Int) + k := by omega
  have hi1 : (z : Int) + k < N := by omega
  have hi2 : ((z : Int) + k).toNat = z + k := by omega
  go_enter Tryd.func88, Tryd.ntmps88
  go_wp2_with fail
  go_region
  go_wp2
  go_ret
  exact ⟨rfl, rfl⟩
/-- block i of a disk -/
def blkOf (z : Nat) (u : Nat → UInt8) (i : Nat) : ByteArray := bstr z (fun j => u (i * z + j))
theorem news1 (w : World) (e : Nat) (u : Value) : ∀ (j : Nat) (q : Value), [u][j]? = some q → ((w.alloc (.cells #[u] e)).drew).cell? ((⟨w.heap.size, 0, none⟩ : Addr).add j) = some q := by
  intro j q h
  match j with
  | 0 =>
    have : q = u := by simpa using h.symm
    subst this
    exact World.cell?_alloc_new w #[q] e 0
  | j + 1 => simp at h
end Go.Proofs.YtgmmigbaaigldaaDoor
