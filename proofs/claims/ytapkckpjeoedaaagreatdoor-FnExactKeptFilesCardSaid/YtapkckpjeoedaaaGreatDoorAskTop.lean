/-
  Disks of chains: a disk is opened with the chain of a name: the program's side.
-/
import Derived.Test.YtapkckpjeoedaaaGreatDoorGoneP
namespace Go.Proofs.YtapkckpjeoedaaaGreatDoor
open Go Go.ChangeShapes Go.WideShapes Go.ChangeAt Go.RowKit lib
set_option linter.unusedVariables false
set_option maxRecDepth 100000
noncomputable def fndOf (n : Nat) (s : Nat → ByteArray) (nm : ByteArray) : Nat × Nat := findGo n (s 0).size (joinU (s 0).size s) nm (entsN n) 0
noncomputable def entOfN (n : Nat) (s : Nat → ByteArray) (nm : ByteArray) : Ent := entK n (s 0).size (joinU (s 0).size s) (fndOf n s nm).1
noncomputable def chOf (n : Nat) (s : Nat → ByteArray) (nm : ByteArray) : List Nat × Nat := chainOf (dataN n (s 0).size) n (lkN (s 0).size (joinU (s 0).size s)) (entOfN n s nm).f
open Classical in
noncomputable def askCode (n : Nat) (s : Nat → ByteArray) (nm : ByteArray) : Int := if opens n s then if NameS nm then if (fndOf n s nm).2 = 0 then ((chOf n s nm).2 : Int) else ((fndOf n s nm).2 : Int) else 1 else openCode n s
/-- the result of an openChain that fails -/
def noChain (code : Int) : Value := .tuple #[.pointer none, .int .i64 0, ent0.val, .slice none 0 0, .int .i64 code]
theorem ChW.far {w : World} {p g n z e d t N c q : Nat} {u : Nat → UInt8} (h : ChW w p g n z e d t N c u) (hp : p ≠ q) (hg : g ≠ q) (j : Nat) (x : Value) : ChW (w.setCell ⟨q, j, none⟩ x) p g n z e d t N c u :=
  h.keep (Below.heap_setCell w ⟨q, j, none⟩ x p hp) (by simp [World.setCell]) (h.row.keep (Below.heap_setCell w ⟨q, j, none⟩ x g hg))
theorem askCode_zero {n : Nat} {s : Nat → ByteArray} {nm : ByteArray} (h : askCode n s nm = 0) : opens n s ∧ NameS nm ∧ (fndOf n s nm).2 = 0 ∧ (chOf n s nm).2 = 0 := by
  unfold askCode at h
  split at h
  · rename_i h1
    split at h
    · rename_i h2
      split at h
      · rename_i h3
        exact ⟨h1, h2, h3, by omega⟩
      · omega
    · omega
  · have := openCode_ne n s; omega
end Go.Proofs.YtapkckpjeoedaaaGreatDoor
