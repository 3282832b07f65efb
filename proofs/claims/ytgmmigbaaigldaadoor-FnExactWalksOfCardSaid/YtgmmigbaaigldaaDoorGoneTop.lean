/-
  Disks of chains: GoneChains, both sides.
-/
import Derived.Test.YtgmmigbaaigldaaDoorEntRS
import Derived.Test.YtgmmigbaaigldaaDoorEntryTop
import Derived.Test.YtgmmigbaaigldaaDoorChainC2
namespace Go.Proofs.YtgmmigbaaigldaaDoor
open Go Go.ChangeShapes Go.WideShapes Go.ChangeAt Go.RowKit lib
set_option linter.unusedVariables false
set_option maxRecDepth 100000
/-- entry k of a disk -/
noncomputable def entK (n z : Nat) (U : Nat → UInt8) (k : Nat) : Ent := entryOf (fun i => U (dirN n z * z + k * 12 + i))
/-- the first k entries' numbers: those that are deleted -/
noncomputable def goneL (n z : Nat) (U : Nat → UInt8) : Nat → List Nat
  | 0 => []
  | k + 1 => goneL n z U k ++ (if (entK n z U k).de = true then [k] else [])
theorem goneL_hit {n z : Nat} {U : Nat → UInt8} {k : Nat} (h : (entK n z U k).de = true) : goneL n z U (k + 1) = goneL n z U k ++ [k] := by simp only [goneL, if_pos h]
theorem goneL_miss {n z : Nat} {U : Nat → UInt8} {k : Nat} (h : (entK n z U k).de = false) : goneL n z U (k + 1) = goneL n z U k := by simp [goneL, h]
theorem goneL_le (n z : Nat) (U : Nat → UInt8) : ∀ k, (goneL n z U k).length ≤ k
  | 0 => Nat.le_refl _
  | k + 1 => by
    have := goneL_le n z U k
    simp only [goneL, List.length_append]
    split <;> simp <;> omega
/-- how reading entry k ends: its parts -/
theorem entOut_parts {r : Ending} {w w' : World} {v : Nat → UInt8} (h : EntOut r w w' v) : ∃ (b : Bool) (nm : ByteArray) (f l : Nat) (us de : Bool), (b = true ↔ okE v) ∧ entryOf v = ⟨nm, f, l, us, de⟩ ∧ r = .returned (.tuple #[.agg #[.string nm, .int .i64 f, .int .i64 l, .bool us, .bool de], .bool b]) ∧ Below w.heap.size w w' ∧ nm.size ≤ 8 ∧ f ≤ 255 ∧ l ≤ 512 ∧ (b = false → us = false ∧ de = false) := by
  obtain ⟨b, hb, hr, hw⟩ := h
  obtain ⟨e, he⟩ : ∃ e, entryOf v = e := ⟨_, rfl⟩
  have hf := entryOf_facts v
  rw [he] at hf hr
  obtain ⟨nm, f, l, us, de⟩ := e
  refine ⟨b, nm, f, l, us, de, hb, he, hr, hw, hf.1, hf.2.1, hf.2.2.1, fun hbf => ?_⟩
  have hn : ¬ okE v := fun q => by have := hb.2 q; rw [hbf] at this; cases this
  rw [entryOf_not hn] at he
  unfold ent0 at he
  injection he with _ _ _ h4 h5
  exact ⟨h4.symm, h5.symm⟩
noncomputable def goneOf (n : Nat) (s : Nat → ByteArray) : List Nat := goneL n (s 0).size (joinU (s 0).size s) (entsN n)
end Go.Proofs.YtgmmigbaaigldaaDoor
