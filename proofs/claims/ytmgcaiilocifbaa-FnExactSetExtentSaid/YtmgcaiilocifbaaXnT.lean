/-
  Disks of extents: an entry is read: the program's side.
-/
import Derived.Test.YtmgcaiilocifbaaXbT
import Derived.Test.YtmgcaiilocifbaaXpT
import Derived.Test.YtmgcaiilocifbaaXvT
import Derived.Test.YtmgcaiilocifbaaSlInts
import Derived.Test.YtmgcaiilocifbaaShelf
import Derived.Deep.DeepCutAuto
namespace Go.Proofs.Ytmgcaiilocifbaa
open Go Go.ChangeShapes Go.WideShapes Go.ChangeAt Go.RowKit lib
set_option linter.unusedVariables false
set_option linter.unusedSimpArgs false
set_option maxRecDepth 100000
/-- how an entry's reading ends -/
def XEnt (r : Ending) (w w' : World) (z : Nat) (v : Nat → UInt8) : Prop := ∃ (b : Bool) (A : Option Addr) (c : Nat), (b = true ↔ xGood z v) ∧ r = .returned (.tuple #[(xent z v).val A c, .bool b]) ∧ IntR w.heap.size w' A c (xent z v).bl ∧ Below w.heap.size w w'
theorem rowset5X {w : World} {g e : Nat} {a0 a1 a2 a3 a4 : Value} (h : Rw w g e #[a0, a1, a2, a3, a4]) (v0 v1 v2 v3 v4 : Value) :
    (w.setCell ⟨g, 0, none⟩ v0).cell? ⟨g, 0, none⟩ = some v0 ∧ ((w.setCell ⟨g, 0, none⟩ v0).setCell ⟨g, 1, none⟩ v1).cell? ⟨g, 1, none⟩ = some v1 ∧ (((w.setCell ⟨g, 0, none⟩ v0).setCell ⟨g, 1, none⟩ v1).setCell ⟨g, 2, none⟩ v2).cell? ⟨g, 2, none⟩ = some v2 ∧ ((((w.setCell ⟨g, 0, none⟩ v0).setCell ⟨g, 1, none⟩ v1).setCell ⟨g, 2, none⟩ v2).setCell ⟨g, 3, none⟩ v3).cell? ⟨g, 3, none⟩ = some v3 ∧ (((((w.setCell ⟨g, 0, none⟩ v0).setCell ⟨g, 1, none⟩ v1).setCell ⟨g, 2, none⟩ v2).setCell ⟨g, 3, none⟩ v3).setCell ⟨g, 4, none⟩ v4).cell? ⟨g, 4, none⟩ = some v4 :=
  ⟨(h.set 0 v0).cell 0, ((h.set 0 v0).set 1 v1).cell 1, (((h.set 0 v0).set 1 v1).set 2 v2).cell 2, ((((h.set 0 v0).set 1 v1).set 2 v2).set 3 v3).cell 3, (((((h.set 0 v0).set 1 v1).set 2 v2).set 3 v3).set 4 v4).cell 4⟩
/-- the numbers of an entry's blocks as far as they are read -/
def xBl (v : Nat → UInt8) (j : Nat) : List Int := (List.range j).map fun i => ((v (12 + i)).toNat : Int)
theorem xBl_len (v : Nat → UInt8) (j : Nat) : (xBl v j).length = j := by simp [xBl]
theorem xBl_more (v : Nat → UInt8) (j : Nat) : xBl v (j + 1) = xBl v j ++ [((v (12 + j)).toNat : Int)] := by
  unfold xBl
  rw [List.range_succ, List.map_append]
  rfl
theorem rwGrown {w w' : World} {g e : Nat} {cs : Array Value} {row : Option Nat} (h : Rw w g e cs) (hb : w.grownBy w' row) (hg : some g ≠ row) : Rw w' g e cs := (hb.block g h.lt hg).trans h
theorem IntR.farX {B c : Nat} {w : World} {A : Option Addr} {l : List Int} (h : IntR B w A c l) {p : Addr} (hp : p.block < B) (x : Value) : IntR B (w.setCell p x) A c l :=
  World.ownsRow.kept h (only_setCell (g := p.block) (only_refl w _) (.inl rfl) x) (by
    cases hv : (Value.slice A l.length c).ownBlock with
    | none => exact .inl rfl
    | some o => exact .inr fun e => by have := own_lt h o hv; simp only [Option.some.injEq] at e; omega)
end Go.Proofs.Ytmgcaiilocifbaa
