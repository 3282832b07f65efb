/-
  Disks of chains: the problems of an entry: plain.
-/
import Derived.Test.YtapkckpjeoedaaaGreatDoorLostTop
import Derived.Test.YtapkckpjeoedaaaGreatDoorGoneP
import Derived.Test.YtapkckpjeoedaaaGreatDoorProbs
namespace Go.Proofs.YtapkckpjeoedaaaGreatDoor
open Go Go.ChangeShapes Go.WideShapes Go.ChangeAt Go.RowKit lib
set_option linter.unusedVariables false
set_option maxRecDepth 100000
open Classical in
/-- the problems of an entry, first part: a name that is twice there -/
noncomputable def pro1 (n z : Nat) (U : Nat → UInt8) (nm : ByteArray) (k : Nat) : List (Nat × Nat) := if namedTo n z U nm k then [(3, 0)] else []
/-- second part: how its walk ends -/
def pro2 (e b : Nat) : List (Nat × Nat) := if e = 0 then [] else [(e, b)]
/-- third part: its length -/
def pro3 (m N : Nat) : List (Nat × Nat) := if m < N then [(8, 0)] else if N < m then [(9, 0)] else []
open Classical in
/-- the problems of entry k with its walk: kinds and blocks -/
noncomputable def probsN (n z : Nat) (U : Nat → UInt8) (k : Nat) (W : List Nat × Nat × Nat) : List (Nat × Nat) :=
  if okE (fun i => U (dirN n z * z + k * 12 + i)) then if (entK n z U k).us = true then (pro1 n z U (entK n z U k).nm k ++ pro2 W.2.1 W.2.2) ++ pro3 W.1.length (needN z (entK n z U k).l) else [] else [(2, 0)]
/-- the cells of a list of problems -/
def cells3 (k : Nat) (l : List (Nat × Nat)) : List Value := l.flatMap fun a => [.int .i64 (a.1 : Int), .int .i64 (k : Int), .int .i64 (a.2 : Int)]
theorem cells3_snoc (k : Nat) (l : List (Nat × Nat)) (a b : Nat) : cells3 k (l ++ [(a, b)]) = cells3 k l ++ [.int .i64 (a : Int), .int .i64 (k : Int), .int .i64 (b : Int)] := by simp [cells3]
/-- a list of problems of the call's own -/
def PRow (B : Nat) (w : World) (A : Option Addr) (c : Nat) (k : Nat) (l : List (Nat × Nat)) : Prop := w.ownsRow B 142 3 (.slice A l.length c) l.length (cells3 k l)
theorem PRow.below {B c k : Nat} {w w' : World} {A : Option Addr} {l : List (Nat × Nat)} (h : PRow B w A c k l) (hb : Below w.heap.size w w') : PRow B w' A c k l := own_below h hb
theorem pRow_snoc {B c k a b : Nat} {w : World} {A : Option Addr} {l : List (Nat × Nat)} (h : w.ownsRow B 142 3 (.slice A (l.length + 1) c) (l.length + 1) (cells3 k l ++ [.int .i64 (a : Int), .int .i64 (k : Int), .int .i64 (b : Int)])) : PRow B w A c k (l ++ [(a, b)]) := by
  unfold PRow
  rw [cells3_snoc, List.length_append]
  exact h
theorem pRow_one (w : World) (k a b : Nat) : PRow w.heap.size (w.alloc (.cells #[.int .i64 (a : Int), .int .i64 (k : Int), .int .i64 (b : Int)] 142)) (some ⟨w.heap.size, 0, none⟩) 1 k [(a, b)] :=
  ⟨rfl, .inr ⟨w.heap.size, 1, _, rfl, Nat.le_refl _, heap_alloc_new w _, Nat.le_refl _, by simp [maxLen], rfl, rfl⟩⟩
theorem infoCP : (Tryz.prog.info? 142).map (fun i => (i.zero, i.size, i.bytes)) = some (some (.agg #[.int .i64 0, .int .i64 0, .int .i64 0]), 3, 24) := by kernel_rfl
theorem pro1_le (n z : Nat) (U : Nat → UInt8) (nm : ByteArray) (k : Nat) : (pro1 n z U nm k).length ≤ 1 := by unfold pro1; split <;> simp
theorem pro2_le (e b : Nat) : (pro2 e b).length ≤ 1 := by unfold pro2; split <;> simp
theorem pro3_le (m N : Nat) : (pro3 m N).length ≤ 1 := by
  unfold pro3
  split
  · simp
  · split <;> simp
theorem probsN_le (n z : Nat) (U : Nat → UInt8) (k : Nat) (W : List Nat × Nat × Nat) : (probsN n z U k W).length ≤ 3 := by
  unfold probsN
  split
  · split
    · have h1 := pro1_le n z U (entK n z U k).nm k
      have h2 := pro2_le W.2.1 W.2.2
      have h3 := pro3_le W.1.length (needN z (entK n z U k).l)
      simp only [List.length_append]
      omega
    · simp
  · simp
end Go.Proofs.YtapkckpjeoedaaaGreatDoor
