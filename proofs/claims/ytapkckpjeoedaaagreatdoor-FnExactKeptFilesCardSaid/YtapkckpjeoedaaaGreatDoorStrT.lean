/-
  Rows of texts of the call's own; slices.Sort and slices.Compact of texts.
-/
import Derived.Test.YtapkckpjeoedaaaGreatDoorLtP
import Derived.Test.YtapkckpjeoedaaaGreatDoorShelf
import Derived.Sort.OwnSorted
import Derived.Lib.OwnBridge
namespace Go.Proofs.YtapkckpjeoedaaaGreatDoor
open Go Go.ChangeShapes Go.WideShapes Go.ChangeAt Go.RowKit lib
set_option linter.unusedVariables false
set_option maxRecDepth 100000
theorem infoSt : (Tryz.prog.info? 9).map (fun i => (i.zero, i.size, i.bytes)) = some (some (.string .empty), 1, 16) := by kernel_rfl
/-- a row of texts, as lists of bytes -/
def StrK (B : Nat) (w : World) (A : Option Addr) (c : Nat) (K : List (List UInt8)) : Prop := w.ownsRow B 9 1 (.slice A K.length c) K.length (K.map encStr)
/-- a row of texts -/
def StrR (B : Nat) (w : World) (A : Option Addr) (c : Nat) (L : List ByteArray) : Prop := w.ownsRow B 9 1 (.slice A L.length c) L.length (L.map Value.string)
theorem StrR.key {B c : Nat} {w : World} {A : Option Addr} {L : List ByteArray} (h : StrR B w A c L) : StrK B w A c (L.map kB) := by
  unfold StrK
  rw [List.length_map]
  have := Lib.map_encStr L
  unfold kB
  rw [this]
  exact h
theorem StrK.text {B c : Nat} {w : World} {A : Option Addr} {L : List ByteArray} (h : StrK B w A c (L.map kB)) : StrR B w A c L := by
  unfold StrK at h
  rw [List.length_map] at h
  have := Lib.map_encStr L
  unfold kB at h
  rw [this] at h
  exact h
theorem strR_nil (B : Nat) (w : World) : StrR B w none 0 [] := World.ownsRow_nil _ _ _ _
theorem StrR.below {B c : Nat} {w w' : World} {A : Option Addr} {L : List ByteArray} (h : StrR B w A c L) (hb : Below w.heap.size w w') : StrR B w' A c L := own_below h hb
theorem StrR.sl {B c : Nat} {w : World} {A : Option Addr} {L : List ByteArray} (h : StrR B w A c L) : Sl w w.heap.size A L.length (fun i => .string (L.getD i ⟨#[]⟩)) := by
  refine own_slR (c := c) (B := B) (e := 9) ?_
  have e1 : (List.range L.length).map (fun i => Value.string (L.getD i ⟨#[]⟩)) = L.map Value.string := by
    apply List.ext_getElem
    · simp
    · intro i h1 h2
      simp at h1
      simp [List.getElem?_eq_getElem h1]
  rw [e1]
  exact h
theorem StrR.range {B c : Nat} {w : World} {A : Option Addr} {L : List ByteArray} (h : StrR B w A c L) : w.ownsRow B 9 1 (.slice A L.length c) L.length ((List.range L.length).map fun i => Value.string (L.getD i ⟨#[]⟩)) := by
  have e1 : (List.range L.length).map (fun i => Value.string (L.getD i ⟨#[]⟩)) = L.map Value.string := by
    apply List.ext_getElem
    · simp
    · intro i h1 h2
      simp at h1
      simp [List.getElem?_eq_getElem h1]
  rw [e1]
  exact h
end Go.Proofs.YtapkckpjeoedaaaGreatDoor
