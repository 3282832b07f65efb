/-
  Rows of texts of the call's own; slices.Sort and slices.Compact of texts.
-/
import Derived.Test.YtdofpkdemmngeaaLtP
import Derived.Test.YtdofpkdemmngeaaShelf
import Derived.Sort.OwnSorted
import Derived.Lib.OwnBridge
namespace Go.Proofs.Ytdofpkdemmngeaa
open Go Go.ChangeShapes Go.WideShapes Go.ChangeAt Go.RowKit lib
set_option linter.unusedVariables false
set_option maxRecDepth 100000
theorem infoSt : (Try.prog.info? 9).map (fun i => (i.zero, i.size, i.bytes)) = some (some (.string .empty), 1, 16) := by kernel_rfl
/-- a row of texts, as lists of bytes -/
def StrK (B : Nat) (w : World) (A : Option Addr) (c : Nat) (K : List (List UInt8)) : Prop := w.ownsRow B 9 1 (.slice A K.length c) K.length (K.map encStr)
/-- a row of texts -/
def StrR (B : Nat) (w : World) (A : Option Addr) (c : Nat) (L : List ByteArray) : Prop := w.ownsRow B 9 1 (.slice A L.length c) L.length (L.map Value.string)
theorem StrR.key {B c : Nat} {w : World} {A : Option Addr} {L : List ByteArray} (h : StrR B w A c L) : StrK B w A c (L.map kB) := by
  unfold StrK
  rw [List.length_map]
  have := Lib.map_encStr L
  unfold kB
  rw [this]
  exact h
theorem StrK.text {B c : Nat} {w : World} {A : Option Addr} {L : List ByteArray} (h : StrK B w A c (L.map kB)) : StrR B w A c L := by
  unfold StrK at h
  rw [List.length_map] at h
  have := Lib.map_encStr L
  unfold kB at h
  rw [this] at h
  exact h
theorem strR_nil (B : Nat) (w : World) : StrR B w none 0 [] := World.ownsRow_nil _ _ _ _
theorem StrR.below {B c : Nat} {w w' : World} {A : Option Addr} {L : List ByteArray} (h : StrR B w A c L) (hb : Below w.heap.size w w') : StrR B w' A c L := own_below h hb
theorem StrR.sl {B c : Nat} {w : World} {A : Option Addr} {L : List ByteArray} (h : StrR B w A c L) : Sl w w.heap.size A L.length (fun i => .string (L.getD i ⟨#[]⟩)) := by
  refine own_slR (c := c) (B := B) (e := 9) ?_
  have e1 : (List.range L.length).map (fun i => Value.string (L.getD i ⟨#[]⟩)) = L.map Value.string := by
    apply List.ext_getElem
    · simp
    · intro i h1 h2
      simp at h1
      simp [List.getElem?_eq_getElem h1]
  rw [e1]
  exact h
theorem StrR.range {B c : Nat} {w : World} {A : Option Addr} {L : List ByteArray} (h : StrR B w A c L) : w.ownsRow B 9 1 (.slice A L.length c) L.length ((List.range L.length).map fun i => Value.string (L.getD i ⟨#[]⟩)) := by
  have e1 : (List.range L.length).map (fun i => Value.string (L.getD i ⟨#[]⟩)) = L.map Value.string := by
    apply List.ext_getElem
    · simp
    · intro i h1 h2
      simp at h1
      simp [List.getElem?_eq_getElem h1]
  rw [e1]
  exact h
theorem sortStr_any {w w0 : World} {c : Nat} {A : Option Addr} {K : List (List UInt8)} (h : StrK w0.heap.size w A c K) (hb : Below w0.heap.size w0 w) (hn : K.length ≤ 1048576) :
    Calls Try.prog 24 #[.slice A K.length c] w fun e w' => e = .returned (.tuple #[]) ∧ StrK w0.heap.size w' A c (K.mergeSort fun x y => decide (x ≤ y)) ∧ Below w0.heap.size w0 w' := by
  by_cases h0 : K.length = 0
  · have hK := List.eq_nil_of_length_eq_zero h0
    subst hK
    refine (Try.slices_Sort_string_none A c w).mono ?_
    rintro e w' ⟨rfl, rfl⟩
    exact ⟨rfl, by simpa using h, hb⟩
  · rcases h.2 with ⟨hv, _⟩ | ⟨g, cap, cur, hv, hbase, hbl, h1, h2, h3, h4⟩
    · injection hv with _ e _
      exact absurd e h0
    · injection hv with e1 _ e3
      subst e1 e3
      refine (Try.slices_Sort_string g 0 c K w (holds_of_block hbl (by simpa using h4)) (Array.getElem?_eq_some_iff.1 hbl).1 (by omega)).mono ?_
      rintro e w' ⟨rfl, nn, os, rfl⟩
      have hl : (K.mergeSort fun x y => decide (x ≤ y)).length = K.length := List.length_mergeSort K
      refine ⟨rfl, ?_, hb.grown (grownBy_sorted _) hb.size (fun j hj => by injection hj with hj; omega)⟩
      have := ownsRow_sorted (n := nn) (os := os) hl hbase hbl h1 h2 h3
      unfold StrK
      rw [hl]
      exact this
theorem compactStr_any {w w0 : World} {c : Nat} {A : Option Addr} {K : List (List UInt8)} (h : StrK w0.heap.size w A c K) (hb : Below w0.heap.size w0 w) (hn : K.length ≤ 1048576) :
    Calls Try.prog 25 #[.slice A K.length c] w fun e w' => e = .returned (.slice A (Lib.compact K).length c) ∧ StrK w0.heap.size w' A c (Lib.compact K) ∧ Below w0.heap.size w0 w' := by
  by_cases h0 : K.length = 0
  · have hK := List.eq_nil_of_length_eq_zero h0
    subst hK
    refine (Try.slices_Compact_string_empty A c w).mono ?_
    rintro e w' ⟨rfl, rfl⟩
    exact ⟨rfl, h, hb⟩
  · rcases h.2 with ⟨hv, _⟩ | ⟨g, cap, cur, hv, hbase, hbl, h1, h2, h3, h4⟩
    · injection hv with _ e _
      exact absurd e h0
    · injection hv with e1 _ e3
      subst e1 e3
      have hle := Lib.compact_length_le K
      refine (Try.slices_Compact_string g 0 c K w (holds_of_block hbl (by simpa using h4)) (by omega) h1).mono ?_
      rintro e w' ⟨rfl, q, rfl⟩
      refine ⟨rfl, ?_, Lib.below_putRow hb hbase⟩
      have hc := Lib.ownsRow_putRow (q := q) (k := (Lib.compact K).length) (ys := Lib.compact K ++ List.replicate (K.length - (Lib.compact K).length) []) h (by simp; omega) hle
      rw [List.take_left] at hc
      exact hc
end Go.Proofs.Ytdofpkdemmngeaa
