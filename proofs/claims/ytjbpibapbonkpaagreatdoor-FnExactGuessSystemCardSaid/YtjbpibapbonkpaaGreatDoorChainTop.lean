/-
  Disks of chains: opening a disk has one outcome on both sides; FreeChains, SetLink.
-/
import Derived.Test.YtjbpibapbonkpaaGreatDoorChainLinks
namespace Go.Proofs.YtjbpibapbonkpaaGreatDoor
open Go Go.ChangeShapes Go.WideShapes Go.ChangeAt Go.RowKit lib
set_option linter.unusedVariables false
set_option maxRecDepth 100000
def opens (n : Nat) (s : Nat → ByteArray) : Prop := ShapeS 8 n s ∧ s 0 = hdrS n (s 0).size
open Classical in
noncomputable def openCode (n : Nat) (s : Nat → ByteArray) : Int := if ShapeS 8 n s then 7 else 1
theorem openCode_ne (n : Nat) (s : Nat → ByteArray) : openCode n s = 1 ∨ openCode n s = 7 := by
  unfold openCode
  split
  · exact .inr rfl
  · exact .inl rfl
/-- how opening a disk ends -/
def OpenOut (r : Ending) (w w' : World) (n : Nat) (s : Nat → ByteArray) : Prop :=
  (opens n s → ∃ p, r = .returned (.tuple #[.pointer (some ⟨p, 0, none⟩), .int .i64 0]) ∧ OpenW w w' p n (s 0).size s) ∧
  (¬ opens n s → r = .returned (.tuple #[.pointer none, .int .i64 (openCode n s)]) ∧ Below w.heap.size w w')
theorem range_getD (L : List Nat) : ((List.range L.length).map fun (i : Nat) => Value.int .i64 ((L.getD i 0 : Nat) : Int)) = L.map fun (i : Nat) => Value.int .i64 (i : Int) := by
  apply List.ext_getElem
  · simp
  · intro i h1 h2
    simp only [List.length_map] at h2
    simp [List.getElem?_eq_getElem h2]
theorem implOpen {w : World} {n c : Nat} {A : Option Addr} {s : Nat → ByteArray} (hs : Sl w w.heap.size A n (fun i => .string (s i))) (hsz : ∀ i, i < n → (s i).size ≤ 9223372036854775807) (hn : n ≤ c) (hn2 : n ≤ 9223372036854775807) :
    Calls Tryz.prog 19 #[.slice A n c] w fun r w' => OpenOut r w w' n s := by
  by_cases h : ShapeS 8 n s
  · have hc : openCode n s = 7 := by unfold openCode; rw [if_pos h]
    refine (openChains_any hs hn h rfl).mono fun r w' ⟨h1, h2⟩ => ⟨fun ho => h1 ho.2, fun ho => ?_⟩
    rw [hc]
    exact h2 fun he => ho ⟨h, he⟩
  · have hc : openCode n s = 1 := by unfold openCode; rw [if_neg h]
    refine (openChains_shape hs hsz hn2 h).mono fun r w' ⟨h1, h2⟩ => ⟨fun ho => absurd ho.1 h, fun _ => ?_⟩
    rw [hc]
    exact ⟨h1, h2 ▸ Below.refl _ _⟩
theorem specOpen {w : World} {n c : Nat} {A : Option Addr} {s : Nat → ByteArray} (hs : Sl w w.heap.size A n (fun i => .string (s i))) (hsz : ∀ i, i < n → (s i).size ≤ 9223372036854775807) (hn : n ≤ c) (hn2 : n ≤ 9223372036854775807) :
    Calls Tryz.prog 15 #[.slice A n c] w fun r w' => OpenOut r w w' n s := by
  by_cases h0 : 0 < n
  · by_cases ht : 8 ≤ n ∧ n ≤ 128 ∧ ((s 0).size = 8 ∨ (s 0).size = 16 ∨ (s 0).size = 32)
    · refine (l16Open_any hs hsz ht.1 ht.2.1 ht.2.2 rfl).mono fun r w' ⟨h1, h2⟩ => ?_
      by_cases ha : ∀ i, i < n → (s i).size = (s 0).size
      · have h : ShapeS 8 n s := ⟨ht.1, ht.2.1, ht.2.2, ha⟩
        have hc : openCode n s = 7 := by unfold openCode; rw [if_pos h]
        refine ⟨fun ho => (h2 ha).1 ho.2, fun ho => ?_⟩
        rw [hc]
        exact (h2 ha).2 fun he => ho ⟨h, he⟩
      · have h : ¬ ShapeS 8 n s := fun h => ha h.all
        have hc : openCode n s = 1 := by unfold openCode; rw [if_neg h]
        refine ⟨fun ho => absurd ho.1 h, fun _ => ?_⟩
        rw [hc]
        exact h1 ha
    · have h : ¬ ShapeS 8 n s := fun h => ht ⟨h.lo, h.hi, h.sz⟩
      have hc : openCode n s = 1 := by unfold openCode; rw [if_neg h]
      refine (l16Open_shape hs hsz hn2 h0 ht).mono fun r w' h1 => ⟨fun ho => absurd ho.1 h, fun _ => ?_⟩
      rw [hc]
      exact h1
  · obtain rfl : n = 0 := by omega
    have h : ¬ ShapeS 8 0 s := fun h => absurd h.lo (by omega)
    have hc : openCode 0 s = 1 := by unfold openCode; rw [if_neg h]
    refine (l16Open_none A c w).mono fun r w' h1 => ⟨fun ho => absurd ho.1 h, fun _ => ?_⟩
    rw [hc]
    exact h1
/-- the free blocks of a disk that opens -/
def freeOf (n : Nat) (s : Nat → ByteArray) : List Nat := freeN (joinU (s 0).size s) (s 0).size (dataN n (s 0).size) (n - dataN n (s 0).size)
theorem shape_facts {n : Nat} {s : Nat → ByteArray} (h : ShapeS 8 n s) : dataN n (s 0).size ≤ n ∧ n ≤ 128 ∧ (s 0).size + n ≤ n * (s 0).size ∧ n * (s 0).size ≤ 4096 ∧ 8 ≤ (s 0).size ∧ (s 0).size ≤ 32 := by
  have hl : LayOk n (s 0).size := ⟨h.lo, h.hi, h.sz⟩
  have hz8 : 8 ≤ (s 0).size := by have := h.sz; omega
  have hz32 : (s 0).size ≤ 32 := by have := h.sz; omega
  refine ⟨hl.data, h.hi, ?_, Nat.mul_le_mul h.hi hz32, hz8, hz32⟩
  generalize (s 0).size = z at *
  have hlo := h.lo
  obtain ⟨a, rfl⟩ : ∃ a, n = a + 2 := ⟨n - 2, by omega⟩
  have h2 := Nat.mul_le_mul_left a hz8
  rw [Nat.add_mul]
  omega
/-- the bytes when a link is set -/
def setU (z : Nat) (U : Nat → UInt8) (k : Nat) (x : Nat) : Nat → UInt8 := upd U (z + k) (UInt8.ofNat x)
theorem u8_ofNat {x : Nat} (h : x ≤ 255) : ((x : Int)) = ((UInt8.ofNat x).toNat : Int) := by
  rw [UInt8.toNat_ofNat']
  omega
end Go.Proofs.YtjbpibapbonkpaaGreatDoor
