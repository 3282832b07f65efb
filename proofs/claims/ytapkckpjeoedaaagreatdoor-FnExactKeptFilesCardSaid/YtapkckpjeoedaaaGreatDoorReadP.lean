/-
  Disks of chains: a file read: plain; and a block of a disk on the reference's side.
-/
import Derived.Test.YtapkckpjeoedaaaGreatDoorAskTopS
import Derived.Test.YtapkckpjeoedaaaGreatDoorBld
import Derived.Deep.DeepCutAuto
namespace Go.Proofs.YtapkckpjeoedaaaGreatDoor
open Go Go.ChangeShapes Go.WideShapes Go.ChangeAt Go.RowKit lib
set_option linter.unusedVariables false
set_option maxRecDepth 100000
/-- the bytes of a chain's blocks, one behind the other -/
def chB (z : Nat) (U : Nat → UInt8) (L : List Nat) : Nat → UInt8 := fun j => U (L.getD (j / z) 0 * z + j % z)
theorem chB_step {z i : Nat} {U : Nat → UInt8} {L : List Nat} (hz : 0 < z) : (List.range (i * z + z)).map (chB z U L) = (List.range (i * z)).map (chB z U L) ++ (List.range z).map fun j => U (L.getD i 0 * z + j) := by
  rw [List.range_add, List.map_append, List.map_map]
  congr 1
  apply List.map_congr_left
  intro j hj
  have hj : j < z := by simpa using hj
  show chB z U L (i * z + j) = _
  unfold chB
  have h1 : (i * z + j) / z = i := by rw [Nat.mul_comm, Nat.mul_add_div hz, Nat.div_eq_of_lt hj, Nat.add_zero]
  have h2 : (i * z + j) % z = j := by rw [Nat.mul_comm, Nat.mul_add_mod, Nat.mod_eq_of_lt hj]
  rw [h1, h2]
theorem bvals_step {z i : Nat} {U : Nat → UInt8} {L : List Nat} (hz : 0 < z) : bvals (chB z U L) (i * z + z) = bvals (chB z U L) (i * z) ++ bvals (fun j => U (L.getD i 0 * z + j)) z := by
  have h := congrArg (List.map fun x : UInt8 => Value.int .u8 (x.toNat : Int)) (chB_step (U := U) (L := L) (i := i) hz)
  simp only [List.map_append, List.map_map] at h
  exact h
theorem bvals_news {W : World} {g N m z : Nat} {U : Nat → UInt8} (h : BRow W 5 g N U) (hk : m + z ≤ N) : ∀ (j : Nat) (q : Value), (bvals (fun j => U (m + j)) z)[j]? = some q → W.cell? ((⟨g, m, none⟩ : Addr).add j) = some q := by
  intro j q hq
  have hj : j < z := by have := (List.getElem?_eq_some_iff.1 hq).1; simpa [bvals] using this
  rw [Addr.add_lit, h.cell (by omega), ← hq]
  simp [bvals, hj]
theorem blk_bytes {z b : Nat} {s : Nat → ByteArray} (h : (s b).size = z) : (s b).data.toList = (List.range z).map fun j => joinU z s (b * z + j) := by
  rw [bytes_range, h]
  apply List.map_congr_left
  intro j hj
  rw [joinU_at b j (by simpa using hj)]
theorem bstr_extract {m l : Nat} {V : Nat → UInt8} (h : l ≤ m) : (⟨((List.range m).map V).toArray⟩ : ByteArray).extract 0 l = bstr l V := by
  rw [← toList_iff, ByteArray.toList_eq, ByteArray.toList_eq]
  unfold bstr
  simp only [ByteArray.data_extract, Array.toList_extract, List.extract_eq_take_drop, Nat.sub_zero, List.drop_zero]
  rw [← List.map_take, List.take_range, Nat.min_eq_left h]
theorem getD_mem {L : List Nat} {i : Nat} (h : i < L.length) : L.getD i 0 ∈ L := by
  rw [List.getD_eq_getElem?_getD, List.getElem?_eq_getElem h]; exact List.getElem_mem _
theorem own_cap {w : World} {B e n c : Nat} {A : Option Addr} {xs : List Value} (h : w.ownsRow B e 1 (.slice A n c) n xs) : n ≤ c := by
  rcases h.2 with ⟨hv, h0⟩ | ⟨g, cap, cur, hv, hb, hg, hnc, _⟩
  · omega
  · injection hv with _ _ h3
    omega
/-- how reading ends -/
def ReadOut (L : List Nat) (N l z : Nat) (U : Nat → UInt8) (r : Ending) (w w' : World) : Prop := Below w.heap.size w w' ∧ (L.length ≠ N → r = .returned (.tuple #[.string ⟨#[]⟩, .int .i64 10])) ∧ (L.length = N → r = .returned (.tuple #[.string (bstr l (chB z U L)), .int .i64 0]))
theorem need_mul {z l m : Nat} (hz : 0 < z) (h : m = needN z l) : l ≤ m * z := by
  subst h
  unfold needN
  have h1 := Nat.div_add_mod (l + z - 1) z
  have h2 := Nat.mod_lt (l + z - 1) hz
  rw [Nat.mul_comm]
  omega
theorem specBlock_any {w : World} {p g n z e d t N c : Nat} {u : Nat → UInt8} (k : Nat) (h : ChW w p g n z e d t N c u) (hk : k * z + z ≤ N) (hz : 0 < z) (hN : N ≤ 1048576) (hcN : N ≤ c) (hk2 : k ≤ 1048576) :
    Calls Tryz.prog 105 #[.pointer (some ⟨p, 0, none⟩), .int .i64 k] w fun r w' => r = .returned (.slice (some ⟨g, k * z, none⟩) z (c - k * z)) ∧ w' = w.drew := by
  have h1 := h.c1
  have h5 := h.c5
  obtain ⟨m, em⟩ : ∃ m, k * z = m := ⟨_, rfl⟩
  rw [em] at hk ⊢
  have e1 : (k : Int) * z = (m : Int) := by rw [← em]; simp
  have e2 : ((k : Int) + 1) * z = (m : Int) + z := by rw [Int.add_mul, e1]; omega
  have e3 : IntKind.i64.wrap (m : Int) = (m : Int) := by rw [IntKind.wrap_i64]; omega
  have e4 : IntKind.i64.wrap ((m : Int) + z) = (m : Int) + z := by rw [IntKind.wrap_i64]; omega
  have e5 : IntKind.i64.wrap ((k : Int) + 1) = (k : Int) + 1 := by rw [IntKind.wrap_i64]; omega
  have e6 : (0 : Int) ≤ (m : Int) + z := by omega
  have e7 : (m : Int) + z ≤ c := by omega
  have e8 : ((m : Int) + z).toNat = m + z := by omega
  have e9 : m ≤ m + z := by omega
  have e10 : m + z - m = z := by omega
  have e11 : (c = m) = False := by simp; omega
  clear h hk em
  go_enter Tryz.func105, Tryz.ntmps105
  go_wp2_with fail
  go_region
  go_wp2
  go_ret
  exact ⟨rfl, rfl⟩
end Go.Proofs.YtapkckpjeoedaaaGreatDoor
