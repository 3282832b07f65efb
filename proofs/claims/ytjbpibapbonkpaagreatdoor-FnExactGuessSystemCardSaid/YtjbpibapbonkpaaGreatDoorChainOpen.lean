/-
  Disks of chains: opening a disk: shapes, headers, bytes; the program's side.
-/
import Derived.Test.YtjbpibapbonkpaaGreatDoorChF
import Derived.Lib.AppendStr
import Derived.Laws.IdiomStrings
import Derived.Deep.DeepCutAuto
import Derived.Lib.Join
namespace Go.Proofs.YtjbpibapbonkpaaGreatDoor
open Go Go.ChangeShapes Go.WideShapes Go.ChangeAt Go.RowKit lib
set_option linter.unusedVariables false
set_option maxRecDepth 100000
/-- the bytes of blocks of z bytes each -/
def joinU (z : Nat) (s : Nat → ByteArray) : Nat → UInt8 := fun j => byteAt (s (j / z)) (j % z)
def bvals (u : Nat → UInt8) (n : Nat) : List Value := (List.range n).map fun j => Value.int .u8 ((u j).toNat : Int)
theorem bytes_range (b : ByteArray) : b.data.toList = (List.range b.size).map (byteAt b) := by
  apply List.ext_getElem
  · rw [List.length_map, List.length_range, Array.length_toList]; rfl
  · intro i h1 h2
    simp only [List.getElem_map, List.getElem_range]
    unfold byteAt
    rw [List.getD_eq_getElem?_getD, List.getElem?_eq_getElem h1]
    rfl
theorem strCells_range (b : ByteArray) : Lib.strCells b = bvals (byteAt b) b.size := by
  unfold Lib.strCells bvals
  rw [bytes_range, List.map_map]
  rfl
theorem joinU_at {z : Nat} {s : Nat → ByteArray} (k j : Nat) (hj : j < z) : joinU z s (k * z + j) = byteAt (s k) j := by
  unfold joinU
  have h1 : (k * z + j) / z = k := by
    rw [Nat.add_comm, Nat.add_mul_div_right _ _ (by omega), Nat.div_eq_of_lt hj, Nat.zero_add]
  have h2 : (k * z + j) % z = j := by rw [Nat.add_comm, Nat.add_mul_mod_self_right, Nat.mod_eq_of_lt hj]
  rw [h1, h2]
theorem bvals_snoc {z : Nat} {s : Nat → ByteArray} (k : Nat) (hs : (s k).size = z) : bvals (joinU z s) (k * z) ++ Lib.strCells (s k) = bvals (joinU z s) (k * z + z) := by
  rw [strCells_range, hs]
  unfold bvals
  rw [List.range_add, List.map_append, List.map_map]
  congr 1
  apply List.map_congr_left
  intro j hj
  simp only [Function.comp]
  rw [joinU_at k j (by simpa using hj)]
theorem join_bytes {z : Nat} {s : Nat → ByteArray} : ∀ n, (∀ i, i < n → (s i).size = z) → ((List.range n).map fun i => (s i).data.toList).flatten = (List.range (n * z)).map (joinU z s)
  | 0, _ => by simp
  | n + 1, h => by
    rw [List.range_succ, List.map_append, List.flatten_append, join_bytes n (fun i hi => h i (by omega)), Nat.add_mul, Nat.one_mul, List.range_add, List.map_append, List.map_map]
    congr 1
    simp only [List.map_cons, List.map_nil, List.flatten_cons, List.flatten_nil, List.append_nil]
    rw [bytes_range, h n (by omega)]
    apply List.map_congr_left
    intro j hj
    simp only [Function.comp]
    rw [joinU_at n j (by simpa using hj)]
theorem joinTail_nil : ∀ r : List (List UInt8), Lib.joinTail [] r = r.flatten
  | [] => rfl
  | x :: r => by simp [Lib.joinTail]
theorem join_flat : ∀ L : List (List UInt8), Lib.join L [] = L.flatten
  | [] => rfl
  | x :: r => by rw [Lib.join_cons, joinTail_nil]; rfl
/-- a shape that a disk may have -/
structure ShapeS (l n : Nat) (s : Nat → ByteArray) : Prop where
  lo : l ≤ n
  hi : n ≤ 128
  sz : (s 0).size = 8 ∨ (s 0).size = 16 ∨ (s 0).size = 32
  all : ∀ i, i < n → (s i).size = (s 0).size
theorem ba_ext {x y : ByteArray} (h : x.size = y.size) (hb : ∀ j, j < x.size → byteAt x j = byteAt y j) : x = y := by
  rw [← toList_iff, ByteArray.toList_eq, ByteArray.toList_eq, bytes_range x, bytes_range y, h]
  apply List.map_congr_left
  intro j hj
  exact hb j (by rw [h]; simpa using hj)
theorem byteAt_append (x y : ByteArray) (j : Nat) : byteAt (x ++ y) j = if j < x.size then byteAt x j else byteAt y (j - x.size) := by
  unfold byteAt
  rw [ByteArray.data_append, Array.toList_append, List.getD_eq_getElem?_getD, List.getD_eq_getElem?_getD, List.getD_eq_getElem?_getD]
  have hx : x.data.toList.length = x.size := by rw [Array.length_toList]; rfl
  split
  · rw [List.getElem?_append_left (by omega)]
  · rw [List.getElem?_append_right (by omega), hx]
theorem byteAt_zeros (n j : Nat) : byteAt (zerosB n) j = 0 := by
  unfold byteAt zerosB
  rw [List.getD_eq_getElem?_getD]
  simp only [List.getElem?_replicate]
  split <;> rfl
/-- the byte that the first block should have at j -/
def wantU (H : ByteArray) (j : Nat) : UInt8 := if j < 6 then byteAt H j else 0
theorem hdr_iff {z : Nat} {s : Nat → ByteArray} {H : ByteArray} (hz : (s 0).size = z) (h8 : 8 ≤ z) (hH : H.size = 6) : s 0 = H ++ zerosB (z - 6) ↔ ∀ j, j < z → joinU z s j = wantU H j := by
  have key : ∀ j, j < z → joinU z s j = byteAt (s 0) j := fun j hj => by have := joinU_at (s := s) 0 j hj; rwa [Nat.zero_mul, Nat.zero_add] at this
  have hb : ∀ j, byteAt (H ++ zerosB (z - 6)) j = wantU H j := fun j => by
    rw [byteAt_append, hH, byteAt_zeros]
    rfl
  constructor
  · intro h j hj
    rw [key j hj, ← hb j, h]
  · intro h
    refine ba_ext ?_ fun j hj => ?_
    · rw [ByteArray.size_append, hH, show (zerosB (z - 6)).size = z - 6 by unfold zerosB; simp [ByteArray.size]]
      omega
    · rw [hb j, ← h j (by omega), key j (by omega)]
theorem BRow.ofBytes (w : World) (e : Nat) (s : ByteArray) (cap : Nat) : BRow (w.alloc (.cells (bytesRow s cap) e ((bytesRow s cap).size, (bytesRow s cap).size + 1))) e w.heap.size s.size (byteAt s) := by
  have hz : s.size ≤ (bytesRow s cap).size := by
    unfold bytesRow
    rw [Array.size_append, Array.size_map]
    exact Nat.le_add_right _ _
  have hc : ∀ i, i < s.size → (bytesRow s cap)[i]? = some (.int .u8 ((byteAt s i).toNat : Int)) := fun i hi => by
    unfold bytesRow
    have hi' : i < s.data.size := hi
    rw [Array.getElem?_append_left (by rw [Array.size_map]; exact hi'), Array.getElem?_map, Array.getElem?_eq_getElem hi']
    unfold byteAt
    rw [List.getD_eq_getElem?_getD, List.getElem?_eq_getElem (by rw [Array.length_toList]; exact hi')]
    rfl
  exact ⟨_, ⟨_, heap_alloc_new w _, fun j hj => by omega⟩, hz, hc⟩
/-- an opened disk: the record behind p -/
def OpenW (w w' : World) (p n z : Nat) (s : Nat → ByteArray) : Prop :=
  ∃ g c, ChW w' p g n z (entsN n) (dirN n z) (dataN n z) (n * z) c (joinU z s) ∧ n * z ≤ c ∧ Below w.heap.size w w' ∧ w.heap.size ≤ p ∧ w.heap.size ≤ g
/-- the header that a disk should have -/
def hdrS (n z : Nat) : ByteArray := head6 n (entsN n) ++ zerosB (z - 6)
theorem sizeS_any (A : Option Addr) (n c : Nat) (w : World) (hn : n ≤ 9223372036854775807) : Calls Tryz.prog 38 #[.slice A n c] w fun e w' => e = .returned (.int .i64 n) ∧ w = w' := by
  go_enter Tryz.func38, Tryz.ntmps38
  go_wp2
  go_ret
  exact ⟨rfl, rfl⟩
set_option maxHeartbeats 1000000 in
theorem isBlocks_any {w : World} {B n c l : Nat} {A : Option Addr} {s : Nat → ByteArray} (hs : Sl w B A n (fun i => .string (s i))) (hsz : ∀ i, i < n → (s i).size ≤ 9223372036854775807) (hn : n ≤ 9223372036854775807) (hl : 1 ≤ l) (b : Bool) (hb : b = true ↔ ShapeS l n s) :
    Calls Tryz.prog 36 #[.slice A n c, .int .i64 l] w fun e w' => e = .returned (.bool b) ∧ w = w' := by
  by_cases hr : l ≤ n ∧ n ≤ 128
  · obtain ⟨h1, h2⟩ := hr
    have hw : (decide ((l : Int) ≤ n) && decide ((n : Int) ≤ 128)) = true := by simp; omega
    obtain ⟨bk, o, rfl, hbk, hc0⟩ := hs 0 (by omega)
    dsimp only at hc0
    rw [Nat.add_zero] at hc0
    obtain ⟨z, hz⟩ : ∃ z, (s 0).size = z := ⟨_, rfl⟩
    have hzb : z ≤ 9223372036854775807 := by rw [← hz]; exact hsz 0 (by omega)
    have HB := Lib.hid hb
    have HZ := Lib.hid hz
    clear hb
    go_enter Tryz.func36, Tryz.ntmps36
    go_wp2_with (first
      | (go_at_call 38; refine (sizeS_any _ _ _ _ hn).mono ?_; rintro e w' ⟨rfl, rfl⟩)
      | (go_at_call 43; refine (within_any _ _ _ _).mono ?_; rw [hw]; rintro e w' ⟨rfl, rfl⟩))
    go_loopw [7, 19] (fun s7 s19 wr => ∃ k : Nat, k ≤ n ∧ s19 = .int .i64 k ∧ (∀ j, j < k → (s j).size = z) ∧ wr = w) (fun _ i _ => n - (intOf i).toNat)
    case atStart => exact ⟨0, Nat.zero_le _, rfl, fun j hj => absurd hj (by omega), rfl⟩
    case round =>
      obtain ⟨k, hk, rfl, hj, rfl⟩ := hrel
      have HJ := Lib.hid hj
      clear hj
      by_cases hlt : k < n
      · obtain ⟨_, _, e', _, hc⟩ := hs k hlt
        simp only [Option.some.injEq, Addr.mk.injEq, and_true] at e'
        obtain ⟨rfl, rfl⟩ := e'
        dsimp only at hc
        obtain ⟨y, hy⟩ : ∃ y, (s k).size = y := ⟨_, rfl⟩
        have hyb : y ≤ 9223372036854775807 := by rw [← hy]; exact hsz k hlt
        by_cases he : y = z
        · have e1 : ((y : Int) != z) = false := by simp [he]
          have e2 : ((y : Int) = z) = True := by simp [he]
          have HE := Lib.hid he
          clear he
          go_wp2
          exact ⟨⟨k + 1, by omega, by go_num, fun j hj => by
            rcases Nat.lt_succ_iff_lt_or_eq.1 hj with h | rfl
            · exact HJ.out j h
            · rw [hy, HE.out], trivial⟩, by simp [intOf]; omega⟩
        · have e1 : ((y : Int) != z) = true := by simp; omega
          have e2 : ((y : Int) = z) = False := by simp; omega
          have hf : b = false := by
            cases hbb : b with
            | false => rfl
            | true => exact absurd ((HB.out.1 hbb).all k hlt) (by rw [hy, HZ.out]; exact he)
          subst hf
          clear he
          go_wp2
          go_ret
          exact ⟨rfl, rfl⟩
      · obtain rfl : k = n := by omega
        have hbz : b = decide (z = 8 ∨ z = 16 ∨ z = 32) := by
          rw [Bool.eq_iff_iff, HB.out, decide_eq_true_iff]
          constructor
          · intro h; have := h.sz; rwa [HZ.out] at this
          · intro h; exact ⟨h1, h2, by rw [HZ.out]; exact h, fun i hi => by rw [HJ.out i hi, HZ.out]⟩
        by_cases q8 : z = 8
        · have hbt : b = true := by rw [hbz, decide_eq_true_iff]; omega
          have p1 : ((z : Int) = 8) = True := by simp; omega
          have p2 : ((z : Int) == 8) = true := by simp; omega
          subst hbt
          clear hbz q8
          go_wp2
          go_ret
          exact ⟨rfl, rfl⟩
        · have p1 : ((z : Int) = 8) = False := by simp; omega
          have p2 : ((z : Int) == 8) = false := by simp; omega
          by_cases q16 : z = 16
          · have hbt : b = true := by rw [hbz, decide_eq_true_iff]; omega
            have p3 : ((z : Int) = 16) = True := by simp; omega
            have p4 : ((z : Int) == 16) = true := by simp; omega
            subst hbt
            clear hbz q8 q16
            go_wp2
            go_ret
            exact ⟨rfl, rfl⟩
          · have p3 : ((z : Int) = 16) = False := by simp; omega
            have p4 : ((z : Int) == 16) = false := by simp; omega
            by_cases q32 : z = 32
            · have hbt : b = true := by rw [hbz, decide_eq_true_iff]; omega
              have p5 : ((z : Int) = 32) = True := by simp; omega
              have p6 : ((z : Int) == 32) = true := by simp; omega
              subst hbt
              clear hbz q8 q16 q32
              go_wp2
              go_ret
              exact ⟨rfl, rfl⟩
            · have hbt : b = false := by rw [hbz, decide_eq_false_iff_not]; omega
              have p5 : ((z : Int) = 32) = False := by simp; omega
              have p6 : ((z : Int) == 32) = false := by simp; omega
              subst hbt
              clear hbz q8 q16 q32
              go_wp2
              go_ret
              exact ⟨rfl, rfl⟩
  · have hw : (decide ((l : Int) ≤ n) && decide ((n : Int) ≤ 128)) = false := by
      rw [Bool.eq_false_iff]
      intro h
      simp at h
      omega
    have hf : b = false := by
      cases hbb : b with
      | false => rfl
      | true => exact absurd ⟨(hb.1 hbb).lo, (hb.1 hbb).hi⟩ hr
    subst hf
    clear hb hr
    go_enter Tryz.func36, Tryz.ntmps36
    go_wp2_with (first
      | (go_at_call 38; refine (sizeS_any _ _ _ _ hn).mono ?_; rintro e w' ⟨rfl, rfl⟩)
      | (go_at_call 43; refine (within_any _ _ _ _).mono ?_; rw [hw]; rintro e w' ⟨rfl, rfl⟩))
    go_ret
    exact ⟨rfl, rfl⟩
end Go.Proofs.YtjbpibapbonkpaaGreatDoor
