/-
  Disks of chains: an empty disk.
  Disks of chains: an empty disk, the program's side; shapes.
-/
import Derived.Test.YtjbpibapbonkpaaGreatDoorChS
import Derived.Test.YtjbpibapbonkpaaGreatDoorChainHead
import Derived.Test.YtjbpibapbonkpaaGreatDoorCopy
import Derived.Deep.RegionLaw
namespace Go.Proofs.YtjbpibapbonkpaaGreatDoor
open Go Go.ChangeShapes Go.WideShapes Go.ChangeAt Go.RowKit lib
set_option linter.unusedVariables false
set_option maxRecDepth 100000
theorem data_le : ∀ n : Fin 129, 8 ≤ n.val → ∀ z : Fin 33, (z.val = 8 ∨ z.val = 16 ∨ z.val = 32) → dataN n.val z.val ≤ n.val := by decide +kernel
theorem LayOk.data {n z : Nat} (h : LayOk n z) : dataN n z ≤ n := data_le ⟨n, by have := h.hi; omega⟩ h.lo ⟨z, by rcases h.sz with h | h | h <;> omega⟩ h.sz
/-- the links of the first k blocks are set to 253 -/
def linkN (u : Nat → UInt8) (z : Nat) : Nat → Nat → UInt8
  | 0 => u
  | k + 1 => upd (linkN u z k) (z + k) 253
/-- the bytes of an empty disk -/
def fmtU (n z : Nat) : Nat → UInt8 := linkN (putU (fun _ => 0) 0 (head6 n (entsN n)).data.toList) z (dataN n z)
theorem ChW.keep {w w' : World} {p g n z e d t N c : Nat} {u v : Nat → UInt8} (h : ChW w p g n z e d t N c u) (hp : w'.heap[p]? = w.heap[p]?) (hs : w.heap.size ≤ w'.heap.size) (hr : BRow w' 5 g N v) : ChW w' p g n z e d t N c v := by
  have far : ∀ j, w'.cell? ⟨p, j, none⟩ = w.cell? ⟨p, j, none⟩ := fun j => World.cell?_of_block (a := ⟨p, j, none⟩) hp
  exact ⟨(far 0).trans h.c0, (far 1).trans h.c1, (far 2).trans h.c2, (far 3).trans h.c3, (far 4).trans h.c4, (far 5).trans h.c5, hr, h.ne, Nat.lt_of_lt_of_le h.plt hs⟩
theorem ChW.made (W : World) (e0 n z e d t N c g : Nat) {u : Nat → UInt8} (hr : BRow W 5 g N u) :
    ChW (W.alloc (.cells #[.int .i64 n, .int .i64 z, .int .i64 e, .int .i64 d, .int .i64 t, .slice (some ⟨g, 0, none⟩) N c] e0)) W.heap.size g n z e d t N c u := by
  have h := Rw.new W e0 #[.int .i64 n, .int .i64 z, .int .i64 e, .int .i64 d, .int .i64 t, .slice (some ⟨g, 0, none⟩) N c]
  exact ⟨h.cell 0, h.cell 1, h.cell 2, h.cell 3, h.cell 4, h.cell 5, hr.alloc _, by have := hr.lt; omega, by simp⟩
theorem ChW.puts {w : World} {p g n z e d t N c : Nat} {u : Nat → UInt8} (h : ChW w p g n z e d t N c u) (o : Nat) (l : List UInt8) : ChW (w.setCells g o (l.map fun x => Value.int .u8 (x.toNat : Int))) p g n z e d t N c (putU u o l) :=
  h.keep (heap_setCells_other h.ne _ _ _) (Nat.le_of_eq (size_setCells _ _ _).symm) (BRow.setCells _ _ _ _ h.row)
theorem sizeOf8 : ∀ w, (Go.sizeOf 5).run Tryz.prog w = .ok 1 w := by
  intro w
  obtain ⟨i0, hi, hz0, hz1, hz2⟩ := info_parts (show (Tryz.prog.info? 5).map (fun i => (i.zero, i.size, i.bytes)) = some (some (.int .u8 0), 1, 1) by kernel_rfl)
  simp [Go.sizeOf, typeInfo, hi, hz1]
theorem head6_size (n e : Nat) : (head6 n e).size = 6 := rfl
theorem putU_zeros (l : List UInt8) (k : Nat) : putU (fun _ => 0) 0 (l ++ List.replicate k 0) = putU (fun _ => 0) 0 l := by
  funext j
  unfold putU
  by_cases h1 : j < l.length
  · rw [if_pos ⟨by omega, by simp; omega⟩, if_pos ⟨by omega, by omega⟩, List.getD_eq_getElem?_getD, List.getD_eq_getElem?_getD, List.getElem?_append_left (by omega)]
  · rw [if_neg (show ¬ (0 ≤ j ∧ j < 0 + l.length) by omega)]
    split
    · rw [List.getD_eq_getElem?_getD, List.getElem?_append_right (by omega), List.getElem?_replicate]
      split <;> rfl
    · rfl
theorem putU_head (n e y : Nat) : putU (fun _ => 0) 0 (head6 n e ++ zerosB y).data.toList = putU (fun _ => 0) 0 (head6 n e).data.toList := by
  rw [ByteArray.data_append, Array.toList_append]
  exact putU_zeros _ _
end Go.Proofs.YtjbpibapbonkpaaGreatDoor
namespace Go.Proofs.YtjbpibapbonkpaaGreatDoor
open Go Go.ChangeShapes Go.WideShapes Go.ChangeAt Go.RowKit lib
set_option linter.unusedVariables false
set_option maxRecDepth 100000
/-- whether a number is among the first n -/
def hasZ (z : Nat → Int) (n : Nat) (v : Int) : Bool := (List.range n).any fun i => z i == v
theorem hasZ_true {z : Nat → Int} {n : Nat} {v : Int} {k : Nat} (hk : k < n) (h : z k = v) : hasZ z n v = true := by
  unfold hasZ
  rw [List.any_eq_true]
  exact ⟨k, by simpa using hk, by simpa using h⟩
theorem hasZ_false {z : Nat → Int} {n : Nat} {v : Int} (h : ∀ k, k < n → z k ≠ v) : hasZ z n v = false := by
  unfold hasZ
  rw [List.any_eq_false]
  intro k hk
  simpa using h k (by simpa using hk)
theorem l00Has_any {w : World} {B n c : Nat} {A : Option Addr} (z : Nat → Int) (v : Int) (h : Sl w B A n (fun i => .int .i64 (z i))) (hn : n ≤ 1048576) : Calls Tryz.prog 51 #[.slice A n c, .int .i64 v] w fun e w' => e = .returned (.bool (hasZ z n v)) ∧ w = w' := by
  go_enter Tryz.func51, Tryz.ntmps51
  go_wp2_with fail
  go_loopw [5] (fun s5 wr => ∃ k : Nat, k ≤ n ∧ s5 = .int .i64 k ∧ (∀ j, j < k → z j ≠ v) ∧ wr = w) (fun i _ => n - (intOf i).toNat)
  case atStart => exact ⟨0, Nat.zero_le _, rfl, fun j hj => absurd hj (by omega), rfl⟩
  case round =>
    obtain ⟨k, hk, rfl, hz, rfl⟩ := hrel
    by_cases hlt : k < n
    · obtain ⟨b, o, rfl, hb, hc⟩ := h k hlt
      by_cases he : z k = v
      · have HT := Lib.hid (hasZ_true hlt he)
        subst he
        clear hz
        go_wp2
        go_ret
        exact ⟨by rw [HT.out]; rfl, rfl⟩
      · have he' : (z k = v) = False := by simpa using he
        have he2 : (z k == v) = false := by simpa using he
        dsimp only at hc
        have HZ := Lib.hid hz
        clear hz he
        go_wp2
        exact ⟨⟨k + 1, by omega, by go_num, fun j hj => by
          rcases Nat.lt_succ_iff_lt_or_eq.1 hj with h | rfl
          · exact HZ.out j h
          · simpa using he', trivial⟩, by simp [intOf]; omega⟩
    · obtain rfl : k = n := by omega
      have HZ := Lib.hid (hasZ_false hz)
      clear hz
      go_wp2
      go_ret
      exact ⟨by rw [HZ.out]; rfl, rfl⟩
theorem l16Shape_any (n z : Int) (w : World) : Calls Tryz.prog 24 #[.int .i64 n, .int .i64 z] w fun r w' => r = .returned (.bool (decide (8 ≤ n ∧ n ≤ 128 ∧ (z = 8 ∨ z = 16 ∨ z = 32)))) ∧ Below w.heap.size w w' := by
  by_cases hn : 8 ≤ n ∧ n ≤ 128
  · have hw : (decide ((8 : Int) ≤ n) && decide (n ≤ 128)) = true := by simp; omega
    have hb : decide (8 ≤ n ∧ n ≤ 128 ∧ (z = 8 ∨ z = 16 ∨ z = 32)) = hasZ (fun i => [8, 16, 32].getD i 0) 3 z := by
      have : hasZ (fun i => [8, 16, 32].getD i 0) 3 z = (((8 : Int) == z) || (((16 : Int) == z) || (((32 : Int) == z) || false))) := rfl
      rw [this, Bool.eq_iff_iff, decide_eq_true_iff]
      constructor
      · rintro ⟨_, _, rfl | rfl | rfl⟩ <;> rfl
      · intro h
        simp at h
        omega
    rw [hb]
    clear hb hn
    have hs : Sl (w.alloc (.cells #[.int .i64 8, .int .i64 16, .int .i64 32] 2)) (w.heap.size + 1) (some ⟨w.heap.size, 0, none⟩) 3 (fun i => .int .i64 ([8, 16, 32].getD i 0)) := by
      have := (Rw.new w 2 #[.int .i64 8, .int .i64 16, .int .i64 32]).sl (n := 3) (f := fun i => .int .i64 ([8, 16, 32].getD i 0)) (fun i hi => by
        match i, hi with
        | 0, _ => rfl
        | 1, _ => rfl
        | 2, _ => rfl)
      simpa using this
    go_enter Tryz.func24, Tryz.ntmps24
    go_wp2_with (first
      | (go_at_call 27; refine (l00In_any _ _ _ _).mono ?_; rw [hw]; rintro e w' ⟨rfl, rfl⟩)
      | (go_at_call 51; refine (l00Has_any _ z hs (by omega)).mono ?_; rintro e w' ⟨rfl, rfl⟩))
    go_ret
    exact ⟨rfl, (Below.refl _ _).alloc (Nat.le_refl _) _⟩
  · have hw : (decide ((8 : Int) ≤ n) && decide (n ≤ 128)) = false := by
      rw [Bool.eq_false_iff]
      intro h
      simp at h
      exact hn h
    have hb : decide (8 ≤ n ∧ n ≤ 128 ∧ (z = 8 ∨ z = 16 ∨ z = 32)) = false := by
      rw [decide_eq_false_iff_not]
      exact fun h => hn ⟨h.1, h.2.1⟩
    rw [hb]
    clear hb hn
    go_enter Tryz.func24, Tryz.ntmps24
    go_wp2_with (go_at_call 27; refine (l00In_any _ _ _ _).mono ?_; rw [hw]; rintro e w' ⟨rfl, rfl⟩)
    go_ret
    exact ⟨rfl, Below.refl _ _⟩
end Go.Proofs.YtjbpibapbonkpaaGreatDoor
