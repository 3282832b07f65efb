/-
  The laws' own helpers on lists of integers; copies of lists of texts.
-/
import Derived.Test.YtgmmigbaaigldaaDoorMarks
namespace Go.Proofs.YtgmmigbaaigldaaDoor
open Go Go.ChangeShapes Go.WideShapes Go.ChangeAt Go.RowKit lib
set_option linter.unusedVariables false
set_option maxRecDepth 100000
theorem eqInt64S_same (A B : Option Addr) (n c d : Nat) (s t : Nat → Int) (w : World) (hn : n ≤ 1048576) (hs : Sl w w.heap.size A n (fun i => .int .i64 (s i))) (ht : Sl w w.heap.size B n (fun i => .int .i64 (t i)))
    (h : ∀ i, i < n → s i = t i) :
    Calls Tryd.prog 58 #[.slice A n c, .slice B n d] w fun e w' => e = .returned (.bool true) ∧ Below w.heap.size w w' := by
  go_enter Tryd.func58, Tryd.ntmps58
  go_wp2
  go_loopw [5] (fun s5 wr => ∃ k : Nat, k ≤ n ∧ s5 = .int .i64 k ∧ Below w.heap.size w wr) (fun i _ => n - (intOf i).toNat)
  case atStart => exact ⟨0, by omega, rfl, Below.refl _ _⟩
  case round =>
    obtain ⟨k, hk, rfl, hb⟩ := hrel
    by_cases hlt : k < n
    · obtain ⟨b, o, rfl, hbb, h0⟩ := (hs.below hb) k hlt
      obtain ⟨b', o', rfl, hbb', h0'⟩ := (ht.below hb) k hlt
      simp only [← h k hlt] at h0'
      obtain ⟨x, hx⟩ : ∃ x, x = s k := ⟨_, rfl⟩
      simp only [← hx] at h0 h0'
      clear hx hs ht h
      go_wp2_with fail
      go_region
      go_wp2
      go_roundw
      case rel => exact ⟨k + 1, by omega, by go_num, hb.drew⟩
      case measure => simp [intOf]; omega
    · go_wp2
      go_ret
      exact ⟨rfl, hb⟩
theorem markInt64S_any (A : Option Addr) (n c B : Nat) (k0 : Int) (xs : List Value) (w : World) (hn : n ≤ 1048576) (h0 : 1 ≤ k0) (h1 : k0 ≤ 1048577) (hown : w.ownsRow B 2 1 (.slice A n c) n xs) :
    Calls Tryd.prog 42 #[.slice A n c, .int .i64 k0] w fun e w' => e = .returned (.int .i64 (k0 + n)) ∧ w'.ownsRow B 2 1 (.slice A n c) n ((List.range n).map fun (i : Nat) => Value.int .i64 (k0 + i)) ∧ w.grownBy w' (Value.slice A n c).ownBlock := by
  go_enter Tryd.func42, Tryd.ntmps42
  go_wp2
  go_loopw [1, 5] (fun s1 s5 wr => ∃ k : Nat, k ≤ n ∧ s5 = .int .i64 k ∧ s1 = .int .i64 (k0 + k) ∧ wr.ownsRow B 2 1 (.slice A n c) n (((List.range k).map fun (i : Nat) => Value.int .i64 (k0 + i)) ++ xs.drop k) ∧ w.grownBy wr (Value.slice A n c).ownBlock) (fun _ i _ => n - (intOf i).toNat)
  case atStart => exact ⟨0, by omega, rfl, by simp, by simpa using hown, only_refl _ _⟩
  case round =>
    obtain ⟨k, hk, rfl, rfl, ho, hg⟩ := hrel
    have hz := hg.size
    by_cases hlt : k < n
    · obtain ⟨g, cap, hv, hbg, hgl⟩ := ho.form (by omega)
      injection hv with hA _ hC
      subst hA hC
      have hnext := set_next ((List.range k).map fun (i : Nat) => Value.int .i64 (k0 + i)) xs (.int .i64 (k0 + k)) k (by simp) (by have := hown.1; omega)
      have HN := Lib.hid hnext
      clear hnext
      have HO := Lib.hid ho
      clear ho hown
      obtain ⟨⟨u, hu⟩, hf⟩ := own_cell (i := k) HO.out (by omega)
      go_wp2_with fail
      go_roundw
      case rel =>
        refine ⟨k + 1, by omega, by go_num, by go_num, ?_, only_setCell (p := ⟨g, k, none⟩) hg (.inl rfl) _⟩
        have h := own_set (i := k) HO.out (by omega) (.int .i64 (k0 + k))
        rw [HN.out] at h
        rw [List.range_succ, List.map_append]
        simp only [List.map_cons, List.map_nil]
        exact h
      case measure => simp [intOf]; omega
    · go_wp2
      go_ret
      obtain rfl : k = n := by omega
      rw [List.drop_of_length_le (by have := hown.1; omega), List.append_nil] at ho
      exact ⟨rfl, ho, hg⟩
theorem heldInt64S_any (A : Option Addr) (n c : Nat) (k0 : Int) (w : World) (hn : n ≤ 1048576) (h0 : 1 ≤ k0) (h1 : k0 ≤ 1048577) (hs : Sl w w.heap.size A n (fun i => .int .i64 (k0 + i))) :
    Calls Tryd.prog 43 #[.slice A n c, .int .i64 k0] w fun e w' => e = .returned (.int .i64 (k0 + n)) ∧ Below w.heap.size w w' := by
  go_enter Tryd.func43, Tryd.ntmps43
  go_wp2
  go_loopw [1, 5] (fun s1 s5 wr => ∃ k : Nat, k ≤ n ∧ s5 = .int .i64 k ∧ s1 = .int .i64 (k0 + k) ∧ Below w.heap.size w wr) (fun _ i _ => n - (intOf i).toNat)
  case atStart => exact ⟨0, by omega, rfl, by simp, Below.refl _ _⟩
  case round =>
    obtain ⟨k, hk, rfl, rfl, hb⟩ := hrel
    have hz := hb.size
    by_cases hlt : k < n
    · obtain ⟨b, o, rfl, hbb, h0'⟩ := (hs.below hb) k hlt
      dsimp only at h0'
      clear hs
      go_wp2_with fail
      go_roundw
      case rel => exact ⟨k + 1, by omega, by go_num, by go_num, hb⟩
      case measure => simp [intOf]; omega
    · go_wp2
      go_ret
      obtain rfl : k = n := by omega
      exact ⟨rfl, hb⟩
theorem toStringS_any (A : Option Addr) (n c : Nat) (s : Nat → ByteArray) (w : World) (hn : n ≤ 1048576) (hs : Sl w w.heap.size A n (fun i => .string (s i))) :
    Calls Tryd.prog 10 #[.slice A n c] w fun e w' => e = .returned (.slice (some ⟨w.heap.size, 0, none⟩) n n) ∧ w'.ownsRow w.heap.size 9 1 (.slice (some ⟨w.heap.size, 0, none⟩) n n) n ((List.range n).map fun (i : Nat) => Value.string (s i)) ∧ Below w.heap.size w w' := by
  have hmk : ∀ W : World, (Instr.makeSlice 22 (.int .i64 (n : Int)) (.int .i64 (n : Int))).run Tryd.prog W = .ok (.slice (some ⟨W.heap.size, 0, none⟩) n n) (W.alloc (.cells (madeCells #[.string .empty] n) 9)) := fun W => by
    have := run_mk (P := Tryd.prog) 22 9 (.string .empty) 1 16 Tryd.underlying22 (by kernel_rfl) (by omega) n (by omega) W
    rwa [Nat.mul_one] at this
  go_enter Tryd.func10, Tryd.ntmps10
  go_wp2
  go_loopw [4] (fun s4 wr => ∃ (k : Nat) (cur : Array Value), k ≤ n ∧ s4 = .int .i64 k ∧ Rw wr w.heap.size 9 cur ∧ cur.size = n ∧ (∀ i, i < k → cur[i]? = some (.string (s i))) ∧ Below w.heap.size w wr) (fun i _ => n - (intOf i).toNat)
  case atStart => exact ⟨0, _, by omega, rfl, Rw.new _ _ _, by rw [size_madeCells], fun i hi => by omega, (Below.refl _ _).alloc (Nat.le_refl _) _⟩
  case round =>
    obtain ⟨k, cur, hk, rfl, hrw, hsz, hcur, hb⟩ := hrel
    by_cases hlt : k < n
    · obtain ⟨b, o, rfl, hbb, h0⟩ := (hs.below hb) k hlt
      have hnext := one_more (x := .string (s k)) (f := fun i => .string (s i)) hcur (by omega) rfl
      have HN := Lib.hid hnext
      obtain ⟨x, hx⟩ : ∃ x, x = s k := ⟨_, rfl⟩
      have HX := Lib.hid hx
      simp only [← hx] at h0
      clear hx hs hmk hcur hnext
      obtain ⟨u0, hc0⟩ : ∃ u, wr.cell? ⟨w.heap.size, k, none⟩ = some u := ⟨_, (hrw.cell _).trans (Array.getElem?_eq_getElem (by omega))⟩
      have hf0 := hrw.frozen k
      go_wp2_with fail
      go_roundw
      case rel =>
        refine ⟨k + 1, _, by omega, by go_num, hrw.set _ _, by simpa using hsz, ?_, hb.setCell (Nat.le_refl _) _⟩
        have h := HN.out
        rw [← HX.out] at h
        exact h
      case measure => simp [intOf]; omega
    · obtain rfl : k = n := by omega
      go_wp2
      go_ret
      refine ⟨rfl, ⟨by simp, .inr ⟨w.heap.size, k, cur, rfl, Nat.le_refl _, hrw, Nat.le_refl _, by simp only [maxLen]; omega, by omega, ?_⟩⟩, hb⟩
      apply List.ext_getElem?
      intro i
      rw [List.getElem?_take]
      by_cases hi : i < k
      · rw [if_pos (by omega)]
        have := hcur i hi
        simp only [Array.getElem?_toList, this, List.getElem?_map, List.getElem?_range hi, Option.map_some]
      · rw [if_neg (by omega)]
        simp [hi]
end Go.Proofs.YtgmmigbaaigldaaDoor
