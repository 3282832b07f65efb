/-
  The laws' own helpers on lists of integers; copies of lists of texts.
-/
import Derived.Test.YtgmmigbaaigldaaGreatDoorMarks
namespace Go.Proofs.YtgmmigbaaigldaaGreatDoor
open Go Go.ChangeShapes Go.WideShapes Go.ChangeAt Go.RowKit lib
set_option linter.unusedVariables false
set_option maxRecDepth 100000
theorem toStringS_any (A : Option Addr) (n c : Nat) (s : Nat → ByteArray) (w : World) (hn : n ≤ 1048576) (hs : Sl w w.heap.size A n (fun i => .string (s i))) :
    Calls Tryz.prog 8 #[.slice A n c] w fun e w' => e = .returned (.slice (some ⟨w.heap.size, 0, none⟩) n n) ∧ w'.ownsRow w.heap.size 9 1 (.slice (some ⟨w.heap.size, 0, none⟩) n n) n ((List.range n).map fun (i : Nat) => Value.string (s i)) ∧ Below w.heap.size w w' := by
  have hmk : ∀ W : World, (Instr.makeSlice 22 (.int .i64 (n : Int)) (.int .i64 (n : Int))).run Tryz.prog W = .ok (.slice (some ⟨W.heap.size, 0, none⟩) n n) (W.alloc (.cells (madeCells #[.string .empty] n) 9)) := fun W => by
    have := run_mk (P := Tryz.prog) 22 9 (.string .empty) 1 16 Tryz.underlying22 (by kernel_rfl) (by omega) n (by omega) W
    rwa [Nat.mul_one] at this
  go_enter Tryz.func8, Tryz.ntmps8
  go_wp2
  go_loopw [4] (fun s4 wr => ∃ (k : Nat) (cur : Array Value), k ≤ n ∧ s4 = .int .i64 k ∧ Rw wr w.heap.size 9 cur ∧ cur.size = n ∧ (∀ i, i < k → cur[i]? = some (.string (s i))) ∧ Below w.heap.size w wr) (fun i _ => n - (intOf i).toNat)
  case atStart => exact ⟨0, _, by omega, rfl, Rw.new _ _ _, by rw [size_madeCells], fun i hi => by omega, (Below.refl _ _).alloc (Nat.le_refl _) _⟩
  case round =>
    obtain ⟨k, cur, hk, rfl, hrw, hsz, hcur, hb⟩ := hrel
    by_cases hlt : k < n
    · obtain ⟨b, o, rfl, hbb, h0⟩ := (hs.below hb) k hlt
      have hnext := one_more (x := .string (s k)) (f := fun i => .string (s i)) hcur (by omega) rfl
      have HN := Lib.hid hnext
      obtain ⟨x, hx⟩ : ∃ x, x = s k := ⟨_, rfl⟩
      have HX := Lib.hid hx
      simp only [← hx] at h0
      clear hx hs hmk hcur hnext
      obtain ⟨u0, hc0⟩ : ∃ u, wr.cell? ⟨w.heap.size, k, none⟩ = some u := ⟨_, (hrw.cell _).trans (Array.getElem?_eq_getElem (by omega))⟩
      have hf0 := hrw.frozen k
      go_wp2_with fail
      go_roundw
      case rel =>
        refine ⟨k + 1, _, by omega, by go_num, hrw.set _ _, by simpa using hsz, ?_, hb.setCell (Nat.le_refl _) _⟩
        have h := HN.out
        rw [← HX.out] at h
        exact h
      case measure => simp [intOf]; omega
    · obtain rfl : k = n := by omega
      go_wp2
      go_ret
      refine ⟨rfl, ⟨by simp, .inr ⟨w.heap.size, k, cur, rfl, Nat.le_refl _, hrw, Nat.le_refl _, by simp only [maxLen]; omega, by omega, ?_⟩⟩, hb⟩
      apply List.ext_getElem?
      intro i
      rw [List.getElem?_take]
      by_cases hi : i < k
      · rw [if_pos (by omega)]
        have := hcur i hi
        simp only [Array.getElem?_toList, this, List.getElem?_map, List.getElem?_range hi, Option.map_some]
      · rw [if_neg (by omega)]
        simp [hi]
end Go.Proofs.YtgmmigbaaigldaaGreatDoor
