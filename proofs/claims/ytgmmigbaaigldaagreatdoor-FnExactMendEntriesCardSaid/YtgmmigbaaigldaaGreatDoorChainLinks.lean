/-
  Disks of chains: free blocks, links.
-/
import Derived.Test.YtgmmigbaaigldaaGreatDoorChainOpen2
import Derived.Test.YtgmmigbaaigldaaGreatDoorChainOpenS
import Derived.Test.YtgmmigbaaigldaaGreatDoorInts
namespace Go.Proofs.YtgmmigbaaigldaaGreatDoor
open Go Go.ChangeShapes Go.WideShapes Go.ChangeAt Go.RowKit lib
set_option linter.unusedVariables false
set_option maxRecDepth 100000
/-- the free blocks among t, t + 1, .. -/
def freeN (U : Nat → UInt8) (z t : Nat) : Nat → List Nat
  | 0 => []
  | i + 1 => freeN U z t i ++ (if U (z + (t + i)) = 0 then [t + i] else [])
theorem freeN_hit {U : Nat → UInt8} {z t i : Nat} (h : U (z + (t + i)) = 0) : freeN U z t (i + 1) = freeN U z t i ++ [t + i] := by simp only [freeN, if_pos h]
theorem freeN_miss {U : Nat → UInt8} {z t i : Nat} (h : U (z + (t + i)) ≠ 0) : freeN U z t (i + 1) = freeN U z t i := by simp only [freeN, if_neg h, List.append_nil]
theorem freeN_le (U : Nat → UInt8) (z t : Nat) : ∀ i, (freeN U z t i).length ≤ i
  | 0 => Nat.le_refl _
  | i + 1 => by
    have := freeN_le U z t i
    simp only [freeN, List.length_append]
    split <;> simp <;> omega
theorem infoI64 : (Tryz.prog.info? 2).map (fun i => (i.zero, i.size, i.bytes)) = some (some (.int .i64 0), 1, 8) := by kernel_rfl
set_option maxHeartbeats 1000000 in
theorem implFree_any {w : World} {p g n z e d t N c : Nat} {u : Nat → UInt8} (h : ChW w p g n z e d t N c u) (ht : t ≤ n) (hn : n ≤ 128) (hNz : z + n ≤ N) (hN : N ≤ 4096) :
    Calls Tryz.prog 47 #[.pointer (some ⟨p, 0, none⟩)] w fun r w' => ∃ A c, r = .returned (.slice A (freeN u z t (n - t)).length c) ∧ w'.ownsRow w.heap.size 2 1 (.slice A (freeN u z t (n - t)).length c) (freeN u z t (n - t)).length ((freeN u z t (n - t)).map fun (i : Nat) => Value.int .i64 (i : Int)) ∧ Below w.heap.size w w' := by
  have h4 := h.c4
  go_enter Tryz.func47, Tryz.ntmps47
  go_wp2_with fail
  go_loopw [3, 4] (fun s3 s4 wr => ∃ (i : Nat) (A : Option Addr) (c' : Nat), t + i ≤ n ∧ s3 = .slice A (freeN u z t i).length c' ∧ s4 = .int .i64 (t + i : Nat) ∧ wr.ownsRow w.heap.size 2 1 (.slice A (freeN u z t i).length c') (freeN u z t i).length ((freeN u z t i).map fun (i : Nat) => Value.int .i64 (i : Int)) ∧ Below w.heap.size w wr) (fun _ s _ => n - (intOf s).toNat)
  case atStart => exact ⟨0, none, 0, by omega, rfl, rfl, World.ownsRow_nil _ _ _ _, Below.refl _ _⟩
  case round =>
    obtain ⟨i, A, c', hi, rfl, rfl, ho, hb⟩ := hrel
    have hW := h.below hb
    have h0 := hW.c0
    have HO := Lib.hid ho
    have hl := freeN_le u z t i
    by_cases hlt : t + i < n
    · have hrc := hW.row.cell (i := z + (t + i)) (by omega)
      have hz := hb.size
      by_cases hu : u (z + (t + i)) = 0
      · rw [hu] at hrc
        have HF := Lib.hid (freeN_hit hu)
        clear hu ho
        generalize hL : freeN u z t i = L at *
        clear hL
        go_wp2_with (first
          | (go_at_call 26; refine (implLink_any (t + i) hW (by omega) (by omega)).mono ?_; rintro e1 w1 ⟨rfl, rfl⟩)
          | (at_builtin; refine wpList_push (.tmp 25) (.tmp 27) 38 w.heap.size 2 (.int .i64 0) _ 8 _ L.length _ (own_below HO.out (Below.refl _ _).drew) rfl rfl Tryz.underlying38 infoI64 rfl rfl rfl rfl rfl (by omega) (by omega) hz ?_; intro A' c2 w3 ho3 hb3))
        go_roundw
        case rel => exact ⟨i + 1, some A', c2, by omega, by rw [HF.out]; simp, by go_num, by rw [HF.out]; simpa using ho3, hb.drew.trans hb3⟩
        case measure => simp [intOf]; omega
      · have q1 : ((u (z + (t + i))).toNat = 0) = False := by
          rw [eq_iff_iff]
          exact ⟨fun h => hu (UInt8.toNat_inj.1 h), False.elim⟩
        have q2 : (((u (z + (t + i))).toNat : Int) == 0) = false := by
          rw [beq_eq_false_iff_ne]
          intro h
          exact hu (UInt8.toNat_inj.1 (by simpa using h))
        have HF := Lib.hid (freeN_miss hu)
        clear hu ho
        generalize hL : freeN u z t i = L at *
        clear hL
        go_wp2_with (go_at_call 26; refine (implLink_any (t + i) hW (by omega) (by omega)).mono ?_; rintro e1 w1 ⟨rfl, rfl⟩)
        go_roundw
        case rel => exact ⟨i + 1, A, c', by omega, by rw [HF.out], by go_num, by rw [HF.out]; exact own_below HO.out (Below.refl _ _).drew, hb.drew⟩
        case measure => simp [intOf]; omega
    · obtain rfl : i = n - t := by omega
      clear ho
      go_wp2
      go_ret
      exact ⟨A, c', rfl, HO.out, hb⟩
set_option maxHeartbeats 1000000 in
theorem specFree_any {w : World} {p g n z e d t N c : Nat} {u : Nat → UInt8} (h : ChW w p g n z e d t N c u) (ht : t ≤ n) (hn : n ≤ 128) (hNz : z + n ≤ N) (hN : N ≤ 4096) :
    Calls Tryz.prog 39 #[.pointer (some ⟨p, 0, none⟩)] w fun r w' => ∃ A c, r = .returned (.slice A (freeN u z t (n - t)).length c) ∧ w'.ownsRow w.heap.size 2 1 (.slice A (freeN u z t (n - t)).length c) (freeN u z t (n - t)).length ((freeN u z t (n - t)).map fun (i : Nat) => Value.int .i64 (i : Int)) ∧ Below w.heap.size w w' := by
  have h4 := (h.below ((Below.refl _ _).alloc (Nat.le_refl _) (.cells #[] 2))).c4
  go_enter Tryz.func39, Tryz.ntmps39
  go_wp2_with fail
  go_loopw [3, 4] (fun s3 s4 wr => ∃ (i : Nat) (A : Option Addr) (c' : Nat), t + i ≤ n ∧ s3 = .slice A (freeN u z t i).length c' ∧ s4 = .int .i64 (t + i : Nat) ∧ wr.ownsRow w.heap.size 2 1 (.slice A (freeN u z t i).length c') (freeN u z t i).length ((freeN u z t i).map fun (i : Nat) => Value.int .i64 (i : Int)) ∧ Below w.heap.size w wr) (fun _ s _ => n - (intOf s).toNat)
  case atStart => exact ⟨0, _, 0, by omega, rfl, rfl, ⟨rfl, .inr ⟨w.heap.size, 0, #[], rfl, Nat.le_refl _, heap_alloc_new w _, Nat.le_refl _, by simp [maxLen], rfl, rfl⟩⟩, (Below.refl _ _).alloc (Nat.le_refl _) _⟩
  case round =>
    obtain ⟨i, A, c', hi, rfl, rfl, ho, hb⟩ := hrel
    have hW := h.below hb
    have h0 := hW.c0
    have HO := Lib.hid ho
    have hl := freeN_le u z t i
    by_cases hlt : t + i < n
    · have hrc := hW.row.cell (i := z + (t + i)) (by omega)
      have hz := hb.size
      by_cases hu : u (z + (t + i)) = 0
      · have q1 : ((u (z + (t + i))).toNat = 0) = True := by rw [hu]; simp
        have q2 : (((u (z + (t + i))).toNat : Int) == 0) = true := by rw [hu]; rfl
        have HF := Lib.hid (freeN_hit hu)
        clear hu ho
        generalize hL : freeN u z t i = L at *
        clear hL
        go_wp2_with (first
          | (go_at_call 69; refine (specLink_any (t + i) hW (by omega) (by omega)).mono ?_; rintro e1 w1 ⟨rfl, rfl⟩)
          | (at_builtin; refine wpList_push (.tmp 24) (.tmp 26) 38 w.heap.size 2 (.int .i64 0) _ 8 _ L.length _ (own_below HO.out (Below.refl _ _).drew) rfl rfl Tryz.underlying38 infoI64 rfl rfl rfl rfl rfl (by omega) (by omega) hz ?_; intro A' c2 w3 ho3 hb3))
        go_roundw
        case rel => exact ⟨i + 1, some A', c2, by omega, by rw [HF.out]; simp, by go_num, by rw [HF.out]; simpa using ho3, hb.drew.trans hb3⟩
        case measure => simp [intOf]; omega
      · have q1 : ((u (z + (t + i))).toNat = 0) = False := by
          rw [eq_iff_iff]
          exact ⟨fun h => hu (UInt8.toNat_inj.1 h), False.elim⟩
        have q2 : (((u (z + (t + i))).toNat : Int) == 0) = false := by
          rw [beq_eq_false_iff_ne]
          intro h
          exact hu (UInt8.toNat_inj.1 (by simpa using h))
        have HF := Lib.hid (freeN_miss hu)
        clear hu ho
        generalize hL : freeN u z t i = L at *
        clear hL
        go_wp2_with (go_at_call 69; refine (specLink_any (t + i) hW (by omega) (by omega)).mono ?_; rintro e1 w1 ⟨rfl, rfl⟩)
        go_roundw
        case rel => exact ⟨i + 1, A, c', by omega, by rw [HF.out], by go_num, by rw [HF.out]; exact own_below HO.out (Below.refl _ _).drew, hb.drew⟩
        case measure => simp [intOf]; omega
    · obtain rfl : i = n - t := by omega
      clear ho
      go_wp2
      go_ret
      exact ⟨A, c', rfl, HO.out, hb⟩
end Go.Proofs.YtgmmigbaaigldaaGreatDoor
