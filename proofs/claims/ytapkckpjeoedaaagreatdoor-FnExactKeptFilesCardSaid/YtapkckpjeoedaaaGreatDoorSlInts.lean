/-
  Disks of chains: rows of bytes compared, numbers looked for.
-/
import Derived.Test.YtapkckpjeoedaaaGreatDoorChF
import Derived.Test.YtapkckpjeoedaaaGreatDoorShelf
import Derived.Deep.DeepCutAuto
namespace Go.Proofs.YtapkckpjeoedaaaGreatDoor
open Go Go.ChangeShapes Go.WideShapes Go.ChangeAt Go.RowKit lib
set_option linter.unusedVariables false
set_option maxRecDepth 100000
theorem slEqual_any (b1 o1 b2 o2 n c1 c2 : Nat) (x y : Nat → UInt8) (w : World) (hn : n ≤ 1048576) (l1 : b1 < w.heap.size) (l2 : b2 < w.heap.size)
    (h1 : ∀ i, i < n → w.cell? ⟨b1, o1 + i, none⟩ = some (.int .u8 ((x i).toNat : Int))) (h2 : ∀ i, i < n → w.cell? ⟨b2, o2 + i, none⟩ = some (.int .u8 ((y i).toNat : Int)))
    (B : Bool) (hB : B = true ↔ ∀ i, i < n → x i = y i) :
    Calls Tryz.prog 109 #[.slice (some ⟨b1, o1, none⟩) n c1, .slice (some ⟨b2, o2, none⟩) n c2] w fun e w' => e = .returned (.bool B) ∧ Below w.heap.size w w' := by
  go_enter Tryz.func109, Tryz.ntmps109
  go_wp2
  go_loopw [13] (fun s13 wr => ∃ k : Nat, k ≤ n ∧ s13 = .int .i64 k ∧ (∀ i, i < k → x i = y i) ∧ Below w.heap.size w wr) (fun i _ => n - (intOf i).toNat)
  case atStart => exact ⟨0, by omega, rfl, fun i hi => absurd hi (by omega), Below.refl _ _⟩
  case round =>
    obtain ⟨k, hk, rfl, hq, hb⟩ := hrel
    have HQ := Lib.hid hq
    clear hq
    by_cases hlt : k < n
    · have g1 := (hb.cell (p := ⟨b1, o1 + k, none⟩) l1).trans (h1 k hlt)
      have g2 := (hb.cell (p := ⟨b2, o2 + k, none⟩) l2).trans (h2 k hlt)
      have HB := Lib.hid hB
      clear h1 h2 hB
      by_cases he : x k = y k
      · have q1 : (((x k).toNat : Int) = ((y k).toNat : Int)) = True := by rw [he]; simp
        have HE := Lib.hid he
        rw [he] at g1
        clear he q1
        go_wp2_with fail
        go_region
        go_wp2
        go_roundw
        case rel => exact ⟨k + 1, by omega, by go_num, fun i hi => by
          rcases Nat.lt_or_ge i k with h | h
          · exact HQ.out i h
          · obtain rfl : i = k := by omega
            exact HE.out, hb.drew⟩
        case measure => simp [intOf]; omega
      · have hf : B = false := by
          cases hbb : B with
          | false => rfl
          | true => exact absurd (HB.out.1 hbb k hlt) he
        have q1 : (((x k).toNat : Int) != ((y k).toNat : Int)) = true := by
          rw [bne_iff_ne]
          intro h
          exact he (UInt8.toNat_inj.1 (by omega))
        have q2 : ((x k).toNat = (y k).toNat) = False := by
          simp only [eq_iff_iff, iff_false]
          intro h
          exact he (UInt8.toNat_inj.1 h)
        subst hf
        clear he
        go_wp2_with fail
        go_region
        go_wp2
        go_ret
        exact ⟨rfl, hb.drew⟩
    · obtain rfl : k = n := by omega
      obtain rfl : B = true := hB.2 HQ.out
      go_wp2
      go_ret
      exact ⟨rfl, hb⟩
theorem implIsData_any {w : World} {p g n z e d t N c : Nat} {u : Nat → UInt8} (a : Int) (h : ChW w p g n z e d t N c u) (hn : n ≤ 1048576) :
    Calls Tryz.prog 130 #[.pointer (some ⟨p, 0, none⟩), .int .i64 a] w fun r w' => r = .returned (.bool (decide ((t : Int) ≤ a) && decide (a ≤ (n : Int) - 1))) ∧ w' = w.drew := by
  have h0 := h.c0
  have h4 := h.c4
  have hw : IntKind.i64.wrap ((n : Int) - 1) = (n : Int) - 1 := by rw [IntKind.wrap_i64]; omega
  clear h
  go_enter Tryz.func130, Tryz.ntmps130
  go_wp2_with fail
  go_region_law (go_simp; go_at_call 92; refine (within_any _ _ _ _).mono ?_; rintro e w' ⟨rfl, rfl⟩)
  all_goals
    go_wp2
    go_ret
    exact ⟨rfl, rfl⟩
theorem specData_any {w : World} {p g n z e d t N c : Nat} {u : Nat → UInt8} (a : Int) (h : ChW w p g n z e d t N c u) (hn : n ≤ 1048576) :
    Calls Tryz.prog 128 #[.pointer (some ⟨p, 0, none⟩), .int .i64 a] w fun r w' => r = .returned (.bool (decide ((t : Int) ≤ a) && decide (a ≤ (n : Int) - 1))) ∧ w' = w.drew := by
  have h0 := h.c0
  have h4 := h.c4
  have hw : IntKind.i64.wrap ((n : Int) - 1) = (n : Int) - 1 := by rw [IntKind.wrap_i64]; omega
  clear h
  go_enter Tryz.func128, Tryz.ntmps128
  go_wp2_with fail
  go_region_law (go_simp; go_at_call 84; refine (l00In_any _ _ _ _).mono ?_; rintro e w' ⟨rfl, rfl⟩)
  all_goals
    go_wp2
    go_ret
    exact ⟨rfl, rfl⟩
end Go.Proofs.YtapkckpjeoedaaaGreatDoor
