/-
  Disks of chains: rows of bytes compared, numbers looked for.
-/
import Derived.Test.YtmgcaiilocifbaaGreatDoorChF
import Derived.Test.YtmgcaiilocifbaaGreatDoorShelf
import Derived.Deep.DeepCutAuto
namespace Go.Proofs.YtmgcaiilocifbaaGreatDoor
open Go Go.ChangeShapes Go.WideShapes Go.ChangeAt Go.RowKit lib
set_option linter.unusedVariables false
set_option maxRecDepth 100000
theorem slEqual_any (b1 o1 b2 o2 n c1 c2 : Nat) (x y : Nat → UInt8) (w : World) (hn : n ≤ 1048576) (l1 : b1 < w.heap.size) (l2 : b2 < w.heap.size)
    (h1 : ∀ i, i < n → w.cell? ⟨b1, o1 + i, none⟩ = some (.int .u8 ((x i).toNat : Int))) (h2 : ∀ i, i < n → w.cell? ⟨b2, o2 + i, none⟩ = some (.int .u8 ((y i).toNat : Int)))
    (B : Bool) (hB : B = true ↔ ∀ i, i < n → x i = y i) :
    Calls Tryz.prog 61 #[.slice (some ⟨b1, o1, none⟩) n c1, .slice (some ⟨b2, o2, none⟩) n c2] w fun e w' => e = .returned (.bool B) ∧ Below w.heap.size w w' := by
  go_enter Tryz.func61, Tryz.ntmps61
  go_wp2
  go_loopw [13] (fun s13 wr => ∃ k : Nat, k ≤ n ∧ s13 = .int .i64 k ∧ (∀ i, i < k → x i = y i) ∧ Below w.heap.size w wr) (fun i _ => n - (intOf i).toNat)
  case atStart => exact ⟨0, by omega, rfl, fun i hi => absurd hi (by omega), Below.refl _ _⟩
  case round =>
    obtain ⟨k, hk, rfl, hq, hb⟩ := hrel
    have HQ := Lib.hid hq
    clear hq
    by_cases hlt : k < n
    · have g1 := (hb.cell (p := ⟨b1, o1 + k, none⟩) l1).trans (h1 k hlt)
      have g2 := (hb.cell (p := ⟨b2, o2 + k, none⟩) l2).trans (h2 k hlt)
      have HB := Lib.hid hB
      clear h1 h2 hB
      by_cases he : x k = y k
      · have q1 : (((x k).toNat : Int) = ((y k).toNat : Int)) = True := by rw [he]; simp
        have HE := Lib.hid he
        rw [he] at g1
        clear he q1
        go_wp2_with fail
        go_region
        go_wp2
        go_roundw
        case rel => exact ⟨k + 1, by omega, by go_num, fun i hi => by
          rcases Nat.lt_or_ge i k with h | h
          · exact HQ.out i h
          · obtain rfl : i = k := by omega
            exact HE.out, hb.drew⟩
        case measure => simp [intOf]; omega
      · have hf : B = false := by
          cases hbb : B with
          | false => rfl
          | true => exact absurd (HB.out.1 hbb k hlt) he
        have q1 : (((x k).toNat : Int) != ((y k).toNat : Int)) = true := by
          rw [bne_iff_ne]
          intro h
          exact he (UInt8.toNat_inj.1 (by omega))
        have q2 : ((x k).toNat = (y k).toNat) = False := by
          simp only [eq_iff_iff, iff_false]
          intro h
          exact he (UInt8.toNat_inj.1 h)
        subst hf
        clear he
        go_wp2_with fail
        go_region
        go_wp2
        go_ret
        exact ⟨rfl, hb.drew⟩
    · obtain rfl : k = n := by omega
      obtain rfl : B = true := hB.2 HQ.out
      go_wp2
      go_ret
      exact ⟨rfl, hb⟩
end Go.Proofs.YtmgcaiilocifbaaGreatDoor
