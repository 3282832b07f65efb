/-
  A file in a list of files: slices.Index, slices.Contains.
-/
import Derived.Test.YtdofpkdemmngeaaBase
import Derived.Deep.DeepCutAuto
import Derived.Deep.Draws
import Derived.BigQuiet
namespace Go.Proofs.Ytdofpkdemmngeaa
open Go Go.ChangeShapes Go.WideShapes Go.ChangeAt Go.RowKit lib
set_option linter.unusedVariables false
set_option maxRecDepth 100000
/-- a list of files: names and data -/
def filS (s : Nat → ByteArray) (n : Nat) : List (ByteArray × ByteArray) := (List.range n).map fun i => (s (i * 2), s (i * 2 + 1))
theorem filS_len (s : Nat → ByteArray) (n : Nat) : (filS s n).length = n := by simp [filS]
theorem filS_mem {s : Nat → ByteArray} {n : Nat} {f : ByteArray × ByteArray} : f ∈ filS s n ↔ ∃ i, i < n ∧ (s (i * 2), s (i * 2 + 1)) = f := by
  unfold filS
  simp only [List.mem_map, List.mem_range]
theorem filS_take {s : Nat → ByteArray} {n k : Nat} (h : k < n) : (filS s n).take (k + 1) = (filS s n).take k ++ [(s (k * 2), s (k * 2 + 1))] := by
  rw [List.take_add_one, List.getElem?_eq_getElem (by rw [filS_len]; exact h), Option.toList_some]
  simp [filS]
theorem filS_drop {s : Nat → ByteArray} {n k : Nat} (h : k < n) : (filS s n).drop k = (s (k * 2), s (k * 2 + 1)) :: (filS s n).drop (k + 1) := by
  rw [List.drop_eq_getElem_cons (by rw [filS_len]; exact h)]
  simp [filS]
theorem slicesIndexFile_any (A : Option Addr) (n c : Nat) (s : Nat → ByteArray) (a b : ByteArray) (w : World) (hn : n ≤ 1048576) (hs : Sl w w.heap.size A (n * 2) (fun i => .string (s i))) :
    Calls Try.prog 42 #[.slice A n c, .agg #[.string a, .string b]] w fun e w' => ∃ i : Int, e = .returned (.int .i64 i) ∧ (0 ≤ i ↔ (a, b) ∈ filS s n) ∧ Below w.heap.size w w' := by
  have HS := Lib.hid hs
  have hal := (Below.refl w.heap.size w).alloc (Nat.le_refl _) (.cells #[.string a, .string b] 43)
  have HAL := Lib.hid hal
  have HR := Lib.hid (Rw.new w 43 #[.string a, .string b])
  clear hs hal
  go_enter Try.func42, Try.ntmps42
  go_upto_region 2 with fail
  obtain ⟨q, hq⟩ : ∃ q, w.heap.size = q := ⟨_, rfl⟩
  rw [hq] at HR
  generalize w.alloc (.cells #[.string a, .string b] 43) = W1 at *
  rw [hq]
  have hql := HR.out.lt
  clear hq
  go_loopw [8] (fun s8 wr => ∃ k : Nat, k ≤ n ∧ s8 = .int .i64 k ∧ (∀ i, i < k → (s (i * 2), s (i * 2 + 1)) ≠ (a, b)) ∧ Below W1.heap.size W1 wr) (fun i _ => n - (intOf i).toNat)
  case atStart => exact ⟨0, by omega, rfl, fun i hi => by omega, Below.refl _ _⟩
  case round =>
    obtain ⟨k, hk, rfl, hne, hb⟩ := hrel
    have HB := Lib.hid (HAL.out.trans (hb.mono HAL.out.size))
    have HB1 := Lib.hid hb
    have hr := HR.out.below hb hql
    have q0 := hr.cell 0
    have q1 := hr.cell 1
    have HNE := Lib.hid hne
    clear hne hr
    by_cases hlt : k < n
    · obtain ⟨b', o, rfl, hbb, h0, h1⟩ := (HS.out.below HB.out).two hlt
      obtain ⟨x, hx⟩ : ∃ x, x = s (k * 2) := ⟨_, rfl⟩
      obtain ⟨y, hy⟩ : ∃ y, y = s (k * 2 + 1) := ⟨_, rfl⟩
      have HX := Lib.hid (show (x, y) = (s (k * 2), s (k * 2 + 1)) by rw [hx, hy])
      simp only [← hx, ← hy] at h0 h1
      clear hx hy hb
      by_cases he : a = x ∧ b = y
      · have hf : fileEqB a b x y = true := by simp [fileEqB, he.1, he.2]
        have HM := Lib.hid (show (a, b) ∈ filS s n from filS_mem.2 ⟨k, hlt, by rw [← HX.out, he.1, he.2]⟩)
        clear he
        go_wp2_with fail
        go_quiet (fail)
        go_wp2
        go_ret
        exact ⟨_, rfl, ⟨fun _ => HM.out, fun _ => by omega⟩, HB.out.drewN _⟩
      · have hf : fileEqB a b x y = false := by simpa [fileEqB] using he
        have HN := Lib.hid (show ∀ i, i < k + 1 → (s (i * 2), s (i * 2 + 1)) ≠ (a, b) from fun i hi => by
          by_cases e : i = k
          · subst e
            rw [← HX.out]
            intro q
            injection q with q1 q2
            exact he ⟨q1.symm, q2.symm⟩
          · exact HNE.out i (by omega))
        clear he
        go_wp2_with fail
        go_quiet (fail)
        go_wp2
        go_roundw
        case rel => exact ⟨k + 1, by omega, by go_num, HN.out, HB1.out.drewN _⟩
        case measure => simp [intOf]; omega
    · obtain rfl : k = n := by omega
      clear hb
      go_wp2
      go_ret
      exact ⟨_, rfl, ⟨fun h => absurd h (by omega), fun h => by obtain ⟨i, hi, e⟩ := filS_mem.1 h; exact absurd e (HNE.out i hi)⟩, HB.out⟩
theorem slicesContainsFile_any (A : Option Addr) (n c : Nat) (s : Nat → ByteArray) (a b : ByteArray) (w : World) (hn : n ≤ 1048576) (hs : Sl w w.heap.size A (n * 2) (fun i => .string (s i))) :
    Calls Try.prog 23 #[.slice A n c, .agg #[.string a, .string b]] w fun e w' => ∃ x : Bool, e = .returned (.bool x) ∧ (x = true ↔ (a, b) ∈ filS s n) ∧ Below w.heap.size w w' := by
  have hal := (Below.refl w.heap.size w).alloc (Nat.le_refl _) (.cells #[.string a, .string b] 43)
  have hr := Rw.new w 43 #[.string a, .string b]
  have q0 := hr.cell 0
  have q1 := hr.cell 1
  have HAL := Lib.hid hal
  have HIX := Lib.hid (slicesIndexFile_any A n c s a b (w.alloc (.cells #[.string a, .string b] 43)) hn ((hs.below hal).more hal.size))
  clear hs hal hr
  go_enter Try.func23, Try.ntmps23
  go_wp2_with (go_at_call 42; refine HIX.out.mono ?_; rintro e w1 ⟨i, rfl, hi, hb⟩)
  go_ret
  exact ⟨_, rfl, by rw [← hi]; simp, HAL.out.trans (hb.mono HAL.out.size)⟩
end Go.Proofs.Ytdofpkdemmngeaa
