/-
  Lists of files: what the law itself calls.
-/
import Derived.Test.YtdofpkdemmngeaaFlP
import Derived.Test.YtdofpkdemmngeaaDrJ
import Derived.Test.YtdofpkdemmngeaaRfxI
import Derived.Test.YtdofpkdemmngeaaFtT
namespace Go.Proofs.Ytdofpkdemmngeaa
open Go Go.ChangeShapes Go.WideShapes Go.ChangeAt Go.RowKit lib
set_option linter.unusedVariables false
set_option linter.unusedSimpArgs false
set_option maxRecDepth 100000
theorem b10Long_any (A : Option Addr) (n c : Nat) (w : World) (b : Bool) (hb : decide ((1048576 : Int) < (n : Int)) = b) : Calls Try.prog 4 #[.slice A n c] w fun e w' => e = .returned (.bool b) ∧ w' = w := by
  subst hb
  go_enter Try.func4, Try.ntmps4
  go_wp2
  go_ret
  exact ⟨by simp, rfl⟩
theorem b10Texts_same (A B : Option Addr) (n c d : Nat) (s : Nat → ByteArray) (w : World) (hn : n ≤ 1048576) (ha : Sl w w.heap.size A n (fun i => .string (s i))) (hb : Sl w w.heap.size B n (fun i => .string (s i))) :
    Calls Try.prog 11 #[.slice A n c, .slice B n d] w fun e w' => e = .returned (.bool true) ∧ Below w.heap.size w w' := by
  have HA := Lib.hid ha
  have HB := Lib.hid hb
  clear ha hb
  go_enter Try.func11, Try.ntmps11
  go_wp2_with fail
  go_loopw [5] (fun s5 wr => ∃ k : Nat, k ≤ n ∧ s5 = .int .i64 (k : Int) ∧ Below w.heap.size w wr) (fun i _ => n - (intOf i).toNat)
  case atStart => exact ⟨0, by omega, rfl, Below.refl _ _⟩
  case round =>
    obtain ⟨k, hk, rfl, hbl⟩ := hrel
    have HBL := Lib.hid hbl
    by_cases hlt : k < n
    · have hki : (k : Int) < (n : Int) := by omega
      obtain ⟨b1, o1, rfl, _, h1⟩ := (HA.out.below hbl) k hlt
      obtain ⟨b2, o2, rfl, _, h2⟩ := (HB.out.below hbl) k hlt
      dsimp only at h1 h2
      obtain ⟨x, hx⟩ : ∃ x, s k = x := ⟨_, rfl⟩
      rw [hx] at h1 h2
      have hcmp : (x.toList == x.toList) = true := by simp
      clear hbl hx
      go_wp2_with fail
      go_quiet (fail)
      go_wp2_with fail
      exact ⟨⟨k + 1, by omega, by go_num, HBL.out.drewN _⟩, by simp [intOf]; omega⟩
    · obtain rfl : k = n := by omega
      clear hbl
      go_wp2
      go_ret
      exact ⟨rfl, HBL.out⟩
theorem specValidF_any (A : Option Addr) (n c : Nat) (s : Nat → ByteArray) (w : World) (hn : n ≤ 1048576) (hsz : ∀ i, i < n * 2 → (s i).size ≤ 1048576) (hs : Sl w w.heap.size A (n * 2) (fun i => .string (s i))) :
    Calls Try.prog 8 #[.slice A n c] w fun e w' => VfOut (VF n s) e w w' := by
  have HV := Lib.hid (specValid_any A n c s w hn hsz hs)
  clear hs hsz
  go_enter Try.func8, Try.ntmps8
  go_wp2_with (go_at_call 22; refine HV.out.mono ?_; rintro e w1 ⟨b, hb, rfl, hbl⟩)
  go_ret
  exact ⟨b, hb, rfl, hbl⟩
theorem sameB_eq {n m : Nat} {s t : Nat → ByteArray} (h : filS s n = filS t m) : sameB n m s t = true := by
  obtain ⟨rfl, h2⟩ := filS_eq.1 h
  simp [sameB]
  exact h2
theorem sameB_ne {n m : Nat} {s t : Nat → ByteArray} (h : filS s n ≠ filS t m) : sameB n m s t = false := by
  rw [← Bool.not_eq_true]
  intro e
  refine h (filS_eq.2 ?_)
  simp [sameB] at e
  exact e
theorem ft_text {n : Nat} {s : Nat → ByteArray} (h : VF n s) : ftAll n s = ftx s n := by unfold ftAll; rw [if_pos h]
theorem ft_none {n : Nat} {s : Nat → ByteArray} (h : ¬ VF n s) : ftAll n s = ⟨#[]⟩ := by unfold ftAll; rw [if_neg h]
end Go.Proofs.Ytdofpkdemmngeaa
