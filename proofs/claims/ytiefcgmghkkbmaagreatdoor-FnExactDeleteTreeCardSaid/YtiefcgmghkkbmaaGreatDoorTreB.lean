/-
  Trees: the program's small functions.
-/
import Derived.Test.YtiefcgmghkkbmaaGreatDoorTreP
import Derived.Test.YtiefcgmghkkbmaaGreatDoorShelf
import Derived.Deep.DeepCutAuto
namespace Go.Proofs.YtiefcgmghkkbmaaGreatDoor
open Go Go.ChangeShapes Go.WideShapes Go.ChangeAt Go.RowKit lib
set_option linter.unusedVariables false
set_option linter.unusedSimpArgs false
set_option maxRecDepth 100000
theorem u8_is {y : UInt8} {m : Nat} (k : UInt8) (h : y.toNat = m) : y = k ↔ m = k.toNat := by rw [← h]; exact UInt8.toNat_inj.symm
theorem bF {b : Bool} {p : Prop} (hb : b = true ↔ p) (h : ¬ p) : b = false := by
  cases b with
  | false => rfl
  | true => exact absurd (hb.1 rfl) h
def bz (n : Nat) : ByteArray := bstr n fun _ => 0
theorem bz_iff {n : Nat} {v : Nat → UInt8} : bstr n v = bz n ↔ ∀ i, i < n → v i = 0 := ⟨fun h => bsT_ext h, fun h => bsT_congr h⟩
theorem usum_nul {v : Nat → UInt8} : ∀ n, (∀ i, i < n → v i = 0) → usum v n = 0
  | 0, _ => rfl
  | k + 1, h => by
    unfold usum
    rw [usum_nul k (fun i hi => h i (by omega)), h k (by omega)]
    rfl
theorem tSl {w : World} {g o n m : Nat} {x : Nat → UInt8} {e : Nat} (h : BRow w e g n x) (hm : o + m ≤ n) : Sl w w.heap.size (some ⟨g, o, none⟩) m (fun i => .int .u8 ((x (o + i)).toNat : Int)) := fun i hi => ⟨g, o, rfl, h.lt, h.cell (by omega)⟩
theorem zerosT_any (n : Nat) (w : World) (hn : n ≤ 1048576) : Calls Tryz.prog 98 #[.int .i64 n] w fun r w' => r = .returned (.string (bz n)) ∧ Below w.heap.size w w' := by
  have e : (⟨(Lib.repeatL (⟨#[0]⟩ : ByteArray).data.toList n).toArray⟩ : ByteArray) = bz n := by
    unfold bz bstr
    congr 2
    rw [List.map_const', List.length_range]
    induction n with
    | zero => rfl
    | succ k ih => rw [List.replicate_succ, ← ih (by omega)]; rfl
  go_enter Tryz.func98, Tryz.ntmps98
  go_wp2_with (go_at_call 129; refine (Tryz.strings_Repeat ⟨#[0]⟩ n _ (by omega) (by show 1 * n ≤ _; omega)).mono ?_; rw [e]; rintro e w' ⟨rfl, hb⟩)
  go_ret
  exact ⟨rfl, hb⟩
theorem allZero_any {w : World} (A : Option Addr) (n c : Nat) (v : Nat → UInt8) (b : Bool) (hn : n ≤ 64) (hs : Sl w w.heap.size A n (fun i => .int .u8 ((v i).toNat : Int))) (hb : b = true ↔ ∀ i, i < n → v i = 0) :
    Calls Tryz.prog 55 #[.slice A n c] w fun e w' => e = .returned (.bool b) ∧ Below w.heap.size w w' := by
  have HBS := Lib.hid (fun (k : Nat) => byteSum_any A n c v (w.drewN k) (by omega) (hs.drewN k))
  have hA : A = none → n = 0 := fun hA => by
    rcases Nat.eq_zero_or_pos n with h0 | h0
    · exact h0
    · obtain ⟨_, _, e, _⟩ := hs 0 h0
      rw [hA] at e; cases e
  have HCV := Lib.hid (fun (W : World) (hW : Below w.heap.size w W) => run_bstr (P := Tryz.prog) (w := W) (B := w.heap.size) (c := c) 45 9 5 Tryz.underlying45 Tryz.underlying5 Tryz.underlying9 (u := v) (hs.below hW) hA)
  have HZ := Lib.hid (zerosT_any n w (by omega))
  have HIF := Lib.hid (bz_iff (n := n) (v := v))
  have HNL := Lib.hid (usum_nul (v := v) n)
  have hcv := HCV.out (w.drewN 1) ((Below.refl _ _).drewN _)
  have HB := Lib.hid hb
  have heq : ((bstr n v).toList == (bz n).toList) = b := by
    by_cases he : bstr n v = bz n
    · rw [str_eq_true he]
      exact (hb.2 (bz_iff.1 he)).symm
    · rw [str_eq_false he]
      cases b with
      | false => rfl
      | true => exact absurd (bz_iff.2 (hb.1 rfl)) he
  have HEQ := Lib.hid heq
  clear hs hA hb heq
  obtain ⟨z, hz⟩ : ∃ z, (usum v n).toNat = z := ⟨_, rfl⟩
  have hz2 : z < 256 := by rw [← hz]; exact UInt8.toNat_lt _
  have HBS : Hid (∀ k, Calls Tryz.prog 88 #[.slice A n c] (w.drewN k) fun e w' => e = .returned (.int .u8 (z : Int)) ∧ w.drewN k = w') := Lib.hid (fun k => by have := HBS.out k; rw [hz] at this; exact this)
  have HQ := Lib.hid hz
  clear hz
  by_cases h0 : z = 0
  · subst h0
    go_enter Tryz.func55, Tryz.ntmps55
    go_wp2_with fail
    go_region_with (first
      | (go_at_call 88; refine (HBS.out 1).mono ?_; rintro e w1 ⟨rfl, rfl⟩)
      | (go_at_call 98; refine (zerosT_any n _ (by omega)).mono ?_; rintro e w1 ⟨rfl, hb1⟩; have hcv1 := HCV.out w1 (((Below.refl _ _).drewN 1).trans hb1)))
    all_goals
      go_wp2_with fail
      go_ret
      exact ⟨by rw [HEQ.out]; rfl, ((Below.refl _ _).drewN 1).trans hb1⟩
  · have e1 : ((z : Int) == 0) = false := by simp; omega
    have hbf : b = false := by
      cases b with
      | false => rfl
      | true =>
        have := HNL.out (HB.out.1 rfl)
        exact absurd (by rw [← HQ.out, this]; rfl) h0
    subst hbf
    clear h0
    go_enter Tryz.func55, Tryz.ntmps55
    go_wp2_with fail
    go_quiet ((go_at_call 88; exact Calls.quiet_of_same ((HBS.out _).mono fun e w' h => ⟨h.1, h.2.symm⟩)))
    go_wp2_with fail
    go_ret
    exact ⟨rfl, (Below.refl _ _).drewN _⟩
theorem allZeroAt {w : World} {g c j : Nat} {x : Nat → UInt8} (hr : BRow w 5 g 32 x) (hj : j < 32) (b : Bool) (hb : b = true ↔ tZ x j) :
    Calls Tryz.prog 55 #[.slice (some ⟨g, j, none⟩) (32 - j) c] w fun e w' => e = .returned (.bool b) ∧ Below w.heap.size w w' :=
  allZero_any _ (32 - j) _ (fun i => x (j + i)) b (by omega) (tSl (o := j) (m := 32 - j) hr (by omega)) (hb.trans ⟨fun h i hi => h _ (by omega) (by omega), fun h i h1 h2 => by have := h (i - j) (by omega); rwa [show j + (i - j) = i by omega] at this⟩)
theorem allZeroEnd {w : World} {A : Option Addr} {c : Nat} {x : Nat → UInt8} : Calls Tryz.prog 55 #[.slice A 0 c] w fun e w' => e = .returned (.bool true) ∧ Below w.heap.size w w' :=
  allZero_any _ 0 _ (fun _ => 0) true (by omega) Sl.nil ⟨fun _ i hi => by omega, fun _ => rfl⟩
end Go.Proofs.YtiefcgmghkkbmaaGreatDoor
