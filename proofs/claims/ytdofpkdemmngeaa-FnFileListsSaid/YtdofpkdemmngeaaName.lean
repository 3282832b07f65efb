/-
  Names: at most eight letters, digits and lines, a letter first.
-/
import Derived.Test.YtdofpkdemmngeaaBase
namespace Go.Proofs.Ytdofpkdemmngeaa
open Go Go.ChangeShapes Go.WideShapes Go.ChangeAt Go.RowKit lib
set_option linter.unusedVariables false
set_option maxRecDepth 100000
def letterN (x : Nat) : Prop := 65 ≤ x ∧ x ≤ 90
def digitN (x : Nat) : Prop := 48 ≤ x ∧ x ≤ 57
def charN (x : Nat) : Prop := letterN x ∨ digitN x ∨ x = 95
/-- a name -/
structure NameS (s : ByteArray) : Prop where
  lo : 1 ≤ s.size
  hi : s.size ≤ 8
  first : letterN (byteAt s 0).toNat
  all : ∀ i, i < s.size → charN (byteAt s i).toNat
set_option maxHeartbeats 1000000 in
theorem implIsName_any (s : ByteArray) (hs : s.size ≤ 9223372036854775807) (b : Bool) (hb : b = true ↔ NameS s) (w : World) : Calls Try.prog 37 #[.string s] w fun e w' => e = .returned (.bool b) ∧ w = w' := by
  by_cases h0 : s.size < 1
  · have hf : b = false := by
      cases hbb : b with
      | false => rfl
      | true => exact absurd (hb.1 hbb).lo (by omega)
    subst hf
    clear hb
    go_enter Try.func37, Try.ntmps37
    go_wp2
    go_ret
    exact ⟨rfl, rfl⟩
  · by_cases h8 : 8 < s.size
    · have hf : b = false := by
        cases hbb : b with
        | false => rfl
        | true => exact absurd (hb.1 hbb).hi (by omega)
      subst hf
      clear hb
      go_enter Try.func37, Try.ntmps37
      go_wp2
      go_ret
      exact ⟨rfl, rfl⟩
    · have hi0 := byteAt_get s 0 (by omega)
      obtain ⟨x, hx⟩ : ∃ x, (byteAt s 0).toNat = x := ⟨_, rfl⟩
      have hx8 : x < 256 := by rw [← hx]; exact UInt8.toNat_lt _
      have HB := Lib.hid hb
      clear hb
      by_cases hl : x < 65
      · have hf : b = false := by
          cases hbb : b with
          | false => rfl
          | true => have := ((HB.out.1 hbb).first).1; omega
        subst hf
        go_enter Try.func37, Try.ntmps37
        go_wp2
        go_ret
        exact ⟨rfl, rfl⟩
      · by_cases hg : 90 < x
        · have hf : b = false := by
            cases hbb : b with
            | false => rfl
            | true => have := ((HB.out.1 hbb).first).2; omega
          subst hf
          go_enter Try.func37, Try.ntmps37
          go_wp2
          go_ret
          exact ⟨rfl, rfl⟩
        · have HL := Lib.hid (show letterN (byteAt s 0).toNat from ⟨by omega, by omega⟩)
          go_enter Try.func37, Try.ntmps37
          go_wp2
          go_loop [3, 4, 25] (fun s3 s4 s25 => ∃ k : Nat, k ≤ s.size ∧ s25 = .int .i64 k ∧ ∀ j, j < k → charN (byteAt s j).toNat) (fun _ _ i => s.size - (intOf i).toNat)
          case atStart => exact ⟨0, Nat.zero_le _, rfl, fun j hj => absurd hj (by omega)⟩
          case round =>
            obtain ⟨k, hk, rfl, hj⟩ := hrel
            have HJ := Lib.hid hj
            clear hj hi0 hx
            by_cases hlt : k < s.size
            · have hik := byteAt_get s k hlt
              obtain ⟨y, hy⟩ : ∃ y, (byteAt s k).toNat = y := ⟨_, rfl⟩
              have hy8 : y < 256 := by rw [← hy]; exact UInt8.toNat_lt _
              by_cases hc : charN y
              · have HC := Lib.hid (show charN (byteAt s k).toNat by rw [hy]; exact hc)
                have hcc : (65 ≤ y ∧ y ≤ 90) ∨ (48 ≤ y ∧ y ≤ 57) ∨ y = 95 := hc
                clear hc
                have next : ∀ j, j < k + 1 → charN (byteAt s j).toNat := fun j hj => by
                  rcases Nat.lt_succ_iff_lt_or_eq.1 hj with h | rfl
                  · exact HJ.out j h
                  · exact HC.out
                have NX := Lib.hid next
                clear next
                rcases hcc with hcc | hcc | rfl
                all_goals
                  go_wp2
                  go_round
                  case rel => exact ⟨k + 1, by omega, by go_num, NX.out⟩
                  case measure => simp [intOf]; omega
              · have hf : b = false := by
                  cases hbb : b with
                  | false => rfl
                  | true => exact absurd ((HB.out.1 hbb).all k hlt) (by rw [hy]; exact hc)
                have hcc : ¬ ((65 ≤ y ∧ y ≤ 90) ∨ (48 ≤ y ∧ y ≤ 57) ∨ y = 95) := hc
                clear hc
                subst hf
                have h95 : ((y : Int) = 95) = False := by simp; omega
                have h95b : ((y : Int) != 95) = true := by simp; omega
                rcases (show y < 48 ∨ (57 < y ∧ y < 65) ∨ (90 < y) by omega) with h | h | h
                all_goals
                  clear hcc
                  go_wp2
                  go_ret
                  exact ⟨rfl, rfl⟩
            · obtain rfl : k = s.size := by omega
              have hbt : b = true := HB.out.2 ⟨by omega, by omega, HL.out, HJ.out⟩
              subst hbt
              go_wp2
              go_ret
              exact ⟨rfl, rfl⟩
theorem l01Letter_any (x : Nat) (hx : x < 256) (b : Bool) (hb : b = true ↔ letterN x) (w : World) : Calls Try.prog 54 #[.int .u8 x] w fun e w' => e = .returned (.bool b) ∧ w = w' := by
  have HB := Lib.hid hb
  clear hb
  by_cases h1 : 65 ≤ x
  · by_cases h2 : x ≤ 90
    · obtain rfl : b = true := HB.out.2 ⟨h1, h2⟩
      have d2 : decide ((x : Int) ≤ 90) = true := by simp; omega
      go_enter Try.func54, Try.ntmps54
      go_wp2
      go_ret
      first | exact ⟨rfl, rfl⟩ | exact ⟨congrArg (fun b => Ending.returned (Value.bool b)) d2, rfl⟩
    · obtain rfl : b = false := by
        cases hbb : b with
        | false => rfl
        | true => exact absurd (HB.out.1 hbb).2 h2
      have d2 : decide ((x : Int) ≤ 90) = false := by simp; omega
      go_enter Try.func54, Try.ntmps54
      go_wp2
      go_ret
      first | exact ⟨rfl, rfl⟩ | exact ⟨congrArg (fun b => Ending.returned (Value.bool b)) d2, rfl⟩
  · obtain rfl : b = false := by
      cases hbb : b with
      | false => rfl
      | true => exact absurd (HB.out.1 hbb).1 h1
    go_enter Try.func54, Try.ntmps54
    go_wp2
    go_ret
    exact ⟨rfl, rfl⟩
theorem l01Digit_any (x : Nat) (hx : x < 256) (b : Bool) (hb : b = true ↔ digitN x) (w : World) : Calls Try.prog 55 #[.int .u8 x] w fun e w' => e = .returned (.bool b) ∧ w = w' := by
  have HB := Lib.hid hb
  clear hb
  by_cases h1 : 48 ≤ x
  · by_cases h2 : x ≤ 57
    · obtain rfl : b = true := HB.out.2 ⟨h1, h2⟩
      have d2 : decide ((x : Int) ≤ 57) = true := by simp; omega
      go_enter Try.func55, Try.ntmps55
      go_wp2
      go_ret
      first | exact ⟨rfl, rfl⟩ | exact ⟨congrArg (fun b => Ending.returned (Value.bool b)) d2, rfl⟩
    · obtain rfl : b = false := by
        cases hbb : b with
        | false => rfl
        | true => exact absurd (HB.out.1 hbb).2 h2
      have d2 : decide ((x : Int) ≤ 57) = false := by simp; omega
      go_enter Try.func55, Try.ntmps55
      go_wp2
      go_ret
      first | exact ⟨rfl, rfl⟩ | exact ⟨congrArg (fun b => Ending.returned (Value.bool b)) d2, rfl⟩
  · obtain rfl : b = false := by
      cases hbb : b with
      | false => rfl
      | true => exact absurd (HB.out.1 hbb).1 h1
    go_enter Try.func55, Try.ntmps55
    go_wp2
    go_ret
    exact ⟨rfl, rfl⟩
set_option maxHeartbeats 2000000 in
theorem specIsName_any (s : ByteArray) (hs : s.size ≤ 9223372036854775807) (b : Bool) (hb : b = true ↔ NameS s) (w : World) : Calls Try.prog 41 #[.string s] w fun e w' => e = .returned (.bool b) ∧ w = w' := by
  by_cases h0 : s.size < 1
  · have hf : b = false := by
      cases hbb : b with
      | false => rfl
      | true => exact absurd (hb.1 hbb).lo (by omega)
    have he : s = ⟨#[]⟩ := by
      apply ByteArray.ext
      apply Array.eq_empty_of_size_eq_zero
      show s.size = 0
      omega
    subst hf he
    clear hb
    go_enter Try.func41, Try.ntmps41
    go_wp2
    go_ret
    exact ⟨rfl, rfl⟩
  · have hne : (s.toList == (⟨#[]⟩ : ByteArray).toList) = false := str_eq_false (by rintro rfl; exact h0 (by decide))
    have hne3 : s.toList.isEmpty = false := by
      cases he : s.toList.isEmpty with
      | false => rfl
      | true =>
        rw [List.isEmpty_iff, ByteArray.toList_eq] at he
        have : s.size = 0 := by show s.data.size = 0; rw [← Array.length_toList, he]; rfl
        omega
    have hne2 : (s = ⟨#[]⟩) = False := by rw [eq_iff_iff]; exact ⟨by rintro rfl; exact h0 (by decide), False.elim⟩
    by_cases h8 : 8 < s.size
    · have hf : b = false := by
        cases hbb : b with
        | false => rfl
        | true => exact absurd (hb.1 hbb).hi (by omega)
      subst hf
      clear hb
      go_enter Try.func41, Try.ntmps41
      go_wp2
      go_ret
      exact ⟨rfl, rfl⟩
    · have hi0 := byteAt_get s 0 (by omega)
      obtain ⟨x, hx⟩ : ∃ x, (byteAt s 0).toNat = x := ⟨_, rfl⟩
      have hx8 : x < 256 := by rw [← hx]; exact UInt8.toNat_lt _
      have HB := Lib.hid hb
      clear hb
      by_cases hl : letterN x
      · have HL := Lib.hid (show letterN (byteAt s 0).toNat by rw [hx]; exact hl)
        have LL := Lib.hid hl
        clear hl
        go_enter Try.func41, Try.ntmps41
        go_wp2_with (go_at_call 54; refine (l01Letter_any x hx8 true (by simpa using LL.out) _).mono ?_; rintro e w' ⟨rfl, rfl⟩)
        go_loop [3] (fun s3 => ∃ k : Nat, k ≤ s.size ∧ s3 = .int .i64 k ∧ ∀ j, j < k → charN (byteAt s j).toNat) (fun i => s.size - (intOf i).toNat)
        case atStart => exact ⟨0, Nat.zero_le _, rfl, fun j hj => absurd hj (by omega)⟩
        case round =>
          obtain ⟨k, hk, rfl, hj⟩ := hrel
          have HJ := Lib.hid hj
          clear hj hi0 hx
          by_cases hlt : k < s.size
          · have hik := byteAt_get s k hlt
            obtain ⟨y, hy⟩ : ∃ y, (byteAt s k).toNat = y := ⟨_, rfl⟩
            have hy8 : y < 256 := by rw [← hy]; exact UInt8.toNat_lt _
            by_cases hc : charN y
            · have HC := Lib.hid (show charN (byteAt s k).toNat by rw [hy]; exact hc)
              have next : ∀ j, j < k + 1 → charN (byteAt s j).toNat := fun j hj => by
                rcases Nat.lt_succ_iff_lt_or_eq.1 hj with h | rfl
                · exact HJ.out j h
                · exact HC.out
              have NX := Lib.hid next
              clear next
              by_cases hlet : letterN y
              · have LT := Lib.hid hlet
                clear hlet hc
                go_wp2_with (go_at_call 54; refine (l01Letter_any y hy8 true (by simpa using LT.out) _).mono ?_; rintro e w' ⟨rfl, rfl⟩)
                go_round
                case rel => exact ⟨k + 1, by omega, by go_num, NX.out⟩
                case measure => simp [intOf]; omega
              · have LT := Lib.hid hlet
                by_cases hdig : digitN y
                · have DT := Lib.hid hdig
                  clear hlet hc hdig
                  go_wp2_with (first | (go_at_call 54; refine (l01Letter_any y hy8 false (by simpa using LT.out) _).mono ?_; rintro e w' ⟨rfl, rfl⟩) | (go_at_call 55; refine (l01Digit_any y hy8 true (by simpa using DT.out) _).mono ?_; rintro e w' ⟨rfl, rfl⟩))
                  go_round
                  case rel => exact ⟨k + 1, by omega, by go_num, NX.out⟩
                  case measure => simp [intOf]; omega
                · have DT := Lib.hid hdig
                  have h95 : y = 95 := by
                    rcases hc with h | h | h
                    · exact absurd h hlet
                    · exact absurd h hdig
                    · exact h
                  have e1 : ((y : Int) != 95) = false := by simp; omega
                  have e2 : ((y : Int) = 95) = True := by simp; omega
                  clear hlet hc hdig h95
                  go_wp2_with (first | (go_at_call 54; refine (l01Letter_any y hy8 false (by simpa using LT.out) _).mono ?_; rintro e w' ⟨rfl, rfl⟩) | (go_at_call 55; refine (l01Digit_any y hy8 false (by simpa using DT.out) _).mono ?_; rintro e w' ⟨rfl, rfl⟩))
                  go_round
                  case rel => exact ⟨k + 1, by omega, by go_num, NX.out⟩
                  case measure => simp [intOf]; omega
            · have hf : b = false := by
                cases hbb : b with
                | false => rfl
                | true => exact absurd ((HB.out.1 hbb).all k hlt) (by rw [hy]; exact hc)
              have LT := Lib.hid (show ¬ letterN y from fun h => hc (.inl h))
              have DT := Lib.hid (show ¬ digitN y from fun h => hc (.inr (.inl h)))
              have h95n : y ≠ 95 := fun h => hc (.inr (.inr h))
              have h95 : ((y : Int) = 95) = False := by simp; omega
              have h95b : ((y : Int) != 95) = true := by simp; omega
              clear hc
              subst hf
              go_wp2_with (first | (go_at_call 54; refine (l01Letter_any y hy8 false (by simpa using LT.out) _).mono ?_; rintro e w' ⟨rfl, rfl⟩) | (go_at_call 55; refine (l01Digit_any y hy8 false (by simpa using DT.out) _).mono ?_; rintro e w' ⟨rfl, rfl⟩))
              go_ret
              exact ⟨rfl, rfl⟩
          · obtain rfl : k = s.size := by omega
            have hbt : b = true := HB.out.2 ⟨by omega, by omega, HL.out, HJ.out⟩
            subst hbt
            go_wp2
            go_ret
            exact ⟨rfl, rfl⟩
      · have hf : b = false := by
          cases hbb : b with
          | false => rfl
          | true => exact absurd (HB.out.1 hbb).first (by rw [hx]; exact hl)
        subst hf
        have LT := Lib.hid hl
        clear hl
        go_enter Try.func41, Try.ntmps41
        go_wp2_with (go_at_call 54; refine (l01Letter_any x hx8 false (by simpa using LT.out) _).mono ?_; rintro e w' ⟨rfl, rfl⟩)
        go_ret
        exact ⟨rfl, rfl⟩
end Go.Proofs.Ytdofpkdemmngeaa
