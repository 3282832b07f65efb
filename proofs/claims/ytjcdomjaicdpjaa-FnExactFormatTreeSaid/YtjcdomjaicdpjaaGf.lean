/-
  The walks of the program's and the reference's functions of GF(256).
-/
import Derived.Test.YtjcdomjaicdpjaaLib
import Derived.Test.YtjcdomjaicdpjaaGfm
import Derived.Lib.Hide
import Derived.Test.YtjcdomjaicdpjaaChecked
namespace Go.Proofs.Ytjcdomjaicdpjaa
open Go Go.ChangeShapes Go.WideShapes Go.ChangeAt Go.RowKit lib
set_option linter.unusedVariables false
set_option maxRecDepth 100000
theorem x2_hi (x : Nat) (h : 255 < 2 * x) : gf.x2 x = (x * 2) ^^^ 285 := by unfold gf.x2; rw [if_pos h, Nat.mul_comm]
theorem x2_lo (x : Nat) (h : ¬ 255 < 2 * x) : gf.x2 x = x * 2 := by unfold gf.x2; rw [if_neg h, Nat.mul_comm]
/-- the product of two numbers, 0 outside -/
def gfMulI (a b : Int) : Int := if 0 ≤ a ∧ a ≤ 255 ∧ 0 ≤ b ∧ b ≤ 255 then (gf.gmul a.toNat b.toNat : Nat) else 0
theorem gfMulI_in (a b : Nat) (ha : a < 256) (hb : b < 256) : gfMulI a b = (gf.gmul a b : Nat) := by
  unfold gfMulI; rw [if_pos (by omega)]; rfl
/-- one round, as the walks end it -/
theorem gf_round {a b n out x y : Nat} (hm : gf.Mid a b n out x y) (hy : 0 < y) {o' x' : Nat} (ho : o' = if y % 2 = 1 then out ^^^ x else out) (hx : x' = gf.x2 x) :
    ∃ n o z : Nat, ∃ q : Nat, gf.Mid a b n o z q ∧ (x' : Int) = z ∧ (y : Int) / 2 = q ∧ (o' : Int) = o := by
  obtain ⟨m, h⟩ := gf.mid_next hm hy
  exact ⟨m, _, _, _, h, by rw [hx], by omega, by rw [ho]⟩
theorem l23Mul_any (a b : Nat) (w : World) (ha : a < 256) (hb : b < 256) :
    Calls Try.prog 27 #[.int .i64 a, .int .i64 b] w fun e w' => e = .returned (.int .i64 (gf.gmul a b : Nat)) ∧ w = w' := by
  go_enter Try.func27, Try.ntmps27
  go_wp2
  go_loop [0, 1, 5] (fun s0 s1 s5 => ∃ n out x y : Nat, gf.Mid a b n out x y ∧ s0 = .int .i64 x ∧ s1 = .int .i64 y ∧ s5 = .int .i64 out) (fun _ i _ => (intOf i).toNat)
  case atStart => exact ⟨8, 0, a, b, gf.mid_start a b ha hb, rfl, rfl, rfl⟩
  case round =>
    obtain ⟨n, out, x, y, hm, rfl, rfl, rfl⟩ := hrel
    have h1 := hm.1
    have h2 := hm.2.1
    have h3 := gf.mid_y hm
    have hx := i64_xor out x (by omega) (by omega)
    have hx2 : bits .xor .i64 ((x : Int) * 2) 285 = ((x * 2 ^^^ 285 : Nat) : Int) := i64_xor (x * 2) 285 (by omega) (by omega)
    clear ha hb
    by_cases hy : 0 < y
    · by_cases hb : y % 2 = 1 <;> by_cases hg : 255 < 2 * x
      all_goals
        have hb' : ((y : Int) % 2 == 1) = decide (y % 2 = 1) := by rw [Bool.eq_iff_iff]; simp; omega
        simp only [hb] at hb'
        go_wp2
        go_round
        case rel =>
          obtain ⟨m, o, z, q, r1, r2, r3, r4⟩ := gf_round (o' := if y % 2 = 1 then out ^^^ x else out) (x' := gf.x2 x) hm hy rfl rfl
          refine ⟨m, o, z, q, r1, ?_, ?_, ?_⟩
          · rw [← r2]; first | (rw [x2_hi x hg]; done) | (rw [x2_lo x hg]; go_num)
          · rw [← r3]
          · rw [← r4]; first | (rw [if_pos hb]; done) | (rw [if_neg hb]; done)
        case measure => simp [intOf]; omega
    · go_wp2
      go_ret
      obtain rfl : y = 0 := by omega
      exact ⟨by rw [gf.mid_end hm]; rfl, rfl⟩
theorem gfMul_any (a b : Nat) (w : World) (ha : a < 256) (hb : b < 256) :
    Calls Try.prog 29 #[.int .i64 a, .int .i64 b] w fun e w' => e = .returned (.int .i64 (gf.gmul a b : Nat)) ∧ w = w' := by
  go_enter Try.func29, Try.ntmps29
  go_wp2
  go_loop [0, 1, 5] (fun s0 s1 s5 => ∃ n out x y : Nat, gf.Mid a b n out x y ∧ s0 = .int .i64 x ∧ s1 = .int .i64 y ∧ s5 = .int .i64 out) (fun _ i _ => (intOf i).toNat)
  case atStart => exact ⟨8, 0, a, b, gf.mid_start a b ha hb, rfl, rfl, rfl⟩
  case round =>
    obtain ⟨n, out, x, y, hm, rfl, rfl, rfl⟩ := hrel
    have h1 := hm.1
    have h2 := hm.2.1
    have h3 := gf.mid_y hm
    have hx := i64_xor out x (by omega) (by omega)
    have hx2 : bits .xor .i64 ((x : Int) * 2) 285 = ((x * 2 ^^^ 285 : Nat) : Int) := i64_xor (x * 2) 285 (by omega) (by omega)
    have hand : bits .and .i64 (y : Int) 1 = (y : Int) % 2 := by have h := i64_and y 1 (by omega) (by omega); rw [nat_mask1] at h; exact h
    clear ha hb
    by_cases hy : 0 < y
    · by_cases hb : y % 2 = 1 <;> by_cases hg : 255 < 2 * x
      all_goals
        have hb' : ((y : Int) % 2 == 1) = decide (y % 2 = 1) := by rw [Bool.eq_iff_iff]; simp; omega
        simp only [hb] at hb'
        go_wp2
        go_round
        case rel =>
          obtain ⟨m, o, z, q, r1, r2, r3, r4⟩ := gf_round (o' := if y % 2 = 1 then out ^^^ x else out) (x' := gf.x2 x) hm hy rfl rfl
          refine ⟨m, o, z, q, r1, ?_, ?_, ?_⟩
          · rw [← r2]; first | (rw [x2_hi x hg]; done) | (rw [x2_lo x hg]; go_num)
          · rw [← r3]
          · rw [← r4]; first | (rw [if_pos hb]; done) | (rw [if_neg hb]; done)
        case measure => simp [intOf]; omega
    · go_wp2
      go_ret
      obtain rfl : y = 0 := by omega
      exact ⟨by rw [gf.mid_end hm]; rfl, rfl⟩
theorem l00In_any (a b c : Int) (w : World) : Calls Try.prog 30 #[.int .i64 a, .int .i64 b, .int .i64 c] w fun e w' => e = .returned (.bool (decide (b ≤ a) && decide (a ≤ c))) ∧ w = w' := by
  go_enter Try.func30, Try.ntmps30
  go_wp2
  all_goals go_ret
  all_goals simp_all
  all_goals omega
theorem within_any (a b c : Int) (w : World) : Calls Try.prog 38 #[.int .i64 a, .int .i64 b, .int .i64 c] w fun e w' => e = .returned (.bool (decide (b ≤ a) && decide (a ≤ c))) ∧ w = w' := by
  go_enter Try.func38, Try.ntmps38
  go_wp2
  all_goals go_ret
  all_goals simp_all
  all_goals omega
theorem isByte_any (a : Int) (w : World) : Calls Try.prog 31 #[.int .i64 a] w fun e w' => e = .returned (.bool (decide (0 ≤ a) && decide (a ≤ 255))) ∧ w = w' := by
  go_enter Try.func31, Try.ntmps31
  go_wp2_with (go_at_call 38; refine (within_any _ _ _ _).mono ?_; rintro e w' ⟨rfl, rfl⟩)
  all_goals go_ret
  all_goals simp_all
theorem specGfMul_any (a b : Int) (w : World) : Calls Try.prog 11 #[.int .i64 a, .int .i64 b] w fun e w' => e = .returned (.int .i64 (gfMulI a b)) ∧ w = w' := by
  by_cases h : 0 ≤ a ∧ a ≤ 255
  · by_cases h' : 0 ≤ b ∧ b ≤ 255
    · obtain ⟨A, rfl⟩ := Int.eq_ofNat_of_zero_le h.1
      obtain ⟨B, rfl⟩ := Int.eq_ofNat_of_zero_le h'.1
      have hv := gfMulI_in A B (by omega) (by omega)
      have HV := Lib.hid hv
      clear hv
      have d1 : (decide ((0:Int) ≤ (A : Int)) && decide ((A : Int) ≤ 255)) = true := by simp; omega
      have d2 : (decide ((0:Int) ≤ (B : Int)) && decide ((B : Int) ≤ 255)) = true := by simp; omega
      go_enter Try.func11, Try.ntmps11
      go_wp2_with (first | (go_at_call 30; refine (l00In_any _ _ _ _).mono ?_; rintro e w' ⟨rfl, rfl⟩) | (go_at_call 27; refine (l23Mul_any A B _ (by omega) (by omega)).mono ?_; rintro e w' ⟨rfl, rfl⟩))
      go_ret
      exact ⟨by rw [HV.out]; rfl, rfl⟩
    · have hv : gfMulI a b = 0 := by unfold gfMulI; rw [if_neg (by omega)]
      have d1 : (decide ((0:Int) ≤ a) && decide (a ≤ 255)) = true := by simp; omega
      have d2 : (decide ((0:Int) ≤ b) && decide (b ≤ 255)) = false := by simp; omega
      rw [hv]
      go_enter Try.func11, Try.ntmps11
      go_wp2_with (go_at_call 30; refine (l00In_any _ _ _ _).mono ?_; rintro e w' ⟨rfl, rfl⟩)
      go_ret
      exact ⟨rfl, rfl⟩
  · have hv : gfMulI a b = 0 := by unfold gfMulI; rw [if_neg (by omega)]
    have d1 : (decide ((0:Int) ≤ a) && decide (a ≤ 255)) = false := by simp; omega
    rw [hv]
    go_enter Try.func11, Try.ntmps11
    go_wp2_with (go_at_call 30; refine (l00In_any _ _ _ _).mono ?_; rintro e w' ⟨rfl, rfl⟩)
    go_ret
    exact ⟨rfl, rfl⟩
theorem implGfMul_any (a b : Int) (w : World) : Calls Try.prog 12 #[.int .i64 a, .int .i64 b] w fun e w' => e = .returned (.int .i64 (gfMulI a b)) ∧ w = w' := by
  by_cases h : 0 ≤ a ∧ a ≤ 255
  · by_cases h' : 0 ≤ b ∧ b ≤ 255
    · obtain ⟨A, rfl⟩ := Int.eq_ofNat_of_zero_le h.1
      obtain ⟨B, rfl⟩ := Int.eq_ofNat_of_zero_le h'.1
      have hv := gfMulI_in A B (by omega) (by omega)
      have HV := Lib.hid hv
      clear hv
      have d1 : (decide ((0:Int) ≤ (A : Int)) && decide ((A : Int) ≤ 255)) = true := by simp; omega
      have d2 : (decide ((0:Int) ≤ (B : Int)) && decide ((B : Int) ≤ 255)) = true := by simp; omega
      go_enter Try.func12, Try.ntmps12
      go_wp2_with (first | (go_at_call 31; refine (isByte_any _ _).mono ?_; rintro e w' ⟨rfl, rfl⟩) | (go_at_call 29; refine (gfMul_any A B _ (by omega) (by omega)).mono ?_; rintro e w' ⟨rfl, rfl⟩))
      go_ret
      exact ⟨by rw [HV.out]; rfl, rfl⟩
    · have hv : gfMulI a b = 0 := by unfold gfMulI; rw [if_neg (by omega)]
      have d1 : (decide ((0:Int) ≤ a) && decide (a ≤ 255)) = true := by simp; omega
      have d2 : (decide ((0:Int) ≤ b) && decide (b ≤ 255)) = false := by simp; omega
      rw [hv]
      go_enter Try.func12, Try.ntmps12
      go_wp2_with (go_at_call 31; refine (isByte_any _ _).mono ?_; rintro e w' ⟨rfl, rfl⟩)
      go_ret
      exact ⟨rfl, rfl⟩
  · have hv : gfMulI a b = 0 := by unfold gfMulI; rw [if_neg (by omega)]
    have d1 : (decide ((0:Int) ≤ a) && decide (a ≤ 255)) = false := by simp; omega
    rw [hv]
    go_enter Try.func12, Try.ntmps12
    go_wp2_with (go_at_call 31; refine (isByte_any _ _).mono ?_; rintro e w' ⟨rfl, rfl⟩)
    go_ret
    exact ⟨rfl, rfl⟩
theorem modulo_any (x n : Int) (w : World) (h0 : 1 ≤ n) (h1 : n ≤ 1000000) : Calls Try.prog 28 #[.int .i64 x, .int .i64 n] w fun e w' => e = .returned (.int .i64 (x % n)) ∧ w = w' := by
  have a1 := Int.tmod_lt_of_pos x (b := n) (by omega)
  have a2 := Int.lt_tmod_of_pos x (b := n) (by omega)
  have e : (x.tmod n + n) % n = x % n := by
    rw [Int.add_emod_right]
    exact tmod_emod x n
  have E := Lib.hid e
  clear e
  go_enter Try.func28, Try.ntmps28
  go_wp2
  go_ret
  exact ⟨ret_int E.out, rfl⟩
theorem implGfPow_any' (x : Int) (w : World) : Calls Try.prog 10 #[.int .i64 x] w fun e w' => e = .returned (.int .i64 (gf.gpow (x % 255).toNat : Nat)) ∧ w = w' := by
  obtain ⟨m, hm⟩ : ∃ m : Nat, m = (x % 255).toNat := ⟨_, rfl⟩
  have hm1 : m ≤ 254 := by omega
  have he : x % 255 = (m : Int) := by omega
  rw [← hm]
  have HE := Lib.hid he
  clear he hm
  go_enter Try.func10, Try.ntmps10
  go_wp2_with (go_at_call 28; refine (modulo_any _ _ _ (by omega) (by omega)).mono ?_; rw [HE.out]; rintro e w' ⟨rfl, rfl⟩)
  go_loop [3, 6] (fun s3 s6 => ∃ k : Nat, k ≤ m ∧ s3 = .int .i64 (gf.gpow k : Nat) ∧ s6 = .int .i64 k) (fun _ i => m - (intOf i).toNat)
  case atStart => exact ⟨0, by omega, rfl, rfl⟩
  case round =>
    obtain ⟨k, hk, rfl, rfl⟩ := hrel
    have hl := gf.gpow_lt k
    by_cases hlt : k < m
    · go_wp2_with (go_at_call 29; refine (gfMul_any (gf.gpow k) 2 _ hl (by omega)).mono ?_; rintro e w' ⟨rfl, rfl⟩)
      go_round
      case rel => exact ⟨k + 1, by omega, rfl, by go_num⟩
      case measure => simp [intOf]; omega
    · go_wp2
      go_ret
      obtain rfl : k = m := by omega
      exact ⟨rfl, rfl⟩
theorem implGfPow_any (n : Nat) (x : Int) (w : World) (hx : x = n) : Calls Try.prog 10 #[.int .i64 x] w fun e w' => e = .returned (.int .i64 (gf.gpow n : Nat)) ∧ w = w' := by
  have h := implGfPow_any' x w
  rwa [show (x % 255).toNat = n % 255 by omega, gf.gpow_mod] at h
theorem specGfPow_any (x : Int) (w : World) : Calls Try.prog 9 #[.int .i64 x] w fun e w' => e = .returned (.int .i64 (gf.gpow (x % 255).toNat : Nat)) ∧ w = w' := by
  obtain ⟨m, hm⟩ : ∃ m : Nat, m = (x % 255).toNat := ⟨_, rfl⟩
  have hm1 : m ≤ 254 := by omega
  have a1 := Int.tmod_lt_of_pos x (b := 255) (by omega)
  have a2 := Int.lt_tmod_of_pos x (b := 255) (by omega)
  have e : (x.tmod 255 + 255).tmod 255 = (m : Int) := by
    rw [Int.tmod_eq_emod_of_nonneg (by omega), Int.add_emod_right, tmod_emod x 255]; omega
  rw [← hm]
  clear hm
  go_enter Try.func9, Try.ntmps9
  go_wp2
  clear e a1 a2
  go_loop [0, 3] (fun s0 s3 => ∃ k : Nat, k ≤ m ∧ s3 = .int .i64 (gf.gpow k : Nat) ∧ s0 = .int .i64 ((m : Int) - k)) (fun i _ => (intOf i).toNat)
  case atStart => exact ⟨0, by omega, rfl, by go_num⟩
  case round =>
    obtain ⟨k, hk, rfl, rfl⟩ := hrel
    have hl := gf.gpow_lt k
    by_cases hlt : k < m
    · go_wp2_with (go_at_call 27; refine (l23Mul_any (gf.gpow k) 2 _ hl (by omega)).mono ?_; rintro e w' ⟨rfl, rfl⟩)
      go_round
      case rel => exact ⟨k + 1, by omega, rfl, by go_num⟩
      case measure => simp [intOf]; omega
    · go_wp2
      go_ret
      obtain rfl : k = m := by omega
      exact ⟨rfl, rfl⟩
theorem implGfInverse_in (a : Nat) (w : World) (ha : a < 256) : Calls Try.prog 15 #[.int .i64 a] w fun e w' => e = .returned (.int .i64 (gf.ginv a : Nat)) ∧ w = w' := by
  have d1 : (decide ((0:Int) ≤ (a : Int)) && decide ((a : Int) ≤ 255)) = true := by simp; omega
  go_enter Try.func15, Try.ntmps15
  go_wp2
  go_loop [3] (fun s3 => ∃ k : Nat, 1 ≤ k ∧ k ≤ 256 ∧ gf.ginvF a (256 - k) k = gf.ginv a ∧ s3 = .int .i64 k) (fun i => 256 - (intOf i).toNat)
  case atStart => exact ⟨1, by omega, by omega, rfl, rfl⟩
  case round =>
    obtain ⟨k, hk1, hk, he, rfl⟩ := hrel
    have HE := Lib.hid he
    clear he
    by_cases hlt : k ≤ 255
    · by_cases hg : gf.gmul a k = 1
      · have hv : gf.ginv a = k := by
          have := HE.out
          rw [show 256 - k = (255 - k) + 1 by omega, gf.ginvF, if_pos hg] at this
          exact this.symm
        have HV := Lib.hid hv
        clear hv
        have hb : ((gf.gmul a k : Int) == 1) = true := by simp; omega
        clear hg
        go_wp2_with (first | (go_at_call 31; refine (isByte_any _ _).mono ?_; rintro e w' ⟨rfl, rfl⟩) | (go_at_call 29; refine (gfMul_any a k _ ha (by omega)).mono ?_; rintro e w' ⟨rfl, rfl⟩))
        go_ret
        exact ⟨by rw [HV.out]; rfl, rfl⟩
      · have hn : gf.ginvF a (256 - (k + 1)) (k + 1) = gf.ginv a := by
          have := HE.out
          rw [show 256 - k = (255 - k) + 1 by omega, gf.ginvF, if_neg hg] at this
          rw [← this]; congr 1; omega
        have HN := Lib.hid hn
        clear hn
        have hb : ((gf.gmul a k : Int) == 1) = false := by simp; omega
        clear hg
        go_wp2_with (first | (go_at_call 31; refine (isByte_any _ _).mono ?_; rintro e w' ⟨rfl, rfl⟩) | (go_at_call 29; refine (gfMul_any a k _ ha (by omega)).mono ?_; rintro e w' ⟨rfl, rfl⟩))
        go_round
        case rel => exact ⟨k + 1, by omega, by omega, HN.out, by go_num⟩
        case measure => simp [intOf]; omega
    · have hv : gf.ginv a = 0 := by
        have := HE.out
        rw [show 256 - k = 0 by omega, gf.ginvF] at this
        exact this.symm
      have HV := Lib.hid hv
      clear hv
      go_wp2
      go_ret
      exact ⟨by rw [HV.out]; rfl, rfl⟩
theorem implGfInverse_out (a : Int) (w : World) (ha : ¬ (0 ≤ a ∧ a ≤ 255)) : Calls Try.prog 15 #[.int .i64 a] w fun e w' => e = .returned (.int .i64 0) ∧ w = w' := by
  have d1 : (decide ((0:Int) ≤ a) && decide (a ≤ 255)) = false := by simp; omega
  clear ha
  go_enter Try.func15, Try.ntmps15
  go_wp2
  go_loop [3] (fun s3 => ∃ k : Nat, 1 ≤ k ∧ k ≤ 256 ∧ s3 = .int .i64 k) (fun i => 256 - (intOf i).toNat)
  case atStart => exact ⟨1, by omega, by omega, rfl⟩
  case round =>
    obtain ⟨k, hk1, hk, rfl⟩ := hrel
    by_cases hlt : k ≤ 255
    · go_wp2_with (go_at_call 31; refine (isByte_any _ _).mono ?_; rintro e w' ⟨rfl, rfl⟩)
      go_round
      case rel => exact ⟨k + 1, by omega, by omega, by go_num⟩
      case measure => simp [intOf]; omega
    · go_wp2
      go_ret
      exact ⟨rfl, rfl⟩
theorem l23Inverse_in (a : Nat) (w : World) (ha : a < 256) : Calls Try.prog 32 #[.int .i64 a] w fun e w' => e = .returned (.int .i64 (gf.ginv a : Nat)) ∧ w = w' := by
  go_enter Try.func32, Try.ntmps32
  go_wp2
  go_loop [3] (fun s3 => ∃ k : Nat, 1 ≤ k ∧ k ≤ 256 ∧ gf.ginvF a (256 - k) k = gf.ginv a ∧ s3 = .int .i64 k) (fun i => 256 - (intOf i).toNat)
  case atStart => exact ⟨1, by omega, by omega, rfl, rfl⟩
  case round =>
    obtain ⟨k, hk1, hk, he, rfl⟩ := hrel
    have HE := Lib.hid he
    clear he
    by_cases hlt : k ≤ 255
    · by_cases hg : gf.gmul a k = 1
      · have hv : gf.ginv a = k := by
          have := HE.out
          rw [show 256 - k = (255 - k) + 1 by omega, gf.ginvF, if_pos hg] at this
          exact this.symm
        have HV := Lib.hid hv
        clear hv
        have hb : ((gf.gmul a k : Int) == 1) = true := by simp; omega
        clear hg
        go_wp2_with (go_at_call 27; refine (l23Mul_any a k _ ha (by omega)).mono ?_; rintro e w' ⟨rfl, rfl⟩)
        go_ret
        exact ⟨by rw [HV.out]; rfl, rfl⟩
      · have hn : gf.ginvF a (256 - (k + 1)) (k + 1) = gf.ginv a := by
          have := HE.out
          rw [show 256 - k = (255 - k) + 1 by omega, gf.ginvF, if_neg hg] at this
          rw [← this]; congr 1; omega
        have HN := Lib.hid hn
        clear hn
        have hb : ((gf.gmul a k : Int) == 1) = false := by simp; omega
        clear hg
        go_wp2_with (go_at_call 27; refine (l23Mul_any a k _ ha (by omega)).mono ?_; rintro e w' ⟨rfl, rfl⟩)
        go_round
        case rel => exact ⟨k + 1, by omega, by omega, HN.out, by go_num⟩
        case measure => simp [intOf]; omega
    · have hv : gf.ginv a = 0 := by
        have := HE.out
        rw [show 256 - k = 0 by omega, gf.ginvF] at this
        exact this.symm
      have HV := Lib.hid hv
      clear hv
      go_wp2
      go_ret
      exact ⟨by rw [HV.out]; rfl, rfl⟩
theorem specGfInverse_in (a : Nat) (w : World) (ha : a < 256) (h0 : 1 ≤ a) : Calls Try.prog 16 #[.int .i64 a] w fun e w' => e = .returned (.int .i64 (gf.ginv a : Nat)) ∧ w = w' := by
  have d1 : (decide ((1:Int) ≤ (a : Int)) && decide ((a : Int) ≤ 255)) = true := by simp; omega
  go_enter Try.func16, Try.ntmps16
  go_wp2_with (first | (go_at_call 30; refine (l00In_any _ _ _ _).mono ?_; rintro e w' ⟨rfl, rfl⟩) | (go_at_call 32; refine (l23Inverse_in a _ ha).mono ?_; rintro e w' ⟨rfl, rfl⟩))
  go_ret
  exact ⟨rfl, rfl⟩
theorem specGfInverse_out (a : Int) (w : World) (ha : ¬ (1 ≤ a ∧ a ≤ 255)) : Calls Try.prog 16 #[.int .i64 a] w fun e w' => e = .returned (.int .i64 0) ∧ w = w' := by
  have d1 : (decide ((1:Int) ≤ a) && decide (a ≤ 255)) = false := by simp; omega
  clear ha
  go_enter Try.func16, Try.ntmps16
  go_wp2_with (go_at_call 30; refine (l00In_any _ _ _ _).mono ?_; rintro e w' ⟨rfl, rfl⟩)
  go_ret
  exact ⟨rfl, rfl⟩
end Go.Proofs.Ytjcdomjaicdpjaa
