/-
  Tracks: the reference's encoders.
-/
import Derived.Test.YtabmdbhbbmnkdaaDoorBsV
namespace Go.Proofs.YtabmdbhbbmnkdaaDoor
open Go Go.ChangeShapes Go.WideShapes Go.ChangeAt Go.RowKit Go.Joins lib
set_option linter.unusedVariables false
set_option linter.unusedSimpArgs false
set_option maxRecDepth 100000
theorem l05Bit_any (b : Bool) (w : World) : Calls Tryd.prog 123 #[.bool b] w fun e w' => e = .returned (.int .u8 ((cellB b).toNat : Int)) ∧ w' = w := by
  cases b <;> (
    go_enter Tryd.func123, Tryd.ntmps123
    go_wp2
    go_ret
    exact ⟨rfl, rfl⟩)
theorem l05Bit_t (w : World) : Calls Tryd.prog 123 #[.bool true] w fun e w' => e = .returned (.int .u8 49) ∧ w' = w := l05Bit_any true w
theorem l05Bit_f (w : World) : Calls Tryd.prog 123 #[.bool false] w fun e w' => e = .returned (.int .u8 48) ∧ w' = w := l05Bit_any false w
theorem bit_and (y : UInt8) (k : Nat) : bits .and .u8 ((y.toNat : Int) / 2 ^ k) 1 = ((y.toNat / 2 ^ k % 2 : Nat) : Int) := by
  have h : y.toNat / 2 ^ k < 256 := Nat.lt_of_le_of_lt (Nat.div_le_self _ _) y.toNat_lt
  have e : (y.toNat : Int) / 2 ^ k = ((y.toNat / 2 ^ k : Nat) : Int) := by simp [Int.natCast_ediv]
  have hb := u8_low ⟨_, h⟩
  simp only at hb
  rw [e, hb]
theorem bit_eq (y : UInt8) (k : Nat) : (((y.toNat / 2 ^ k % 2 : Nat) : Int) == 1) = bitY y k := by
  unfold bitY
  generalize y.toNat / 2 ^ k = z
  rcases Nat.mod_two_eq_zero_or_one z with h2 | h2 <;> rw [h2] <;> rfl
theorem cellB_u8 (b : Bool) : IntKind.u8.wrap ((cellB b).toNat : Int) = ((cellB b).toNat : Int) := by cases b <;> rfl
set_option maxHeartbeats 8000000 in
theorem specEnc_any (s : ByteArray) (last0 mfm : Bool) (hs : s.size ≤ 500) (w : World) : Calls Tryd.prog 115 #[.string s, .bool last0, .bool mfm] w fun e w' => e = .returned (.string (strL (encL mfm last0 (bitsL s.data.toList)))) ∧ Below w.heap.size w w' := by
  have HO := Lib.hid (own_nilE w 5 1 w.heap.size (Nat.le_refl _))
  have HB := Lib.hid ((Below.refl w.heap.size w).alloc (Nat.le_refl _) (.cells #[] 5))
  go_enter Tryd.func115, Tryd.ntmps115
  go_wp2_with fail
  generalize w.alloc (.cells #[] 5) = W1 at *
  have hz1 := HB.out.size
  go_loopw [7, 1, 8] (fun s7 s1 s8 wr => ∃ (i : Nat) (us : List UInt8) (A : Option Addr) (c : Nat), i ≤ s.size ∧ us = encL mfm last0 (bitsL (s.data.toList.take i)) ∧ s1 = .bool (lastB last0 (bitsL (s.data.toList.take i))) ∧ s8 = .int .i64 (i : Int) ∧ s7 = .slice A us.length c ∧ wr.ownsRow w.heap.size 5 1 (.slice A us.length c) us.length (bytesV us) ∧ Below w.heap.size w wr) (fun _ _ i _ => s.size - (intOf i).toNat)
  case atStart => exact ⟨0, [], _, _, by omega, rfl, rfl, rfl, rfl, HO.out, HB.out⟩
  case round =>
    obtain ⟨i, us, A, c, hi, hus, rfl, rfl, rfl, ho, hb⟩ := hrel
    have HUS := Lib.hid hus
    have HOI := Lib.hid ho
    have HBI := Lib.hid hb
    clear ho hb hus
    obtain ⟨P0, hP0⟩ : ∃ P0, bitsL (s.data.toList.take i) = P0 := ⟨_, rfl⟩
    rw [hP0] at HUS ⊢
    have HP0 := Lib.hid hP0
    clear hP0
    by_cases hlt : i < s.size
    · have hki : (i : Int) < (s.size : Int) := by omega
      have hg := byteAt_get s i hlt
      obtain ⟨y, hy⟩ : ∃ y, byteAt s i = y := ⟨_, rfl⟩
      rw [hy] at hg
      have HY := Lib.hid hy
      clear hy
      have HPL := Lib.hid (show P0.length ≤ 4000 by rw [← HP0.out, bitsL_len, List.length_take]; omega)
      go_wp2_with fail
      go_loopw [7, 1, 9] (fun s7 s1 s9 wr => ∃ (k : Nat) (us : List UInt8) (A : Option Addr) (c : Nat), k ≤ 8 ∧ us = encL mfm last0 (P0 ++ (bitsY y).take k) ∧ s1 = .bool (lastB last0 (P0 ++ (bitsY y).take k)) ∧ s9 = .int .i64 (7 - (k : Int)) ∧ s7 = .slice A us.length c ∧ wr.ownsRow w.heap.size 5 1 (.slice A us.length c) us.length (bytesV us) ∧ Below w.heap.size w wr) (fun _ _ i _ => ((intOf i) + 1).toNat)
      case atStart => exact ⟨0, us, A, c, by omega, by rw [HUS.out]; simp, by simp, rfl, rfl, HOI.out, HBI.out⟩
      case round =>
        obtain ⟨k, us, A, c, hk, hus, rfl, rfl, rfl, ho, hb⟩ := hrel
        have HU2 := Lib.hid hus
        have HO2 := Lib.hid ho
        have HB2 := Lib.hid hb
        have hz2 : w.heap.size ≤ wr.heap.size := hb.size
        have hlen : us.length ≤ 20000 := by
          rw [hus, encL_len, List.length_append, List.length_take]
          have := HPL.out
          omega
        clear ho hb hus
        by_cases hlk : k < 8
        · obtain ⟨q, hq⟩ : ∃ q : Nat, q = 7 - k := ⟨_, rfl⟩
          have hqi : (7 : Int) - (k : Int) = (q : Int) := by omega
          have hq0 : (0 : Int) ≤ (q : Int) := by omega
          have hq7 : (q : Int) ≤ 7 := by omega
          have hv := bit_and y q
          have hv2 := bit_eq y q
          have hxb : y.toNat / 2 ^ q % 2 ≤ 1 := Nat.le_of_lt_succ (Nat.mod_lt _ (by omega))
          obtain ⟨x, hx⟩ : ∃ x, y.toNat / 2 ^ q % 2 = x := ⟨_, rfl⟩
          rw [hx] at hv hv2 hxb
          obtain ⟨b, hbb⟩ : ∃ b, bitY y q = b := ⟨_, rfl⟩
          rw [hbb] at hv2
          have HTK := Lib.hid (show P0 ++ (bitsY y).take (k + 1) = (P0 ++ (bitsY y).take k) ++ [b] by rw [bitsY_take y k hlk, ← hq, hbb, List.append_assoc])
          rw [hqi]
          clear hbb hx
          obtain ⟨Q, hQ⟩ : ∃ Q, P0 ++ (bitsY y).take k = Q := ⟨_, rfl⟩
          rw [hQ] at HU2 HTK ⊢
          obtain ⟨l, hl⟩ : ∃ l, lastB last0 Q = l := ⟨_, rfl⟩
          rw [hl]
          have HSN := Lib.hid (show encL mfm last0 (Q ++ [b]) = us ++ [cellB (!mfm || (!l && !b)), cellB b] by rw [encL_snoc, hl, ← HU2.out])
          have HLB := Lib.hid (lastB_snoc last0 Q b)
          obtain ⟨L, hL⟩ : ∃ L, us.length = L := ⟨_, rfl⟩
          rw [hL] at HO2 hlen ⊢
          have HLL := Lib.hid hL
          clear hL hl hQ
          have fin : ∀ (w3 : World) (A' : Addr) (cap' : Nat), w3.ownsRow w.heap.size 5 1 (.slice (some A') (L + 2) cap') (L + 2) (bytesV us ++ [.int .u8 ((cellB (!mfm || (!l && !b))).toNat : Int), .int .u8 ((cellB b).toNat : Int)]) → Below w.heap.size wr w3 → ∃ (k' : Nat) (us' : List UInt8) (A2 : Option Addr) (c2 : Nat), k' ≤ 8 ∧ us' = encL mfm last0 (P0 ++ (bitsY y).take k') ∧ Value.bool b = .bool (lastB last0 (P0 ++ (bitsY y).take k')) ∧ Value.int .i64 ((q : Int) - 1) = .int .i64 (7 - (k' : Int)) ∧ Value.slice (some A') (L + 2) cap' = .slice A2 us'.length c2 ∧ w3.ownsRow w.heap.size 5 1 (.slice A2 us'.length c2) us'.length (bytesV us') ∧ Below w.heap.size w w3 := fun w3 A' cap' ho hb3 => by
            refine ⟨k + 1, us ++ [cellB (!mfm || (!l && !b)), cellB b], some A', cap', by omega, by rw [HTK.out, HSN.out], by rw [HTK.out, HLB.out], congrArg (Value.int .i64) (by omega), by rw [List.length_append, HLL.out]; rfl, ?_, HB2.out.trans hb3⟩
            rw [List.length_append, HLL.out]
            unfold bytesV at *
            rw [List.map_append]
            exact ho
          have FIN := Lib.hid fin
          clear fin hq hqi
          cases mfm <;> cases l <;> cases b <;> (
            go_upto_region 12 with (first
              | (go_at_call 123; first | ((with_reducible refine (l05Bit_t _).mono ?_); rintro e w' ⟨rfl, hw'⟩; rw [hw']; clear hw' w') | ((with_reducible refine (l05Bit_f _).mono ?_); rintro e w' ⟨rfl, hw'⟩; rw [hw']; clear hw' w'))
              | (at_builtin; refine wpList_push (.tmp 34) (.tmp 46) 22 w.heap.size 5 (.int .u8 0) _ 1 _ L _ HO2.out rfl rfl Tryd.underlying22 infoU8T rfl rfl rfl rfl rfl (by omega) (by omega) hz2 ?_; intro A5 c5 w5 ho5 hb5; have HO5 := Lib.hid ho5; have HB5 := Lib.hid hb5; have hz5 : w.heap.size ≤ w5.heap.size := Nat.le_trans hz2 hb5.size))
            clear ho5 hb5
            go_wp2_with (first
              | (go_at_call 123; first | ((with_reducible refine (l05Bit_t _).mono ?_); rintro e w' ⟨rfl, hw'⟩; rw [hw']; clear hw' w') | ((with_reducible refine (l05Bit_f _).mono ?_); rintro e w' ⟨rfl, hw'⟩; rw [hw']; clear hw' w'))
              | (at_builtin; refine wpList_push (.tmp 48) (.tmp 51) 22 w.heap.size 5 (.int .u8 0) _ 1 _ (L + 1) _ HO5.out rfl rfl Tryd.underlying22 infoU8T rfl rfl rfl rfl rfl (by omega) (by omega) hz5 ?_; intro A6 c6 w6 ho6 hb6))
            exact ⟨FIN.out w6 A6 c6 (by simpa [cellB] using ho6) (HB5.out.trans hb6), by simp [intOf] <;> omega⟩)
        · obtain rfl : k = 8 := by omega
          have hb8 : (bitsY y).take 8 = bitsY y := rfl
          rw [hb8] at HU2 ⊢
          have HNX := Lib.hid (show bitsL (s.data.toList.take (i + 1)) = P0 ++ bitsY y by rw [take_byteE s i hlt, HY.out, bitsL_snoc, HP0.out])
          clear hb8
          obtain ⟨Q, hQ⟩ : ∃ Q, P0 ++ bitsY y = Q := ⟨_, rfl⟩
          rw [hQ] at HU2 HNX ⊢
          clear hQ
          obtain ⟨l, hl⟩ : ∃ l, lastB last0 Q = l := ⟨_, rfl⟩
          rw [hl]
          have HLX := Lib.hid hl
          clear hl
          go_wp2_with fail
          exact ⟨⟨i + 1, us, A, c, by omega, by rw [HNX.out]; exact HU2.out, by rw [HNX.out, HLX.out], by go_num, rfl, HO2.out, HB2.out⟩, by simp [intOf]; omega⟩
    · obtain rfl : i = s.size := by omega
      have htk : s.data.toList.take s.size = s.data.toList := List.take_of_length_le (Nat.le_refl _)
      have hcv := run_bytesV rfl HOI.out
      have hu2 := HUS.out
      rw [← HP0.out, htk] at hu2
      have HU3 := Lib.hid hu2
      clear htk hu2
      go_wp2_with fail
      go_ret
      have e := HU3.out
      subst e
      exact ⟨rfl, HBI.out⟩
theorem encFm_any (s : ByteArray) (hs : s.size ≤ 500) (w : World) : Calls Tryd.prog 103 #[.string s] w fun e w' => e = .returned (.string (strL (encL false false (bitsL s.data.toList)))) ∧ Below w.heap.size w w' := by
  have H := Lib.hid (specEnc_any s false false hs w)
  go_enter Tryd.func103, Tryd.ntmps103
  go_wp2_with (go_at_call 115; refine H.out.mono ?_; rintro e w' ⟨rfl, hb⟩)
  go_ret
  exact ⟨rfl, hb⟩
theorem encMfm_any (s : ByteArray) (last : Bool) (hs : s.size ≤ 500) (w : World) : Calls Tryd.prog 100 #[.string s, .bool last] w fun e w' => e = .returned (.string (strL (encL true last (bitsL s.data.toList)))) ∧ Below w.heap.size w w' := by
  have H := Lib.hid (specEnc_any s last true hs w)
  go_enter Tryd.func100, Tryd.ntmps100
  go_wp2_with (go_at_call 115; refine H.out.mono ?_; rintro e w' ⟨rfl, hb⟩)
  go_ret
  exact ⟨rfl, hb⟩
theorem mfmMark_any (w : World) : Calls Tryd.prog 99 #[] w fun e w' => e = .returned (.string ⟨#[48, 49, 48, 48, 48, 49, 48, 48, 49, 48, 48, 48, 49, 48, 48, 49]⟩) ∧ w' = w := by
  go_enter Tryd.func99, Tryd.ntmps99
  go_wp2
  go_ret
  exact ⟨rfl, rfl⟩
theorem specCodes_any (w : World) : Calls Tryd.prog 124 #[] w fun e w' => e = .returned (.slice (some ⟨w.heap.size, 0, none⟩) 16 16) ∧ w' = w.alloc (.cells #[.string (gcrS 0), .string (gcrS 1), .string (gcrS 2), .string (gcrS 3), .string (gcrS 4), .string (gcrS 5), .string (gcrS 6), .string (gcrS 7), .string (gcrS 8), .string (gcrS 9), .string (gcrS 10), .string (gcrS 11), .string (gcrS 12), .string (gcrS 13), .string (gcrS 14), .string (gcrS 15)] 9) := by
  go_enter Tryd.func124, Tryd.ntmps124
  go_wp2
  go_ret
  exact ⟨rfl, rfl⟩
theorem gcrCode_any (k : Nat) (hk : k < 16) (x : Int) (hx : x = k) (w : World) : Calls Tryd.prog 116 #[.int .i64 x] w fun e w' => e = .returned (.string (gcrS k)) ∧ Below w.heap.size w w' := by
  subst hx
  have hB : Below w.heap.size w (w.alloc (.cells #[.string (gcrS 0), .string (gcrS 1), .string (gcrS 2), .string (gcrS 3), .string (gcrS 4), .string (gcrS 5), .string (gcrS 6), .string (gcrS 7), .string (gcrS 8), .string (gcrS 9), .string (gcrS 10), .string (gcrS 11), .string (gcrS 12), .string (gcrS 13), .string (gcrS 14), .string (gcrS 15)] 9)) := (Below.refl _ _).alloc (Nat.le_refl _) _
  have hc : (w.alloc (.cells #[.string (gcrS 0), .string (gcrS 1), .string (gcrS 2), .string (gcrS 3), .string (gcrS 4), .string (gcrS 5), .string (gcrS 6), .string (gcrS 7), .string (gcrS 8), .string (gcrS 9), .string (gcrS 10), .string (gcrS 11), .string (gcrS 12), .string (gcrS 13), .string (gcrS 14), .string (gcrS 15)] 9)).cell? ⟨w.heap.size, k, none⟩ = some (.string (gcrS k)) := by
    rw [World.cell?_alloc_new]
    have : k = 0 ∨ k = 1 ∨ k = 2 ∨ k = 3 ∨ k = 4 ∨ k = 5 ∨ k = 6 ∨ k = 7 ∨ k = 8 ∨ k = 9 ∨ k = 10 ∨ k = 11 ∨ k = 12 ∨ k = 13 ∨ k = 14 ∨ k = 15 := by omega
    rcases this with rfl | rfl | rfl | rfl | rfl | rfl | rfl | rfl | rfl | rfl | rfl | rfl | rfl | rfl | rfl | rfl <;> rfl
  have HCO := Lib.hid (specCodes_any w)
  obtain ⟨W1, hW1⟩ : ∃ W1, w.alloc (.cells #[.string (gcrS 0), .string (gcrS 1), .string (gcrS 2), .string (gcrS 3), .string (gcrS 4), .string (gcrS 5), .string (gcrS 6), .string (gcrS 7), .string (gcrS 8), .string (gcrS 9), .string (gcrS 10), .string (gcrS 11), .string (gcrS 12), .string (gcrS 13), .string (gcrS 14), .string (gcrS 15)] 9) = W1 := ⟨_, rfl⟩
  rw [hW1] at hB hc HCO
  have HB := Lib.hid hB
  have g1 : inB 0 15 (k : Int) = true := by unfold inB; simp; omega
  have H1 := Lib.hid (fun W => g1 ▸ l00InB_any (k : Int) 0 15 W)
  have hk2 : (k : Int) < 16 := by omega
  obtain ⟨X, hX⟩ : ∃ X, gcrS k = X := ⟨_, rfl⟩
  rw [hX] at hc ⊢
  clear hW1 hB g1 hX
  go_enter Tryd.func116, Tryd.ntmps116
  go_wp2_with (first
    | (go_at_call 45; refine (H1.out _).mono ?_; rintro e w' ⟨rfl, hw'⟩; rw [hw']; clear hw' w')
    | (go_at_call 124; refine HCO.out.mono ?_; rintro e w' ⟨rfl, hw'⟩; rw [hw']; clear hw' w'))
  go_ret
  exact ⟨rfl, HB.out⟩
end Go.Proofs.YtabmdbhbbmnkdaaDoor
