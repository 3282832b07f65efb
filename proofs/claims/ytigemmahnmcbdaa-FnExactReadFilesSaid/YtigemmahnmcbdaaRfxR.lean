/-
  Hexadecimal digits read, the reference's side.
-/
import Derived.Test.YtigemmahnmcbdaaRfxH
namespace Go.Proofs.Ytigemmahnmcbdaa
open Go Go.ChangeShapes Go.WideShapes Go.ChangeAt Go.RowKit lib
set_option linter.unusedVariables false
set_option maxRecDepth 100000
def UnhOutS (s : ByteArray) (r : Ending) (w w' : World) : Prop :=
  ((∃ d, unhex s.data.toList = some d ∧ s.size ≤ 8192 ∧ r = .returned (.tuple #[.string ⟨d.toArray⟩, .bool true])) ∨ ((unhex s.data.toList = none ∨ 8192 < s.size) ∧ r = .returned (.tuple #[.string ⟨#[]⟩, .bool false]))) ∧ Below w.heap.size w w'
theorem UnhOutS.bad {s : ByteArray} {w w' : World} (h : unhex s.data.toList = none ∨ 8192 < s.size) (hb : Below w.heap.size w w') : UnhOutS s (.returned (.tuple #[.string ⟨#[]⟩, .bool false])) w w' := ⟨.inr ⟨h, rfl⟩, hb⟩
theorem UnhOutS.good {s : ByteArray} {k : Nat} {w w' : World} (hs : s.size ≤ 8192) (hk : s.size = 2 * k) (h : okD s (2 * k)) (hb : Below w.heap.size w w') : UnhOutS s (.returned (.tuple #[.string (bstr k (hvU s)), .bool true])) w w' := ⟨.inl ⟨_, unhex_good hk h, hs, rfl⟩, hb⟩
theorem ixv_dig {x : UInt8} (h1 : 48 ≤ x.toNat) (h2 : x.toNat ≤ 57) : ixv (unD x) = ((x.toNat - 48 : Nat) : Int) := by unfold unD; rw [if_pos ⟨h1, h2⟩]; rfl
theorem ixv_let {x : UInt8} (h1 : 97 ≤ x.toNat) (h2 : x.toNat ≤ 102) : ixv (unD x) = ((x.toNat - 87 : Nat) : Int) := by unfold unD; rw [if_neg (by omega), if_pos ⟨h1, h2⟩]; rfl
theorem ixv_not {x : UInt8} (h1 : ¬ (48 ≤ x.toNat ∧ x.toNat ≤ 57)) (h2 : ¬ (97 ≤ x.toNat ∧ x.toNat ≤ 102)) : ixv (unD x) = -1 := by unfold unD; rw [if_neg h1, if_neg h2]; rfl
set_option maxHeartbeats 1000000 in
theorem specValue_any (x : UInt8) (w : World) : Calls Try.prog 20 #[.int .u8 (x.toNat : Int)] w fun r w' => r = .returned (.int .i64 (ixv (unD x))) ∧ w' = w := by
  obtain ⟨n, hn⟩ : ∃ n, x.toNat = n := ⟨_, rfl⟩
  have hx := x.toNat_lt
  by_cases h1 : 48 ≤ n ∧ n ≤ 57
  · rw [ixv_dig (by omega) (by omega), hn]
    obtain ⟨m, hm⟩ : ∃ m, n = m + 48 := ⟨n - 48, by omega⟩
    subst hm
    rw [show m + 48 - 48 = m by omega]
    have c1 : (48 : Int) ≤ (m : Int) + 48 := by omega
    have c2 : (m : Int) + 48 ≤ 57 := by omega
    have e1 : IntKind.u8.wrap ((m : Int) + 48 - 48) = (m : Int) := by rw [IntKind.wrap_u8]; omega
    have e2 : IntKind.u8.wrap (m : Int) = (m : Int) := by rw [IntKind.wrap_u8]; omega
    have e3 : IntKind.i64.wrap (m : Int) = (m : Int) := by rw [IntKind.wrap_i64]; omega
    clear h1 hn hx
    go_enter Try.func20, Try.ntmps20
    go_wp2
    go_ret
    exact ⟨rfl, rfl⟩
  · by_cases h2 : 97 ≤ n ∧ n ≤ 102
    · rw [ixv_let (by omega) (by omega), hn]
      obtain ⟨m, hm⟩ : ∃ m, n - 97 = m := ⟨_, rfl⟩
      rw [show n - 87 = m + 10 by omega]
      have hD := Lib.hid (fun W' => l01Digit_any n (by omega) false (by simp only [digitN]; constructor <;> intro h <;> first | omega | cases h) W')
      have c1 : (97 : Int) ≤ (n : Int) := by omega
      have c2 : (n : Int) ≤ 102 := by omega
      have e1 : IntKind.u8.wrap ((n : Int) - 97) = (m : Int) := by rw [IntKind.wrap_u8]; omega
      have e3 : IntKind.i64.wrap (m : Int) = (m : Int) := by rw [IntKind.wrap_i64]; omega
      have e4 : IntKind.i64.wrap ((m : Int) + 10) = (m : Int) + 10 := by rw [IntKind.wrap_i64]; omega
      clear h1 h2 hn hx hm
      go_enter Try.func20, Try.ntmps20
      go_wp2_with (go_at_call 30; refine (hD.out _).mono ?_; rintro e w' ⟨rfl, rfl⟩)
      go_ret
      exact ⟨by simp, rfl⟩
    · rw [ixv_not (by omega) (by omega), hn]
      rcases (show n < 48 ∨ (57 < n ∧ n < 97) ∨ 102 < n by omega) with h | h | h
      · have c1 : (n : Int) < 48 := by omega
        have c2 : (n : Int) < 97 := by omega
        clear h1 h2 hn hx h
        go_enter Try.func20, Try.ntmps20
        go_wp2
        go_ret
        exact ⟨rfl, rfl⟩
      · have c0 : (48 : Int) ≤ (n : Int) := by omega
        have c1 : (57 : Int) < (n : Int) := by omega
        have c2 : (n : Int) < 97 := by omega
        clear h1 h2 hn hx h
        go_enter Try.func20, Try.ntmps20
        go_wp2
        go_ret
        exact ⟨rfl, rfl⟩
      · have c0 : (48 : Int) ≤ (n : Int) := by omega
        have c1 : (57 : Int) < (n : Int) := by omega
        have c2 : (97 : Int) ≤ (n : Int) := by omega
        have c3 : (102 : Int) < (n : Int) := by omega
        clear h1 h2 hn hx h
        go_enter Try.func20, Try.ntmps20
        go_wp2
        go_ret
        exact ⟨rfl, rfl⟩
set_option maxHeartbeats 1000000 in
theorem specUnhex_any (s : ByteArray) (hs : s.size ≤ 1048576) (w : World) : Calls Try.prog 10 #[.string s] w fun r w' => UnhOutS s r w w' := by
  by_cases hodd : s.size % 2 = 1 ∨ 8192 < s.size
  · by_cases h1 : s.size % 2 = 1
    · have hu : unhex s.data.toList = none := unhex_odd (by rw [← Lib.size_eq]; exact h1)
      have e1 : (s.size : Int) % 2 = 1 := by omega
      go_enter Try.func10, Try.ntmps10
      go_wp2_with fail
      go_ret2
      exact UnhOutS.bad (.inl hu) (Below.refl _ _)
    · have e1 : (s.size : Int) % 2 = 0 := by omega
      have e2 : (8192 : Int) < (s.size : Int) := by omega
      have hbig : 8192 < s.size := by omega
      go_enter Try.func10, Try.ntmps10
      go_wp2_with fail
      go_ret2
      exact UnhOutS.bad (.inr hbig) (Below.refl _ _)
  · obtain ⟨K, hK⟩ : ∃ K, s.size = 2 * K := ⟨s.size / 2, by omega⟩
    have e1 : (s.size : Int) % 2 = 0 := by omega
    have e2 : ((8192 : Int) < (s.size : Int)) = False := by simp only [eq_iff_iff, iff_false]; omega
    have hsm : s.size ≤ 8192 := by omega
    obtain ⟨i0, hi0, hi1, hi2, hi3⟩ := info_parts (show (Try.prog.info? 5).map (fun i => (i.zero, i.size, i.bytes)) = some (some (.int .u8 0), 1, 1) by kernel_rfl)
    have HO := Lib.hid (own_nil00 w 5)
    have HB := Lib.hid ((Below.refl w.heap.size w).alloc (Nat.le_refl _) (.cells #[] 5))
    go_enter Try.func10, Try.ntmps10
    go_wp2_with fail
    go_loopw [4, 5] (fun s4 s5 wr => ∃ (k : Nat) (A : Option Addr) (c' : Nat), k ≤ K ∧ s4 = .slice A k c' ∧ s5 = .int .i64 (2 * k : Nat) ∧ okD s (2 * k) ∧ wr.ownsRow w.heap.size 5 1 (.slice A k c') k ((List.range k).map fun (j : Nat) => Value.int .u8 ((hvU s j).toNat : Int)) ∧ Below w.heap.size w wr) (fun _ i _ => 2 * K - (intOf i).toNat)
    case atStart => exact ⟨0, _, _, by omega, rfl, rfl, fun i hi => by omega, HO.out, HB.out⟩
    case round =>
      obtain ⟨k, A, c', hk, rfl, rfl, hd, ho, hb⟩ := hrel
      have HOR := Lib.hid ho
      have HBR := Lib.hid hb
      have HD := Lib.hid hd
      have HK := Lib.hid hK
      have hKz : K ≤ 524288 := by omega
      have hbz := hb.size
      clear e1 e2
      clear ho hb hd
      by_cases hlt : k < K
      · have hx0 : 2 * k < s.size := by omega
        have hx1 : 2 * k + 1 < s.size := by omega
        have g0 := byteAt_get s (2 * k) hx0
        have g1 := byteAt_get s (2 * k + 1) hx1
        clear hK
        have e3 : IntKind.i64.wrap ((2 * k : Nat) + 1 : Int) = ((2 * k + 1 : Nat) : Int) := by rw [IntKind.wrap_i64]; omega
        have e4 : (((2 * k + 1 : Nat) : Int) < s.size) := by omega
        cases ha : unD (byteAt s (2 * k)) with
        | none =>
          have hu := unhex_bad hx0 ha
          have f0 : ixv (unD (byteAt s (2 * k))) = -1 := by rw [ha]; rfl
          clear ha
          go_wp2_with (go_at_call 20; refine (specValue_any _ _).mono ?_; rintro e w' ⟨rfl, rfl⟩)
          go_ret2
          exact UnhOutS.bad (.inl hu) HBR.out
        | some a =>
          have f0 : ixv (unD (byteAt s (2 * k))) = (a : Int) := by rw [ha]; rfl
          have ha16 := unD_lt ha
          have d0 : dg (byteAt s (2 * k)) = a := by unfold dg; rw [ha]; rfl
          have HA := Lib.hid ha
          clear ha
          cases hc : unD (byteAt s (2 * k + 1)) with
          | none =>
            have hu := unhex_bad hx1 hc
            have f1 : ixv (unD (byteAt s (2 * k + 1))) = -1 := by rw [hc]; rfl
            have e5 : ((a : Int) < 0) = False := by simp only [eq_iff_iff, iff_false]; omega
            clear hc
            go_wp2_with (go_at_call 20; refine (specValue_any _ _).mono ?_; rintro e w' ⟨rfl, rfl⟩)
            go_ret2
            exact UnhOutS.bad (.inl hu) HBR.out
          | some b =>
            have f1 : ixv (unD (byteAt s (2 * k + 1))) = (b : Int) := by rw [hc]; rfl
            have hb16 := unD_lt hc
            have d1 : dg (byteAt s (2 * k + 1)) = b := by unfold dg; rw [hc]; rfl
            have HC := Lib.hid hc
            clear hc
            obtain ⟨y, hy⟩ : ∃ y, 16 * a + b = y := ⟨_, rfl⟩
            have hv : (hvU s k).toNat = y := by unfold hvU; rw [d0, d1, hy, UInt8.toNat_ofNat']; omega
            have HV := Lib.hid hv
            have e5 : ((a : Int) < 0) = False := by simp only [eq_iff_iff, iff_false]; omega
            have e6 : ((b : Int) < 0) = False := by simp only [eq_iff_iff, iff_false]; omega
            have e7 : IntKind.i64.wrap (16 * (a : Int)) = 16 * (a : Int) := by rw [IntKind.wrap_i64]; omega
            have e8 : 16 * (a : Int) + b = (y : Int) := by omega
            have e9 : IntKind.i64.wrap (y : Int) = (y : Int) := by rw [IntKind.wrap_i64]; omega
            have e10 : IntKind.u8.wrap (y : Int) = (y : Int) := by rw [IntKind.wrap_u8]; omega
            have e11 : IntKind.i64.wrap (2 * (k : Int) + 2) = ((2 * (k + 1) : Nat) : Int) := by rw [IntKind.wrap_i64]; omega
            clear hv d0 d1
            have HY := Lib.hid hy
            clear hy
            go_wp2_with (first | (go_at_call 20; refine (specValue_any _ _).mono ?_; rintro e w' ⟨rfl, rfl⟩) | (at_builtin; go_loud (refine wpList_append_lies _ rfl (.tmp 39) (.tmp 45) _ rfl w.heap.size 5 i0 _ 1 1 Try.underlying44 hi0 hi1 hi2 hi3 rfl (by omega) (.slice A k c') k _ rfl (HOR.out.alloc _) ⟨_, 0, none⟩ 1 1 [.int .u8 (y : Int)] rfl rfl (newsB1 _ _ _) (by simp [Value.oneCell']) (by omega) (by simp only [maxLen]; omega) (by omega) (by rw [World.size_alloc]; omega) _ rfl ?_); intro gg cap w3 ho3 hgrow hat hlt3))
            go_roundw
            case rel => exact ⟨k + 1, some ⟨gg, 0, none⟩, cap, by omega, rfl, by go_num, fun i hi => by
                rcases (show i < 2 * k ∨ i = 2 * k ∨ i = 2 * k + 1 by omega) with h | h | h
                · exact HD.out i h
                · rw [h, HA.out]; simp
                · rw [h, HC.out]; simp, by rw [List.range_succ]; simpa [HV.out] using ho3, (HBR.out.alloc hbz _).trans (below_grown hgrow (fun j hj => by have := own_lt HOR.out j hj; omega) (by simp; omega))⟩
            case measure => simp [intOf]; omega
      · obtain rfl : k = K := by omega
        have hcv : (convert 44 9 (.slice A k c')).run Try.prog wr = .ok (.string (bstr k (hvU s))) wr :=
          run_bstr (P := Try.prog) (w := wr) (B := wr.heap.size) 44 9 5 Try.underlying44 Try.underlying5 Try.underlying9 (u := hvU s) (own_slR HOR.out) (fun hA => by
            rcases Nat.eq_zero_or_pos k with h0 | h0
            · exact h0
            · obtain ⟨b, o, hA2, _⟩ := own_slR HOR.out 0 h0
              rw [hA] at hA2
              cases hA2)
        go_wp2_with fail
        go_ret2
        exact UnhOutS.good hsm hK HD.out HBR.out
end Go.Proofs.Ytigemmahnmcbdaa
