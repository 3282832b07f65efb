/-
  Trees: the reference's small functions.
-/
import Derived.Test.YtiefcgmghkkbmaaGreatDoorTreP
import Derived.Test.YtiefcgmghkkbmaaGreatDoorTreB
import Derived.Deep.DeepCutAuto
namespace Go.Proofs.YtiefcgmghkkbmaaGreatDoor
open Go Go.ChangeShapes Go.WideShapes Go.ChangeAt Go.RowKit lib
set_option linter.unusedVariables false
set_option linter.unusedSimpArgs false
set_option maxRecDepth 100000
theorem specSum16_any (s : ByteArray) (hs : s.size ≤ 1048576) (w : World) : Calls Tryz.prog 106 #[.string s] w fun e w' => e = .returned (.int .i64 (sum16 s : Nat)) ∧ w = w' := by
  have HSL := Lib.hid (sumN_le (byteAt s))
  unfold sum16
  go_enter Tryz.func106, Tryz.ntmps106
  go_wp2_with fail
  go_loop [3, 4] (fun a b => ∃ k : Nat, k ≤ s.size ∧ b = .int .i64 k ∧ a = .int .i64 (sumN (byteAt s) k : Nat)) (fun _ i => s.size - (intOf i).toNat)
  case atStart => exact ⟨0, by omega, rfl, rfl⟩
  case round =>
    obtain ⟨k, hk, rfl, rfl⟩ := hrel
    have hb := HSL.out k
    have hb2 : sumN (byteAt s) k ≤ 267386880 := by omega
    by_cases hlt : k < s.size
    · have hg := byteAt_get s k hlt
      have h256 := (byteAt s k).toNat_lt
      go_wp2_with fail
      go_round
      case rel => exact ⟨k + 1, by omega, by go_num, congrArg (Value.int .i64) (by rw [sumN]; omega)⟩
      case measure => simp [intOf]; omega
    · go_wp2_with fail
      go_ret
      obtain rfl : k = s.size := by omega
      exact ⟨congrArg Ending.returned (congrArg (Value.int .i64) (by omega)), rfl⟩
theorem specHash_any (s : ByteArray) (hs : NameS s) (w : World) : Calls Tryz.prog 70 #[.string s] w fun e w' => e = .returned (.int .i64 (tHash s : Nat)) ∧ w = w' := by
  have hl : sum16 s < 65536 := by unfold sum16; omega
  have h8 := hs.hi
  have HI := Lib.hid (fun W => specIsName_any s (by omega) true ⟨fun _ => hs, fun _ => rfl⟩ W)
  clear hs
  unfold tHash
  go_enter Tryz.func70, Tryz.ntmps70
  go_wp2_with (first | (go_at_call 105; refine (HI.out _).mono ?_; rintro e w' ⟨rfl, rfl⟩) | (go_at_call 106; refine (specSum16_any s (by omega) _).mono ?_; rintro e w' ⟨rfl, rfl⟩))
  go_ret
  exact ⟨congrArg Ending.returned (congrArg (Value.int .i64) (by omega)), rfl⟩
theorem sealed_any (s : ByteArray) (hs : s.size = 32) (b : Bool) (hb : b = true ↔ usum (byteAt s) 32 = 0) (w : World) : Calls Tryz.prog 76 #[.string s] w fun e w' => e = .returned (.bool b) ∧ w = w' := by
  obtain ⟨m, hm⟩ : ∃ m, sum16 s = m := ⟨_, rfl⟩
  have hm2 : m < 65536 := by rw [← hm]; unfold sum16; omega
  have HS := Lib.hid (fun W => specSum16_any s (by omega) W)
  rw [hm] at HS
  have hiff : b = true ↔ m % 256 = 0 := by
    rw [hb, usum_zero, ← hm]
    unfold sum16
    rw [hs]
    omega
  have e1 : ((m : Int) % 256 == 0) = b := by
    cases b with
    | true => have := hiff.1 rfl; simp; omega
    | false =>
      have : ¬ m % 256 = 0 := fun h => by have := hiff.2 h; cases this
      simp; omega
  clear hiff hb hm
  go_enter Tryz.func76, Tryz.ntmps76
  go_wp2_with (go_at_call 106; refine (HS.out _).mono ?_; rintro e w' ⟨rfl, rfl⟩)
  go_ret
  exact ⟨rfl, rfl⟩
theorem extT {s : ByteArray} {a b : Nat} (hb : b ≤ s.size) : s.extract a b = bstr (b - a) (fun i => byteAt s (a + i)) := by
  apply ByteArray.ext
  apply Array.ext'
  rw [ByteArray.data_extract, Array.toList_extract]
  unfold bstr byteAt
  simp only [List.extract_eq_take_drop]
  apply List.ext_getElem?
  intro i
  have hl : s.data.toList.length = s.size := rfl
  by_cases h : i < b - a
  · rw [List.getElem?_take_of_lt h, List.getElem?_drop, List.getElem?_map, List.getElem?_range h]
    simp only [Option.map_some, List.getD_eq_getElem?_getD]
    rw [List.getElem?_eq_getElem (by rw [hl]; omega)]
    rfl
  · rw [List.getElem?_eq_none (by simp; omega), List.getElem?_eq_none (by simp; omega)]
theorem slT (s : ByteArray) (a b : Nat) (hab : a ≤ b) (hb : b ≤ s.size) (hs : s.size ≤ 1048576) (W : World) : (Instr.slice 9 (.string s) (some (.int .i64 (a : Int))) (some (.int .i64 (b : Int))) none).run Tryz.prog W = .ok (.string (bstr (b - a) (fun i => byteAt s (a + i)))) W := by
  rw [run_slice_string (P := Tryz.prog) (w := W) 9 s .i64 .i64 (a : Int) (b : Int) Tryz.underlying9 (by omega) (by omega) (by omega)]
  rw [Int.toNat_natCast, Int.toNat_natCast, extT hb]
theorem slTl (s : ByteArray) (a : Nat) (ha : a ≤ s.size) (W : World) : (Instr.slice 9 (.string s) (some (.int .i64 (a : Int))) none none).run Tryz.prog W = .ok (.string (bstr (s.size - a) (fun i => byteAt s (a + i)))) W := by
  rw [run_slice_string_l (P := Tryz.prog) W 9 s Tryz.underlying9 .i64 (a : Int) (by omega) (by omega)]
  rw [Int.toNat_natCast, extT (Nat.le_refl _)]
theorem rest_any (s : ByteArray) (k : Nat) (hs : s.size = 32) (hk : k ≤ 32) (b : Bool) (hb : b = true ↔ tZ (byteAt s) k) (w : World) : Calls Tryz.prog 108 #[.string s, .int .i64 k] w fun e w' => e = .returned (.bool b) ∧ Below w.heap.size w w' := by
  have hsl := fun W => slTl s k (by omega) W
  obtain ⟨X, hX⟩ : ∃ X, bstr (s.size - k) (fun i => byteAt s (k + i)) = X := ⟨_, rfl⟩
  have heq : (X.toList == (bstr (s.size - k) fun _ => 0).toList) = b := by
    have hq : X = (bstr (s.size - k) fun _ => 0) ↔ tZ (byteAt s) k := by
      rw [← hX, show (bstr (s.size - k) fun _ => (0 : UInt8)) = bz (s.size - k) from rfl, bz_iff]
      constructor
      · intro h i h1 h2
        have := h (i - k) (by omega)
        rwa [show k + (i - k) = i by omega] at this
      · intro h i hi; exact h _ (by omega) (by omega)
    by_cases he : X = (bstr (s.size - k) fun _ => 0)
    · rw [str_eq_true he]; exact (hb.2 (hq.1 he)).symm
    · rw [str_eq_false he]
      cases b with
      | false => rfl
      | true => exact absurd (hq.2 (hb.1 rfl)) he
  simp only [hX] at hsl
  have HEQ := Lib.hid heq
  have hw : ((s.size : Nat) : Int) = 32 := by omega
  have hki : (k : Int) ≤ 32 := by omega
  have HZ := Lib.hid (fun (W : World) (z : Int) (hz : z = 32 - (k : Int)) => (show Calls Tryz.prog 82 #[.int .i64 z] W fun e w' => e = .returned (.string (bstr (s.size - k) fun _ => 0)) ∧ Below W.heap.size W w' from by
    have := l01Zeros_any z W (by omega) (by omega)
    rwa [show z.toNat = s.size - k by omega] at this))
  have HS := Lib.hid hs
  clear hb heq hX hs
  go_enter Tryz.func108, Tryz.ntmps108
  have hwr : IntKind.i64.wrap (32 - (k : Int)) = 32 - (k : Int) := by rw [IntKind.wrap_i64]; omega
  go_wp2_with fail
  go_region_law (go_simp; go_at_call 82; refine (HZ.out _ _ (by omega)).mono ?_; rintro e w1 ⟨rfl, hb1⟩)
  all_goals
    go_wp2_with fail
    go_ret
    exact ⟨by rw [HEQ.out]; rfl, ((Below.refl _ _).drewN 1).trans hb1⟩
theorem get_any (s : ByteArray) (k : Nat) (hk : k + 1 < s.size) (hs : s.size ≤ 1048576) (w : World) : Calls Tryz.prog 138 #[.string s, .int .i64 k] w fun e w' => e = .returned (.int .i64 (tW (byteAt s) k : Nat)) ∧ ∃ n, w' = w.drewN n := by
  have hg := byteAt_get s k (by omega)
  have hg1 := byteAt_get s (k + 1) hk
  obtain ⟨x, hx⟩ : ∃ x, (byteAt s k).toNat = x := ⟨_, rfl⟩
  obtain ⟨y, hy⟩ : ∃ y, (byteAt s (k + 1)).toNat = y := ⟨_, rfl⟩
  have hx2 : x < 256 := by rw [← hx]; exact UInt8.toNat_lt _
  have hy2 : y < 256 := by rw [← hy]; exact UInt8.toNat_lt _
  have hr : tW (byteAt s) k = x * 256 + y := by unfold tW; rw [hx, hy]
  have HR := Lib.hid hr
  have w1 : IntKind.i64.wrap ((k : Int) + 1) = (k : Int) + 1 := by rw [IntKind.wrap_i64]; omega
  have w2 : IntKind.i64.wrap (x : Int) = (x : Int) := by rw [IntKind.wrap_i64]; omega
  have w3 : IntKind.i64.wrap (y : Int) = (y : Int) := by rw [IntKind.wrap_i64]; omega
  have w4 : IntKind.i64.wrap ((x : Int) * 256) = (x : Int) * 256 := by rw [IntKind.wrap_i64]; omega
  have w5 : IntKind.i64.wrap ((x : Int) * 256 + (y : Int)) = (x : Int) * 256 + (y : Int) := by rw [IntKind.wrap_i64]; omega
  have h0 : (0 : Int) ≤ (k : Int) := by omega
  have h1 : (k : Int) < (s.size : Int) := by omega
  have h2 : (0 : Int) ≤ (k : Int) + 1 := by omega
  have h3 : (k : Int) + 1 < (s.size : Int) := by omega
  have h4 : ((k : Int) + 1).toNat = k + 1 := by omega
  clear hr
  go_enter Tryz.func138, Tryz.ntmps138
  go_wp2_with fail
  go_quiet (fail)
  go_wp2_with fail
  go_ret
  refine ⟨congrArg Ending.returned (congrArg (Value.int .i64) ?_), _, rfl⟩
  rw [HR.out]
  simp
theorem bit_any (s : ByteArray) (k : Nat) (hs : s.size = 32) (hk : k < 128) (w : World) : Calls Tryz.prog 80 #[.string s, .int .i64 k] w fun e w' => e = .returned (.bool (tBit (byteAt s) k)) ∧ w = w' := by
  obtain ⟨q, hq⟩ : ∃ q, q = 12 + k / 8 := ⟨_, rfl⟩
  have hq32 : q < 32 := by omega
  obtain ⟨x, hx⟩ : ∃ x, (byteAt s q).toNat = x := ⟨_, rfl⟩
  have hx2 : x < 256 := by rw [← hx]; exact UInt8.toNat_lt _
  have e1 : (12 : Int) + (k : Int) / 8 = (q : Int) := by omega
  have hsz : s.size = 32 := hs
  obtain ⟨y, hy⟩ : ∃ y, x / 2 ^ (k % 8) = y := ⟨_, rfl⟩
  have hy2 : y < 256 := by rw [← hy]; exact Nat.lt_of_le_of_lt (Nat.div_le_self _ _) hx2
  have hsh : (x : Int) / 2 ^ (k % 8) = (y : Int) := by rw [← hy]; exact_mod_cast rfl
  have hand : bits .and .u8 (y : Int) 1 = ((y % 2 : Nat) : Int) := u8_low ⟨y, hy2⟩
  have hb : tBit (byteAt s) k = (((y % 2 : Nat) : Int) == 1) := by
    unfold tBit
    rw [← hq, hx, hy]
    rcases Nat.mod_two_eq_zero_or_one y with h | h <;> rw [h] <;> rfl
  rw [hb]
  have HQ := Lib.hid hq
  have HY := Lib.hid hy
  clear hb hq hy hs
  have hg := byteAt_get s q (by omega)
  go_enter Tryz.func80, Tryz.ntmps80
  go_wp2_with fail
  go_ret
  exact ⟨rfl, rfl⟩
theorem slTx (s : ByteArray) (a b : Nat) (x y : Int) (hx : x = a) (hy : y = b) (hab : a ≤ b) (hb : b ≤ s.size) (hs : s.size ≤ 1048576) (W : World) : (Instr.slice 9 (.string s) (some (.int .i64 x)) (some (.int .i64 y)) none).run Tryz.prog W = .ok (.string (bstr (b - a) (fun i => byteAt s (a + i)))) W := by
  rw [hx, hy]; exact slT s a b hab hb hs W
set_option maxHeartbeats 16000000 in
theorem specName_any (s : ByteArray) (hs : s.size = 32) (w : World) : Calls Tryz.prog 71 #[.string s] w fun e w' => e = .returned (.string (tnmS (byteAt s))) ∧ Below w.heap.size w w' := by
  have HG := Lib.hid (byteAt_get s)
  have HS := Lib.hid hs
  have hsi : ((s.size : Nat) : Int) = 32 := by omega
  obtain ⟨v, htv⟩ : ∃ v, v = tV (byteAt s) := ⟨_, rfl⟩
  have HTV := Lib.hid (fun i => show v i = byteAt s (4 + i) from by rw [htv]; rfl)
  have HV := Lib.hid htv
  clear htv
  go_enter Tryz.func71, Tryz.ntmps71
  go_upto_block 0 with fail
  go_cut [3] (fun s3 wx => ∃ t : Nat, s3 = .int .i64 t ∧ TNul v t ∧ wx = w)
  case first =>
    go_wp2_with fail
    go_loop [3] (fun a => ∃ t : Nat, t ≤ 8 ∧ a = .int .i64 t ∧ ∀ i, i < t → v i ≠ 0) (fun i => 8 - (intOf i).toNat)
    case atStart => exact ⟨0, by omega, rfl, fun i hi => by omega⟩
    case round =>
      obtain ⟨t, ht, rfl, hnz⟩ := hrel
      have HN := Lib.hid hnz
      clear hnz
      by_cases hc : t < 8 ∧ v t ≠ 0
      · obtain ⟨hlt, hvt⟩ := hc
        have hg := HG.out (4 + t) (by have := HS.out; omega)
        obtain ⟨x, hx⟩ : ∃ x, (byteAt s (4 + t)).toNat = x := ⟨_, rfl⟩
        have hx0 : x ≠ 0 := by
          intro h0
          refine hvt ?_
          rw [HTV.out]
          exact UInt8.toNat_inj.1 (by rw [hx, h0]; rfl)
        have hne : ((x : Int) != 0) = true := by simp; omega
        have HN2 : Hid (∀ i, i < t + 1 → v i ≠ 0) := Lib.hid (fun i hi => by
          rcases Nat.lt_or_ge i t with h | h
          · exact HN.out i h
          · obtain rfl : i = t := by omega
            exact hvt)
        have hti : (t : Int) < 8 := by omega
        clear hvt hx0
        go_wp2_with fail
        go_round
        case rel => exact ⟨t + 1, by omega, by go_num, HN2.out⟩
        case measure => simp [intOf]; omega
      · have hnul : TNul v t := ⟨ht, HN.out, fun h8 => Classical.byContradiction fun h => hc ⟨h8, h⟩⟩
        have HU := Lib.hid hnul
        clear hnul hc
        by_cases h8 : t < 8
        · have h8i : (t : Int) < 8 := by omega
          have hg := HG.out (4 + t) (by have := HS.out; omega)
          have hx0 : byteAt s (4 + t) = 0 := by rw [← HTV.out]; exact HU.out.2.2 h8
          go_wp2_with fail
          go_meet
          exact ⟨t, rfl, HU.out, rfl⟩
        · have h8i : ¬ (t : Int) < 8 := by omega
          go_wp2_with fail
          go_meet
          exact ⟨t, rfl, HU.out, rfl⟩
  case rest =>
    obtain ⟨t, rfl, hnul, rfl⟩ := hcut
    have ht := hnul.1
    have HU := Lib.hid hnul
    have hts : 4 + t ≤ s.size := by have := HS.out; omega
    obtain ⟨r, hr⟩ : ∃ r, 12 - (4 + t) = r := ⟨_, rfl⟩
    have h4i : (4 : Int) + (t : Int) ≤ 32 := by omega
    have hsl1 := fun W => slTx s 4 (4 + t) 4 (4 + (t : Int)) rfl (by omega) (by omega) hts (by have := HS.out; omega) W
    have hsl2 := fun W => slTx s (4 + t) 12 (4 + (t : Int)) 12 (by omega) rfl (by omega) (by have := HS.out; omega) (by have := HS.out; omega) W
    obtain ⟨X, hX⟩ : ∃ X, bstr t v = X := ⟨_, rfl⟩
    obtain ⟨Y, hY⟩ : ∃ Y, bstr r (fun i => byteAt s (4 + t + i)) = Y := ⟨_, rfl⟩
    have hX2 : (bstr (4 + t - 4) fun i => byteAt s (4 + i)) = X := by
      rw [← hX, show 4 + t - 4 = t by omega]
      exact bsT_congr fun i hi => (HTV.out i).symm
    simp only [hX2, hr, hY] at hsl1 hsl2
    have hXs : X.size = t := by rw [← hX]; exact bsT_size _ _
    have hyz : Y = bz r ↔ ∀ i, t ≤ i → i < 8 → v i = 0 := by
      rw [← hY, bz_iff]
      constructor
      · intro h i h1 h2
        have := h (i - t) (by omega)
        rw [HTV.out, ← this]
        congr 1
        omega
      · intro h i hi
        have := h (t + i) (by omega) (by omega)
        rw [HTV.out] at this
        rw [← this]
        congr 1
        omega
    have HYZ := Lib.hid hyz
    have HX := Lib.hid hX
    have HXS := Lib.hid hXs
    have wr1 : IntKind.i64.wrap (4 + (t : Int)) = 4 + (t : Int) := by rw [IntKind.wrap_i64]; omega
    have wr2 : IntKind.i64.wrap (8 - (t : Int)) = 8 - (t : Int) := by rw [IntKind.wrap_i64]; omega
    have HZ := Lib.hid (fun (W : World) (z : Int) (hz : z = 8 - (t : Int)) => (show Calls Tryz.prog 82 #[.int .i64 z] W fun e w' => e = .returned (.string (bz r)) ∧ Below W.heap.size W w' from by
      have := l01Zeros_any z W (by omega) (by omega)
      rwa [show z.toNat = r by omega] at this))
    clear hX hX2 hY hyz hnul hr
    by_cases hn : NameS X
    · have HIN := Lib.hid (fun W => specIsName_any X (by rw [HXS.out]; omega) true ⟨fun _ => hn, fun _ => rfl⟩ W)
      have HNN := Lib.hid hn
      clear hn
      by_cases hy : Y = bz r
      · have hye : (Y.toList == (bz r).toList) = true := str_eq_true hy
        have hyt : Y.toList = (bz r).toList := by rw [hy]
        have hyf : (Y.toList != (bz r).toList) = false := by rw [bne, str_eq_true hy]; rfl
        have HRES := Lib.hid (show tnmS (byteAt s) = X from by
          have h := tnmS_nul (x := byteAt s) (t := t) (by rw [← HV.out]; exact HU.out) (by rw [← HV.out, HX.out]; exact HNN.out) (by rw [← HV.out]; exact HYZ.out.1 hy)
          rw [h, ← HV.out, HX.out])
        clear hy
        go_upto_region 4 with fail
        go_region_with (first | (go_at_call 105; refine (HIN.out _).mono ?_; rintro e w1 ⟨rfl, rfl⟩) | (go_at_call 82; refine (HZ.out _ _ (by omega)).mono ?_; rintro e w1 ⟨rfl, hb1⟩))
        all_goals
          go_wp2_with fail
          go_ret
          exact ⟨by rw [HRES.out]; rfl, ((Below.refl _ _).drewN 1).trans hb1⟩
      · have hye : (Y.toList == (bz r).toList) = false := str_eq_false hy
        have hyt : (Y.toList = (bz r).toList) = False := by simp only [toList_iff, hy]
        have hyf : (Y.toList != (bz r).toList) = true := by rw [bne, str_eq_false hy]; rfl
        have HRES := Lib.hid (show tnmS (byteAt s) = ⟨#[]⟩ from tnmS_bad (x := byteAt s) (t := t) (by rw [← HV.out]; exact HU.out) (fun q => hy (HYZ.out.2 (by rw [HV.out]; exact q.2))))
        clear hy
        go_upto_region 4 with fail
        go_region_with (first | (go_at_call 105; refine (HIN.out _).mono ?_; rintro e w1 ⟨rfl, rfl⟩) | (go_at_call 82; refine (HZ.out _ _ (by omega)).mono ?_; rintro e w1 ⟨rfl, hb1⟩))
        all_goals
          go_wp2_with fail
          go_ret
          exact ⟨by rw [HRES.out]; rfl, ((Below.refl _ _).drewN 1).trans hb1⟩
    · have HIN := Lib.hid (fun W => specIsName_any X (by rw [HXS.out]; omega) false ⟨fun h => (by cases h), fun h => absurd h hn⟩ W)
      have HRES := Lib.hid (show tnmS (byteAt s) = ⟨#[]⟩ from tnmS_bad (x := byteAt s) (t := t) (by rw [← HV.out]; exact HU.out) (fun q => hn (by rw [← HX.out, HV.out]; exact q.1)))
      clear hn
      go_upto_region 4 with fail
      go_quiet ((go_at_call 105; exact Calls.quiet_of_same ((HIN.out _).mono fun e w' h => ⟨h.1, h.2.symm⟩)))
      all_goals
        go_wp2_with fail
        go_ret
        exact ⟨by rw [HRES.out]; rfl, (Below.refl _ _).drewN _⟩
end Go.Proofs.YtiefcgmghkkbmaaGreatDoor
