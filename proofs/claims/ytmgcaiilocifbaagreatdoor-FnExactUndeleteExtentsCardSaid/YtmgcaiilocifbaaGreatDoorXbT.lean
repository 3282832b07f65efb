/-
  Disks of extents: the bytes of an entry on a disk; a title; both sides.
-/
import Derived.Test.YtmgcaiilocifbaaGreatDoorXoT
import Derived.Test.YtmgcaiilocifbaaGreatDoorXqP
import Derived.Test.YtmgcaiilocifbaaGreatDoorChS
import Derived.Test.YtmgcaiilocifbaaGreatDoorChF
import Derived.Test.YtmgcaiilocifbaaGreatDoorChA
import Derived.Test.YtmgcaiilocifbaaGreatDoorAppR
import Derived.Deep.DeepCutAuto
namespace Go.Proofs.YtmgcaiilocifbaaGreatDoor
open Go Go.ChangeShapes Go.WideShapes Go.ChangeAt Go.RowKit lib
set_option linter.unusedVariables false
set_option linter.unusedSimpArgs false
set_option maxRecDepth 100000
theorem implEntryBytesX_any {w : World} {p g n z E t N c : Nat} {u : Nat → UInt8} (k at' : Nat) (h : XW w p g n z E t N c u) (ha : z + k * 16 = at') (hN : at' + 16 ≤ N) (hNb : N ≤ 1048576) (hcN : N ≤ c) (hk : k ≤ 1024) :
    Calls Tryz.prog 25 #[.pointer (some ⟨p, 0, none⟩), .int .i64 k] w fun r w' => r = .returned (.slice (some ⟨g, at', none⟩) 16 (c - at')) ∧ w' = w := by
  have h1 := h.c1
  have h4 := h.c4
  have e3 : (z : Int) + (k : Int) * 16 = (at' : Int) := by omega
  have e4 : IntKind.i64.wrap (at' : Int) = (at' : Int) := by rw [IntKind.wrap_i64]; omega
  have e5 : IntKind.i64.wrap ((k : Int) * 16) = (k : Int) * 16 := by rw [IntKind.wrap_i64]; omega
  have e6 : IntKind.i64.wrap ((at' : Int) + 16) = (at' : Int) + 16 := by rw [IntKind.wrap_i64]; omega
  have i1 : (0 : Int) ≤ (at' : Int) + 16 := by omega
  have i2 : (at' : Int) + 16 ≤ c := by omega
  have i3 : ((at' : Int) + 16).toNat = at' + 16 := by omega
  have i4 : at' ≤ at' + 16 := by omega
  have i5 : at' + 16 - at' = 16 := by omega
  have i6 : (c = at') = False := by simp; omega
  clear ha
  go_enter Tryz.func25, Tryz.ntmps25
  go_wp2
  go_ret
  exact ⟨rfl, rfl⟩
theorem implDiskX_any {w : World} {p g n z E t N c : Nat} {u : Nat → UInt8} (h : XW w p g n z E t N c u) (hN : n * z = N) (hn : n ≤ 128) (hz : z ≤ 32) (hz1 : 1 ≤ z) (hcN : N ≤ c) :
    Calls Tryz.prog 26 #[.pointer (some ⟨p, 0, none⟩)] w fun r w' => ∃ A c, r = .returned (.slice A n c) ∧ w'.ownsRow w.heap.size 9 1 (.slice A n c) n ((List.range n).map fun i => .string (blkOf z u i)) ∧ Below w.heap.size w w' := by
  have hNb : N ≤ 4096 := by rw [← hN]; exact Nat.mul_le_mul hn hz
  have h1 := h.c1
  have h4 := h.c4
  have HN := Lib.hid hN
  clear hN
  go_enter Tryz.func26, Tryz.ntmps26
  go_wp2_with fail
  go_region_with (go_at_call 50; refine ((callsIn_wide (n := 3)).1 (splitBlocks_in 3 (by omega) g n z c N u HN.out hz1 (by omega) (by omega) (by omega) hcN _ h.row.drew)).mono ?_; rintro e w' ⟨A, c', rfl, ho, hb⟩)
  all_goals
    go_wp2
    go_ret
    exact ⟨A, c', rfl, ho, Below.trans (Below.refl _ _).drew hb⟩
theorem bstr_cut (m : Nat) (v : Nat → UInt8) : (bstr (m + 1) v).extract 0 m = bstr m v := by
  rw [Lib.extract_upto]
  unfold bstr
  congr 2
  rw [← List.map_take, List.take_range, Nat.min_eq_left (by omega)]
theorem bvals_one (u : Nat → UInt8) (n : Nat) : bvals u (n + 1) = bvals u n ++ [Value.int .u8 ((u n).toNat : Int)] := by
  unfold bvals
  rw [List.range_succ, List.map_append]
  rfl
theorem own_browX {w : World} {B e N g cap : Nat} {U : Nat → UInt8} (h : w.ownsRow B e 1 (.slice (some ⟨g, 0, none⟩) N cap) N (bvals U N)) (hN : 0 < N) : BRow w e g N U ∧ B ≤ g ∧ N ≤ cap := by
  have hcap : N ≤ cap := by
    rcases h.2 with ⟨e0, _⟩ | ⟨g', cap', cur, hv, _, _, hn, _⟩
    · cases e0
    · injection hv with _ _ hc
      rw [hc]; exact hn
  obtain ⟨g', cs, hA, hB, hr, hsz, hc⟩ := own_row h hN
  simp only [Option.some.injEq, Addr.mk.injEq, and_true] at hA
  subst hA
  rw [Nat.mul_one] at hsz hc
  refine ⟨⟨cs, hr, hsz, fun i hi => ?_⟩, hB, hcap⟩
  rw [hc i hi]
  unfold bvals
  simp [hi]
theorem bstr_isEmpty (m : Nat) (v : Nat → UInt8) : (bstr m v).toList.isEmpty = decide (m = 0) := by
  rw [ByteArray.toList_eq]
  unfold bstr
  cases m <;> simp
theorem l28Title_any (m : Nat) (v : Nat → UInt8) (w : World) (hm : m ≤ 64) : Calls Tryz.prog 36 #[.string (bstr m v)] w fun e w' => e = .returned (.string (bstr (trimLen 32 m v) v)) ∧ w = w' := by
  have ht := trimLen_at 32 m v
  generalize trimLen 32 m v = t at *
  have HT := Lib.hid ht
  clear ht
  go_enter Tryz.func36, Tryz.ntmps36
  go_wp2_with fail
  go_loopw [0] (fun s0 wr => ∃ k : Nat, t ≤ k ∧ k ≤ m ∧ s0 = .string (bstr k v) ∧ wr = w) (fun s _ => Lib.strSize s)
  case atStart => exact ⟨m, HT.out.le, Nat.le_refl _, rfl, rfl⟩
  case round =>
    obtain ⟨k, hk, hkm, rfl, rfl⟩ := hrel
    cases k with
    | zero =>
      have e1 : (bstr 0 v).toList.isEmpty = true := by rw [bstr_isEmpty]; rfl
      obtain rfl : t = 0 := by omega
      go_wp2
      go_ret
      exact ⟨rfl, rfl⟩
    | succ k =>
      have e1 : (bstr (k + 1) v).toList.isEmpty = false := by rw [bstr_isEmpty]; simp
      have hs : (bstr (k + 1) v).size = k + 1 := bsx_size _ _
      have hb := byteAt_get (bstr (k + 1) v) k (by omega)
      rw [bsx_at (Nat.lt_succ_self k)] at hb
      have hcut := bstr_cut k v
      have hw : IntKind.i64.wrap (k : Int) = (k : Int) := by rw [IntKind.wrap_i64]; omega
      by_cases hlt : t ≤ k
      · have hv : v k = 32 := HT.out.nul k hlt (by omega)
        rw [hv] at hb
        go_wp2
        exact ⟨⟨k, hlt, by omega, rfl, trivial⟩, by simp only [Lib.strSize_string]; rw [hs, bsx_size]; omega⟩
      · obtain rfl : t = k + 1 := by omega
        have hv : v k ≠ 32 := by have := HT.out.last (by omega); simpa using this
        have hvi : (((v k).toNat : Int) == 32) = false := by
          rw [beq_eq_false_iff_ne]
          intro h
          exact hv (UInt8.toNat_inj.1 (by show (v k).toNat = 32; omega))
        have hvj : ((v k).toNat = 32) = False := by
          rw [eq_iff_iff]
          exact ⟨fun h => hv (UInt8.toNat_inj.1 h), False.elim⟩
        have HV := Lib.hid hv
        clear hv
        go_wp2
        go_ret
        exact ⟨rfl, rfl⟩
set_option maxHeartbeats 2000000 in
theorem l17Raw_any {w : World} {n c q z k : Nat} {n0 E t : Value} {A : Option Addr} {s : Nat → ByteArray} (hs : Sl w w.heap.size A n (fun i => .string (s i))) (hsz : ∀ i, i < n → (s i).size = z) (hr : Rw w q 30 #[n0, .int .i64 z, E, t]) (hz8 : 8 ≤ z) (hz32 : z ≤ 32) (hn : n ≤ 128) (hk : z + k * 16 + 16 ≤ n * z) :
    Calls Tryz.prog 35 #[.slice A n c, .pointer (some ⟨q, 0, none⟩), .int .i64 k] w fun r w' => ∃ g c', r = .returned (.slice (some ⟨g, 0, none⟩) 16 c') ∧ 16 ≤ c' ∧ BRow w' 5 g 16 (xby z (joinU z s) k) ∧ w.heap.size ≤ g ∧ Below w.heap.size w w' := by
  have hN : n * z ≤ 4096 := Nat.mul_le_mul hn hz32
  have key : ∀ j, j < 16 → ∃ qq r : Nat, (((16 * k + j : Nat) : Int) / (z : Int) = (qq : Int)) ∧ (Int.tmod ((16 * k + j : Nat) : Int) (z : Int) = (r : Int)) ∧ r < z ∧ 1 + qq < n ∧ xby z (joinU z s) k j = byteAt (s (1 + qq)) r := by
    intro j hj
    have hzp : 0 < z := by omega
    refine ⟨(16 * k + j) / z, (16 * k + j) % z, by simp, rfl, Nat.mod_lt _ hzp, ?_, ?_⟩
    · have h1 : (16 * k + j) / z < n - 1 := by
        rw [Nat.div_lt_iff_lt_mul hzp, Nat.sub_mul, Nat.one_mul]
        omega
      generalize (16 * k + j) / z = X at *
      omega
    · unfold xby
      have h2 := Nat.div_add_mod (16 * k + j) z
      have h3 : z + k * 16 + j = (1 + (16 * k + j) / z) * z + (16 * k + j) % z := by
        rw [Nat.add_mul, Nat.one_mul, Nat.mul_comm ((16 * k + j) / z) z]
        omega
      rw [h3, joinU_at _ _ (Nat.mod_lt _ hzp)]
  have HK := Lib.hid key
  have HS := Lib.hid hs
  have HR := Lib.hid hr
  have HSZ := Lib.hid hsz
  clear key hs hr hsz
  generalize xby z (joinU z s) k = V at *
  obtain ⟨i0, hi, hz0, hz1, hz2⟩ := info_parts (show (Tryz.prog.info? 5).map (fun i => (i.zero, i.size, i.bytes)) = some (some (.int .u8 0), 1, 1) by kernel_rfl)
  have I0 := Lib.hid hi
  have I1 := Lib.hid hz0
  have I2 := Lib.hid hz1
  have I3 := Lib.hid hz2
  clear hi hz0 hz1 hz2
  go_enter Tryz.func35, Tryz.ntmps35
  go_wp2_with fail
  go_loopw [7, 8] (fun s7 s8 wr => ∃ (i j c' : Nat) (A' : Option Addr), j ≤ 16 ∧ 16 * k + j = i ∧ s8 = .int .i64 (i : Int) ∧ s7 = .slice A' j c' ∧ wr.ownsRow w.heap.size 5 1 (.slice A' j c') j (bvals V j) ∧ Below w.heap.size w wr) (fun _ i _ => 16 * k + 16 - (intOf i).toNat)
  case atStart => exact ⟨16 * k, 0, 0, _, Nat.zero_le _, rfl, by go_num, rfl, own_nilE _ _ _ _ (Nat.le_refl _), (Below.refl _ _).alloc (Nat.le_refl _) _⟩
  case round =>
    obtain ⟨i, j, c', A', hj, hi, rfl, rfl, ho, hb⟩ := hrel
    have hwr := hb.size
    have w1 : IntKind.i64.wrap ((k : Int) + 1) = (k : Int) + 1 := by rw [IntKind.wrap_i64]; omega
    have w2 : IntKind.i64.wrap (16 * ((k : Int) + 1)) = 16 * ((k : Int) + 1) := by rw [IntKind.wrap_i64]; omega
    by_cases hlt : j < 16
    · obtain ⟨qq, r, hq, hrr, hrz, hqn, hV⟩ := HK.out j hlt
      rw [hi] at hq hrr
      obtain ⟨bk, o, rfl, hbk, hc⟩ := (HS.out.below hb) (1 + qq) hqn
      dsimp only at hc
      have hsq := HSZ.out (1 + qq) hqn
      have hz1 := (HR.out.below hb HR.out.lt).cell 1
      have hql : (1 + (qq : Int)).toNat = 1 + qq := by omega
      have wq : IntKind.i64.wrap (1 + (qq : Int)) = 1 + (qq : Int) := by rw [IntKind.wrap_i64]; omega
      obtain ⟨S1, hS1⟩ : ∃ S1, s (1 + qq) = S1 := ⟨_, rfl⟩
      rw [hS1] at hc hsq hV
      have hby := byteAt_get S1 r (by omega)
      rw [← hV] at hby
      have zz0 : (z = 0) = False := by simp; omega
      have iq1 : (0 : Int) ≤ 1 + (qq : Int) := by omega
      have iq2 : 1 + (qq : Int) < (n : Int) := by omega
      have ir1 : (r : Int) < (z : Int) := by omega
      have ir2 : (r : Int) < (S1.size : Int) := by omega
      have ir3 : r < S1.size := by omega
      have wqq : IntKind.i64.wrap (qq : Int) = (qq : Int) := by rw [IntKind.wrap_i64]; omega
      have wrr : IntKind.i64.wrap (r : Int) = (r : Int) := by rw [IntKind.wrap_i64]; omega
      have HO := Lib.hid ho
      clear ho hS1 hV
      go_wp2_with fail
      go_region_law (first | (refine step_append_lies _ (by rfl) _ _ _ (by rfl) w.heap.size 5 i0 _ 1 1 Tryz.underlying49 I0.out I1.out I2.out I3.out rfl (by omega) (.slice A' j c') j _ (by rfl) ((HO.out.alloc _).drew) ⟨wr.heap.size, 0, none⟩ 1 1 [.int .u8 ((V j).toNat : Int)] (by rfl) (by rfl) (news1 _ _ _) (by simp [Value.oneCell']) (by omega) (by simp only [maxLen]; omega) (by omega) (by simp; omega) (wr.heap.size + 1) (by simp) ?_; intro gg cap w3 ho3 hgrow hat hlt3))
      all_goals
        go_wp2
        go_roundw
        case rel =>
          have hb3 : Below w.heap.size wr w3 := (((Below.refl _ _).alloc hwr _).drew.grown hgrow (by simp; omega) (fun j hj => by have := own_lt HO.out j hj; omega))
          refine ⟨i + 1, j + 1, cap, _, by omega, by omega, by go_num, rfl, ?_, hb.trans hb3⟩
          rw [bvals_one]
          exact ho3
        case measure => simp [intOf]; omega
    · obtain rfl : j = 16 := by omega
      obtain ⟨g, cap, e1, hgB, hgl⟩ := ho.form (by omega)
      simp only [Value.slice.injEq] at e1
      obtain ⟨rfl, _, rfl⟩ := e1
      obtain ⟨hbr, _, hcap⟩ := own_browX ho (by omega)
      go_wp2
      go_ret
      exact ⟨g, _, rfl, hcap, hbr, hgB, hb⟩
end Go.Proofs.YtmgcaiilocifbaaGreatDoor
