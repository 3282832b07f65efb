/-
  Lists of files that are valid, both sides.
-/
import Derived.Test.YtdofpkdemmngeaaBase
import Derived.Test.YtdofpkdemmngeaaName
import Derived.Deep.DeepCutAuto
import Derived.Deep.Draws
import Derived.BigQuiet
namespace Go.Proofs.Ytdofpkdemmngeaa
open Go Go.ChangeShapes Go.WideShapes Go.ChangeAt Go.RowKit lib
set_option linter.unusedVariables false
set_option maxRecDepth 100000
@[go_sem] theorem binOp_string_geqL (t : TypeId) (a b : ByteArray) : binOp .geq t (.string a) (.string b) = pure (.bool (!Op.bytesLess a.toList b.toList)) := by simp [binOp, Op.stringOp]
/-- file i may stand where it stands -/
def okF (s : Nat → ByteArray) (i : Nat) : Prop := NameS (s (i * 2)) ∧ (s (i * 2 + 1)).size ≤ 512 ∧ (0 < i → Op.bytesLess (s ((i - 1) * 2)).toList (s (i * 2)).toList = true)
/-- a list of files that is valid -/
def VF (n : Nat) (s : Nat → ByteArray) : Prop := n ≤ 16 ∧ ∀ i, i < n → okF s i
def VfOut (Q : Prop) (r : Ending) (w w' : World) : Prop := ∃ b : Bool, (b = true ↔ Q) ∧ r = .returned (.bool b) ∧ Below w.heap.size w w'
set_option maxHeartbeats 2000000 in
theorem implValid_any (A : Option Addr) (n c : Nat) (s : Nat → ByteArray) (w : World) (hn : n ≤ 1048576) (hsz : ∀ i, i < n * 2 → (s i).size ≤ 1048576) (hs : Sl w w.heap.size A (n * 2) (fun i => .string (s i))) :
    Calls Try.prog 17 #[.slice A n c] w fun e w' => VfOut (VF n s) e w w' := by
  have HS := Lib.hid hs
  have HSZ := Lib.hid hsz
  clear hs hsz
  go_enter Try.func17, Try.ntmps17
  go_wp2_with fail
  go_loopw [7] (fun s7 wr => ∃ k : Nat, k ≤ n ∧ s7 = .int .i64 k ∧ (∀ i, i < k → okF s i) ∧ Below w.heap.size w wr) (fun i _ => n - (intOf i).toNat)
  case atStart => exact ⟨0, by omega, rfl, fun i hi => absurd hi (by omega), Below.refl _ _⟩
  case round =>
    obtain ⟨k, hk, rfl, hall, hb⟩ := hrel
    have hbz := hb.size
    have HALL := Lib.hid hall
    have HB := Lib.hid hb
    clear hall hb
    by_cases hlt : k < n
    · obtain ⟨q, o, rfl, hq, g0, g1⟩ := (HS.out.below HB.out).two hlt
      have z0 := HSZ.out (k * 2) (by omega)
      have z1 := HSZ.out (k * 2 + 1) (by omega)
      have hokd : okF s k ↔ (NameS (s (k * 2)) ∧ (s (k * 2 + 1)).size ≤ 512 ∧ (0 < k → Op.bytesLess (s ((k - 1) * 2)).toList (s (k * 2)).toList = true)) := Iff.rfl
      obtain ⟨nm, hnm⟩ : ∃ x, s (k * 2) = x := ⟨_, rfl⟩
      obtain ⟨dt, hdt⟩ : ∃ x, s (k * 2 + 1) = x := ⟨_, rfl⟩
      rw [hnm] at g0 z0 hokd
      rw [hdt] at g1 z1 hokd
      go_upto_region 4 with fail
      have hal := (Below.refl wr.heap.size wr).alloc (Nat.le_refl _) (.cells #[.string nm, .string dt] 43)
      have rF := Rw.new wr 43 #[.string nm, .string dt]
      have y0 := rF.cell 0; have y1 := rF.cell 1
      have HB3 := Lib.hid (HB.out.trans (hal.mono hbz))
      generalize wr.alloc (.cells #[.string nm, .string dt] 43) = W3 at *
      by_cases hN : NameS nm
      · have HN : Hid (∀ w : World, Calls Try.prog 37 #[.string nm] w fun e w' => e = .returned (.bool true) ∧ w' = w) := Lib.hid (fun w : World => (implIsName_any nm (by omega) true (by simpa using hN) w).mono fun e w' h => ⟨h.1, h.2.symm⟩)
        by_cases h5 : dt.size ≤ 512
        · have h5i : ¬ (dt.size : Int) > 512 := by omega
          have h5n : ¬ 512 < dt.size := by omega
          by_cases hk0 : k = 0
          · have HOK := Lib.hid (hokd.2 ⟨hN, h5, fun h => by omega⟩)
            subst hk0
            have k1 : ¬ (0 < (0 : Nat)) := by omega
            simp only [Nat.zero_mul, Nat.add_zero] at g0 g1
            clear hokd hN hnm hdt h5
            go_quiet ((go_at_call 37; refine Calls.quiet_of_same (HN.out _)))
            go_wp2
            go_roundw
            case rel => exact ⟨1, by omega, by go_num, fun i hi => (by obtain rfl : i = 0 := (by omega); exact HOK.out), HB3.out.drewN _⟩
            case measure => simp [intOf]; omega
          · obtain ⟨m, hm⟩ : ∃ m, k - 1 = m := ⟨_, rfl⟩
            obtain ⟨q', o', e', hq', g0', g1'⟩ := (HS.out.below HB.out).two (show m < n by omega)
            injection e' with e'; injection e' with e1 e2 _; subst e1 e2
            obtain ⟨pn, hpn⟩ : ∃ x, s (m * 2) = x := ⟨_, rfl⟩
            rw [hpn] at g0'
            rw [hm, hpn] at hokd
            have p0 := (hal.cell (p := ⟨q, o + m * 2, none⟩) (Nat.lt_of_lt_of_le hq hbz)).trans g0'
            have k0 : 0 < k := by omega
            have k2 : (k : Int) - 1 = (m : Int) := by omega
            have k4 : IntKind.i64.wrap (m : Int) = (m : Int) := by rw [IntKind.wrap_i64]; omega
            have k5 : m < n := by omega
            obtain ⟨lt, hll⟩ : ∃ v, Op.bytesLess pn.toList nm.toList = v := ⟨_, rfl⟩
            cases lt
            · have hno : ¬ okF s k := fun h => by have := (hokd.1 h).2.2 k0; rw [hll] at this; cases this
              have HNO := Lib.hid (show ¬ VF n s from fun h => hno (h.2 k hlt))
              clear hm hokd hN hnm hdt hpn h5 hno
              go_quiet ((go_at_call 37; refine Calls.quiet_of_same (HN.out _)))
              go_wp2
              go_ret
              exact ⟨false, ⟨fun h => (by cases h), fun h => absurd h HNO.out⟩, rfl, HB3.out.drewN _⟩
            · have HOK := Lib.hid (hokd.2 ⟨hN, h5, fun _ => hll⟩)
              clear hm hokd hN hnm hdt hpn h5
              go_quiet ((go_at_call 37; refine Calls.quiet_of_same (HN.out _)))
              go_wp2
              go_roundw
              case rel => exact ⟨k + 1, by omega, by go_num, fun i hi => (by rcases Nat.lt_or_ge i k with h | h; exact HALL.out i h; obtain rfl : i = k := (by omega); exact HOK.out), HB3.out.drewN _⟩
              case measure => simp [intOf]; omega
        · have h5i : (dt.size : Int) > 512 := by omega
          have h5n : 512 < dt.size := by omega
          have HNO := Lib.hid (show ¬ VF n s from fun h => h5 (hokd.1 (h.2 k hlt)).2.1)
          clear hokd hN hnm hdt h5
          go_quiet ((go_at_call 37; refine Calls.quiet_of_same (HN.out _)))
          go_wp2
          go_ret
          exact ⟨false, ⟨fun h => (by cases h), fun h => absurd h HNO.out⟩, rfl, HB3.out.drewN _⟩
      · have HN : Hid (∀ w : World, Calls Try.prog 37 #[.string nm] w fun e w' => e = .returned (.bool false) ∧ w' = w) := Lib.hid (fun w : World => (implIsName_any nm (by omega) false (by simpa using hN) w).mono fun e w' h => ⟨h.1, h.2.symm⟩)
        have HNO := Lib.hid (show ¬ VF n s from fun h => hN (hokd.1 (h.2 k hlt)).1)
        clear hokd hN hnm hdt
        go_quiet ((go_at_call 37; refine Calls.quiet_of_same (HN.out _)))
        go_wp2
        go_ret
        exact ⟨false, ⟨fun h => (by cases h), fun h => absurd h HNO.out⟩, rfl, HB3.out.drewN _⟩
    · obtain rfl : k = n := by omega
      have HVF := Lib.hid (show decide (k ≤ 16) = true ↔ VF k s by rw [decide_eq_true_eq]; exact ⟨fun h => ⟨h, HALL.out⟩, fun h => h.1⟩)
      have h16 : ((k : Int) ≤ 16) = (k ≤ 16) := by rw [eq_iff_iff]; omega
      go_wp2
      go_ret
      exact ⟨decide (k ≤ 16), HVF.out, by simp, HB.out⟩
set_option maxHeartbeats 2000000 in
theorem specValid_any (A : Option Addr) (n c : Nat) (s : Nat → ByteArray) (w : World) (hn : n ≤ 1048576) (hsz : ∀ i, i < n * 2 → (s i).size ≤ 1048576) (hs : Sl w w.heap.size A (n * 2) (fun i => .string (s i))) :
    Calls Try.prog 22 #[.slice A n c] w fun e w' => VfOut (VF n s) e w w' := by
  have HS := Lib.hid hs
  have HSZ := Lib.hid hsz
  clear hs hsz
  go_enter Try.func22, Try.ntmps22
  go_wp2_with fail
  go_loopw [3] (fun s7 wr => ∃ k : Nat, k ≤ n ∧ s7 = .int .i64 k ∧ (∀ i, i < k → okF s i) ∧ Below w.heap.size w wr) (fun i _ => n - (intOf i).toNat)
  case atStart => exact ⟨0, by omega, rfl, fun i hi => absurd hi (by omega), Below.refl _ _⟩
  case round =>
    obtain ⟨k, hk, rfl, hall, hb⟩ := hrel
    have hbz := hb.size
    have HALL := Lib.hid hall
    have HB := Lib.hid hb
    clear hall hb
    by_cases hlt : k < n
    · obtain ⟨q, o, rfl, hq, g0, g1⟩ := (HS.out.below HB.out).two hlt
      have z0 := HSZ.out (k * 2) (by omega)
      have z1 := HSZ.out (k * 2 + 1) (by omega)
      have hokd : okF s k ↔ (NameS (s (k * 2)) ∧ (s (k * 2 + 1)).size ≤ 512 ∧ (0 < k → Op.bytesLess (s ((k - 1) * 2)).toList (s (k * 2)).toList = true)) := Iff.rfl
      obtain ⟨nm, hnm⟩ : ∃ x, s (k * 2) = x := ⟨_, rfl⟩
      obtain ⟨dt, hdt⟩ : ∃ x, s (k * 2 + 1) = x := ⟨_, rfl⟩
      rw [hnm] at g0 z0 hokd
      rw [hdt] at g1 z1 hokd
      go_upto_region 4 with fail
      have HB3 := HB
      by_cases hN : NameS nm
      · have HN : Hid (∀ w : World, Calls Try.prog 41 #[.string nm] w fun e w' => e = .returned (.bool true) ∧ w' = w) := Lib.hid (fun w : World => (specIsName_any nm (by omega) true (by simpa using hN) w).mono fun e w' h => ⟨h.1, h.2.symm⟩)
        by_cases h5 : dt.size ≤ 512
        · have h5i : ¬ (dt.size : Int) > 512 := by omega
          have h5n : ¬ 512 < dt.size := by omega
          by_cases hk0 : k = 0
          · have HOK := Lib.hid (hokd.2 ⟨hN, h5, fun h => by omega⟩)
            subst hk0
            have k1 : ¬ (0 < (0 : Nat)) := by omega
            simp only [Nat.zero_mul, Nat.add_zero] at g0 g1
            clear hokd hN hnm hdt h5
            go_quiet ((go_at_call 41; refine Calls.quiet_of_same (HN.out _)))
            go_wp2
            go_roundw
            case rel => exact ⟨1, by omega, by go_num, fun i hi => (by obtain rfl : i = 0 := (by omega); exact HOK.out), HB3.out.drewN _⟩
            case measure => simp [intOf]; omega
          · obtain ⟨m, hm⟩ : ∃ m, k - 1 = m := ⟨_, rfl⟩
            obtain ⟨q', o', e', hq', g0', g1'⟩ := (HS.out.below HB.out).two (show m < n by omega)
            injection e' with e'; injection e' with e1 e2 _; subst e1 e2
            obtain ⟨pn, hpn⟩ : ∃ x, s (m * 2) = x := ⟨_, rfl⟩
            rw [hpn] at g0'
            rw [hm, hpn] at hokd
            have p0 := g0'
            have k0 : 0 < k := by omega
            have k2 : (k : Int) - 1 = (m : Int) := by omega
            have k4 : IntKind.i64.wrap (m : Int) = (m : Int) := by rw [IntKind.wrap_i64]; omega
            have k5 : m < n := by omega
            obtain ⟨lt, hll⟩ : ∃ v, Op.bytesLess pn.toList nm.toList = v := ⟨_, rfl⟩
            cases lt
            · have hno : ¬ okF s k := fun h => by have := (hokd.1 h).2.2 k0; rw [hll] at this; cases this
              have HNO := Lib.hid (show ¬ VF n s from fun h => hno (h.2 k hlt))
              clear hm hokd hN hnm hdt hpn h5 hno
              go_quiet ((go_at_call 41; refine Calls.quiet_of_same (HN.out _)))
              go_wp2
              go_ret
              exact ⟨false, ⟨fun h => (by cases h), fun h => absurd h HNO.out⟩, rfl, HB3.out.drewN _⟩
            · have HOK := Lib.hid (hokd.2 ⟨hN, h5, fun _ => hll⟩)
              clear hm hokd hN hnm hdt hpn h5
              go_quiet ((go_at_call 41; refine Calls.quiet_of_same (HN.out _)))
              go_wp2
              go_roundw
              case rel => exact ⟨k + 1, by omega, by go_num, fun i hi => (by rcases Nat.lt_or_ge i k with h | h; exact HALL.out i h; obtain rfl : i = k := (by omega); exact HOK.out), HB3.out.drewN _⟩
              case measure => simp [intOf]; omega
        · have h5i : (dt.size : Int) > 512 := by omega
          have h5n : 512 < dt.size := by omega
          have HNO := Lib.hid (show ¬ VF n s from fun h => h5 (hokd.1 (h.2 k hlt)).2.1)
          clear hokd hN hnm hdt h5
          go_quiet ((go_at_call 41; refine Calls.quiet_of_same (HN.out _)))
          go_wp2
          go_ret
          exact ⟨false, ⟨fun h => (by cases h), fun h => absurd h HNO.out⟩, rfl, HB3.out.drewN _⟩
      · have HN : Hid (∀ w : World, Calls Try.prog 41 #[.string nm] w fun e w' => e = .returned (.bool false) ∧ w' = w) := Lib.hid (fun w : World => (specIsName_any nm (by omega) false (by simpa using hN) w).mono fun e w' h => ⟨h.1, h.2.symm⟩)
        have HNO := Lib.hid (show ¬ VF n s from fun h => hN (hokd.1 (h.2 k hlt)).1)
        clear hokd hN hnm hdt
        go_quiet ((go_at_call 41; refine Calls.quiet_of_same (HN.out _)))
        go_wp2
        go_ret
        exact ⟨false, ⟨fun h => (by cases h), fun h => absurd h HNO.out⟩, rfl, HB3.out.drewN _⟩
    · obtain rfl : k = n := by omega
      have HVF := Lib.hid (show decide (k ≤ 16) = true ↔ VF k s by rw [decide_eq_true_eq]; exact ⟨fun h => ⟨h, HALL.out⟩, fun h => h.1⟩)
      have h16 : ((k : Int) ≤ 16) = (k ≤ 16) := by rw [eq_iff_iff]; omega
      go_wp2
      go_ret
      exact ⟨decide (k ≤ 16), HVF.out, by simp, HB.out⟩
end Go.Proofs.Ytdofpkdemmngeaa
