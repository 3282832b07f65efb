/-
  Disks of extents: opening a disk, the reference's side.
-/
import Derived.Test.YtjbpibapbonkpaaGreatDoorXoT
import Derived.Test.YtjbpibapbonkpaaGreatDoorXgT
import Derived.Deep.DeepCutAuto
namespace Go.Proofs.YtjbpibapbonkpaaGreatDoor
open Go Go.ChangeShapes Go.WideShapes Go.ChangeAt Go.RowKit lib
set_option linter.unusedVariables false
set_option linter.unusedSimpArgs false
set_option maxRecDepth 100000
/-- how the reference's layout ends -/
def LOut (r : Ending) (w w' : World) (n : Nat) (s : Nat → ByteArray) : Prop :=
  (opensX n s → r = .returned (.tuple #[layX n (s 0).size (entsX n) (dataX n (s 0).size), .bool true]) ∧ Below w.heap.size w w') ∧
  (¬ opensX n s → r = .returned (.tuple #[layX 0 0 0 0, .bool false]) ∧ Below w.heap.size w w')
theorem rowset4 {w : World} {g e : Nat} {a0 a1 a2 a3 : Value} (h : Rw w g e #[a0, a1, a2, a3]) (v0 v1 v2 v3 : Value) :
    (w.setCell ⟨g, 0, none⟩ v0).cell? ⟨g, 0, none⟩ = some v0 ∧ ((w.setCell ⟨g, 0, none⟩ v0).setCell ⟨g, 1, none⟩ v1).cell? ⟨g, 1, none⟩ = some v1 ∧ (((w.setCell ⟨g, 0, none⟩ v0).setCell ⟨g, 1, none⟩ v1).setCell ⟨g, 2, none⟩ v2).cell? ⟨g, 2, none⟩ = some v2 ∧ ((((w.setCell ⟨g, 0, none⟩ v0).setCell ⟨g, 1, none⟩ v1).setCell ⟨g, 2, none⟩ v2).setCell ⟨g, 3, none⟩ v3).cell? ⟨g, 3, none⟩ = some v3 :=
  ⟨(h.set 0 v0).cell 0, ((h.set 0 v0).set 1 v1).cell 1, (((h.set 0 v0).set 1 v1).set 2 v2).cell 2, ((((h.set 0 v0).set 1 v1).set 2 v2).set 3 v3).cell 3⟩
theorem l17On_out {w : World} {n c : Nat} {A : Option Addr} (h : ¬ (8 ≤ n ∧ n ≤ 128)) : Calls Tryz.prog 16 #[.slice A n c] w fun e w' => e = .returned (.tuple #[layX 0 0 0 0, .bool false]) ∧ Below w.heap.size w w' := by
  have hw : (decide ((8 : Int) ≤ n) && decide ((n : Int) ≤ 128)) = false := by
    rw [Bool.eq_false_iff]
    intro h'
    simp at h'
    omega
  unfold layX
  go_enter Tryz.func16, Tryz.ntmps16
  go_upto_region 2 with fail
  have hr := Rw.new w 34 #[.int .i64 0, .int .i64 0, .int .i64 0, .int .i64 0]
  have hb := (Below.refl w.heap.size w).alloc (Nat.le_refl _) (.cells #[.int .i64 0, .int .i64 0, .int .i64 0, .int .i64 0] 34)
  generalize w.alloc (.cells #[.int .i64 0, .int .i64 0, .int .i64 0, .int .i64 0] 34) = W1 at *
  have k0 := hr.cell 0
  have k1 := hr.cell 1
  have k2 := hr.cell 2
  have k3 := hr.cell 3
  have f0 := hr.frozen 0
  have f1 := hr.frozen 1
  have f2 := hr.frozen 2
  have f3 := hr.frozen 3
  have hrs := rowset4 hr (.int .i64 0) (.int .i64 0) (.int .i64 0) (.int .i64 0)
  go_wp2_with (go_at_call 27; refine (l00In_any _ _ _ _).mono ?_; rw [hw]; rintro e w' ⟨rfl, rfl⟩)
  refine bodyPost_ret (v := .tuple #[.agg #[.int .i64 0, .int .i64 0, .int .i64 0, .int .i64 0], .bool false]) (by simp [results, Tryz.results16, go_sem, hrs]) rfl ⟨rfl, ?_⟩
  exact (((hb.setCell (p := ⟨w.heap.size, 0, none⟩) (Nat.le_refl _) _).setCell (p := ⟨w.heap.size, 1, none⟩) (Nat.le_refl _) _).setCell (p := ⟨w.heap.size, 2, none⟩) (Nat.le_refl _) _).setCell (p := ⟨w.heap.size, 3, none⟩) (Nat.le_refl _) _
set_option maxHeartbeats 4000000 in
theorem l17On_in {w : World} {n c z : Nat} {A : Option Addr} {s : Nat → ByteArray} (hs : Sl w w.heap.size A n (fun i => .string (s i))) (hsz : ∀ i, i < n → (s i).size ≤ 9223372036854775807) (h8 : 8 ≤ n) (h128 : n ≤ 128) (hz : (s 0).size = z) :
    Calls Tryz.prog 16 #[.slice A n c] w fun e w' => (opensX n s → e = .returned (.tuple #[layX n z (entsX n) (dataX n z), .bool true]) ∧ Below w.heap.size w w') ∧ (¬ opensX n s → e = .returned (.tuple #[layX 0 0 0 0, .bool false]) ∧ Below w.heap.size w w') := by
  have hw : (decide ((8 : Int) ≤ n) && decide ((n : Int) ≤ 128)) = true := by simp; omega
  obtain ⟨bk, o, rfl, hbk, hc0⟩ := hs 0 (by omega)
  dsimp only at hc0
  rw [Nat.add_zero] at hc0
  have hzb : z ≤ 9223372036854775807 := by rw [← hz]; exact hsz 0 (by omega)
  have HZ := Lib.hid hz
  have HS := Lib.hid hs
  have HSZ := Lib.hid hsz
  clear hs hsz hz
  have hr := Rw.new w 34 #[.int .i64 0, .int .i64 0, .int .i64 0, .int .i64 0]
  have hb := (Below.refl w.heap.size w).alloc (Nat.le_refl _) (.cells #[.int .i64 0, .int .i64 0, .int .i64 0, .int .i64 0] 34)
  obtain ⟨b, hbq⟩ : ∃ b : Bool, b = true ↔ (z = 8 ∨ z = 16 ∨ z = 32) := ⟨decide _, decide_eq_true_iff⟩
  have HSI := Lib.hid (fun w : World => l17Size_any z b hbq w)
  generalize hs0 : s 0 = s0 at *
  have HS0 := Lib.hid hs0
  have hs0z : s0.size = z := HZ.out
  have HO : Hid (opensX n s ↔ (b = true ∧ (∀ i, i < n → (s i).size = z) ∧ s0 = hdrX n z)) := Lib.hid (by
    unfold opensX
    rw [hs0, hs0z]
    constructor
    · rintro ⟨h, h2⟩
      refine ⟨hbq.2 (by have := h.sz; rwa [hs0, hs0z] at this), fun i hi => by rw [h.all i hi, hs0, hs0z], h2⟩
    · rintro ⟨h1, h2, h3⟩
      exact ⟨⟨h8, h128, by rw [hs0, hs0z]; exact hbq.1 h1, fun i hi => by rw [h2 i hi, hs0, hs0z]⟩, h3⟩)
  have HBQ := Lib.hid hbq
  clear hbq hs0
  unfold layX
  go_enter Tryz.func16, Tryz.ntmps16
  go_upto_region 2 with fail
  generalize w.alloc (.cells #[.int .i64 0, .int .i64 0, .int .i64 0, .int .i64 0] 34) = W1 at *
  have hcw : W1.cell? ⟨bk, o, none⟩ = some (.string s0) := (hb.cell (p := ⟨bk, o, none⟩) hbk).trans hc0
  have bad : ∀ W : World, Rw W w.heap.size 34 #[.int .i64 0, .int .i64 0, .int .i64 0, .int .i64 0] → W.cell? ⟨w.heap.size, 0, none⟩ = some (.int .i64 0) ∧ W.cell? ⟨w.heap.size, 1, none⟩ = some (.int .i64 0) ∧ W.cell? ⟨w.heap.size, 2, none⟩ = some (.int .i64 0) ∧ W.cell? ⟨w.heap.size, 3, none⟩ = some (.int .i64 0) ∧ W.frozen? ⟨w.heap.size, 0, none⟩ = false ∧ W.frozen? ⟨w.heap.size, 1, none⟩ = false ∧ W.frozen? ⟨w.heap.size, 2, none⟩ = false ∧ W.frozen? ⟨w.heap.size, 3, none⟩ = false := fun W h => ⟨h.cell 0, h.cell 1, h.cell 2, h.cell 3, h.frozen 0, h.frozen 1, h.frozen 2, h.frozen 3⟩
  have HBAD := Lib.hid bad
  clear bad
  have HB0 := Lib.hid hb
  have HR := Lib.hid hr
  obtain ⟨k0, k1, k2, k3, f0, f1, f2, f3⟩ := HBAD.out _ hr
  clear hb hr
  cases b with
  | false =>
    go_wp2_with (first
      | (go_at_call 27; refine (l00In_any _ _ _ _).mono ?_; rw [hw]; rintro e w' ⟨rfl, rfl⟩)
      | (go_at_call 28; refine (HSI.out _).mono ?_; rintro e w' ⟨rfl, rfl⟩))
    have hrs := rowset4 HR.out (.int .i64 0) (.int .i64 0) (.int .i64 0) (.int .i64 0)
    refine bodyPost_ret (v := .tuple #[.agg #[.int .i64 0, .int .i64 0, .int .i64 0, .int .i64 0], .bool false]) (by simp [results, Tryz.results16, go_sem, hrs]) rfl ⟨fun ho => absurd (HO.out.1 ho).1 (by simp), fun _ => ⟨rfl, ?_⟩⟩
    exact (((HB0.out.setCell (p := ⟨w.heap.size, 0, none⟩) (Nat.le_refl _) _).setCell (p := ⟨w.heap.size, 1, none⟩) (Nat.le_refl _) _).setCell (p := ⟨w.heap.size, 2, none⟩) (Nat.le_refl _) _).setCell (p := ⟨w.heap.size, 3, none⟩) (Nat.le_refl _) _
  | true =>
    go_wp2_with (first
      | (go_at_call 27; refine (l00In_any _ _ _ _).mono ?_; rw [hw]; rintro e w' ⟨rfl, rfl⟩)
      | (go_at_call 28; refine (HSI.out _).mono ?_; rintro e w' ⟨rfl, rfl⟩))
    go_loopw [6] (fun s6 wr => ∃ k : Nat, k ≤ n ∧ s6 = .int .i64 k ∧ (∀ j, j < k → (s j).size = z) ∧ wr = W1) (fun i _ => n - (intOf i).toNat)
    case atStart => exact ⟨0, Nat.zero_le _, rfl, fun j hj => absurd hj (by omega), rfl⟩
    case round =>
      obtain ⟨k, hk, rfl, hj, rfl⟩ := hrel
      have HJ := Lib.hid hj
      clear hj
      by_cases hlt : k < n
      · obtain ⟨_, _, e', _, hc⟩ := HS.out k hlt
        simp only [Option.some.injEq, Addr.mk.injEq, and_true] at e'
        obtain ⟨rfl, rfl⟩ := e'
        dsimp only at hc
        have xk := (HB0.out.cell (p := ⟨bk, o + k, none⟩) hbk).trans hc
        have hyb := HSZ.out k hlt
        obtain ⟨sk, hsk⟩ : ∃ sk, s k = sk := ⟨_, rfl⟩
        rw [hsk] at xk hyb
        have HSK := Lib.hid hsk
        clear hc hsk
        by_cases hy : sk.size = z
        · have e1 : ((sk.size : Int) != z) = false := by simp [hy]
          have e2 : ((sk.size : Int) = z) = True := by simp [hy]
          have HY := Lib.hid hy
          clear hy
          go_wp2
          exact ⟨⟨k + 1, by omega, by go_num, fun j hj => by
            rcases Nat.lt_succ_iff_lt_or_eq.1 hj with h | rfl
            · exact HJ.out j h
            · rw [HSK.out]; exact HY.out, trivial⟩, by simp [intOf]; omega⟩
        · have e1 : ((sk.size : Int) != z) = true := by simp; omega
          have e2 : ((sk.size : Int) = z) = False := by simp; omega
          have HY := Lib.hid hy
          clear hy
          go_wp2_with fail
          have hrs := rowset4 HR.out (.int .i64 0) (.int .i64 0) (.int .i64 0) (.int .i64 0)
          refine bodyPost_ret (v := .tuple #[.agg #[.int .i64 0, .int .i64 0, .int .i64 0, .int .i64 0], .bool false]) (by simp [results, Tryz.results16, go_sem, hrs]) rfl ⟨fun ho => absurd ((HO.out.1 ho).2.1 k hlt) (by rw [HSK.out]; exact HY.out), fun _ => ⟨rfl, ?_⟩⟩
          exact (((HB0.out.setCell (p := ⟨w.heap.size, 0, none⟩) (Nat.le_refl _) _).setCell (p := ⟨w.heap.size, 1, none⟩) (Nat.le_refl _) _).setCell (p := ⟨w.heap.size, 2, none⟩) (Nat.le_refl _) _).setCell (p := ⟨w.heap.size, 3, none⟩) (Nat.le_refl _) _
      · obtain rfl : k = n := by omega
        have hzs := HBQ.out.1 (by simp)
        have hz8 : 8 ≤ z := by omega
        have hz32 : z ≤ 32 := by omega
        have LH := Lib.hid (fun w' : World => l17Head_any k z w' h128 hz8 hz32)
        have LD := Lib.hid (fun w' : World => l17Data_any k z w' ⟨h8, h128, hzs⟩)
        have hE : (k : Int) / 4 = (entsX k : Int) := by unfold entsX; omega
        clear hzs
        generalize hdrX k z = H at *
        go_upto_region 10 with fail
        go_cut [45] (fun s45 wx => s45 = .bool (!(s0.toList == H.toList)) ∧ Rw wx w.heap.size 34 #[.int .i64 0, .int .i64 0, .int .i64 0, .int .i64 0] ∧ Below w.heap.size w wx)
        case first =>
          go_region_with (go_at_call 29; refine (LH.out _).mono ?_; rintro e1 w1 ⟨rfl, hb1⟩; have d1 : w1.cell? ⟨bk, o, none⟩ = some (.string s0) := (hb1.cell (p := ⟨bk, o, none⟩) (Nat.lt_of_lt_of_le hbk HB0.out.size)).trans hcw)
          all_goals
            go_wp2_with fail
            go_meet
            exact ⟨rfl, HR.out.drew.below hb1 HR.out.drew.lt, HB0.out.drew.trans (hb1.mono HB0.out.drew.size)⟩
        case rest =>
          obtain ⟨h45, HR2, HB2⟩ := hcut
          clear k0 k1 k2 k3 f0 f1 f2 f3 hcw
          obtain ⟨k0, k1, k2, k3, f0, f1, f2, f3⟩ := HBAD.out _ HR2
          by_cases he : s0 = H
          · have hE1 : (s0.toList == H.toList) = true := str_eq_true he
            rw [hE1, Bool.not_true] at h45
            subst h45
            have HE := Lib.hid he
            clear he hE1
            go_wp2_with (go_at_call 30; refine (LD.out _).mono ?_; rintro e w' ⟨rfl, rfl⟩)
            have hrs := rowset4 HR2 (.int .i64 k) (.int .i64 z) (.int .i64 (entsX k)) (.int .i64 (dataX k z))
            refine bodyPost_ret (v := .tuple #[.agg #[.int .i64 k, .int .i64 z, .int .i64 (entsX k), .int .i64 (dataX k z)], .bool true]) (by simp [results, Tryz.results16, go_sem, hrs]) rfl ⟨fun _ => ⟨rfl, ?_⟩, fun h => absurd (HO.out.2 ⟨by simp, HJ.out, HE.out⟩) h⟩
            exact (((HB2.setCell (p := ⟨w.heap.size, 0, none⟩) (Nat.le_refl _) _).setCell (p := ⟨w.heap.size, 1, none⟩) (Nat.le_refl _) _).setCell (p := ⟨w.heap.size, 2, none⟩) (Nat.le_refl _) _).setCell (p := ⟨w.heap.size, 3, none⟩) (Nat.le_refl _) _
          · have hE1 : (s0.toList == H.toList) = false := str_eq_false he
            rw [hE1, Bool.not_false] at h45
            subst h45
            have HE := Lib.hid he
            clear he hE1
            go_wp2_with fail
            have hrs := rowset4 HR2 (.int .i64 0) (.int .i64 0) (.int .i64 0) (.int .i64 0)
            refine bodyPost_ret (v := .tuple #[.agg #[.int .i64 0, .int .i64 0, .int .i64 0, .int .i64 0], .bool false]) (by simp [results, Tryz.results16, go_sem, hrs]) rfl ⟨fun h => absurd (HO.out.1 h).2.2 HE.out, fun _ => ⟨rfl, ?_⟩⟩
            exact (((HB2.setCell (p := ⟨w.heap.size, 0, none⟩) (Nat.le_refl _) _).setCell (p := ⟨w.heap.size, 1, none⟩) (Nat.le_refl _) _).setCell (p := ⟨w.heap.size, 2, none⟩) (Nat.le_refl _) _).setCell (p := ⟨w.heap.size, 3, none⟩) (Nat.le_refl _) _
theorem specOpenX {w : World} {n c : Nat} {A : Option Addr} {s : Nat → ByteArray} (hs : Sl w w.heap.size A n (fun i => .string (s i))) (hsz : ∀ i, i < n → (s i).size ≤ 9223372036854775807) :
    Calls Tryz.prog 16 #[.slice A n c] w fun r w' => LOut r w w' n s := by
  by_cases h : 8 ≤ n ∧ n ≤ 128
  · exact l17On_in hs hsz h.1 h.2 rfl
  · exact (l17On_out h).mono fun r w' h1 => ⟨fun ho => absurd ⟨ho.1.lo, ho.1.hi⟩ h, fun _ => h1⟩
end Go.Proofs.YtjbpibapbonkpaaGreatDoor
