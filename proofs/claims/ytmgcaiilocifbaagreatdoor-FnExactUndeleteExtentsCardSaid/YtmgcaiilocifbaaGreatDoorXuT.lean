/-
  Disks of extents: the used entries in a map: the program's side.
-/
import Derived.Test.YtmgcaiilocifbaaGreatDoorXmT
import Derived.Deep.DeepCutAuto
import Derived.Deep.CutBlock
import Derived.Carry
namespace Go.Proofs.YtmgcaiilocifbaaGreatDoor
open Go Go.ChangeShapes Go.WideShapes Go.ChangeAt Go.RowKit lib
set_option linter.unusedVariables false
set_option linter.unusedSimpArgs false
set_option maxRecDepth 100000
theorem xEnt_good {r : Ending} {w w' : World} {z : Nat} {v : Nat → UInt8} (h : XEnt r w w' z v) (hg : xGood z v) : ∃ (A : Option Addr) (c : Nat), r = .returned (.tuple #[(xent z v).val A c, .bool true]) ∧ IntR w.heap.size w' A c (xent z v).bl ∧ Below w.heap.size w w' := by
  obtain ⟨b, A, c, h1, h2, h3, h4⟩ := h
  rw [h1.2 hg] at h2
  exact ⟨A, c, h2, h3, h4⟩
theorem xEnt_bad {r : Ending} {w w' : World} {z : Nat} {v : Nat → UInt8} (h : XEnt r w w' z v) (hg : ¬ xGood z v) : ∃ (A : Option Addr) (c : Nat), r = .returned (.tuple #[xe0.val A c, .bool false]) ∧ Below w.heap.size w w' := by
  obtain ⟨b, A, c, h1, h2, h3, h4⟩ := h
  have hb : b = false := by
    cases b with
    | false => rfl
    | true => exact absurd (h1.1 rfl) hg
  rw [hb, xent_bad hg] at h2
  exact ⟨A, c, h2, h4⟩
def isGone (z : Nat) (U : Nat → UInt8) (k : Nat) : Prop := (xen z U k).st = 229
set_option maxHeartbeats 1000000 in
theorem implUsedX_any {w : World} {p g n z E t N c : Nat} {u : Nat → UInt8} (h : XW w p g n z E t N c u) (hE : E ≤ 32) (hfit : ∀ k, k < E → z + k * 16 + 16 ≤ N) (hNb : N ≤ 4096) (hcN : N ≤ c) (hz : z ≤ 255) :
    Calls Tryz.prog 45 #[.pointer (some ⟨p, 0, none⟩)] w fun r w' => ∃ m, r = .returned (.map (some m)) ∧ XMap Tryz.prog 2 w.heap.size w' m E (xen z u) (isUsed z u) ∧ Below w.heap.size w w' := by
  have hmm := @run_makeMap Tryz.prog
  have h2 := h.c2
  have hb0 := (Below.refl w.heap.size w).alloc (Nat.le_refl _) (.map #[] 0)
  have hm0 : XMap Tryz.prog 2 w.heap.size (w.alloc (.map #[] 0)) w.heap.size 0 (xen z u) (isUsed z u) := XMap.made w
  have HM0 := Lib.hid hm0
  have HB0 := Lib.hid hb0
  have HH := Lib.hid h
  have HF := Lib.hid hfit
  have h2' := (h.below hb0).c2
  clear hm0 hb0 h hfit
  go_enter Tryz.func45, Tryz.ntmps45
  go_wp2_with fail
  go_loopw [4, 5, 6, 13] (fun s4 s5 s6 s13 wr => ∃ k : Nat, k ≤ E ∧ s13 = .int .i64 k ∧ XMap Tryz.prog 2 w.heap.size wr w.heap.size k (xen z u) (isUsed z u) ∧ Below w.heap.size w wr) (fun _ _ _ i _ => E - (intOf i).toNat)
  case atStart => exact ⟨0, Nat.zero_le _, rfl, HM0.out, HB0.out⟩
  case round =>
    obtain ⟨k, hk, rfl, hm, hb⟩ := hrel
    have hwr := hb.size
    by_cases hlt : k < E
    · have HEN := Lib.hid (implEntryX_any k (z + k * 16) (HH.out.below hb) rfl (by have := HF.out k hlt; omega) (by omega) hcN (by omega) hz)
      have HM := Lib.hid hm
      clear hm
      by_cases hg : xGood z (xby z u k)
      · have HEG := Lib.hid (HEN.out.mono fun r w' q => xEnt_good (v := xby z u k) q hg)
        obtain ⟨e, he⟩ : ∃ e, e = xen z u k := ⟨_, rfl⟩
        have hgx : xent z (xby z u k) = e := he.symm
        rw [hgx] at HEG
        unfold XE.val at HEG
        have HE := Lib.hid he
        clear HEN hgx he
        go_upto_region 6 with (go_at_call 44; refine HEG.out.mono ?_; rintro r w1 ⟨A, c2, rfl, hi, hb1⟩)
        have hM2 := HM.out.below (hb1.alloc hb1.size (.cells #[.int .i64 e.st, .string e.nm, .int .i64 e.no, .int .i64 e.tl, .slice A e.bl.length c2] 38))
        have hB2 := hb.trans ((hb1.alloc hb1.size (.cells #[.int .i64 e.st, .string e.nm, .int .i64 e.no, .int .i64 e.tl, .slice A e.bl.length c2] 38)).mono hwr)
        have hR2 := Rw.new w1 38 #[.int .i64 e.st, .string e.nm, .int .i64 e.no, .int .i64 e.tl, .slice A e.bl.length c2]
        have hI2 : IntR w.heap.size (w1.alloc (.cells #[.int .i64 e.st, .string e.nm, .int .i64 e.no, .int .i64 e.tl, .slice A e.bl.length c2] 38)) A c2 e.bl := (hi.below ((Below.refl _ _).alloc (Nat.le_refl _) _)).base hwr
        generalize w1.alloc (.cells #[.int .i64 e.st, .string e.nm, .int .i64 e.no, .int .i64 e.tl, .slice A e.bl.length c2] 38) = W2 at *
        have q0 := hR2.cell 0; have q1 := hR2.cell 1; have q2 := hR2.cell 2; have q3 := hR2.cell 3; have q4 := hR2.cell 4
        by_cases hu : e.st = 1
        · have hus : isUsed z u k := by show (xen z u k).st = 1; rw [← HE.out]; exact hu
          obtain ⟨w3, hrun, hM3, hg3⟩ := hM2.hit (e := 38) (t := 46) (A := A) (c := c2) hus Tryz.underlying2 Tryz.underlying46 (by omega) (by rw [← HE.out]; exact hI2)
          rw [← HE.out] at hrun
          unfold XE.val at hrun
          have e1 : (e.st == 1) = true := by simp [hu]
          have HB2 := Lib.hid hB2
          have HU := Lib.hid hu
          clear hu hB2 hI2 hi hM2 hb1
          rw [HU.out] at hrun q0 e1
          go_wp2_with fail
          go_roundw
          case rel =>
            exact ⟨k + 1, by omega, by go_num, hM3, HB2.out.grown hg3 (by have := HB2.out.size; omega) (fun j hj => by injection hj with hj; omega)⟩
          case measure => simp [intOf]; omega
        · have hus : ¬ isUsed z u k := by show ¬ (xen z u k).st = 1; rw [← HE.out]; exact hu
          have e1 : (e.st == 1) = false := by simp [hu]
          have e2 : (e.st = 1) = False := by simp [hu]
          have HUS := Lib.hid hus
          clear hu hus hi hb1 hI2
          go_wp2_with fail
          go_roundw
          case rel => exact ⟨k + 1, by omega, by go_num, hM2.miss HUS.out, hB2⟩
          case measure => simp [intOf]; omega
      · have HEG := Lib.hid (HEN.out.mono fun r w' q => xEnt_bad (v := xby z u k) q hg)
        have hus : ¬ isUsed z u k := by show ¬ (xen z u k).st = 1; rw [xen_bad hg]; decide
        have HUS := Lib.hid hus
        unfold XE.val xe0 at HEG
        clear HEN hus hg
        go_wp2_with (go_at_call 44; refine HEG.out.mono ?_; rintro r w1 ⟨A, c2, rfl, hb1⟩)
        go_roundw
        case rel => exact ⟨k + 1, by omega, by go_num, (HM.out.below (hb1.alloc hb1.size _)).miss HUS.out, hb.trans ((hb1.alloc hb1.size _).mono hwr)⟩
        case measure => simp [intOf]; omega
    · obtain rfl : k = E := by omega
      go_wp2
      go_ret
      exact ⟨_, rfl, hm, hb⟩
end Go.Proofs.YtmgcaiilocifbaaGreatDoor
